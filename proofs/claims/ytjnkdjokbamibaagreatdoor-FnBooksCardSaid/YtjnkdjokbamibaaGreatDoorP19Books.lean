/- Texts of one claim, joined: VBooksA. -/
import Derived.Deep.DeepCutAuto
import Derived.Deep.CutBlock
import Derived.Test.YtjnkdjokbamibaaGreatDoorP10Books
import Derived.Test.YtjnkdjokbamibaaGreatDoorP18Books
/- The walk of the law FnBooks. -/
namespace Go.Proofs.YtjnkdjokbamibaaGreatDoor.fnBooks
open Go.ChangeShapes Go.WideShapes Go.ChangeAt Go.RowKit
open Go.ChangeMaps (open_string)
set_option linter.unusedVariables false
set_option maxHeartbeats 20000000 in
set_option maxRecDepth 100000 in
noncomputable def halfA : PSigma fun P1 : Prop => PSigma fun P2 : Prop => P1 → P2 → (∀ (v0 : Value) (xs0 : List UInt8) (v1 : Value) (xs1 : List UInt8) (w : World), LW w → RdU w w.heap.size v0 xs0 → RdU w w.heap.size v1 xs1 → Calls Tryz.prog 4 #[v0, v1] w fun e w' => e = .returned (.bool true) ∧ Below w.heap.size w w') := by
  apply PSigma.mk
  case snd =>
  apply PSigma.mk
  case snd =>
  intro hP1 hP2
  intro v0 xs0 v1 xs1 w hLW0 hr0 hr1
  obtain ⟨A0, c0, rfl, hc0, hm0⟩ := Rd.form hr0
  obtain ⟨A1, c1, rfl, hc1, hm1⟩ := Rd.form hr1
  have HLW := Lib.hid hLW0
  clear hLW0
  have H0 := Lib.hid hr0
  have H1 := Lib.hid hr1
  clear hr0 hr1
  by_cases hbig : 1048576 < wrap64 ((xs0.length : Int) + (xs1.length : Int))
  · go_enter Tryz.func4, Tryz.ntmps4
    go_wp2_with fail
    go_ret
    exact ⟨rfl, Below.refl _ _⟩
  go_enter Tryz.func4, Tryz.ntmps4
  go_wp2_with fail
  refine (DrawBookText_any xs0 _ w.heap.size w H0.out (Nat.le_refl _)).mono ?_
  rintro e w1 ⟨u2, n2, rfl, hn2, hr2, hb1⟩
  obtain ⟨A2, c2, rfl⟩ := hr2.form
  obtain ⟨ps, hpl2, fb⟩ := hr2.rdb
  subst hpl2
  clear hr2
  have hw1 : Below w.heap.size w w1 := hb1
  have hs1 : w.heap.size ≤ w1.heap.size := hw1.size
  have hB1 : Below w.heap.size w w1 := hw1.mono (by omega)
  have H0_1 : RdU w1 w.heap.size (.slice A0 xs0.length c0) xs0 := H0.out.below hw1 (by omega)
  have H1_1 : RdU w1 w.heap.size (.slice A1 xs1.length c1) xs1 := H1.out.below hw1 (by omega)
  clear hbig
  clear H0_1
  have hb2 : Below w1.heap.size w1 (w1.alloc (.cells #[.slice A2 ps.length c2] 41)) := (Below.refl _ _).alloc (Nat.le_refl _) _
  have hz2 : (w1.alloc (.cells #[.slice A2 ps.length c2] 41)).heap.size = w1.heap.size + 1 := by simp
  have qb0_2 : (w1.alloc (.cells #[.slice A2 ps.length c2] 41)).cell? ⟨w1.heap.size, 0, Option.none⟩ = some (.slice A2 ps.length c2) := (Blk.new w1 41 #[.slice A2 ps.length c2]).cell 0
  go_wp2_with fail
  generalize w1.alloc (.cells #[.slice A2 ps.length c2] 41) = w2 at hb2 hz2 qb0_2 ⊢
  have hy2 : w1.heap.size + 1 ≤ w2.heap.size := by omega
  clear hz2
  have hw2 : Below w1.heap.size w1 w2 := hb2
  have hs2 : w1.heap.size ≤ w2.heap.size := hw2.size
  have hB2 : Below w.heap.size w w2 := hB1.trans (hw2.mono (by omega))
  have H1_2 : RdU w2 w.heap.size (.slice A1 xs1.length c1) xs1 := H1_1.below hw2 (by omega)
  clear H1_1
  have fb_2 : RdB w2 w1.heap.size (.agg #[.slice A2 ps.length c2]) ps := fb.below hw2 (by omega)
  clear fb
  obtain ⟨ok, HOK⟩ : ∃ ok, Hid (bookB ps = ok) := ⟨_, rfl⟩
  obtain ⟨st, HST⟩ : ∃ st, Hid (bookV ps = .tuple #[.string st, .bool ok] ∧ (ok = true → st = ⟨(bookT ps).toArray⟩)) := by
    show ∃ st, _ ∧ _; unfold bookV; rw [HOK.out]; cases ok
    · exact ⟨_, rfl, fun h => by cases h⟩
    · exact ⟨_, rfl, fun _ => rfl⟩
  have k10 := (by have h := BookText_any ps _ _ w2 fb_2 (by omega); rw [HST.out.1] at h; exact h : Calls Tryz.prog 22 #[.agg #[.slice A2 ps.length c2]] w2 fun e w' => e = .returned (.tuple #[.string st, .bool ok]) ∧ Below w2.heap.size w2 w')
  have K1 := Lib.hid k10
  clear k10
  go_wp2_with fail
  refine (K1.out).mono ?_
  rintro e w3 ⟨rfl, hb3⟩
  have hw3 : Below w2.heap.size w2 w3 := hb3
  have hs3 : w2.heap.size ≤ w3.heap.size := hw3.size
  have hB3 : Below w.heap.size w w3 := hB2.trans (hw3.mono (by omega))
  have H1_3 : RdU w3 w.heap.size (.slice A1 xs1.length c1) xs1 := H1_2.below hw3 (by omega)
  clear H1_2
  have fb_3 : RdB w3 w1.heap.size (.agg #[.slice A2 ps.length c2]) ps := fb_2.below hw3 (by omega)
  clear fb_2
  have qb0_3 := (hw3.cell (p := ⟨w1.heap.size, 0, Option.none⟩) (by show w1.heap.size < _; omega)).trans qb0_2
  clear qb0_2
  clear K1
  have k20 := (by have h := sBookText_any ps _ _ w3 fb_3 (by omega); rw [HST.out.1] at h; exact h : Calls Tryz.prog 23 #[.agg #[.slice A2 ps.length c2]] w3 fun e w' => e = .returned (.tuple #[.string st, .bool ok]) ∧ Below w3.heap.size w3 w')
  have K2 := Lib.hid k20
  clear k20
  go_wp2_with fail
  refine (K2.out).mono ?_
  rintro e w4 ⟨rfl, hb4⟩
  have hw4 : Below w3.heap.size w3 w4 := hb4
  have hs4 : w3.heap.size ≤ w4.heap.size := hw4.size
  have hB4 : Below w.heap.size w w4 := hB3.trans (hw4.mono (by omega))
  have H1_4 : RdU w4 w.heap.size (.slice A1 xs1.length c1) xs1 := H1_3.below hw4 (by omega)
  clear H1_3
  have fb_4 : RdB w4 w1.heap.size (.agg #[.slice A2 ps.length c2]) ps := fb_3.below hw4 (by omega)
  clear fb_3
  have qb0_4 := (hw4.cell (p := ⟨w1.heap.size, 0, Option.none⟩) (by show w1.heap.size < _; omega)).trans qb0_3
  clear qb0_3
  clear K2
  go_wp2_with fail
  refine (DrawAddPhrase_any xs1 _ w.heap.size w4 H1_4 (by omega)).mono ?_
  rintro e w5 ⟨u3, n3, t3, u4, ys, rfl, hn3, ht3, hys, hr3, ho3, hb5⟩
  obtain ⟨A3, c3, rfl⟩ := hr3.form
  obtain ⟨px, hpl3, fx⟩ := hr3.rdb
  subst hpl3
  obtain ⟨A4, c4, rfl, _⟩ := ho3.form
  have fy : RdP w5 w5.heap.size (.agg #[.string t3, .slice A4 ys.length c4]) (t3, ys) := ⟨_, rfl, ho3.rd, by show t3.size ≤ _; omega⟩
  clear hr3 ho3
  have hw5 : Below w4.heap.size w4 w5 := hb5
  have hs5 : w4.heap.size ≤ w5.heap.size := hw5.size
  have hB5 : Below w.heap.size w w5 := hB4.trans (hw5.mono (by omega))
  have H1_5 : RdU w5 w.heap.size (.slice A1 xs1.length c1) xs1 := H1_4.below hw5 (by omega)
  clear H1_4
  have fb_5 : RdB w5 w1.heap.size (.agg #[.slice A2 ps.length c2]) ps := fb_4.below hw5 (by omega)
  clear fb_4
  have qb0_5 := (hw5.cell (p := ⟨w1.heap.size, 0, Option.none⟩) (by show w1.heap.size < _; omega)).trans qb0_4
  clear qb0_4
  have hb6 : Below w5.heap.size w5 (w5.alloc (.cells #[.slice A3 px.length c3] 41)) := (Below.refl _ _).alloc (Nat.le_refl _) _
  have hz6 : (w5.alloc (.cells #[.slice A3 px.length c3] 41)).heap.size = w5.heap.size + 1 := by simp
  have qx0_6 : (w5.alloc (.cells #[.slice A3 px.length c3] 41)).cell? ⟨w5.heap.size, 0, Option.none⟩ = some (.slice A3 px.length c3) := (Blk.new w5 41 #[.slice A3 px.length c3]).cell 0
  go_wp2_with fail
  generalize w5.alloc (.cells #[.slice A3 px.length c3] 41) = w6 at hb6 hz6 qx0_6 ⊢
  rw [← hz6]
  have hy6 : w5.heap.size + 1 ≤ w6.heap.size := by omega
  clear hz6
  have hw6 : Below w5.heap.size w5 w6 := hb6
  have hs6 : w5.heap.size ≤ w6.heap.size := hw6.size
  have hB6 : Below w.heap.size w w6 := hB5.trans (hw6.mono (by omega))
  have H1_6 : RdU w6 w.heap.size (.slice A1 xs1.length c1) xs1 := H1_5.below hw6 (by omega)
  clear H1_5
  have fb_6 : RdB w6 w1.heap.size (.agg #[.slice A2 ps.length c2]) ps := fb_5.below hw6 (by omega)
  clear fb_5
  have fx_6 : RdB w6 w5.heap.size (.agg #[.slice A3 px.length c3]) px := fx.below hw6 (by omega)
  clear fx
  have fy_6 : RdP w6 w5.heap.size (.agg #[.string t3, .slice A4 ys.length c4]) (t3, ys) := fy.below hw6 (by omega)
  clear fy
  have qb0_6 := (hw6.cell (p := ⟨w1.heap.size, 0, Option.none⟩) (by show w1.heap.size < _; omega)).trans qb0_5
  clear qb0_5
  have hb7 : Below w6.heap.size w6 (w6.alloc (.cells #[.string t3, .slice A4 ys.length c4] 45)) := (Below.refl _ _).alloc (Nat.le_refl _) _
  have hz7 : (w6.alloc (.cells #[.string t3, .slice A4 ys.length c4] 45)).heap.size = w6.heap.size + 1 := by simp
  have qy0_7 : (w6.alloc (.cells #[.string t3, .slice A4 ys.length c4] 45)).cell? ⟨w6.heap.size, 0, Option.none⟩ = some (.string t3) := (Blk.new w6 45 #[.string t3, .slice A4 ys.length c4]).cell 0
  have qy1_7 : (w6.alloc (.cells #[.string t3, .slice A4 ys.length c4] 45)).cell? ⟨w6.heap.size, 1, Option.none⟩ = some (.slice A4 ys.length c4) := (Blk.new w6 45 #[.string t3, .slice A4 ys.length c4]).cell 1
  generalize w6.alloc (.cells #[.string t3, .slice A4 ys.length c4] 45) = w7 at hb7 hz7 qy0_7 qy1_7 ⊢
  have hy7 : w6.heap.size + 1 ≤ w7.heap.size := by omega
  clear hz7
  have hw7 : Below w6.heap.size w6 w7 := hb7
  have hs7 : w6.heap.size ≤ w7.heap.size := hw7.size
  have hB7 : Below w.heap.size w w7 := hB6.trans (hw7.mono (by omega))
  have H1_7 : RdU w7 w.heap.size (.slice A1 xs1.length c1) xs1 := H1_6.below hw7 (by omega)
  clear H1_6
  have fb_7 : RdB w7 w1.heap.size (.agg #[.slice A2 ps.length c2]) ps := fb_6.below hw7 (by omega)
  clear fb_6
  have fx_7 : RdB w7 w5.heap.size (.agg #[.slice A3 px.length c3]) px := fx_6.below hw7 (by omega)
  clear fx_6
  have fy_7 : RdP w7 w5.heap.size (.agg #[.string t3, .slice A4 ys.length c4]) (t3, ys) := fy_6.below hw7 (by omega)
  clear fy_6
  have qb0_7 := (hw7.cell (p := ⟨w1.heap.size, 0, Option.none⟩) (by show w1.heap.size < _; omega)).trans qb0_6
  clear qb0_6
  have qx0_7 := (hw7.cell (p := ⟨w5.heap.size, 0, Option.none⟩) (by show w5.heap.size < _; omega)).trans qx0_6
  clear qx0_6
  obtain ⟨one, HONE⟩ : ∃ b, Hid ((addO px (t3, ys)).isSome = b) := ⟨_, rfl⟩
  obtain ⟨qa, HQA⟩ : ∃ q, Hid ((addO px (t3, ys)).getD [] = q) := ⟨_, rfl⟩
  have k30 := (by have h := addB_any px (t3, ys) _ _ _ _ w7 (show ys.length ≤ 1048576 by omega) fx_7 fy_7 (by omega) (by omega); rw [HQA.out, HONE.out] at h; exact h : Calls Tryz.prog 25 #[.agg #[.slice A3 px.length c3], .agg #[.string t3, .slice A4 ys.length c4]] w7 (RetB qa one w7))
  have K3 := Lib.hid k30
  clear k30
  go_wp2_with fail
  refine (K3.out).mono ?_
  rintro e w8 ⟨a, rfl, fa, hb8⟩
  obtain ⟨_, rfl, hga⟩ := fa
  obtain ⟨Aa, ca, rfl, _, _⟩ := hga.rd.form
  have fa_8 : OwB w8 w7.heap.size w8.heap.size (.agg #[.slice Aa (qa).length ca]) qa := ⟨_, rfl, hga⟩
  clear hga
  have hw8 : Below w7.heap.size w7 w8 := hb8
  have hs8 : w7.heap.size ≤ w8.heap.size := hw8.size
  have hB8 : Below w.heap.size w w8 := hB7.trans (hw8.mono (by omega))
  have H1_8 : RdU w8 w.heap.size (.slice A1 xs1.length c1) xs1 := H1_7.below hw8 (by omega)
  clear H1_7
  have fb_8 : RdB w8 w1.heap.size (.agg #[.slice A2 ps.length c2]) ps := fb_7.below hw8 (by omega)
  clear fb_7
  have fx_8 : RdB w8 w5.heap.size (.agg #[.slice A3 px.length c3]) px := fx_7.below hw8 (by omega)
  clear fx_7
  have fy_8 : RdP w8 w5.heap.size (.agg #[.string t3, .slice A4 ys.length c4]) (t3, ys) := fy_7.below hw8 (by omega)
  clear fy_7
  have qb0_8 := (hw8.cell (p := ⟨w1.heap.size, 0, Option.none⟩) (by show w1.heap.size < _; omega)).trans qb0_7
  clear qb0_7
  have qx0_8 := (hw8.cell (p := ⟨w5.heap.size, 0, Option.none⟩) (by show w5.heap.size < _; omega)).trans qx0_7
  clear qx0_7
  have qy0_8 := (hw8.cell (p := ⟨w6.heap.size, 0, Option.none⟩) (by show w6.heap.size < _; omega)).trans qy0_7
  clear qy0_7
  have qy1_8 := (hw8.cell (p := ⟨w6.heap.size, 1, Option.none⟩) (by show w6.heap.size < _; omega)).trans qy1_7
  clear qy1_7
  clear K3
  have hb9 : Below w8.heap.size w8 (w8.alloc (.cells #[.slice Aa (qa).length ca] 41)) := (Below.refl _ _).alloc (Nat.le_refl _) _
  have hz9 : (w8.alloc (.cells #[.slice Aa (qa).length ca] 41)).heap.size = w8.heap.size + 1 := by simp
  have qa0_9 : (w8.alloc (.cells #[.slice Aa (qa).length ca] 41)).cell? ⟨w8.heap.size, 0, Option.none⟩ = some (.slice Aa (qa).length ca) := (Blk.new w8 41 #[.slice Aa (qa).length ca]).cell 0
  have qx0_N := (hb9.cell (p := ⟨w5.heap.size, 0, Option.none⟩) (by show w5.heap.size < _; omega)).trans qx0_8
  have qy0_N := (hb9.cell (p := ⟨w6.heap.size, 0, Option.none⟩) (by show w6.heap.size < _; omega)).trans qy0_8
  have qy1_N := (hb9.cell (p := ⟨w6.heap.size, 1, Option.none⟩) (by show w6.heap.size < _; omega)).trans qy1_8
  go_wp2_with fail
  generalize w8.alloc (.cells #[.slice Aa (qa).length ca] 41) = w9 at hb9 hz9 qa0_9 qx0_N qy0_N qy1_N ⊢
  have hy9 : w8.heap.size + 1 ≤ w9.heap.size := by omega
  clear hz9
  clear qx0_N
  clear qy0_N
  clear qy1_N
  have hw9 : Below w8.heap.size w8 w9 := hb9
  have hs9 : w8.heap.size ≤ w9.heap.size := hw9.size
  have hB9 : Below w.heap.size w w9 := hB8.trans (hw9.mono (by omega))
  have H1_9 : RdU w9 w.heap.size (.slice A1 xs1.length c1) xs1 := H1_8.below hw9 (by omega)
  clear H1_8
  have fb_9 : RdB w9 w1.heap.size (.agg #[.slice A2 ps.length c2]) ps := fb_8.below hw9 (by omega)
  clear fb_8
  have fx_9 : RdB w9 w5.heap.size (.agg #[.slice A3 px.length c3]) px := fx_8.below hw9 (by omega)
  clear fx_8
  have fy_9 : RdP w9 w5.heap.size (.agg #[.string t3, .slice A4 ys.length c4]) (t3, ys) := fy_8.below hw9 (by omega)
  clear fy_8
  have fa_9 : OwB w9 w7.heap.size w8.heap.size (.agg #[.slice Aa (qa).length ca]) qa := fa_8.below hw9 (by omega)
  clear fa_8
  have qb0_9 := (hw9.cell (p := ⟨w1.heap.size, 0, Option.none⟩) (by show w1.heap.size < _; omega)).trans qb0_8
  clear qb0_8
  have qx0_9 := (hw9.cell (p := ⟨w5.heap.size, 0, Option.none⟩) (by show w5.heap.size < _; omega)).trans qx0_8
  clear qx0_8
  have qy0_9 := (hw9.cell (p := ⟨w6.heap.size, 0, Option.none⟩) (by show w6.heap.size < _; omega)).trans qy0_8
  clear qy0_8
  have qy1_9 := (hw9.cell (p := ⟨w6.heap.size, 1, Option.none⟩) (by show w6.heap.size < _; omega)).trans qy1_8
  clear qy1_8
  have k40 := (by have h := sAddB_any px (t3, ys) _ _ _ _ w9 (show ys.length ≤ 1048576 by omega) fx_9 fy_9 (by omega) (by omega); rw [HQA.out, HONE.out] at h; exact h : Calls Tryz.prog 26 #[.agg #[.slice A3 px.length c3], .agg #[.string t3, .slice A4 ys.length c4]] w9 (RetB qa one w9))
  have K4 := Lib.hid k40
  clear k40
  go_wp2_with fail
  refine (K4.out).mono ?_
  rintro e w10 ⟨bb, rfl, fbb, hb10⟩
  obtain ⟨_, rfl, hgbb⟩ := fbb
  obtain ⟨Abb, cbb, rfl, _, _⟩ := hgbb.rd.form
  have fbb_10 : OwB w10 w9.heap.size w10.heap.size (.agg #[.slice Abb (qa).length cbb]) qa := ⟨_, rfl, hgbb⟩
  clear hgbb
  have hw10 : Below w9.heap.size w9 w10 := hb10
  have hs10 : w9.heap.size ≤ w10.heap.size := hw10.size
  have hB10 : Below w.heap.size w w10 := hB9.trans (hw10.mono (by omega))
  have H1_10 : RdU w10 w.heap.size (.slice A1 xs1.length c1) xs1 := H1_9.below hw10 (by omega)
  clear H1_9
  have fb_10 : RdB w10 w1.heap.size (.agg #[.slice A2 ps.length c2]) ps := fb_9.below hw10 (by omega)
  clear fb_9
  have fx_10 : RdB w10 w5.heap.size (.agg #[.slice A3 px.length c3]) px := fx_9.below hw10 (by omega)
  clear fx_9
  have fy_10 : RdP w10 w5.heap.size (.agg #[.string t3, .slice A4 ys.length c4]) (t3, ys) := fy_9.below hw10 (by omega)
  clear fy_9
  have fa_10 : OwB w10 w7.heap.size w8.heap.size (.agg #[.slice Aa (qa).length ca]) qa := fa_9.below hw10 (by omega)
  clear fa_9
  have qb0_10 := (hw10.cell (p := ⟨w1.heap.size, 0, Option.none⟩) (by show w1.heap.size < _; omega)).trans qb0_9
  clear qb0_9
  have qx0_10 := (hw10.cell (p := ⟨w5.heap.size, 0, Option.none⟩) (by show w5.heap.size < _; omega)).trans qx0_9
  clear qx0_9
  have qy0_10 := (hw10.cell (p := ⟨w6.heap.size, 0, Option.none⟩) (by show w6.heap.size < _; omega)).trans qy0_9
  clear qy0_9
  have qy1_10 := (hw10.cell (p := ⟨w6.heap.size, 1, Option.none⟩) (by show w6.heap.size < _; omega)).trans qy1_9
  clear qy1_9
  have qa0_10 := (hw10.cell (p := ⟨w8.heap.size, 0, Option.none⟩) (by show w8.heap.size < _; omega)).trans qa0_9
  clear qa0_9
  clear K4
  have hb11 : Below w10.heap.size w10 (w10.alloc (.cells #[.slice Abb (qa).length cbb] 41)) := (Below.refl _ _).alloc (Nat.le_refl _) _
  have hz11 : (w10.alloc (.cells #[.slice Abb (qa).length cbb] 41)).heap.size = w10.heap.size + 1 := by simp
  have qbb0_11 : (w10.alloc (.cells #[.slice Abb (qa).length cbb] 41)).cell? ⟨w10.heap.size, 0, Option.none⟩ = some (.slice Abb (qa).length cbb) := (Blk.new w10 41 #[.slice Abb (qa).length cbb]).cell 0
  go_wp2_with fail
  generalize w10.alloc (.cells #[.slice Abb (qa).length cbb] 41) = w11 at hb11 hz11 qbb0_11 ⊢
  have hy11 : w10.heap.size + 1 ≤ w11.heap.size := by omega
  clear hz11
  have hw11 : Below w10.heap.size w10 w11 := hb11
  have hs11 : w10.heap.size ≤ w11.heap.size := hw11.size
  have hB11 : Below w.heap.size w w11 := hB10.trans (hw11.mono (by omega))
  have H1_11 : RdU w11 w.heap.size (.slice A1 xs1.length c1) xs1 := H1_10.below hw11 (by omega)
  clear H1_10
  have fb_11 : RdB w11 w1.heap.size (.agg #[.slice A2 ps.length c2]) ps := fb_10.below hw11 (by omega)
  clear fb_10
  have fx_11 : RdB w11 w5.heap.size (.agg #[.slice A3 px.length c3]) px := fx_10.below hw11 (by omega)
  clear fx_10
  have fy_11 : RdP w11 w5.heap.size (.agg #[.string t3, .slice A4 ys.length c4]) (t3, ys) := fy_10.below hw11 (by omega)
  clear fy_10
  have fa_11 : OwB w11 w7.heap.size w8.heap.size (.agg #[.slice Aa (qa).length ca]) qa := fa_10.below hw11 (by omega)
  clear fa_10
  have fbb_11 : OwB w11 w9.heap.size w10.heap.size (.agg #[.slice Abb (qa).length cbb]) qa := fbb_10.below hw11 (by omega)
  clear fbb_10
  have qb0_11 := (hw11.cell (p := ⟨w1.heap.size, 0, Option.none⟩) (by show w1.heap.size < _; omega)).trans qb0_10
  clear qb0_10
  have qx0_11 := (hw11.cell (p := ⟨w5.heap.size, 0, Option.none⟩) (by show w5.heap.size < _; omega)).trans qx0_10
  clear qx0_10
  have qy0_11 := (hw11.cell (p := ⟨w6.heap.size, 0, Option.none⟩) (by show w6.heap.size < _; omega)).trans qy0_10
  clear qy0_10
  have qy1_11 := (hw11.cell (p := ⟨w6.heap.size, 1, Option.none⟩) (by show w6.heap.size < _; omega)).trans qy1_10
  clear qy1_10
  have qa0_11 := (hw11.cell (p := ⟨w8.heap.size, 0, Option.none⟩) (by show w8.heap.size < _; omega)).trans qa0_10
  clear qa0_10
  go_wp2_with fail
  refine (DrawDropPhrase_any xs1 _ w.heap.size w11 H1_11 (by omega)).mono ?_
  rintro e w12 ⟨u5, n5, s5, rfl, hn5, hs5s, hr5, hb12⟩
  obtain ⟨A5, c5, rfl⟩ := hr5.form
  obtain ⟨pu, hpl5, fu⟩ := hr5.rdb
  subst hpl5
  clear hr5
  have hw12 : Below w11.heap.size w11 w12 := hb12
  have hs12 : w11.heap.size ≤ w12.heap.size := hw12.size
  have hB12 : Below w.heap.size w w12 := hB11.trans (hw12.mono (by omega))
  have H1_12 : RdU w12 w.heap.size (.slice A1 xs1.length c1) xs1 := H1_11.below hw12 (by omega)
  clear H1_11
  have hg1_12 : Below w11.heap.size w11 w12 := hw12
  have hb13 : Below w12.heap.size w12 (w12.alloc (.cells #[.slice A5 pu.length c5] 41)) := (Below.refl _ _).alloc (Nat.le_refl _) _
  have hz13 : (w12.alloc (.cells #[.slice A5 pu.length c5] 41)).heap.size = w12.heap.size + 1 := by simp
  have q50_13 : (w12.alloc (.cells #[.slice A5 pu.length c5] 41)).cell? ⟨w12.heap.size, 0, Option.none⟩ = some (.slice A5 pu.length c5) := (Blk.new w12 41 #[.slice A5 pu.length c5]).cell 0
  go_wp2_with fail
  generalize w12.alloc (.cells #[.slice A5 pu.length c5] 41) = w13 at hb13 hz13 q50_13 ⊢
  have hy13 : w12.heap.size + 1 ≤ w13.heap.size := by omega
  clear hz13
  have hw13 : Below w12.heap.size w12 w13 := hb13
  have hs13 : w12.heap.size ≤ w13.heap.size := hw13.size
  have hB13 : Below w.heap.size w w13 := hB12.trans (hw13.mono (by omega))
  have H1_13 : RdU w13 w.heap.size (.slice A1 xs1.length c1) xs1 := H1_12.below hw13 (by omega)
  clear H1_12
  have fu_13 : RdB w13 w12.heap.size (.agg #[.slice A5 pu.length c5]) pu := fu.below hw13 (by omega)
  clear fu
  have hg1_13 : Below w11.heap.size w11 w13 := hg1_12.trans (hw13.mono (by omega))
  clear hg1_12
  obtain ⟨three, HTHR⟩ : ∃ b, Hid ((dropO pu s5).isSome = b) := ⟨_, rfl⟩
  obtain ⟨qd, HQD⟩ : ∃ q, Hid ((dropO pu s5).getD [] = q) := ⟨_, rfl⟩
  have k50 := (by have h := dropB_any pu s5 _ _ w13 (by unfold maxLen; omega) fu_13 (by omega); rw [HQD.out, HTHR.out] at h; exact h : Calls Tryz.prog 28 #[.agg #[.slice A5 pu.length c5], .string s5] w13 (RetB qd three w13))
  have K5 := Lib.hid k50
  clear k50
  go_wp2_with fail
  refine (K5.out).mono ?_
  rintro e w14 ⟨d, rfl, fd, hb14⟩
  obtain ⟨_, rfl, hgd⟩ := fd
  obtain ⟨Ad, cd, rfl, _, _⟩ := hgd.rd.form
  have fd_14 : OwB w14 w13.heap.size w14.heap.size (.agg #[.slice Ad (qd).length cd]) qd := ⟨_, rfl, hgd⟩
  clear hgd
  have hw14 : Below w13.heap.size w13 w14 := hb14
  have hs14 : w13.heap.size ≤ w14.heap.size := hw14.size
  have hB14 : Below w.heap.size w w14 := hB13.trans (hw14.mono (by omega))
  have H1_14 : RdU w14 w.heap.size (.slice A1 xs1.length c1) xs1 := H1_13.below hw14 (by omega)
  clear H1_13
  have fu_14 : RdB w14 w12.heap.size (.agg #[.slice A5 pu.length c5]) pu := fu_13.below hw14 (by omega)
  clear fu_13
  have q50_14 := (hw14.cell (p := ⟨w12.heap.size, 0, Option.none⟩) (by show w12.heap.size < _; omega)).trans q50_13
  clear q50_13
  have hg1_14 : Below w11.heap.size w11 w14 := hg1_13.trans (hw14.mono (by omega))
  clear hg1_13
  clear K5
  have hb15 : Below w14.heap.size w14 (w14.alloc (.cells #[.slice Ad (qd).length cd] 41)) := (Below.refl _ _).alloc (Nat.le_refl _) _
  have hz15 : (w14.alloc (.cells #[.slice Ad (qd).length cd] 41)).heap.size = w14.heap.size + 1 := by simp
  have qd0_15 : (w14.alloc (.cells #[.slice Ad (qd).length cd] 41)).cell? ⟨w14.heap.size, 0, Option.none⟩ = some (.slice Ad (qd).length cd) := (Blk.new w14 41 #[.slice Ad (qd).length cd]).cell 0
  have q50_N := (hb15.cell (p := ⟨w12.heap.size, 0, Option.none⟩) (by show w12.heap.size < _; omega)).trans q50_14
  go_wp2_with fail
  generalize w14.alloc (.cells #[.slice Ad (qd).length cd] 41) = w15 at hb15 hz15 qd0_15 q50_N ⊢
  have hy15 : w14.heap.size + 1 ≤ w15.heap.size := by omega
  clear hz15
  clear q50_N
  have hw15 : Below w14.heap.size w14 w15 := hb15
  have hs15 : w14.heap.size ≤ w15.heap.size := hw15.size
  have hB15 : Below w.heap.size w w15 := hB14.trans (hw15.mono (by omega))
  have H1_15 : RdU w15 w.heap.size (.slice A1 xs1.length c1) xs1 := H1_14.below hw15 (by omega)
  clear H1_14
  have fu_15 : RdB w15 w12.heap.size (.agg #[.slice A5 pu.length c5]) pu := fu_14.below hw15 (by omega)
  clear fu_14
  have fd_15 : OwB w15 w13.heap.size w14.heap.size (.agg #[.slice Ad (qd).length cd]) qd := fd_14.below hw15 (by omega)
  clear fd_14
  have q50_15 := (hw15.cell (p := ⟨w12.heap.size, 0, Option.none⟩) (by show w12.heap.size < _; omega)).trans q50_14
  clear q50_14
  have hg1_15 : Below w11.heap.size w11 w15 := hg1_14.trans (hw15.mono (by omega))
  clear hg1_14
  have k60 := (by have h := sDropB_any pu s5 _ _ w15 (by unfold maxLen; omega) fu_15 (by omega); rw [HQD.out, HTHR.out] at h; exact h : Calls Tryz.prog 29 #[.agg #[.slice A5 pu.length c5], .string s5] w15 (RetB qd three w15))
  have K6 := Lib.hid k60
  clear k60
  go_wp2_with fail
  refine (K6.out).mono ?_
  rintro e w16 ⟨e, rfl, fe, hb16⟩
  obtain ⟨_, rfl, hge⟩ := fe
  obtain ⟨Ae, ce, rfl, _, _⟩ := hge.rd.form
  have fe_16 : OwB w16 w15.heap.size w16.heap.size (.agg #[.slice Ae (qd).length ce]) qd := ⟨_, rfl, hge⟩
  clear hge
  have hw16 : Below w15.heap.size w15 w16 := hb16
  have hs16 : w15.heap.size ≤ w16.heap.size := hw16.size
  have hB16 : Below w.heap.size w w16 := hB15.trans (hw16.mono (by omega))
  have H1_16 : RdU w16 w.heap.size (.slice A1 xs1.length c1) xs1 := H1_15.below hw16 (by omega)
  clear H1_15
  have fu_16 : RdB w16 w12.heap.size (.agg #[.slice A5 pu.length c5]) pu := fu_15.below hw16 (by omega)
  clear fu_15
  have fd_16 : OwB w16 w13.heap.size w14.heap.size (.agg #[.slice Ad (qd).length cd]) qd := fd_15.below hw16 (by omega)
  clear fd_15
  have q50_16 := (hw16.cell (p := ⟨w12.heap.size, 0, Option.none⟩) (by show w12.heap.size < _; omega)).trans q50_15
  clear q50_15
  have qd0_16 := (hw16.cell (p := ⟨w14.heap.size, 0, Option.none⟩) (by show w14.heap.size < _; omega)).trans qd0_15
  clear qd0_15
  have hg1_16 : Below w11.heap.size w11 w16 := hg1_15.trans (hw16.mono (by omega))
  clear hg1_15
  clear K6
  have hb17 : Below w16.heap.size w16 (w16.alloc (.cells #[.slice Ae (qd).length ce] 41)) := (Below.refl _ _).alloc (Nat.le_refl _) _
  have hz17 : (w16.alloc (.cells #[.slice Ae (qd).length ce] 41)).heap.size = w16.heap.size + 1 := by simp
  have qe0_17 : (w16.alloc (.cells #[.slice Ae (qd).length ce] 41)).cell? ⟨w16.heap.size, 0, Option.none⟩ = some (.slice Ae (qd).length ce) := (Blk.new w16 41 #[.slice Ae (qd).length ce]).cell 0
  go_wp2_with fail
  generalize w16.alloc (.cells #[.slice Ae (qd).length ce] 41) = w17 at hb17 hz17 qe0_17 ⊢
  have hy17 : w16.heap.size + 1 ≤ w17.heap.size := by omega
  clear hz17
  have hw17 : Below w16.heap.size w16 w17 := hb17
  have hs17 : w16.heap.size ≤ w17.heap.size := hw17.size
  have hB17 : Below w.heap.size w w17 := hB16.trans (hw17.mono (by omega))
  have H1_17 : RdU w17 w.heap.size (.slice A1 xs1.length c1) xs1 := H1_16.below hw17 (by omega)
  clear H1_16
  have fu_17 : RdB w17 w12.heap.size (.agg #[.slice A5 pu.length c5]) pu := fu_16.below hw17 (by omega)
  clear fu_16
  have fd_17 : OwB w17 w13.heap.size w14.heap.size (.agg #[.slice Ad (qd).length cd]) qd := fd_16.below hw17 (by omega)
  clear fd_16
  have fe_17 : OwB w17 w15.heap.size w16.heap.size (.agg #[.slice Ae (qd).length ce]) qd := fe_16.below hw17 (by omega)
  clear fe_16
  have q50_17 := (hw17.cell (p := ⟨w12.heap.size, 0, Option.none⟩) (by show w12.heap.size < _; omega)).trans q50_16
  clear q50_16
  have qd0_17 := (hw17.cell (p := ⟨w14.heap.size, 0, Option.none⟩) (by show w14.heap.size < _; omega)).trans qd0_16
  clear qd0_16
  have hg1_17 : Below w11.heap.size w11 w17 := hg1_16.trans (hw17.mono (by omega))
  clear hg1_16
  clear fu_17
  clear q50_17
  go_wp2_with fail
  refine (DrawFindPhrase_any xs1 _ w.heap.size w17 H1_17 (by omega)).mono ?_
  rintro e w18 ⟨u6, n6, s6, rfl, hn6, hs6s, hr6, hb18⟩
  obtain ⟨A6, c6, rfl⟩ := hr6.form
  obtain ⟨pv, hpl6, fv⟩ := hr6.rdb
  subst hpl6
  clear hr6
  have hw18 : Below w17.heap.size w17 w18 := hb18
  have hs18 : w17.heap.size ≤ w18.heap.size := hw18.size
  have hB18 : Below w.heap.size w w18 := hB17.trans (hw18.mono (by omega))
  have H1_18 : RdU w18 w.heap.size (.slice A1 xs1.length c1) xs1 := H1_17.below hw18 (by omega)
  clear H1_17
  have hg1_18 : Below w11.heap.size w11 w18 := hg1_17.trans (hw18.mono (by omega))
  clear hg1_17
  have hg2_18 : Below w17.heap.size w17 w18 := hw18
  have hb19 : Below w18.heap.size w18 (w18.alloc (.cells #[.slice A6 pv.length c6] 41)) := (Below.refl _ _).alloc (Nat.le_refl _) _
  have hz19 : (w18.alloc (.cells #[.slice A6 pv.length c6] 41)).heap.size = w18.heap.size + 1 := by simp
  have q60_19 : (w18.alloc (.cells #[.slice A6 pv.length c6] 41)).cell? ⟨w18.heap.size, 0, Option.none⟩ = some (.slice A6 pv.length c6) := (Blk.new w18 41 #[.slice A6 pv.length c6]).cell 0
  go_wp2_with fail
  generalize w18.alloc (.cells #[.slice A6 pv.length c6] 41) = w19 at hb19 hz19 q60_19 ⊢
  have hy19 : w18.heap.size + 1 ≤ w19.heap.size := by omega
  clear hz19
  have hw19 : Below w18.heap.size w18 w19 := hb19
  have hs19 : w18.heap.size ≤ w19.heap.size := hw19.size
  have hB19 : Below w.heap.size w w19 := hB18.trans (hw19.mono (by omega))
  have H1_19 : RdU w19 w.heap.size (.slice A1 xs1.length c1) xs1 := H1_18.below hw19 (by omega)
  clear H1_18
  have fv_19 : RdB w19 w18.heap.size (.agg #[.slice A6 pv.length c6]) pv := fv.below hw19 (by omega)
  clear fv
  have hg1_19 : Below w11.heap.size w11 w19 := hg1_18.trans (hw19.mono (by omega))
  clear hg1_18
  have hg2_19 : Below w17.heap.size w17 w19 := hg2_18.trans (hw19.mono (by omega))
  clear hg2_18
  obtain ⟨iv, five, hfv⟩ := find_told pv s6
  have HFV := Lib.hid hfv
  clear hfv
  have k70 := (by have h := FindPhrase_any pv s6 _ _ w19 (by unfold maxLen; omega) fv_19 (by omega); rw [HFV.out.1] at h; exact h : Calls Tryz.prog 31 #[.agg #[.slice A6 pv.length c6], .string s6] w19 fun e w' => e = .returned (.tuple #[.int .i64 iv, .bool five]) ∧ Below w19.heap.size w19 w')
  have K7 := Lib.hid k70
  clear k70
  go_wp2_with fail
  refine (K7.out).mono ?_
  rintro e w20 ⟨rfl, hb20⟩
  have hw20 : Below w19.heap.size w19 w20 := hb20
  have hs20 : w19.heap.size ≤ w20.heap.size := hw20.size
  have hB20 : Below w.heap.size w w20 := hB19.trans (hw20.mono (by omega))
  have H1_20 : RdU w20 w.heap.size (.slice A1 xs1.length c1) xs1 := H1_19.below hw20 (by omega)
  clear H1_19
  have fv_20 : RdB w20 w18.heap.size (.agg #[.slice A6 pv.length c6]) pv := fv_19.below hw20 (by omega)
  clear fv_19
  have q60_20 := (hw20.cell (p := ⟨w18.heap.size, 0, Option.none⟩) (by show w18.heap.size < _; omega)).trans q60_19
  clear q60_19
  have hg1_20 : Below w11.heap.size w11 w20 := hg1_19.trans (hw20.mono (by omega))
  clear hg1_19
  have hg2_20 : Below w17.heap.size w17 w20 := hg2_19.trans (hw20.mono (by omega))
  clear hg2_19
  clear K7
  have k80 := (by have h := sFindPhrase_any pv s6 _ _ w20 fv_20 (by omega); rw [HFV.out.1] at h; exact h : Calls Tryz.prog 32 #[.agg #[.slice A6 pv.length c6], .string s6] w20 fun e w' => e = .returned (.tuple #[.int .i64 iv, .bool five]) ∧ Below w20.heap.size w20 w')
  have K8 := Lib.hid k80
  clear k80
  go_wp2_with fail
  refine (K8.out).mono ?_
  rintro e w21 ⟨rfl, hb21⟩
  have hw21 : Below w20.heap.size w20 w21 := hb21
  have hs21 : w20.heap.size ≤ w21.heap.size := hw21.size
  have hB21 : Below w.heap.size w w21 := hB20.trans (hw21.mono (by omega))
  have H1_21 : RdU w21 w.heap.size (.slice A1 xs1.length c1) xs1 := H1_20.below hw21 (by omega)
  clear H1_20
  have fv_21 : RdB w21 w18.heap.size (.agg #[.slice A6 pv.length c6]) pv := fv_20.below hw21 (by omega)
  clear fv_20
  have q60_21 := (hw21.cell (p := ⟨w18.heap.size, 0, Option.none⟩) (by show w18.heap.size < _; omega)).trans q60_20
  clear q60_20
  have hg1_21 : Below w11.heap.size w11 w21 := hg1_20.trans (hw21.mono (by omega))
  clear hg1_20
  have hg2_21 : Below w17.heap.size w17 w21 := hg2_20.trans (hw21.mono (by omega))
  clear hg2_20
  clear K8
  go_wp2_with fail
  refine (DrawPhraseOf_any xs1 _ w.heap.size w21 H1_21 (by omega)).mono ?_
  rintro e w22 ⟨u7, n7, u8, zs, rfl, hn7, hzs, hr7, ho7, hb22⟩
  obtain ⟨A7, c7, rfl⟩ := hr7.form
  obtain ⟨pw, hpl7, fw⟩ := hr7.rdb
  subst hpl7
  obtain ⟨A8, c8, rfl, _⟩ := ho7.form
  have fz := ho7.rd
  clear hr7 ho7
  have hw22 : Below w21.heap.size w21 w22 := hb22
  have hs22 : w21.heap.size ≤ w22.heap.size := hw22.size
  have hB22 : Below w.heap.size w w22 := hB21.trans (hw22.mono (by omega))
  have H1_22 : RdU w22 w.heap.size (.slice A1 xs1.length c1) xs1 := H1_21.below hw22 (by omega)
  clear H1_21
  have hg1_22 : Below w11.heap.size w11 w22 := hg1_21.trans (hw22.mono (by omega))
  clear hg1_21
  have hg2_22 : Below w17.heap.size w17 w22 := hg2_21.trans (hw22.mono (by omega))
  clear hg2_21
  have hg3_22 : Below w21.heap.size w21 w22 := hw22
  have hb23 : Below w22.heap.size w22 (w22.alloc (.cells #[.slice A7 pw.length c7] 41)) := (Below.refl _ _).alloc (Nat.le_refl _) _
  have hz23 : (w22.alloc (.cells #[.slice A7 pw.length c7] 41)).heap.size = w22.heap.size + 1 := by simp
  have q70_23 : (w22.alloc (.cells #[.slice A7 pw.length c7] 41)).cell? ⟨w22.heap.size, 0, Option.none⟩ = some (.slice A7 pw.length c7) := (Blk.new w22 41 #[.slice A7 pw.length c7]).cell 0
  go_wp2_with fail
  generalize w22.alloc (.cells #[.slice A7 pw.length c7] 41) = w23 at hb23 hz23 q70_23 ⊢
  have hy23 : w22.heap.size + 1 ≤ w23.heap.size := by omega
  clear hz23
  have hw23 : Below w22.heap.size w22 w23 := hb23
  have hs23 : w22.heap.size ≤ w23.heap.size := hw23.size
  have hB23 : Below w.heap.size w w23 := hB22.trans (hw23.mono (by omega))
  have H1_23 : RdU w23 w.heap.size (.slice A1 xs1.length c1) xs1 := H1_22.below hw23 (by omega)
  clear H1_22
  have fw_23 : RdB w23 w22.heap.size (.agg #[.slice A7 pw.length c7]) pw := fw.below hw23 (by omega)
  clear fw
  have fz_23 : RdI w23 w22.heap.size (.slice A8 zs.length c8) zs := fz.below hw23 (by omega)
  clear fz
  have hg1_23 : Below w11.heap.size w11 w23 := hg1_22.trans (hw23.mono (by omega))
  clear hg1_22
  have hg2_23 : Below w17.heap.size w17 w23 := hg2_22.trans (hw23.mono (by omega))
  clear hg2_22
  have hg3_23 : Below w21.heap.size w21 w23 := hg3_22.trans (hw23.mono (by omega))
  clear hg3_22
  obtain ⟨iw, seven, hfw⟩ := of_told pw zs
  have HFW := Lib.hid hfw
  clear hfw
  have k90 := (by have h := PhraseOf_any pw zs _ _ _ _ w23 fw_23 fz_23 (by omega) (by omega); rw [HFW.out.1] at h; exact h : Calls Tryz.prog 34 #[.agg #[.slice A7 pw.length c7], .slice A8 zs.length c8] w23 fun e w' => e = .returned (.tuple #[.int .i64 iw, .bool seven]) ∧ Below w23.heap.size w23 w')
  have K9 := Lib.hid k90
  clear k90
  go_wp2_with fail
  refine (K9.out).mono ?_
  rintro e w24 ⟨rfl, hb24⟩
  have hw24 : Below w23.heap.size w23 w24 := hb24
  have hs24 : w23.heap.size ≤ w24.heap.size := hw24.size
  have hB24 : Below w.heap.size w w24 := hB23.trans (hw24.mono (by omega))
  have H1_24 : RdU w24 w.heap.size (.slice A1 xs1.length c1) xs1 := H1_23.below hw24 (by omega)
  clear H1_23
  have fw_24 : RdB w24 w22.heap.size (.agg #[.slice A7 pw.length c7]) pw := fw_23.below hw24 (by omega)
  clear fw_23
  have fz_24 : RdI w24 w22.heap.size (.slice A8 zs.length c8) zs := fz_23.below hw24 (by omega)
  clear fz_23
  have q70_24 := (hw24.cell (p := ⟨w22.heap.size, 0, Option.none⟩) (by show w22.heap.size < _; omega)).trans q70_23
  clear q70_23
  have hg1_24 : Below w11.heap.size w11 w24 := hg1_23.trans (hw24.mono (by omega))
  clear hg1_23
  have hg2_24 : Below w17.heap.size w17 w24 := hg2_23.trans (hw24.mono (by omega))
  clear hg2_23
  have hg3_24 : Below w21.heap.size w21 w24 := hg3_23.trans (hw24.mono (by omega))
  clear hg3_23
  clear K9
  have ka0 := (by have h := sPhraseOf_any pw zs _ _ _ _ w24 fw_24 fz_24 (by omega) (by omega); rw [HFW.out.1] at h; exact h : Calls Tryz.prog 35 #[.agg #[.slice A7 pw.length c7], .slice A8 zs.length c8] w24 fun e w' => e = .returned (.tuple #[.int .i64 iw, .bool seven]) ∧ Below w24.heap.size w24 w')
  have KA := Lib.hid ka0
  clear ka0
  go_wp2_with fail
  refine (KA.out).mono ?_
  rintro e w25 ⟨rfl, hb25⟩
  have hw25 : Below w24.heap.size w24 w25 := hb25
  have hs25 : w24.heap.size ≤ w25.heap.size := hw25.size
  have hB25 : Below w.heap.size w w25 := hB24.trans (hw25.mono (by omega))
  have H1_25 : RdU w25 w.heap.size (.slice A1 xs1.length c1) xs1 := H1_24.below hw25 (by omega)
  clear H1_24
  have fw_25 : RdB w25 w22.heap.size (.agg #[.slice A7 pw.length c7]) pw := fw_24.below hw25 (by omega)
  clear fw_24
  have fz_25 : RdI w25 w22.heap.size (.slice A8 zs.length c8) zs := fz_24.below hw25 (by omega)
  clear fz_24
  have q70_25 := (hw25.cell (p := ⟨w22.heap.size, 0, Option.none⟩) (by show w22.heap.size < _; omega)).trans q70_24
  clear q70_24
  have hg1_25 : Below w11.heap.size w11 w25 := hg1_24.trans (hw25.mono (by omega))
  clear hg1_24
  have hg2_25 : Below w17.heap.size w17 w25 := hg2_24.trans (hw25.mono (by omega))
  clear hg2_24
  have hg3_25 : Below w21.heap.size w21 w25 := hg3_24.trans (hw25.mono (by omega))
  clear hg3_24
  clear KA
  go_wp2_with fail
  refine (DrawWithBeginning_any xs1 _ w.heap.size w25 H1_25 (by omega)).mono ?_
  rintro e w26 ⟨u9, n9, s9, rfl, hn9, hs9s, hr9, hb26⟩
  obtain ⟨A9, c9, rfl⟩ := hr9.form
  obtain ⟨pm, hpl9, fm⟩ := hr9.rdb
  subst hpl9
  clear hr9
  have hw26 : Below w25.heap.size w25 w26 := hb26
  have hs26 : w25.heap.size ≤ w26.heap.size := hw26.size
  have hB26 : Below w.heap.size w w26 := hB25.trans (hw26.mono (by omega))
  have H1_26 : RdU w26 w.heap.size (.slice A1 xs1.length c1) xs1 := H1_25.below hw26 (by omega)
  clear H1_25
  have hg1_26 : Below w11.heap.size w11 w26 := hg1_25.trans (hw26.mono (by omega))
  clear hg1_25
  have hg2_26 : Below w17.heap.size w17 w26 := hg2_25.trans (hw26.mono (by omega))
  clear hg2_25
  have hg3_26 : Below w21.heap.size w21 w26 := hg3_25.trans (hw26.mono (by omega))
  clear hg3_25
  have hg4_26 : Below w25.heap.size w25 w26 := hw26
  have hb27 : Below w26.heap.size w26 (w26.alloc (.cells #[.slice A9 pm.length c9] 41)) := (Below.refl _ _).alloc (Nat.le_refl _) _
  have hz27 : (w26.alloc (.cells #[.slice A9 pm.length c9] 41)).heap.size = w26.heap.size + 1 := by simp
  have q90_27 : (w26.alloc (.cells #[.slice A9 pm.length c9] 41)).cell? ⟨w26.heap.size, 0, Option.none⟩ = some (.slice A9 pm.length c9) := (Blk.new w26 41 #[.slice A9 pm.length c9]).cell 0
  go_wp2_with fail
  generalize w26.alloc (.cells #[.slice A9 pm.length c9] 41) = w27 at hb27 hz27 q90_27 ⊢
  have hy27 : w26.heap.size + 1 ≤ w27.heap.size := by omega
  clear hz27
  have hw27 : Below w26.heap.size w26 w27 := hb27
  have hs27 : w26.heap.size ≤ w27.heap.size := hw27.size
  have hB27 : Below w.heap.size w w27 := hB26.trans (hw27.mono (by omega))
  have H1_27 : RdU w27 w.heap.size (.slice A1 xs1.length c1) xs1 := H1_26.below hw27 (by omega)
  clear H1_26
  have fm_27 : RdB w27 w26.heap.size (.agg #[.slice A9 pm.length c9]) pm := fm.below hw27 (by omega)
  clear fm
  have hg1_27 : Below w11.heap.size w11 w27 := hg1_26.trans (hw27.mono (by omega))
  clear hg1_26
  have hg2_27 : Below w17.heap.size w17 w27 := hg2_26.trans (hw27.mono (by omega))
  clear hg2_26
  have hg3_27 : Below w21.heap.size w21 w27 := hg3_26.trans (hw27.mono (by omega))
  clear hg3_26
  have hg4_27 : Below w25.heap.size w25 w27 := hg4_26.trans (hw27.mono (by omega))
  clear hg4_26
  obtain ⟨nine, HNI⟩ : ∃ b, Hid ((bookB pm && lettS s9) = b) := ⟨_, rfl⟩
  have hl40 := begL_len pm s9
  obtain ⟨nl, HNL⟩ : ∃ l, Hid (begL pm s9 = l) := ⟨_, rfl⟩
  rw [HNL.out] at hl40
  have kb0 := (by have h := WithBeginning_any pm s9 _ _ w27 (by unfold maxLen; omega) fm_27 (by omega); rw [HNL.out, HNI.out] at h; exact h : Calls Tryz.prog 37 #[.agg #[.slice A9 pm.length c9], .string s9] w27 (RetOwT (nl) nine w27))
  have KB := Lib.hid kb0
  clear kb0
  go_wp2_with fail
  refine (KB.out).mono ?_
  rintro e w28 ⟨l, rfl, fl, hb28⟩
  obtain ⟨Al, cl, rfl, _⟩ := fl.form
  have fl_28 : RdI w28 w28.heap.size (.slice Al (nl).length cl) (nl) := fl.rd
  clear fl
  have hw28 : Below w27.heap.size w27 w28 := hb28
  have hs28 : w27.heap.size ≤ w28.heap.size := hw28.size
  have hB28 : Below w.heap.size w w28 := hB27.trans (hw28.mono (by omega))
  have H1_28 : RdU w28 w.heap.size (.slice A1 xs1.length c1) xs1 := H1_27.below hw28 (by omega)
  clear H1_27
  have fm_28 : RdB w28 w26.heap.size (.agg #[.slice A9 pm.length c9]) pm := fm_27.below hw28 (by omega)
  clear fm_27
  have q90_28 := (hw28.cell (p := ⟨w26.heap.size, 0, Option.none⟩) (by show w26.heap.size < _; omega)).trans q90_27
  clear q90_27
  have hg1_28 : Below w11.heap.size w11 w28 := hg1_27.trans (hw28.mono (by omega))
  clear hg1_27
  have hg2_28 : Below w17.heap.size w17 w28 := hg2_27.trans (hw28.mono (by omega))
  clear hg2_27
  have hg3_28 : Below w21.heap.size w21 w28 := hg3_27.trans (hw28.mono (by omega))
  clear hg3_27
  have hg4_28 : Below w25.heap.size w25 w28 := hg4_27.trans (hw28.mono (by omega))
  clear hg4_27
  clear KB
  have kc0 := (by have h := sWithBeginning_any pm s9 _ _ w28 (by unfold maxLen; omega) fm_28 (by omega); rw [HNL.out, HNI.out] at h; exact h : Calls Tryz.prog 38 #[.agg #[.slice A9 pm.length c9], .string s9] w28 (RetOwT (nl) nine w28))
  have KC := Lib.hid kc0
  clear kc0
  go_wp2_with fail
  refine (KC.out).mono ?_
  rintro e w29 ⟨k, rfl, fk, hb29⟩
  obtain ⟨Ak, ck, rfl, _⟩ := fk.form
  have fk_29 : RdI w29 w29.heap.size (.slice Ak (nl).length ck) (nl) := fk.rd
  clear fk
  have hw29 : Below w28.heap.size w28 w29 := hb29
  have hs29 : w28.heap.size ≤ w29.heap.size := hw29.size
  have hB29 : Below w.heap.size w w29 := hB28.trans (hw29.mono (by omega))
  have H1_29 : RdU w29 w.heap.size (.slice A1 xs1.length c1) xs1 := H1_28.below hw29 (by omega)
  clear H1_28
  have fm_29 : RdB w29 w26.heap.size (.agg #[.slice A9 pm.length c9]) pm := fm_28.below hw29 (by omega)
  clear fm_28
  have fl_29 : RdI w29 w28.heap.size (.slice Al (nl).length cl) (nl) := fl_28.below hw29 (by omega)
  clear fl_28
  have q90_29 := (hw29.cell (p := ⟨w26.heap.size, 0, Option.none⟩) (by show w26.heap.size < _; omega)).trans q90_28
  clear q90_28
  have hg1_29 : Below w11.heap.size w11 w29 := hg1_28.trans (hw29.mono (by omega))
  clear hg1_28
  have hg2_29 : Below w17.heap.size w17 w29 := hg2_28.trans (hw29.mono (by omega))
  clear hg2_28
  have hg3_29 : Below w21.heap.size w21 w29 := hg3_28.trans (hw29.mono (by omega))
  clear hg3_28
  have hg4_29 : Below w25.heap.size w25 w29 := hg4_28.trans (hw29.mono (by omega))
  clear hg4_28
  clear KC
  go_wp2_with fail
  refine (DrawParseBook_any xs1 _ w.heap.size w29 H1_29 (by omega)).mono ?_
  rintro e w30 ⟨tp, rfl, htp, hb30⟩
  have hw30 : Below w29.heap.size w29 w30 := hb30
  have hs30 : w29.heap.size ≤ w30.heap.size := hw30.size
  have hB30 : Below w.heap.size w w30 := hB29.trans (hw30.mono (by omega))
  have H1_30 : RdU w30 w.heap.size (.slice A1 xs1.length c1) xs1 := H1_29.below hw30 (by omega)
  clear H1_29
  have hg1_30 : Below w11.heap.size w11 w30 := hg1_29.trans (hw30.mono (by omega))
  clear hg1_29
  have hg2_30 : Below w17.heap.size w17 w30 := hg2_29.trans (hw30.mono (by omega))
  clear hg2_29
  have hg3_30 : Below w21.heap.size w21 w30 := hg3_29.trans (hw30.mono (by omega))
  clear hg3_29
  have hg4_30 : Below w25.heap.size w25 w30 := hg4_29.trans (hw30.mono (by omega))
  clear hg4_29
  have hg5_30 : Below w29.heap.size w29 w30 := hw30
  obtain ⟨elv, HEL⟩ : ∃ b, Hid ((bookO tp.data.toList).isSome = b) := ⟨_, rfl⟩
  obtain ⟨qp, HQP⟩ : ∃ q, Hid ((bookO tp.data.toList).getD [] = q) := ⟨_, rfl⟩
  have kd0 := (by have h := (show Calls Tryz.prog 40 #[.string tp] w30 (RetB ((bookO tp.data.toList).getD []) (bookO tp.data.toList).isSome w30) from (ParseBook_any tp (by omega) w30 (HLW.out.below hB30)).mono (fun _ _ h => owB_of h)); rw [HQP.out, HEL.out] at h; exact h : Calls Tryz.prog 40 #[.string tp] w30 (RetB qp elv w30))
  have KD := Lib.hid kd0
  clear kd0
  go_wp2_with fail
  refine (KD.out).mono ?_
  rintro e w31 ⟨p, rfl, fp, hb31⟩
  obtain ⟨_, rfl, hgp⟩ := fp
  obtain ⟨Ap, cp, rfl, _, _⟩ := hgp.rd.form
  have fp_31 : OwB w31 w30.heap.size w31.heap.size (.agg #[.slice Ap (qp).length cp]) qp := ⟨_, rfl, hgp⟩
  clear hgp
  have hw31 : Below w30.heap.size w30 w31 := hb31
  have hs31 : w30.heap.size ≤ w31.heap.size := hw31.size
  have hB31 : Below w.heap.size w w31 := hB30.trans (hw31.mono (by omega))
  have H1_31 : RdU w31 w.heap.size (.slice A1 xs1.length c1) xs1 := H1_30.below hw31 (by omega)
  clear H1_30
  have hg1_31 : Below w11.heap.size w11 w31 := hg1_30.trans (hw31.mono (by omega))
  clear hg1_30
  have hg2_31 : Below w17.heap.size w17 w31 := hg2_30.trans (hw31.mono (by omega))
  clear hg2_30
  have hg3_31 : Below w21.heap.size w21 w31 := hg3_30.trans (hw31.mono (by omega))
  clear hg3_30
  have hg4_31 : Below w25.heap.size w25 w31 := hg4_30.trans (hw31.mono (by omega))
  clear hg4_30
  have hg5_31 : Below w29.heap.size w29 w31 := hg5_30.trans (hw31.mono (by omega))
  clear hg5_30
  clear KD
  have hb32 : Below w31.heap.size w31 (w31.alloc (.cells #[.slice Ap (qp).length cp] 41)) := (Below.refl _ _).alloc (Nat.le_refl _) _
  have hz32 : (w31.alloc (.cells #[.slice Ap (qp).length cp] 41)).heap.size = w31.heap.size + 1 := by simp
  have qp0_32 : (w31.alloc (.cells #[.slice Ap (qp).length cp] 41)).cell? ⟨w31.heap.size, 0, Option.none⟩ = some (.slice Ap (qp).length cp) := (Blk.new w31 41 #[.slice Ap (qp).length cp]).cell 0
  go_wp2_with fail
  generalize w31.alloc (.cells #[.slice Ap (qp).length cp] 41) = w32 at hb32 hz32 qp0_32 ⊢
  have hy32 : w31.heap.size + 1 ≤ w32.heap.size := by omega
  clear hz32
  have hw32 : Below w31.heap.size w31 w32 := hb32
  have hs32 : w31.heap.size ≤ w32.heap.size := hw32.size
  have hB32 : Below w.heap.size w w32 := hB31.trans (hw32.mono (by omega))
  have H1_32 : RdU w32 w.heap.size (.slice A1 xs1.length c1) xs1 := H1_31.below hw32 (by omega)
  clear H1_31
  have fp_32 : OwB w32 w30.heap.size w31.heap.size (.agg #[.slice Ap (qp).length cp]) qp := fp_31.below hw32 (by omega)
  clear fp_31
  have hg1_32 : Below w11.heap.size w11 w32 := hg1_31.trans (hw32.mono (by omega))
  clear hg1_31
  have hg2_32 : Below w17.heap.size w17 w32 := hg2_31.trans (hw32.mono (by omega))
  clear hg2_31
  have hg3_32 : Below w21.heap.size w21 w32 := hg3_31.trans (hw32.mono (by omega))
  clear hg3_31
  have hg4_32 : Below w25.heap.size w25 w32 := hg4_31.trans (hw32.mono (by omega))
  clear hg4_31
  have hg5_32 : Below w29.heap.size w29 w32 := hg5_31.trans (hw32.mono (by omega))
  clear hg5_31
  have ke0 := (by have h := (show Calls Tryz.prog 41 #[.string tp] w32 (RetB ((bookO tp.data.toList).getD []) (bookO tp.data.toList).isSome w32) from (sParseBook_any tp (by omega) w32).mono (fun _ _ h => owB_of h)); rw [HQP.out, HEL.out] at h; exact h : Calls Tryz.prog 41 #[.string tp] w32 (RetB qp elv w32))
  have KE := Lib.hid ke0
  clear ke0
  go_wp2_with fail
  refine (KE.out).mono ?_
  rintro e w33 ⟨r, rfl, fr, hb33⟩
  obtain ⟨_, rfl, hgr⟩ := fr
  obtain ⟨Ar, cr, rfl, _, _⟩ := hgr.rd.form
  have fr_33 : OwB w33 w32.heap.size w33.heap.size (.agg #[.slice Ar (qp).length cr]) qp := ⟨_, rfl, hgr⟩
  clear hgr
  have hw33 : Below w32.heap.size w32 w33 := hb33
  have hs33 : w32.heap.size ≤ w33.heap.size := hw33.size
  have hB33 : Below w.heap.size w w33 := hB32.trans (hw33.mono (by omega))
  have H1_33 : RdU w33 w.heap.size (.slice A1 xs1.length c1) xs1 := H1_32.below hw33 (by omega)
  clear H1_32
  have fp_33 : OwB w33 w30.heap.size w31.heap.size (.agg #[.slice Ap (qp).length cp]) qp := fp_32.below hw33 (by omega)
  clear fp_32
  have qp0_33 := (hw33.cell (p := ⟨w31.heap.size, 0, Option.none⟩) (by show w31.heap.size < _; omega)).trans qp0_32
  clear qp0_32
  have hg1_33 : Below w11.heap.size w11 w33 := hg1_32.trans (hw33.mono (by omega))
  clear hg1_32
  have hg2_33 : Below w17.heap.size w17 w33 := hg2_32.trans (hw33.mono (by omega))
  clear hg2_32
  have hg3_33 : Below w21.heap.size w21 w33 := hg3_32.trans (hw33.mono (by omega))
  clear hg3_32
  have hg4_33 : Below w25.heap.size w25 w33 := hg4_32.trans (hw33.mono (by omega))
  clear hg4_32
  have hg5_33 : Below w29.heap.size w29 w33 := hg5_32.trans (hw33.mono (by omega))
  clear hg5_32
  clear KE
  have hb34 : Below w33.heap.size w33 (w33.alloc (.cells #[.slice Ar (qp).length cr] 41)) := (Below.refl _ _).alloc (Nat.le_refl _) _
  have hz34 : (w33.alloc (.cells #[.slice Ar (qp).length cr] 41)).heap.size = w33.heap.size + 1 := by simp
  have qr0_34 : (w33.alloc (.cells #[.slice Ar (qp).length cr] 41)).cell? ⟨w33.heap.size, 0, Option.none⟩ = some (.slice Ar (qp).length cr) := (Blk.new w33 41 #[.slice Ar (qp).length cr]).cell 0
  go_wp2_with fail
  generalize w33.alloc (.cells #[.slice Ar (qp).length cr] 41) = w34 at hb34 hz34 qr0_34 ⊢
  have hy34 : w33.heap.size + 1 ≤ w34.heap.size := by omega
  clear hz34
  have hw34 : Below w33.heap.size w33 w34 := hb34
  have hs34 : w33.heap.size ≤ w34.heap.size := hw34.size
  have hB34 : Below w.heap.size w w34 := hB33.trans (hw34.mono (by omega))
  have H1_34 : RdU w34 w.heap.size (.slice A1 xs1.length c1) xs1 := H1_33.below hw34 (by omega)
  clear H1_33
  have fp_34 : OwB w34 w30.heap.size w31.heap.size (.agg #[.slice Ap (qp).length cp]) qp := fp_33.below hw34 (by omega)
  clear fp_33
  have fr_34 : OwB w34 w32.heap.size w33.heap.size (.agg #[.slice Ar (qp).length cr]) qp := fr_33.below hw34 (by omega)
  clear fr_33
  have qp0_34 := (hw34.cell (p := ⟨w31.heap.size, 0, Option.none⟩) (by show w31.heap.size < _; omega)).trans qp0_33
  clear qp0_33
  have hg1_34 : Below w11.heap.size w11 w34 := hg1_33.trans (hw34.mono (by omega))
  clear hg1_33
  have hg2_34 : Below w17.heap.size w17 w34 := hg2_33.trans (hw34.mono (by omega))
  clear hg2_33
  have hg3_34 : Below w21.heap.size w21 w34 := hg3_33.trans (hw34.mono (by omega))
  clear hg3_33
  have hg4_34 : Below w25.heap.size w25 w34 := hg4_33.trans (hw34.mono (by omega))
  clear hg4_33
  have hg5_34 : Below w29.heap.size w29 w34 := hg5_33.trans (hw34.mono (by omega))
  clear hg5_33
  go_wp2_with fail
  refine (DrawIsPhraseText_any xs1 _ w.heap.size w34 H1_34 (by omega)).mono ?_
  rintro e w35 ⟨tn, rfl, htn, hb35⟩
  have hw35 : Below w34.heap.size w34 w35 := hb35
  have hs35 : w34.heap.size ≤ w35.heap.size := hw35.size
  have hB35 : Below w.heap.size w w35 := hB34.trans (hw35.mono (by omega))
  have H1_35 : RdU w35 w.heap.size (.slice A1 xs1.length c1) xs1 := H1_34.below hw35 (by omega)
  clear H1_34
  have fp_35 : OwB w35 w30.heap.size w31.heap.size (.agg #[.slice Ap (qp).length cp]) qp := fp_34.below hw35 (by omega)
  clear fp_34
  have fr_35 : OwB w35 w32.heap.size w33.heap.size (.agg #[.slice Ar (qp).length cr]) qp := fr_34.below hw35 (by omega)
  clear fr_34
  have qp0_35 := (hw35.cell (p := ⟨w31.heap.size, 0, Option.none⟩) (by show w31.heap.size < _; omega)).trans qp0_34
  clear qp0_34
  have qr0_35 := (hw35.cell (p := ⟨w33.heap.size, 0, Option.none⟩) (by show w33.heap.size < _; omega)).trans qr0_34
  clear qr0_34
  have hg1_35 : Below w11.heap.size w11 w35 := hg1_34.trans (hw35.mono (by omega))
  clear hg1_34
  have hg2_35 : Below w17.heap.size w17 w35 := hg2_34.trans (hw35.mono (by omega))
  clear hg2_34
  have hg3_35 : Below w21.heap.size w21 w35 := hg3_34.trans (hw35.mono (by omega))
  clear hg3_34
  have hg4_35 : Below w25.heap.size w25 w35 := hg4_34.trans (hw35.mono (by omega))
  clear hg4_34
  have hg5_35 : Below w29.heap.size w29 w35 := hg5_34.trans (hw35.mono (by omega))
  clear hg5_34
  clear H1_35
  have qa0_L := ((hg1_35.cell (p := ⟨w8.heap.size, 0, Option.none⟩) (by show w8.heap.size < _; omega)).trans qa0_11)
  have qbb0_L := ((hg1_35.cell (p := ⟨w10.heap.size, 0, Option.none⟩) (by show w10.heap.size < _; omega)).trans qbb0_11)
  go_wp2_with fail
  refine (qBook_sameB _ _ _ _ _ _ (fa_11.below hg1_35 (by omega)).rd (fbb_11.below hg1_35 (by omega)).rd (by omega) (by omega)).mono ?_
  rintro e w36 ⟨rfl, hb36⟩
  have hw36 : Below w35.heap.size w35 w36 := hb36
  have hs36 : w35.heap.size ≤ w36.heap.size := hw36.size
  have hB36 : Below w.heap.size w w36 := hB35.trans (hw36.mono (by omega))
  have fp_36 : OwB w36 w30.heap.size w31.heap.size (.agg #[.slice Ap (qp).length cp]) qp := fp_35.below hw36 (by omega)
  clear fp_35
  have fr_36 : OwB w36 w32.heap.size w33.heap.size (.agg #[.slice Ar (qp).length cr]) qp := fr_35.below hw36 (by omega)
  clear fr_35
  have qp0_36 := (hw36.cell (p := ⟨w31.heap.size, 0, Option.none⟩) (by show w31.heap.size < _; omega)).trans qp0_35
  clear qp0_35
  have qr0_36 := (hw36.cell (p := ⟨w33.heap.size, 0, Option.none⟩) (by show w33.heap.size < _; omega)).trans qr0_35
  clear qr0_35
  have hg1_36 : Below w11.heap.size w11 w36 := hg1_35.trans (hw36.mono (by omega))
  clear hg1_35
  have hg2_36 : Below w17.heap.size w17 w36 := hg2_35.trans (hw36.mono (by omega))
  clear hg2_35
  have hg3_36 : Below w21.heap.size w21 w36 := hg3_35.trans (hw36.mono (by omega))
  clear hg3_35
  have hg4_36 : Below w25.heap.size w25 w36 := hg4_35.trans (hw36.mono (by omega))
  clear hg4_35
  have hg5_36 : Below w29.heap.size w29 w36 := hg5_35.trans (hw36.mono (by omega))
  clear hg5_35
  clear qa0_L
  clear qbb0_L
  have qd0_L := ((hg2_36.cell (p := ⟨w14.heap.size, 0, Option.none⟩) (by show w14.heap.size < _; omega)).trans qd0_17)
  have qe0_L := ((hg2_36.cell (p := ⟨w16.heap.size, 0, Option.none⟩) (by show w16.heap.size < _; omega)).trans qe0_17)
  go_wp2_with fail
  refine (qBook_sameB _ _ _ _ _ _ (fd_17.below hg2_36 (by omega)).rd (fe_17.below hg2_36 (by omega)).rd (by omega) (by omega)).mono ?_
  rintro e w37 ⟨rfl, hb37⟩
  have hw37 : Below w36.heap.size w36 w37 := hb37
  have hs37 : w36.heap.size ≤ w37.heap.size := hw37.size
  have hB37 : Below w.heap.size w w37 := hB36.trans (hw37.mono (by omega))
  have fp_37 : OwB w37 w30.heap.size w31.heap.size (.agg #[.slice Ap (qp).length cp]) qp := fp_36.below hw37 (by omega)
  clear fp_36
  have fr_37 : OwB w37 w32.heap.size w33.heap.size (.agg #[.slice Ar (qp).length cr]) qp := fr_36.below hw37 (by omega)
  clear fr_36
  have qp0_37 := (hw37.cell (p := ⟨w31.heap.size, 0, Option.none⟩) (by show w31.heap.size < _; omega)).trans qp0_36
  clear qp0_36
  have qr0_37 := (hw37.cell (p := ⟨w33.heap.size, 0, Option.none⟩) (by show w33.heap.size < _; omega)).trans qr0_36
  clear qr0_36
  have hg1_37 : Below w11.heap.size w11 w37 := hg1_36.trans (hw37.mono (by omega))
  clear hg1_36
  have hg2_37 : Below w17.heap.size w17 w37 := hg2_36.trans (hw37.mono (by omega))
  clear hg2_36
  have hg3_37 : Below w21.heap.size w21 w37 := hg3_36.trans (hw37.mono (by omega))
  clear hg3_36
  have hg4_37 : Below w25.heap.size w25 w37 := hg4_36.trans (hw37.mono (by omega))
  clear hg4_36
  have hg5_37 : Below w29.heap.size w29 w37 := hg5_36.trans (hw37.mono (by omega))
  clear hg5_36
  clear qd0_L
  clear qe0_L
  clear fd_17
  clear fe_17
  clear qd0_17
  clear qe0_17
  go_wp2_with fail
  refine (qInts_sameB _ _ _ _ _ _ (fl_29.below hg5_37 (by omega)) (fk_29.below hg5_37 (by omega))).mono ?_
  rintro e w38 ⟨rfl, hb38⟩
  have hw38 : Below w37.heap.size w37 w38 := hb38
  have hs38 : w37.heap.size ≤ w38.heap.size := hw38.size
  have hB38 : Below w.heap.size w w38 := hB37.trans (hw38.mono (by omega))
  have fp_38 : OwB w38 w30.heap.size w31.heap.size (.agg #[.slice Ap (qp).length cp]) qp := fp_37.below hw38 (by omega)
  clear fp_37
  have fr_38 : OwB w38 w32.heap.size w33.heap.size (.agg #[.slice Ar (qp).length cr]) qp := fr_37.below hw38 (by omega)
  clear fr_37
  have qp0_38 := (hw38.cell (p := ⟨w31.heap.size, 0, Option.none⟩) (by show w31.heap.size < _; omega)).trans qp0_37
  clear qp0_37
  have qr0_38 := (hw38.cell (p := ⟨w33.heap.size, 0, Option.none⟩) (by show w33.heap.size < _; omega)).trans qr0_37
  clear qr0_37
  have hg1_38 : Below w11.heap.size w11 w38 := hg1_37.trans (hw38.mono (by omega))
  clear hg1_37
  have hg3_38 : Below w21.heap.size w21 w38 := hg3_37.trans (hw38.mono (by omega))
  clear hg3_37
  have hg4_38 : Below w25.heap.size w25 w38 := hg4_37.trans (hw38.mono (by omega))
  clear hg4_37
  have hg5_38 : Below w29.heap.size w29 w38 := hg5_37.trans (hw38.mono (by omega))
  clear hg5_37
  clear fl_29
  go_wp2_with fail
  refine (qBook_sameB _ _ _ _ _ _ fp_38.rd fr_38.rd (by omega) (by omega)).mono ?_
  rintro e w39 ⟨rfl, hb39⟩
  have hw39 : Below w38.heap.size w38 w39 := hb39
  have hs39 : w38.heap.size ≤ w39.heap.size := hw39.size
  have hB39 : Below w.heap.size w w39 := hB38.trans (hw39.mono (by omega))
  have fp_39 : OwB w39 w30.heap.size w31.heap.size (.agg #[.slice Ap (qp).length cp]) qp := fp_38.below hw39 (by omega)
  clear fp_38
  have fr_39 : OwB w39 w32.heap.size w33.heap.size (.agg #[.slice Ar (qp).length cr]) qp := fr_38.below hw39 (by omega)
  clear fr_38
  have qp0_39 := (hw39.cell (p := ⟨w31.heap.size, 0, Option.none⟩) (by show w31.heap.size < _; omega)).trans qp0_38
  clear qp0_38
  have qr0_39 := (hw39.cell (p := ⟨w33.heap.size, 0, Option.none⟩) (by show w33.heap.size < _; omega)).trans qr0_38
  clear qr0_38
  have hg1_39 : Below w11.heap.size w11 w39 := hg1_38.trans (hw39.mono (by omega))
  clear hg1_38
  have hg3_39 : Below w21.heap.size w21 w39 := hg3_38.trans (hw39.mono (by omega))
  clear hg3_38
  have hg4_39 : Below w25.heap.size w25 w39 := hg4_38.trans (hw39.mono (by omega))
  clear hg4_38
  have hg5_39 : Below w29.heap.size w29 w39 := hg5_38.trans (hw39.mono (by omega))
  clear hg5_38
  clear fp_39
  clear fr_39
  clear qp0_39
  clear qr0_39
  obtain ⟨pn, HPN⟩ : ∃ b, Hid (phraseB tn.data.toList = b) := ⟨_, rfl⟩
  have kh0 := (by have h := IsPhraseText_any tn (by unfold maxLen; omega) w39; rw [HPN.out] at h; exact h : Calls Tryz.prog 45 #[.string tn] w39 fun e w' => e = .returned (.bool pn) ∧ w39 = w')
  have KH := Lib.hid kh0
  clear kh0
  go_wp2_with fail
  refine (KH.out).mono ?_
  rintro e w' ⟨rfl, rfl⟩
  clear KH
  have ki0 := (by have h := sIsPhraseText_any tn (by unfold maxLen; omega) w39; rw [HPN.out] at h; exact h : Calls Tryz.prog 46 #[.string tn] w39 fun e w' => e = .returned (.bool pn) ∧ w39 = w')
  have KI := Lib.hid ki0
  clear ki0
  go_wp2_with fail
  refine (KI.out).mono ?_
  rintro e w' ⟨rfl, rfl⟩
  clear KI
  have qb0_L := ((hg1_39.cell (p := ⟨w1.heap.size, 0, Option.none⟩) (by show w1.heap.size < _; omega)).trans qb0_11)
  have kg0 := (by have h := IsBook_any ps _ _ w39 (fb_11.below hg1_39 (by omega)) (by omega); rw [HOK.out] at h; exact h : Calls Tryz.prog 47 #[.agg #[.slice A2 ps.length c2]] w39 fun e w' => e = .returned (.bool ok) ∧ Below w39.heap.size w39 w')
  have KG := Lib.hid kg0
  clear kg0
  go_wp2_with fail
  refine (KG.out).mono ?_
  rintro e w40 ⟨rfl, hb40⟩
  have hw40 : Below w39.heap.size w39 w40 := hb40
  have hs40 : w39.heap.size ≤ w40.heap.size := hw40.size
  have hB40 : Below w.heap.size w w40 := hB39.trans (hw40.mono (by omega))
  have hg1_40 : Below w11.heap.size w11 w40 := hg1_39.trans (hw40.mono (by omega))
  clear hg1_39
  have hg3_40 : Below w21.heap.size w21 w40 := hg3_39.trans (hw40.mono (by omega))
  clear hg3_39
  have hg4_40 : Below w25.heap.size w25 w40 := hg4_39.trans (hw40.mono (by omega))
  clear hg4_39
  have hg5_40 : Below w29.heap.size w29 w40 := hg5_39.trans (hw40.mono (by omega))
  clear hg5_39
  clear KG
  clear qb0_L
  go_upto_if 256 with fail
  go_cut [46] (fun s wx => Hid (Below w40.heap.size w40 wx))
  case first =>
    rename_i zi1 zi2 zi3 zi4 zi5 zi6 zi7 zi8 zi9 zi10 zi11 zi12 zi13 zi14 zi15 zi16 zi17 zi18 zi19 zi20 zi21 zi22 zi23
    revert xs0 xs1 w A0 c0 hc0 hm0 A1 c1 hc1 hm1 HLW H0 H1 zi1 w1 hb1 A2 c2 ps hn2 hw1 hs1 hB1 w2 hb2 hy2 hw2 hs2 hB2 ok HOK st HST w3 hb3 hw3 hs3 hB3 w4 hb4 hw4 hs4 hB4 w5 t3 ys ht3 hys hb5 A3 c3 px hn3 A4 c4 zi2 hw5 hs5 hB5 w6 hb6 hy6 hw6 hs6 hB6 w7 hb7 hy7 hw7 hs7 hB7 one HONE qa HQA w8 hb8 Aa ca zi3 zi4 hw8 hs8 hB8 w9 hb9 hy9 hw9 hs9 hB9 w10 hb10 Abb cbb zi5 zi6 hw10 hs10 hB10 w11 hb11 qbb0_11 hy11 hw11 hs11 hB11 fb_11 fx_11 fy_11 fa_11 fbb_11 qb0_11 qx0_11 qy0_11 qy1_11 qa0_11 w12 s5 hs5s hb12 A5 c5 pu hn5 hw12 hs12 hB12 w13 hb13 hy13 hw13 hs13 hB13 three HTHR qd HQD w14 hb14 Ad cd zi7 zi8 hw14 hs14 hB14 w15 hb15 hy15 hw15 hs15 hB15 w16 hb16 Ae ce zi9 zi10 hw16 hs16 hB16 w17 hb17 hy17 hw17 hs17 hB17 w18 s6 hs6s hb18 A6 c6 pv hn6 hw18 hs18 hB18 w19 hb19 hy19 hw19 hs19 hB19 iv five HFV w20 hb20 hw20 hs20 hB20 w21 hb21 hw21 hs21 hB21 fv_21 q60_21 w22 zs hzs hb22 A7 c7 pw hn7 A8 c8 zi11 hw22 hs22 hB22 w23 hb23 hy23 hw23 hs23 hB23 iw seven HFW w24 hb24 hw24 hs24 hB24 w25 hb25 hw25 hs25 hB25 fw_25 fz_25 q70_25 w26 s9 hs9s hb26 A9 c9 pm hn9 hw26 hs26 hB26 w27 hb27 hy27 hw27 hs27 hB27 nine HNI nl hl40 HNL w28 hb28 Al cl zi12 hw28 hs28 hB28 w29 hb29 Ak ck zi13 fk_29 hw29 hs29 hB29 fm_29 q90_29 w30 tp htp hb30 hw30 hs30 hB30 elv HEL qp HQP w31 hb31 Ap cp zi14 zi15 hw31 hs31 hB31 w32 hb32 hy32 hw32 hs32 hB32 w33 hb33 Ar cr zi16 zi17 hw33 hs33 hB33 w34 hb34 hy34 hw34 hs34 hB34 w35 tn htn hb35 hw35 hs35 hB35 w36 hb36 hw36 hs36 hB36 w37 hb37 hw37 hs37 hB37 hg2_37 w38 hb38 hw38 hs38 hB38 w39 hb39 hw39 hs39 hB39 pn HPN w40 hb40 hw40 hs40 hB40 hg1_40 hg3_40 hg4_40 hg5_40 zi18 zi19 zi20 zi21 zi22 zi23
    exact hP1
  case rest =>
    have HBC := hcut
    rename World => wc41
    have hb41 := HBC.out
    clear HBC
    have hw41 : Below w40.heap.size w40 wc41 := hb41
    have hs41 : w40.heap.size ≤ wc41.heap.size := hw41.size
    have hB41 : Below w.heap.size w wc41 := hB40.trans (hw41.mono (by omega))
    have hg1_41 : Below w11.heap.size w11 wc41 := hg1_40.trans (hw41.mono (by omega))
    clear hg1_40
    have hg3_41 : Below w21.heap.size w21 wc41 := hg3_40.trans (hw41.mono (by omega))
    clear hg3_40
    have hg4_41 : Below w25.heap.size w25 wc41 := hg4_40.trans (hw41.mono (by omega))
    clear hg4_40
    have hg5_41 : Below w29.heap.size w29 wc41 := hg5_40.trans (hw41.mono (by omega))
    clear hg5_40
    rename_i zi1 zi2 zi3 zi4 zi5 zi6 zi7 zi8 zi9 zi10 zi11 zi12 zi13 zi14 zi15 zi16 zi17 zi18 zi19
    revert xs0 xs1 w A0 c0 hc0 hm0 A1 c1 hc1 hm1 HLW H0 H1 zi1 w1 hb1 A2 c2 ps hn2 hw1 hs1 hB1 w2 hb2 hy2 hw2 hs2 hB2 ok HOK st HST w3 hb3 hw3 hs3 hB3 w4 hb4 hw4 hs4 hB4 w5 t3 ys ht3 hys hb5 A3 c3 px hn3 A4 c4 zi2 hw5 hs5 hB5 w6 hb6 hy6 hw6 hs6 hB6 w7 hb7 hy7 hw7 hs7 hB7 one HONE qa HQA w8 hb8 Aa ca zi3 zi4 hw8 hs8 hB8 w9 hb9 hy9 hw9 hs9 hB9 w10 hb10 Abb cbb zi5 zi6 hw10 hs10 hB10 w11 hb11 qbb0_11 hy11 hw11 hs11 hB11 fb_11 fx_11 fy_11 fa_11 fbb_11 qb0_11 qx0_11 qy0_11 qy1_11 qa0_11 w12 s5 hs5s hb12 A5 c5 pu hn5 hw12 hs12 hB12 w13 hb13 hy13 hw13 hs13 hB13 three HTHR qd HQD w14 hb14 Ad cd zi7 zi8 hw14 hs14 hB14 w15 hb15 hy15 hw15 hs15 hB15 w16 hb16 Ae ce zi9 zi10 hw16 hs16 hB16 w17 hb17 hy17 hw17 hs17 hB17 w18 s6 hs6s hb18 A6 c6 pv hn6 hw18 hs18 hB18 w19 hb19 hy19 hw19 hs19 hB19 iv five HFV w20 hb20 hw20 hs20 hB20 w21 hb21 hw21 hs21 hB21 fv_21 q60_21 w22 zs hzs hb22 A7 c7 pw hn7 A8 c8 zi11 hw22 hs22 hB22 w23 hb23 hy23 hw23 hs23 hB23 iw seven HFW w24 hb24 hw24 hs24 hB24 w25 hb25 hw25 hs25 hB25 fw_25 fz_25 q70_25 w26 s9 hs9s hb26 A9 c9 pm hn9 hw26 hs26 hB26 w27 hb27 hy27 hw27 hs27 hB27 nine HNI nl hl40 HNL w28 hb28 Al cl zi12 hw28 hs28 hB28 w29 hb29 Ak ck zi13 fk_29 hw29 hs29 hB29 fm_29 q90_29 w30 tp htp hb30 hw30 hs30 hB30 elv HEL qp HQP w31 hb31 Ap cp zi14 zi15 hw31 hs31 hB31 w32 hb32 hy32 hw32 hs32 hB32 w33 hb33 Ar cr zi16 zi17 hw33 hs33 hB33 w34 hb34 hy34 hw34 hs34 hB34 w35 tn htn hb35 hw35 hs35 hB35 w36 hb36 hw36 hs36 hB36 w37 hb37 hw37 hs37 hB37 hg2_37 w38 hb38 hw38 hs38 hB38 w39 hb39 hw39 hs39 hB39 pn HPN w40 hb40 hw40 hs40 hB40 zi18 zi19 wc41 u4 u46 u47 u48 u49 u54 u55 u56 u57 u58 u59 u60 u61 u62 u63 u64 u65 u66 u67 u68 u69 u70 u71 u72 u73 u74 u75 u76 u77 u78 u79 u80 u81 u82 u83 u84 u85 u86 u87 u88 u89 u90 u91 u92 u93 u94 u95 u96 u97 u98 u99 u100 u101 u102 u103 u104 u105 u106 u107 u108 u109 u110 u111 u112 u113 u114 u115 u116 u117 u118 u119 u120 u121 u122 u123 u124 u125 u126 u127 u128 u129 u130 u131 u132 u133 u134 u135 u136 u137 u138 u139 u140 u141 u142 u143 u144 u145 u146 u147 u148 u149 u150 u151 u152 u153 u154 u155 u156 u157 u158 u159 u160 u161 u162 u163 u164 u165 u166 u167 u168 u169 u170 u171 u172 u173 u174 u175 u176 u177 u178 u179 u180 u181 u182 u183 u184 u185 u186 u187 u188 u189 u190 u191 u192 u193 u194 u195 u196 u197 u198 u199 u200 u201 u202 u203 u204 u205 u206 u207 u208 u209 u210 u211 u212 u213 u214 u215 u216 u217 u218 u219 u220 u221 u222 u223 u224 u225 u226 u227 u228 u229 u230 u231 u232 u233 u234 u235 u236 u237 u238 u239 u240 u241 u242 u243 u244 u245 u246 u247 u248 u249 u250 u251 u252 u253 u254 u255 u256 u257 u258 u259 u260 u261 u262 u263 u264 u265 u266 u267 u268 u269 u270 u271 u272 u273 u274 u275 u276 u277 u278 u279 u280 u281 u282 u283 u284 u285 u286 u287 u288 u289 u290 u291 u292 u293 u294 u295 u296 u297 u298 u299 u300 u301 u302 u303 u304 u305 u306 u307 u308 u309 u310 u311 u312 u313 u314 u315 u316 u317 u318 u319 u320 u321 u322 u323 u324 u325 u326 u327 u328 u329 u330 u331 u335 u336 u337 u338 u339 u340 u341 u342 u343 u344 u345 u346 u347 u348 u349 u350 u351 u352 u353 u354 u355 u356 u357 u358 u359 u360 u361 u362 u363 u364 u365 u366 u367 u368 u369 u370 u371 hcut hb41 hw41 hs41 hB41 hg1_41 hg3_41 hg4_41 hg5_41
    exact hP2
end Go.Proofs.YtjnkdjokbamibaaGreatDoor.fnBooks
