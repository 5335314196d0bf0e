/- Texts of one claim, joined: VReadOneWay. -/
import Derived.Test.YtabiobjcfopakaaC12ReadOneWay
/- The walk of the law FnReadOneWay. -/
namespace Go.Proofs.Ytabiobjcfopakaa.fnReadOneWay
open Go.ChangeShapes Go.WideShapes Go.ChangeAt Go.RowKit
open Go.ChangeMaps (open_string)
set_option linter.unusedVariables false
set_option maxHeartbeats 20000000 in
set_option maxRecDepth 100000 in
theorem walk (v0 : Value) (xs0 : List UInt8) (v1 : Value) (xs1 : List UInt8) (w : World) (hr0 : RdU w w.heap.size v0 xs0) (hr1 : RdU w w.heap.size v1 xs1) : Calls Try.prog 6 #[v0, v1] w fun e w' => e = .returned (.bool true) ∧ Below w.heap.size w w' := by
  obtain ⟨A0, c0, rfl, hc0, hm0⟩ := Rd.form hr0
  obtain ⟨A1, c1, rfl, hc1, hm1⟩ := Rd.form hr1
  have H0 := Lib.hid hr0
  have H1 := Lib.hid hr1
  clear hr0 hr1
  by_cases hbig : 1048576 < wrap64 ((xs0.length : Int) + (xs1.length : Int))
  · go_enter Try.func6, Try.ntmps6
    go_wp2_with fail
    go_ret
    exact ⟨rfl, Below.refl _ _⟩
  go_enter Try.func6, Try.ntmps6
  go_wp2_with fail
  refine (DrawIsReadOneWay_any xs0 _ w.heap.size w H0.out (Nat.le_refl _)).mono ?_
  rintro e w1 ⟨u2, n2, rfl, hn2, hr2, hb1⟩
  obtain ⟨A2, c2, rfl⟩ := hr2.form
  obtain ⟨ps, hpl2, fb⟩ := hr2.rdb
  subst hpl2
  clear hr2
  have hw1 : Below w.heap.size w w1 := hb1
  have hs1 : w.heap.size ≤ w1.heap.size := hw1.size
  have hB1 : Below w.heap.size w w1 := hw1.mono (by omega)
  have H0_1 : RdU w1 w.heap.size (.slice A0 xs0.length c0) xs0 := H0.out.below hw1 (by omega)
  have H1_1 : RdU w1 w.heap.size (.slice A1 xs1.length c1) xs1 := H1.out.below hw1 (by omega)
  clear hbig
  have hb2 : Below w1.heap.size w1 (w1.alloc (.cells #[.slice A2 ps.length c2] 48)) := (Below.refl _ _).alloc (Nat.le_refl _) _
  have hz2 : (w1.alloc (.cells #[.slice A2 ps.length c2] 48)).heap.size = w1.heap.size + 1 := by simp
  have qb0_2 : (w1.alloc (.cells #[.slice A2 ps.length c2] 48)).cell? ⟨w1.heap.size, 0, Option.none⟩ = some (.slice A2 ps.length c2) := (Blk.new w1 48 #[.slice A2 ps.length c2]).cell 0
  go_wp2_with fail
  generalize w1.alloc (.cells #[.slice A2 ps.length c2] 48) = w2 at hb2 hz2 qb0_2 ⊢
  have hy2 : w1.heap.size + 1 ≤ w2.heap.size := by omega
  clear hz2
  have hw2 : Below w1.heap.size w1 w2 := hb2
  have hs2 : w1.heap.size ≤ w2.heap.size := hw2.size
  have hB2 : Below w.heap.size w w2 := hB1.trans (hw2.mono (by omega))
  have H0_2 : RdU w2 w.heap.size (.slice A0 xs0.length c0) xs0 := H0_1.below hw2 (by omega)
  clear H0_1
  have H1_2 : RdU w2 w.heap.size (.slice A1 xs1.length c1) xs1 := H1_1.below hw2 (by omega)
  clear H1_1
  have fb_2 : RdB w2 w1.heap.size (.agg #[.slice A2 ps.length c2]) ps := fb.below hw2 (by omega)
  clear fb
  cases hbk : bookB ps
  · have HBK := Lib.hid hbk
    clear hbk
    have k10 := (by have h := IsReadOneWay_any ps _ _ w2 fb_2 (by omega); rw [HBK.out, show rowV false (oneB ps) = .tuple #[.bool false, .bool false] from rfl] at h; exact h : Calls Try.prog 39 #[.agg #[.slice A2 ps.length c2]] w2 fun e w' => e = .returned (.tuple #[.bool false, .bool false]) ∧ Below w2.heap.size w2 w')
    have K1 := Lib.hid k10
    clear k10
    go_wp2_with fail
    refine (K1.out).mono ?_
    rintro e w3 ⟨rfl, hb3⟩
    have hw3 : Below w2.heap.size w2 w3 := hb3
    have hs3 : w2.heap.size ≤ w3.heap.size := hw3.size
    have hB3 : Below w.heap.size w w3 := hB2.trans (hw3.mono (by omega))
    have H0_3 : RdU w3 w.heap.size (.slice A0 xs0.length c0) xs0 := H0_2.below hw3 (by omega)
    clear H0_2
    have H1_3 : RdU w3 w.heap.size (.slice A1 xs1.length c1) xs1 := H1_2.below hw3 (by omega)
    clear H1_2
    have fb_3 : RdB w3 w1.heap.size (.agg #[.slice A2 ps.length c2]) ps := fb_2.below hw3 (by omega)
    clear fb_2
    have qb0_3 := (hw3.cell (p := ⟨w1.heap.size, 0, Option.none⟩) (by show w1.heap.size < _; omega)).trans qb0_2
    clear qb0_2
    clear K1
    have k20 := (by have h := sIsReadOneWay_any ps _ _ w3 fb_3 (by omega); rw [HBK.out, show rowV false (oneB ps) = .tuple #[.bool false, .bool false] from rfl] at h; exact h : Calls Try.prog 37 #[.agg #[.slice A2 ps.length c2]] w3 fun e w' => e = .returned (.tuple #[.bool false, .bool false]) ∧ Below w3.heap.size w3 w')
    have K2 := Lib.hid k20
    clear k20
    go_wp2_with fail
    refine (K2.out).mono ?_
    rintro e w4 ⟨rfl, hb4⟩
    have hw4 : Below w3.heap.size w3 w4 := hb4
    have hs4 : w3.heap.size ≤ w4.heap.size := hw4.size
    have hB4 : Below w.heap.size w w4 := hB3.trans (hw4.mono (by omega))
    have H0_4 : RdU w4 w.heap.size (.slice A0 xs0.length c0) xs0 := H0_3.below hw4 (by omega)
    clear H0_3
    have H1_4 : RdU w4 w.heap.size (.slice A1 xs1.length c1) xs1 := H1_3.below hw4 (by omega)
    clear H1_3
    have fb_4 : RdB w4 w1.heap.size (.agg #[.slice A2 ps.length c2]) ps := fb_3.below hw4 (by omega)
    clear fb_3
    have qb0_4 := (hw4.cell (p := ⟨w1.heap.size, 0, Option.none⟩) (by show w1.heap.size < _; omega)).trans qb0_3
    clear qb0_3
    clear K2
    have k30 := (by have h := IsPrefixFree_any ps _ _ w4 fb_4 (by omega); rw [HBK.out, show freeV false (firstPre ps) = .tuple #[.bool false, .bool false] from rfl] at h; exact h : Calls Try.prog 46 #[.agg #[.slice A2 ps.length c2]] w4 fun e w' => e = .returned (.tuple #[.bool false, .bool false]) ∧ Below w4.heap.size w4 w')
    have K3 := Lib.hid k30
    clear k30
    go_wp2_with fail
    refine (K3.out).mono ?_
    rintro e w5 ⟨rfl, hb5⟩
    have hw5 : Below w4.heap.size w4 w5 := hb5
    have hs5 : w4.heap.size ≤ w5.heap.size := hw5.size
    have hB5 : Below w.heap.size w w5 := hB4.trans (hw5.mono (by omega))
    have H0_5 : RdU w5 w.heap.size (.slice A0 xs0.length c0) xs0 := H0_4.below hw5 (by omega)
    clear H0_4
    have H1_5 : RdU w5 w.heap.size (.slice A1 xs1.length c1) xs1 := H1_4.below hw5 (by omega)
    clear H1_4
    have fb_5 : RdB w5 w1.heap.size (.agg #[.slice A2 ps.length c2]) ps := fb_4.below hw5 (by omega)
    clear fb_4
    have qb0_5 := (hw5.cell (p := ⟨w1.heap.size, 0, Option.none⟩) (by show w1.heap.size < _; omega)).trans qb0_4
    clear qb0_4
    clear K3
    have k40 := (by have h := sIsPrefixFree_any ps _ _ w5 fb_5 (by omega); rw [HBK.out, show freeV false (firstPre ps) = .tuple #[.bool false, .bool false] from rfl] at h; exact h : Calls Try.prog 47 #[.agg #[.slice A2 ps.length c2]] w5 fun e w' => e = .returned (.tuple #[.bool false, .bool false]) ∧ Below w5.heap.size w5 w')
    have K4 := Lib.hid k40
    clear k40
    go_wp2_with fail
    refine (K4.out).mono ?_
    rintro e w6 ⟨rfl, hb6⟩
    have hw6 : Below w5.heap.size w5 w6 := hb6
    have hs6 : w5.heap.size ≤ w6.heap.size := hw6.size
    have hB6 : Below w.heap.size w w6 := hB5.trans (hw6.mono (by omega))
    have H0_6 : RdU w6 w.heap.size (.slice A0 xs0.length c0) xs0 := H0_5.below hw6 (by omega)
    clear H0_5
    have H1_6 : RdU w6 w.heap.size (.slice A1 xs1.length c1) xs1 := H1_5.below hw6 (by omega)
    clear H1_5
    have fb_6 : RdB w6 w1.heap.size (.agg #[.slice A2 ps.length c2]) ps := fb_5.below hw6 (by omega)
    clear fb_5
    have qb0_6 := (hw6.cell (p := ⟨w1.heap.size, 0, Option.none⟩) (by show w1.heap.size < _; omega)).trans qb0_5
    clear qb0_5
    clear K4
    have k50 := (by have h := FirstPrefix_any ps _ _ w6 fb_6 (by omega); rw [HBK.out, show prefV false (firstPre ps) = .tuple #[.int .i64 0, .int .i64 0, .bool false] from rfl] at h; exact h : Calls Try.prog 48 #[.agg #[.slice A2 ps.length c2]] w6 fun e w' => e = .returned (.tuple #[.int .i64 0, .int .i64 0, .bool false]) ∧ Below w6.heap.size w6 w')
    have K5 := Lib.hid k50
    clear k50
    go_wp2_with fail
    refine (K5.out).mono ?_
    rintro e w7 ⟨rfl, hb7⟩
    have hw7 : Below w6.heap.size w6 w7 := hb7
    have hs7 : w6.heap.size ≤ w7.heap.size := hw7.size
    have hB7 : Below w.heap.size w w7 := hB6.trans (hw7.mono (by omega))
    have H0_7 : RdU w7 w.heap.size (.slice A0 xs0.length c0) xs0 := H0_6.below hw7 (by omega)
    clear H0_6
    have H1_7 : RdU w7 w.heap.size (.slice A1 xs1.length c1) xs1 := H1_6.below hw7 (by omega)
    clear H1_6
    have fb_7 : RdB w7 w1.heap.size (.agg #[.slice A2 ps.length c2]) ps := fb_6.below hw7 (by omega)
    clear fb_6
    have qb0_7 := (hw7.cell (p := ⟨w1.heap.size, 0, Option.none⟩) (by show w1.heap.size < _; omega)).trans qb0_6
    clear qb0_6
    clear K5
    have k60 := (by have h := sFirstPrefix_any ps _ _ w7 fb_7 (by omega); rw [HBK.out, show prefV false (firstPre ps) = .tuple #[.int .i64 0, .int .i64 0, .bool false] from rfl] at h; exact h : Calls Try.prog 49 #[.agg #[.slice A2 ps.length c2]] w7 fun e w' => e = .returned (.tuple #[.int .i64 0, .int .i64 0, .bool false]) ∧ Below w7.heap.size w7 w')
    have K6 := Lib.hid k60
    clear k60
    go_wp2_with fail
    refine (K6.out).mono ?_
    rintro e w8 ⟨rfl, hb8⟩
    have hw8 : Below w7.heap.size w7 w8 := hb8
    have hs8 : w7.heap.size ≤ w8.heap.size := hw8.size
    have hB8 : Below w.heap.size w w8 := hB7.trans (hw8.mono (by omega))
    have H0_8 : RdU w8 w.heap.size (.slice A0 xs0.length c0) xs0 := H0_7.below hw8 (by omega)
    clear H0_7
    have H1_8 : RdU w8 w.heap.size (.slice A1 xs1.length c1) xs1 := H1_7.below hw8 (by omega)
    clear H1_7
    have fb_8 : RdB w8 w1.heap.size (.agg #[.slice A2 ps.length c2]) ps := fb_7.below hw8 (by omega)
    clear fb_7
    have qb0_8 := (hw8.cell (p := ⟨w1.heap.size, 0, Option.none⟩) (by show w1.heap.size < _; omega)).trans qb0_7
    clear qb0_7
    clear K6
    go_wp2_with fail
    refine (DrawFirstPrefix_any xs1 _ w.heap.size w8 H1_8 (by omega)).mono ?_
    rintro e w9 ⟨u3, n3, rfl, hn3, hr3, hb9⟩
    obtain ⟨A3, c3, rfl⟩ := hr3.form
    obtain ⟨qs, hpl3, fc⟩ := hr3.rdb
    subst hpl3
    clear hr3
    have hw9 : Below w8.heap.size w8 w9 := hb9
    have hs9 : w8.heap.size ≤ w9.heap.size := hw9.size
    have hB9 : Below w.heap.size w w9 := hB8.trans (hw9.mono (by omega))
    have H0_9 : RdU w9 w.heap.size (.slice A0 xs0.length c0) xs0 := H0_8.below hw9 (by omega)
    clear H0_8
    have H1_9 : RdU w9 w.heap.size (.slice A1 xs1.length c1) xs1 := H1_8.below hw9 (by omega)
    clear H1_8
    have fb_9 : RdB w9 w1.heap.size (.agg #[.slice A2 ps.length c2]) ps := fb_8.below hw9 (by omega)
    clear fb_8
    have qb0_9 := (hw9.cell (p := ⟨w1.heap.size, 0, Option.none⟩) (by show w1.heap.size < _; omega)).trans qb0_8
    clear qb0_8
    have hb10 : Below w9.heap.size w9 (w9.alloc (.cells #[.slice A3 qs.length c3] 48)) := (Below.refl _ _).alloc (Nat.le_refl _) _
    have hz10 : (w9.alloc (.cells #[.slice A3 qs.length c3] 48)).heap.size = w9.heap.size + 1 := by simp
    have qc0_10 : (w9.alloc (.cells #[.slice A3 qs.length c3] 48)).cell? ⟨w9.heap.size, 0, Option.none⟩ = some (.slice A3 qs.length c3) := (Blk.new w9 48 #[.slice A3 qs.length c3]).cell 0
    go_wp2_with fail
    generalize w9.alloc (.cells #[.slice A3 qs.length c3] 48) = w10 at hb10 hz10 qc0_10 ⊢
    have hy10 : w9.heap.size + 1 ≤ w10.heap.size := by omega
    clear hz10
    have hw10 : Below w9.heap.size w9 w10 := hb10
    have hs10 : w9.heap.size ≤ w10.heap.size := hw10.size
    have hB10 : Below w.heap.size w w10 := hB9.trans (hw10.mono (by omega))
    have H0_10 : RdU w10 w.heap.size (.slice A0 xs0.length c0) xs0 := H0_9.below hw10 (by omega)
    clear H0_9
    have H1_10 : RdU w10 w.heap.size (.slice A1 xs1.length c1) xs1 := H1_9.below hw10 (by omega)
    clear H1_9
    have fb_10 : RdB w10 w1.heap.size (.agg #[.slice A2 ps.length c2]) ps := fb_9.below hw10 (by omega)
    clear fb_9
    have fc_10 : RdB w10 w9.heap.size (.agg #[.slice A3 qs.length c3]) qs := fc.below hw10 (by omega)
    clear fc
    have qb0_10 := (hw10.cell (p := ⟨w1.heap.size, 0, Option.none⟩) (by show w1.heap.size < _; omega)).trans qb0_9
    clear qb0_9
    obtain ⟨p3, q3, r3, hT3⟩ := prefV_form (bookB qs) (firstPre qs)
    have HT3 := Lib.hid hT3
    clear hT3
    have k70 := (by have h := FirstPrefix_any qs _ _ w10 fc_10 (by omega); rw [HT3.out] at h; exact h : Calls Try.prog 48 #[.agg #[.slice A3 qs.length c3]] w10 fun e w' => e = .returned (.tuple #[.int .i64 p3, .int .i64 q3, .bool r3]) ∧ Below w10.heap.size w10 w')
    have K7 := Lib.hid k70
    clear k70
    go_wp2_with fail
    refine (K7.out).mono ?_
    rintro e w11 ⟨rfl, hb11⟩
    have hw11 : Below w10.heap.size w10 w11 := hb11
    have hs11 : w10.heap.size ≤ w11.heap.size := hw11.size
    have hB11 : Below w.heap.size w w11 := hB10.trans (hw11.mono (by omega))
    have H0_11 : RdU w11 w.heap.size (.slice A0 xs0.length c0) xs0 := H0_10.below hw11 (by omega)
    clear H0_10
    have H1_11 : RdU w11 w.heap.size (.slice A1 xs1.length c1) xs1 := H1_10.below hw11 (by omega)
    clear H1_10
    have fb_11 : RdB w11 w1.heap.size (.agg #[.slice A2 ps.length c2]) ps := fb_10.below hw11 (by omega)
    clear fb_10
    have fc_11 : RdB w11 w9.heap.size (.agg #[.slice A3 qs.length c3]) qs := fc_10.below hw11 (by omega)
    clear fc_10
    have qb0_11 := (hw11.cell (p := ⟨w1.heap.size, 0, Option.none⟩) (by show w1.heap.size < _; omega)).trans qb0_10
    clear qb0_10
    have qc0_11 := (hw11.cell (p := ⟨w9.heap.size, 0, Option.none⟩) (by show w9.heap.size < _; omega)).trans qc0_10
    clear qc0_10
    clear K7
    have k80 := (by have h := sFirstPrefix_any qs _ _ w11 fc_11 (by omega); rw [HT3.out] at h; exact h : Calls Try.prog 49 #[.agg #[.slice A3 qs.length c3]] w11 fun e w' => e = .returned (.tuple #[.int .i64 p3, .int .i64 q3, .bool r3]) ∧ Below w11.heap.size w11 w')
    have K8 := Lib.hid k80
    clear k80
    go_wp2_with fail
    refine (K8.out).mono ?_
    rintro e w12 ⟨rfl, hb12⟩
    have hw12 : Below w11.heap.size w11 w12 := hb12
    have hs12 : w11.heap.size ≤ w12.heap.size := hw12.size
    have hB12 : Below w.heap.size w w12 := hB11.trans (hw12.mono (by omega))
    have H0_12 : RdU w12 w.heap.size (.slice A0 xs0.length c0) xs0 := H0_11.below hw12 (by omega)
    clear H0_11
    have H1_12 : RdU w12 w.heap.size (.slice A1 xs1.length c1) xs1 := H1_11.below hw12 (by omega)
    clear H1_11
    have fb_12 : RdB w12 w1.heap.size (.agg #[.slice A2 ps.length c2]) ps := fb_11.below hw12 (by omega)
    clear fb_11
    have fc_12 : RdB w12 w9.heap.size (.agg #[.slice A3 qs.length c3]) qs := fc_11.below hw12 (by omega)
    clear fc_11
    have qb0_12 := (hw12.cell (p := ⟨w1.heap.size, 0, Option.none⟩) (by show w1.heap.size < _; omega)).trans qb0_11
    clear qb0_11
    have qc0_12 := (hw12.cell (p := ⟨w9.heap.size, 0, Option.none⟩) (by show w9.heap.size < _; omega)).trans qc0_11
    clear qc0_11
    clear K8
    clear fc_12
    clear qc0_12 HT3
    go_wp2_with fail
    go_ret
    exact ⟨rfl, hB12⟩
  · have HBK := Lib.hid hbk
    clear hbk
    obtain ⟨on, hon⟩ : ∃ on, oneB ps = on := ⟨_, rfl⟩
    have HON := Lib.hid hon
    cases hfp : firstPre ps
    · have h1 := free_one hfp
      rw [hon] at h1
      subst h1
      have HFP := Lib.hid hfp
      clear hfp hon
      have k10 := (by have h := IsReadOneWay_any ps _ _ w2 fb_2 (by omega); rw [HBK.out, HON.out, show rowV true true = .tuple #[.bool true, .bool true] from rfl] at h; exact h : Calls Try.prog 39 #[.agg #[.slice A2 ps.length c2]] w2 fun e w' => e = .returned (.tuple #[.bool true, .bool true]) ∧ Below w2.heap.size w2 w')
      have K1 := Lib.hid k10
      clear k10
      go_wp2_with fail
      refine (K1.out).mono ?_
      rintro e w3 ⟨rfl, hb3⟩
      have hw3 : Below w2.heap.size w2 w3 := hb3
      have hs3 : w2.heap.size ≤ w3.heap.size := hw3.size
      have hB3 : Below w.heap.size w w3 := hB2.trans (hw3.mono (by omega))
      have H0_3 : RdU w3 w.heap.size (.slice A0 xs0.length c0) xs0 := H0_2.below hw3 (by omega)
      clear H0_2
      have H1_3 : RdU w3 w.heap.size (.slice A1 xs1.length c1) xs1 := H1_2.below hw3 (by omega)
      clear H1_2
      have fb_3 : RdB w3 w1.heap.size (.agg #[.slice A2 ps.length c2]) ps := fb_2.below hw3 (by omega)
      clear fb_2
      have qb0_3 := (hw3.cell (p := ⟨w1.heap.size, 0, Option.none⟩) (by show w1.heap.size < _; omega)).trans qb0_2
      clear qb0_2
      clear K1
      have k20 := (by have h := sIsReadOneWay_any ps _ _ w3 fb_3 (by omega); rw [HBK.out, HON.out, show rowV true true = .tuple #[.bool true, .bool true] from rfl] at h; exact h : Calls Try.prog 37 #[.agg #[.slice A2 ps.length c2]] w3 fun e w' => e = .returned (.tuple #[.bool true, .bool true]) ∧ Below w3.heap.size w3 w')
      have K2 := Lib.hid k20
      clear k20
      go_wp2_with fail
      refine (K2.out).mono ?_
      rintro e w4 ⟨rfl, hb4⟩
      have hw4 : Below w3.heap.size w3 w4 := hb4
      have hs4 : w3.heap.size ≤ w4.heap.size := hw4.size
      have hB4 : Below w.heap.size w w4 := hB3.trans (hw4.mono (by omega))
      have H0_4 : RdU w4 w.heap.size (.slice A0 xs0.length c0) xs0 := H0_3.below hw4 (by omega)
      clear H0_3
      have H1_4 : RdU w4 w.heap.size (.slice A1 xs1.length c1) xs1 := H1_3.below hw4 (by omega)
      clear H1_3
      have fb_4 : RdB w4 w1.heap.size (.agg #[.slice A2 ps.length c2]) ps := fb_3.below hw4 (by omega)
      clear fb_3
      have qb0_4 := (hw4.cell (p := ⟨w1.heap.size, 0, Option.none⟩) (by show w1.heap.size < _; omega)).trans qb0_3
      clear qb0_3
      clear K2
      have k30 := (by have h := IsPrefixFree_any ps _ _ w4 fb_4 (by omega); rw [HBK.out, HFP.out, show freeV true Option.none = .tuple #[.bool true, .bool true] from rfl] at h; exact h : Calls Try.prog 46 #[.agg #[.slice A2 ps.length c2]] w4 fun e w' => e = .returned (.tuple #[.bool true, .bool true]) ∧ Below w4.heap.size w4 w')
      have K3 := Lib.hid k30
      clear k30
      go_wp2_with fail
      refine (K3.out).mono ?_
      rintro e w5 ⟨rfl, hb5⟩
      have hw5 : Below w4.heap.size w4 w5 := hb5
      have hs5 : w4.heap.size ≤ w5.heap.size := hw5.size
      have hB5 : Below w.heap.size w w5 := hB4.trans (hw5.mono (by omega))
      have H0_5 : RdU w5 w.heap.size (.slice A0 xs0.length c0) xs0 := H0_4.below hw5 (by omega)
      clear H0_4
      have H1_5 : RdU w5 w.heap.size (.slice A1 xs1.length c1) xs1 := H1_4.below hw5 (by omega)
      clear H1_4
      have fb_5 : RdB w5 w1.heap.size (.agg #[.slice A2 ps.length c2]) ps := fb_4.below hw5 (by omega)
      clear fb_4
      have qb0_5 := (hw5.cell (p := ⟨w1.heap.size, 0, Option.none⟩) (by show w1.heap.size < _; omega)).trans qb0_4
      clear qb0_4
      clear K3
      have k40 := (by have h := sIsPrefixFree_any ps _ _ w5 fb_5 (by omega); rw [HBK.out, HFP.out, show freeV true Option.none = .tuple #[.bool true, .bool true] from rfl] at h; exact h : Calls Try.prog 47 #[.agg #[.slice A2 ps.length c2]] w5 fun e w' => e = .returned (.tuple #[.bool true, .bool true]) ∧ Below w5.heap.size w5 w')
      have K4 := Lib.hid k40
      clear k40
      go_wp2_with fail
      refine (K4.out).mono ?_
      rintro e w6 ⟨rfl, hb6⟩
      have hw6 : Below w5.heap.size w5 w6 := hb6
      have hs6 : w5.heap.size ≤ w6.heap.size := hw6.size
      have hB6 : Below w.heap.size w w6 := hB5.trans (hw6.mono (by omega))
      have H0_6 : RdU w6 w.heap.size (.slice A0 xs0.length c0) xs0 := H0_5.below hw6 (by omega)
      clear H0_5
      have H1_6 : RdU w6 w.heap.size (.slice A1 xs1.length c1) xs1 := H1_5.below hw6 (by omega)
      clear H1_5
      have fb_6 : RdB w6 w1.heap.size (.agg #[.slice A2 ps.length c2]) ps := fb_5.below hw6 (by omega)
      clear fb_5
      have qb0_6 := (hw6.cell (p := ⟨w1.heap.size, 0, Option.none⟩) (by show w1.heap.size < _; omega)).trans qb0_5
      clear qb0_5
      clear K4
      have k50 := (by have h := FirstPrefix_any ps _ _ w6 fb_6 (by omega); rw [HBK.out, HFP.out, show prefV true Option.none = .tuple #[.int .i64 0, .int .i64 0, .bool false] from rfl] at h; exact h : Calls Try.prog 48 #[.agg #[.slice A2 ps.length c2]] w6 fun e w' => e = .returned (.tuple #[.int .i64 0, .int .i64 0, .bool false]) ∧ Below w6.heap.size w6 w')
      have K5 := Lib.hid k50
      clear k50
      go_wp2_with fail
      refine (K5.out).mono ?_
      rintro e w7 ⟨rfl, hb7⟩
      have hw7 : Below w6.heap.size w6 w7 := hb7
      have hs7 : w6.heap.size ≤ w7.heap.size := hw7.size
      have hB7 : Below w.heap.size w w7 := hB6.trans (hw7.mono (by omega))
      have H0_7 : RdU w7 w.heap.size (.slice A0 xs0.length c0) xs0 := H0_6.below hw7 (by omega)
      clear H0_6
      have H1_7 : RdU w7 w.heap.size (.slice A1 xs1.length c1) xs1 := H1_6.below hw7 (by omega)
      clear H1_6
      have fb_7 : RdB w7 w1.heap.size (.agg #[.slice A2 ps.length c2]) ps := fb_6.below hw7 (by omega)
      clear fb_6
      have qb0_7 := (hw7.cell (p := ⟨w1.heap.size, 0, Option.none⟩) (by show w1.heap.size < _; omega)).trans qb0_6
      clear qb0_6
      clear K5
      have k60 := (by have h := sFirstPrefix_any ps _ _ w7 fb_7 (by omega); rw [HBK.out, HFP.out, show prefV true Option.none = .tuple #[.int .i64 0, .int .i64 0, .bool false] from rfl] at h; exact h : Calls Try.prog 49 #[.agg #[.slice A2 ps.length c2]] w7 fun e w' => e = .returned (.tuple #[.int .i64 0, .int .i64 0, .bool false]) ∧ Below w7.heap.size w7 w')
      have K6 := Lib.hid k60
      clear k60
      go_wp2_with fail
      refine (K6.out).mono ?_
      rintro e w8 ⟨rfl, hb8⟩
      have hw8 : Below w7.heap.size w7 w8 := hb8
      have hs8 : w7.heap.size ≤ w8.heap.size := hw8.size
      have hB8 : Below w.heap.size w w8 := hB7.trans (hw8.mono (by omega))
      have H0_8 : RdU w8 w.heap.size (.slice A0 xs0.length c0) xs0 := H0_7.below hw8 (by omega)
      clear H0_7
      have H1_8 : RdU w8 w.heap.size (.slice A1 xs1.length c1) xs1 := H1_7.below hw8 (by omega)
      clear H1_7
      have fb_8 : RdB w8 w1.heap.size (.agg #[.slice A2 ps.length c2]) ps := fb_7.below hw8 (by omega)
      clear fb_7
      have qb0_8 := (hw8.cell (p := ⟨w1.heap.size, 0, Option.none⟩) (by show w1.heap.size < _; omega)).trans qb0_7
      clear qb0_7
      clear K6
      go_wp2_with fail
      refine (DrawFirstPrefix_any xs1 _ w.heap.size w8 H1_8 (by omega)).mono ?_
      rintro e w9 ⟨u3, n3, rfl, hn3, hr3, hb9⟩
      obtain ⟨A3, c3, rfl⟩ := hr3.form
      obtain ⟨qs, hpl3, fc⟩ := hr3.rdb
      subst hpl3
      clear hr3
      have hw9 : Below w8.heap.size w8 w9 := hb9
      have hs9 : w8.heap.size ≤ w9.heap.size := hw9.size
      have hB9 : Below w.heap.size w w9 := hB8.trans (hw9.mono (by omega))
      have H0_9 : RdU w9 w.heap.size (.slice A0 xs0.length c0) xs0 := H0_8.below hw9 (by omega)
      clear H0_8
      have H1_9 : RdU w9 w.heap.size (.slice A1 xs1.length c1) xs1 := H1_8.below hw9 (by omega)
      clear H1_8
      have fb_9 : RdB w9 w1.heap.size (.agg #[.slice A2 ps.length c2]) ps := fb_8.below hw9 (by omega)
      clear fb_8
      have qb0_9 := (hw9.cell (p := ⟨w1.heap.size, 0, Option.none⟩) (by show w1.heap.size < _; omega)).trans qb0_8
      clear qb0_8
      have hb10 : Below w9.heap.size w9 (w9.alloc (.cells #[.slice A3 qs.length c3] 48)) := (Below.refl _ _).alloc (Nat.le_refl _) _
      have hz10 : (w9.alloc (.cells #[.slice A3 qs.length c3] 48)).heap.size = w9.heap.size + 1 := by simp
      have qc0_10 : (w9.alloc (.cells #[.slice A3 qs.length c3] 48)).cell? ⟨w9.heap.size, 0, Option.none⟩ = some (.slice A3 qs.length c3) := (Blk.new w9 48 #[.slice A3 qs.length c3]).cell 0
      go_wp2_with fail
      generalize w9.alloc (.cells #[.slice A3 qs.length c3] 48) = w10 at hb10 hz10 qc0_10 ⊢
      have hy10 : w9.heap.size + 1 ≤ w10.heap.size := by omega
      clear hz10
      have hw10 : Below w9.heap.size w9 w10 := hb10
      have hs10 : w9.heap.size ≤ w10.heap.size := hw10.size
      have hB10 : Below w.heap.size w w10 := hB9.trans (hw10.mono (by omega))
      have H0_10 : RdU w10 w.heap.size (.slice A0 xs0.length c0) xs0 := H0_9.below hw10 (by omega)
      clear H0_9
      have H1_10 : RdU w10 w.heap.size (.slice A1 xs1.length c1) xs1 := H1_9.below hw10 (by omega)
      clear H1_9
      have fb_10 : RdB w10 w1.heap.size (.agg #[.slice A2 ps.length c2]) ps := fb_9.below hw10 (by omega)
      clear fb_9
      have fc_10 : RdB w10 w9.heap.size (.agg #[.slice A3 qs.length c3]) qs := fc.below hw10 (by omega)
      clear fc
      have qb0_10 := (hw10.cell (p := ⟨w1.heap.size, 0, Option.none⟩) (by show w1.heap.size < _; omega)).trans qb0_9
      clear qb0_9
      obtain ⟨p3, q3, r3, hT3⟩ := prefV_form (bookB qs) (firstPre qs)
      have HT3 := Lib.hid hT3
      clear hT3
      have k70 := (by have h := FirstPrefix_any qs _ _ w10 fc_10 (by omega); rw [HT3.out] at h; exact h : Calls Try.prog 48 #[.agg #[.slice A3 qs.length c3]] w10 fun e w' => e = .returned (.tuple #[.int .i64 p3, .int .i64 q3, .bool r3]) ∧ Below w10.heap.size w10 w')
      have K7 := Lib.hid k70
      clear k70
      go_wp2_with fail
      refine (K7.out).mono ?_
      rintro e w11 ⟨rfl, hb11⟩
      have hw11 : Below w10.heap.size w10 w11 := hb11
      have hs11 : w10.heap.size ≤ w11.heap.size := hw11.size
      have hB11 : Below w.heap.size w w11 := hB10.trans (hw11.mono (by omega))
      have H0_11 : RdU w11 w.heap.size (.slice A0 xs0.length c0) xs0 := H0_10.below hw11 (by omega)
      clear H0_10
      have H1_11 : RdU w11 w.heap.size (.slice A1 xs1.length c1) xs1 := H1_10.below hw11 (by omega)
      clear H1_10
      have fb_11 : RdB w11 w1.heap.size (.agg #[.slice A2 ps.length c2]) ps := fb_10.below hw11 (by omega)
      clear fb_10
      have fc_11 : RdB w11 w9.heap.size (.agg #[.slice A3 qs.length c3]) qs := fc_10.below hw11 (by omega)
      clear fc_10
      have qb0_11 := (hw11.cell (p := ⟨w1.heap.size, 0, Option.none⟩) (by show w1.heap.size < _; omega)).trans qb0_10
      clear qb0_10
      have qc0_11 := (hw11.cell (p := ⟨w9.heap.size, 0, Option.none⟩) (by show w9.heap.size < _; omega)).trans qc0_10
      clear qc0_10
      clear K7
      have k80 := (by have h := sFirstPrefix_any qs _ _ w11 fc_11 (by omega); rw [HT3.out] at h; exact h : Calls Try.prog 49 #[.agg #[.slice A3 qs.length c3]] w11 fun e w' => e = .returned (.tuple #[.int .i64 p3, .int .i64 q3, .bool r3]) ∧ Below w11.heap.size w11 w')
      have K8 := Lib.hid k80
      clear k80
      go_wp2_with fail
      refine (K8.out).mono ?_
      rintro e w12 ⟨rfl, hb12⟩
      have hw12 : Below w11.heap.size w11 w12 := hb12
      have hs12 : w11.heap.size ≤ w12.heap.size := hw12.size
      have hB12 : Below w.heap.size w w12 := hB11.trans (hw12.mono (by omega))
      have H0_12 : RdU w12 w.heap.size (.slice A0 xs0.length c0) xs0 := H0_11.below hw12 (by omega)
      clear H0_11
      have H1_12 : RdU w12 w.heap.size (.slice A1 xs1.length c1) xs1 := H1_11.below hw12 (by omega)
      clear H1_11
      have fb_12 : RdB w12 w1.heap.size (.agg #[.slice A2 ps.length c2]) ps := fb_11.below hw12 (by omega)
      clear fb_11
      have fc_12 : RdB w12 w9.heap.size (.agg #[.slice A3 qs.length c3]) qs := fc_11.below hw12 (by omega)
      clear fc_11
      have qb0_12 := (hw12.cell (p := ⟨w1.heap.size, 0, Option.none⟩) (by show w1.heap.size < _; omega)).trans qb0_11
      clear qb0_11
      have qc0_12 := (hw12.cell (p := ⟨w9.heap.size, 0, Option.none⟩) (by show w9.heap.size < _; omega)).trans qc0_11
      clear qc0_11
      clear K8
      clear fc_12
      clear qc0_12 HT3
      by_cases h14 : 14 < ps.length
      · go_wp2_with fail
        go_ret
        exact ⟨rfl, hB12⟩
      · clear H0_12
        clear H1_12
        go_wp2_with fail
        obtain ⟨n, hn⟩ : ∃ n, n = ps.length := ⟨_, rfl⟩
        have HN := Lib.hid hn
        have hn14 : n ≤ 14 := by omega
        have hfb := fb_12
        rw [← hn] at hfb
        rw [← hn]
        have hbc := qb0_12
        rw [← hn] at hbc
        clear hn h14
        have HFB := Lib.hid hfb
        clear hfb
        go_loopw [29, 207] (fun v i wr => ∃ k : Nat, k ≤ n ∧ i = .int .i64 (k : Int) ∧ Hid (GrowL w12 w12.heap.size wr v ((lsN n k).map waysI))) (fun _ i _ => n - (intOf i).toNat)
        case atStart => exact ⟨0, Nat.zero_le _, rfl, GrowL.start _ rfl⟩
        case round =>
          obtain ⟨k, hk, rfl, hg⟩ := hrel
          have hsr := hg.out.2.1.size
          have hbr := (hg.out.2.1.cell (p := ⟨w1.heap.size, 0, Option.none⟩) (by show w1.heap.size < w12.heap.size; omega)).trans hbc
          have hlenk := lsN_len n k
          have HLK := Lib.hid hlenk
          clear hlenk
          have hlb : k * (n + 1) ≤ 14 * 15 := Nat.mul_le_mul (by omega) (by omega)
          by_cases hlt : k < n
          · have HE := Lib.hid (el_lit (w := wr) (B := w12.heap.size) (g := wr.heap.size) (n := 1) (arr := #[.int .i64 (k : Int)]) [(k : Int)] rfl rfl rfl (by simp))
            have HGA := Lib.hid (hg.out.belowR ((Below.refl _ _).alloc (Nat.le_refl _) (.cells #[.int .i64 (k : Int)] 3)))
            have hm0 : ((lsN n k).map waysI).length ≤ 210 := by rw [List.length_map, HLK.out]; omega
            clear hg
            go_wp2_with (at_builtin; refine GrowL.appG rfl (.tmp 210) (.tmp 213) rfl HGA.out HE.out (by omega) rfl (by simp) rfl ?_; intro v5 w5 hG5; obtain ⟨A5, c5, hv5, _⟩ := hG5.form; obtain ⟨m5, hm5⟩ : ∃ m, m = ((lsN n k).map waysI ++ [[(k : Int)]]).length := ⟨_, rfl⟩; rw [← hm5] at hv5; subst hv5; have HG5 := Lib.hid hG5; clear hG5 hm5; have hs5 := HG5.out.2.1.size; have hb5 := (HG5.out.2.1.cell (p := ⟨w1.heap.size, 0, Option.none⟩) (by show w1.heap.size < w12.heap.size; omega)).trans hbc; clear hbr hsr)
            have hst : (lsN n k).map waysI ++ [[(k : Int)]] = (lsN n k ++ lsI k 0).map waysI := by rw [List.map_append]; rfl
            have HST : Hid (GrowL w12 w12.heap.size w5 (.slice A5 m5 c5) ((lsN n k ++ lsI k 0).map waysI)) := by have h := HG5.out; rwa [hst] at h
            clear HG5 hst
            go_loopw [29, 218] (fun v i wr => ∃ j : Nat, j ≤ n ∧ i = .int .i64 (j : Int) ∧ Hid (GrowL w12 w12.heap.size wr v ((lsN n k ++ lsI k j).map waysI))) (fun _ i _ => n - (intOf i).toNat)
            case atStart => exact ⟨0, Nat.zero_le _, rfl, HST.out⟩
            case round =>
              obtain ⟨j, hj, rfl, hg⟩ := hrel
              have hsr := hg.out.2.1.size
              have hbr := (hg.out.2.1.cell (p := ⟨w1.heap.size, 0, Option.none⟩) (by show w1.heap.size < w12.heap.size; omega)).trans hbc
              by_cases hltj : j < n
              · have HE := Lib.hid (el_lit (w := wr) (B := w12.heap.size) (g := wr.heap.size) (n := 2) (arr := #[.int .i64 (k : Int), .int .i64 (j : Int)]) [(k : Int), (j : Int)] rfl rfl rfl (by simp))
                have HGA := Lib.hid (hg.out.belowR ((Below.refl _ _).alloc (Nat.le_refl _) (.cells #[.int .i64 (k : Int), .int .i64 (j : Int)] 3)))
                have hm0 : ((lsN n k ++ lsI k j).map waysI).length ≤ 230 := by rw [List.length_map, List.length_append, HLK.out, lsI_len]; omega
                clear hg
                go_wp2_with (at_builtin; refine GrowL.appG rfl (.tmp 221) (.tmp 225) rfl HGA.out HE.out (by omega) rfl (by simp) rfl ?_; intro v6 w6 hG6; obtain ⟨A6, c6, hv6, _⟩ := hG6.form; obtain ⟨m6, hm6⟩ : ∃ m, m = ((lsN n k ++ lsI k j).map waysI ++ [[(k : Int), (j : Int)]]).length := ⟨_, rfl⟩; rw [← hm6] at hv6; subst hv6; have HG6 := Lib.hid hG6; clear hG6 hm6)
                have hst : (lsN n k ++ lsI k j).map waysI ++ [[(k : Int), (j : Int)]] = (lsN n k ++ lsI k (j + 1)).map waysI := by rw [lsI_succ, ← List.append_assoc, List.map_append (l₂ := [[k, j]])]; rfl
                have HST6 : Hid (GrowL w12 w12.heap.size w6 (.slice A6 m6 c6) ((lsN n k ++ lsI k (j + 1)).map waysI)) := by have h := HG6.out; rwa [hst] at h
                clear HG6 hst
                go_roundw
                case rel => exact ⟨j + 1, by omega, by go_num, HST6.out⟩
                case measure => (simp [intOf]; try omega)
              · obtain rfl : j = n := by omega
                have HL : Hid (GrowL w12 w12.heap.size wr _ ((lsN j (k + 1)).map waysI)) := hg.out
                clear hg
                go_wp2_with fail
                go_roundw
                case rel => exact ⟨k + 1, by omega, by go_num, HL.out⟩
                case measure => (simp [intOf]; try omega)
          · obtain rfl : k = n := by omega
            obtain ⟨A5, c5, rfl, _⟩ := hg.out.form
            have hbel := hg.out.2.1
            have hrl := hg.out.rd
            have hlenk := HLK.out
            clear HLK
            obtain ⟨N, hN⟩ : ∃ N, N = k * (k + 1) := ⟨_, rfl⟩
            have hcap : N ≤ c5 := by obtain ⟨us, _, hrd⟩ := hrl; obtain ⟨_, _, hv, h1, _⟩ := Rd.form hrd; injection hv with h2 h3 h4; rw [hN, ← hlenk]; rw [List.length_map] at h1; omega
            rw [List.length_map, hlenk] at hrl ⊢
            rw [← hN] at hrl hlenk hlb ⊢
            have HLN := Lib.hid hlenk
            have HRL := Lib.hid hrl
            clear hg hN hlenk hrl
            obtain ⟨wz, hwz⟩ : ∃ wz, wz = wr := ⟨_, rfl⟩; subst hwz
            have HBZ := Lib.hid (hB12.trans (hbel.mono (by omega)))
            have HFZ := Lib.hid (HFB.out.below hbel (by omega))
            have HBZC := Lib.hid ((hbel.cell (p := ⟨w1.heap.size, 0, Option.none⟩) (by show w1.heap.size < w12.heap.size; omega)).trans hbc)
            have hszz := hbel.size
            clear hbel
            go_wp2_with fail
            go_loopw [231] (fun i wr => ∃ j : Nat, j ≤ N ∧ i = .int .i64 (j : Int) ∧ Hid (Below wz.heap.size wz wr)) (fun i _ => N - (intOf i).toNat)
            case atStart => exact ⟨0, Nat.zero_le _, rfl, Below.refl _ _⟩
            case round =>
              obtain ⟨j, hj, rfl, HBW⟩ := hrel
              have hsw := HBW.out.size
              by_cases hltj : j < N
              · have hrw := HRL.out.below HBW.out (Nat.le_refl _)
                have hjl : j < ((lsN k k).map waysI).length := by rw [List.length_map, HLN.out]; exact hltj
                obtain ⟨bl, ol, cl, ua, xa, hv, hbl, hxa, hcella, hra⟩ := hrw.at_ hjl
                injection hv with hv1 hv2 hv3; cases hv1; clear hv2 hv3
                rw [List.getElem?_map, Option.map_eq_some_iff] at hxa
                obtain ⟨la, hla, rfl⟩ := hxa
                obtain ⟨Aa, ca, rfl, hca, hma⟩ := Rd.form hra
                have HRA := Lib.hid hra
                have HLA := Lib.hid hla
                clear hra hla hjl hrw
                obtain ⟨wo, hwo⟩ : ∃ wo, wo = wr := ⟨_, rfl⟩; subst hwo
                go_wp2_with fail
                go_loopw [240] (fun i wr => ∃ t : Nat, t ≤ j ∧ i = .int .i64 (t : Int) ∧ Hid (Below wo.heap.size wo wr)) (fun i _ => j - (intOf i).toNat)
                case atStart => exact ⟨0, Nat.zero_le _, rfl, Below.refl _ _⟩
                case round =>
                  obtain ⟨t, ht, rfl, HBV⟩ := hrel
                  have hsv := HBV.out.size
                  by_cases hltt : t < j
                  · have HBT := Lib.hid (HBW.out.trans (HBV.out.mono hsw))
                    have hrw := HRL.out.below HBT.out (Nat.le_refl _)
                    have htl : t < ((lsN k k).map waysI).length := by rw [List.length_map, HLN.out]; omega
                    obtain ⟨bm, om, cm, uz, xz, hv, hbm, hxz, hcellz, hrz⟩ := hrw.at_ htl
                    injection hv with hv1 hv2 hv3; cases hv1; clear hv2 hv3
                    rw [List.getElem?_map, Option.map_eq_some_iff] at hxz
                    obtain ⟨lz, hlz, rfl⟩ := hxz
                    obtain ⟨Az, cz, rfl, hcz, hmz⟩ := Rd.form hrz
                    have hda : decide (sigsOf ps la = sigsOf ps lz) = false := by
                      have h1 := HLA.out; rw [HN.out] at h1; have h2 := hlz; rw [HN.out] at h2
                      exact ls_differ HBK.out HON.out h1 h2 (by omega)
                    have hma2 : (∀ i ∈ la, i < ps.length) ∧ la.length ≤ 2 := by have h := lsN_mem (Nat.le_refl _) (List.mem_of_getElem? HLA.out); rw [← HN.out]; exact ⟨h.1, h.2.2⟩
                    have hmz2 : (∀ i ∈ lz, i < ps.length) ∧ lz.length ≤ 2 := by have h := lsN_mem (Nat.le_refl _) (List.mem_of_getElem? hlz); rw [← HN.out]; exact ⟨h.1, h.2.2⟩
                    have HDA := Lib.hid hda
                    have HMA := Lib.hid hma2
                    have HMZ := Lib.hid hmz2
                    have hb0 : Below wr.heap.size wr wr.drew := (Below.refl _ _).drew
                    have hsd : wr.heap.size ≤ wr.drew.heap.size := Nat.le_refl _
                    have hfd := (HFZ.out.below HBT.out (by omega)).below hb0 (by omega)
                    have hrad := (HRA.out.below HBV.out (by omega)).below hb0 (by omega)
                    have hrzd := hrz.below hb0 (by omega)
                    have hbcz := (HBT.out.cell (p := ⟨w1.heap.size, 0, Option.none⟩) (by show w1.heap.size < wz.heap.size; omega)).trans HBZC.out
                    have hbcd : wr.drew.cell? ⟨w1.heap.size, 0, Option.none⟩ = some (.slice A2 k c2) := hbcz
                    have HBLZ : w1.heap.size < wr.drew.heap.size := by omega
                    clear hrz hlz hda hma2 hmz2 hrw htl
                    go_upto_region 40 with fail
                    go_cut [250] (fun s wx => s = .bool false ∧ Hid (Below wo.heap.size wo wx))
                    case first =>
                      go_region_law (first
                        | ((go_simp; go_at_call 52; (with_reducible refine (qJoined_any ps la _ _ _ _ _ (by first | (with_reducible exact hfd) | (with_reducible exact hfz)) (by first | (with_reducible exact hrad) | (with_reducible exact hra2)) (by omega) (by omega) HBK.out HMA.out.1 (by have := HMA.out.2; omega)).mono ?_); rintro e w5 ⟨va, rfl, hoa, hba⟩; have hsa := hba.size; (first | (have hozF := hoz.rd.below hba (Nat.le_refl _)) | (have hfa := hfd.below hba (by omega); have hrz2 := hrzd.below hba (by omega); have hca := (hba.cell (p := ⟨w1.heap.size, 0, Option.none⟩) (by show w1.heap.size < wr.drew.heap.size; omega)).trans hbcd))))
                        | ((go_simp; go_at_call 52; (with_reducible refine (qJoined_any ps lz _ _ _ _ _ (by first | (with_reducible exact hfd) | (with_reducible exact hfa)) (by first | (with_reducible exact hrzd) | (with_reducible exact hrz2)) (by omega) (by omega) HBK.out HMZ.out.1 (by have := HMZ.out.2; omega)).mono ?_); rintro e w6 ⟨vz, rfl, hoz, hbz⟩; have hsz := hbz.size; (first | (have hoaF := hoa.rd.below hbz (Nat.le_refl _)) | (have hfz := hfd.below hbz (by omega); have hra2 := hrad.below hbz (by omega); have hcz := (hbz.cell (p := ⟨w1.heap.size, 0, Option.none⟩) (by show w1.heap.size < wr.drew.heap.size; omega)).trans hbcd))))
                        | ((go_simp; go_at_call 51; (with_reducible refine (qInts_any (sigsOf ps la) (sigsOf ps lz) _ _ _ _ _ (by first | (with_reducible exact hoaF) | (with_reducible exact hoa.rd)) (by first | (with_reducible exact hozF) | (with_reducible exact hoz.rd))).mono ?_); rintro e w7 ⟨he, n7, hw7⟩; rw [HDA.out] at he; subst he; subst hw7)))
                      all_goals
                        first
                          | have HFIN := Lib.hid ((((HBV.out.trans (hb0.mono hsv)).trans (hba.mono (by omega))).trans (hbz.mono (by omega))).trans (bel_drewN wo.heap.size _ n7))
                          | have HFIN := Lib.hid ((((HBV.out.trans (hb0.mono hsv)).trans (hbz.mono (by omega))).trans (hba.mono (by omega))).trans (bel_drewN wo.heap.size _ n7))
                        go_wp2_with fail
                        go_meet
                        exact ⟨rfl, HFIN.out⟩
                    case rest =>
                      obtain ⟨rfl, HFIN⟩ := hcut
                      clear hfd hrad hrzd hbcz hbcd hb0 HBLZ hsd
                      go_wp2_with fail
                      go_roundw
                      case rel => exact ⟨t + 1, by omega, by go_num, HFIN.out⟩
                      case measure => (simp [intOf]; try omega)
                  · obtain rfl : t = j := by omega
                    go_wp2_with fail
                    go_roundw
                    case rel => exact ⟨t + 1, by omega, by go_num, HBW.out.trans (HBV.out.mono hsw)⟩
                    case measure => (simp [intOf]; try omega)
              · obtain rfl : j = N := by omega
                go_wp2_with fail
                go_ret
                exact ⟨rfl, HBZ.out.trans (HBW.out.mono (by have := HBZ.out.size; omega))⟩
    · rename_i pr
      obtain ⟨i0, k0⟩ := pr
      have HFP := Lib.hid hfp
      clear hfp hon
      have k10 := (by have h := IsReadOneWay_any ps _ _ w2 fb_2 (by omega); rw [HBK.out, HON.out, show rowV true on = .tuple #[.bool on, .bool true] from rfl] at h; exact h : Calls Try.prog 39 #[.agg #[.slice A2 ps.length c2]] w2 fun e w' => e = .returned (.tuple #[.bool on, .bool true]) ∧ Below w2.heap.size w2 w')
      have K1 := Lib.hid k10
      clear k10
      go_wp2_with fail
      refine (K1.out).mono ?_
      rintro e w3 ⟨rfl, hb3⟩
      have hw3 : Below w2.heap.size w2 w3 := hb3
      have hs3 : w2.heap.size ≤ w3.heap.size := hw3.size
      have hB3 : Below w.heap.size w w3 := hB2.trans (hw3.mono (by omega))
      have H0_3 : RdU w3 w.heap.size (.slice A0 xs0.length c0) xs0 := H0_2.below hw3 (by omega)
      clear H0_2
      have H1_3 : RdU w3 w.heap.size (.slice A1 xs1.length c1) xs1 := H1_2.below hw3 (by omega)
      clear H1_2
      have fb_3 : RdB w3 w1.heap.size (.agg #[.slice A2 ps.length c2]) ps := fb_2.below hw3 (by omega)
      clear fb_2
      have qb0_3 := (hw3.cell (p := ⟨w1.heap.size, 0, Option.none⟩) (by show w1.heap.size < _; omega)).trans qb0_2
      clear qb0_2
      clear K1
      have k20 := (by have h := sIsReadOneWay_any ps _ _ w3 fb_3 (by omega); rw [HBK.out, HON.out, show rowV true on = .tuple #[.bool on, .bool true] from rfl] at h; exact h : Calls Try.prog 37 #[.agg #[.slice A2 ps.length c2]] w3 fun e w' => e = .returned (.tuple #[.bool on, .bool true]) ∧ Below w3.heap.size w3 w')
      have K2 := Lib.hid k20
      clear k20
      go_wp2_with fail
      refine (K2.out).mono ?_
      rintro e w4 ⟨rfl, hb4⟩
      have hw4 : Below w3.heap.size w3 w4 := hb4
      have hs4 : w3.heap.size ≤ w4.heap.size := hw4.size
      have hB4 : Below w.heap.size w w4 := hB3.trans (hw4.mono (by omega))
      have H0_4 : RdU w4 w.heap.size (.slice A0 xs0.length c0) xs0 := H0_3.below hw4 (by omega)
      clear H0_3
      have H1_4 : RdU w4 w.heap.size (.slice A1 xs1.length c1) xs1 := H1_3.below hw4 (by omega)
      clear H1_3
      have fb_4 : RdB w4 w1.heap.size (.agg #[.slice A2 ps.length c2]) ps := fb_3.below hw4 (by omega)
      clear fb_3
      have qb0_4 := (hw4.cell (p := ⟨w1.heap.size, 0, Option.none⟩) (by show w1.heap.size < _; omega)).trans qb0_3
      clear qb0_3
      clear K2
      have k30 := (by have h := IsPrefixFree_any ps _ _ w4 fb_4 (by omega); rw [HBK.out, HFP.out, show freeV true (some (i0, k0)) = .tuple #[.bool false, .bool true] from rfl] at h; exact h : Calls Try.prog 46 #[.agg #[.slice A2 ps.length c2]] w4 fun e w' => e = .returned (.tuple #[.bool false, .bool true]) ∧ Below w4.heap.size w4 w')
      have K3 := Lib.hid k30
      clear k30
      go_wp2_with fail
      refine (K3.out).mono ?_
      rintro e w5 ⟨rfl, hb5⟩
      have hw5 : Below w4.heap.size w4 w5 := hb5
      have hs5 : w4.heap.size ≤ w5.heap.size := hw5.size
      have hB5 : Below w.heap.size w w5 := hB4.trans (hw5.mono (by omega))
      have H0_5 : RdU w5 w.heap.size (.slice A0 xs0.length c0) xs0 := H0_4.below hw5 (by omega)
      clear H0_4
      have H1_5 : RdU w5 w.heap.size (.slice A1 xs1.length c1) xs1 := H1_4.below hw5 (by omega)
      clear H1_4
      have fb_5 : RdB w5 w1.heap.size (.agg #[.slice A2 ps.length c2]) ps := fb_4.below hw5 (by omega)
      clear fb_4
      have qb0_5 := (hw5.cell (p := ⟨w1.heap.size, 0, Option.none⟩) (by show w1.heap.size < _; omega)).trans qb0_4
      clear qb0_4
      clear K3
      have k40 := (by have h := sIsPrefixFree_any ps _ _ w5 fb_5 (by omega); rw [HBK.out, HFP.out, show freeV true (some (i0, k0)) = .tuple #[.bool false, .bool true] from rfl] at h; exact h : Calls Try.prog 47 #[.agg #[.slice A2 ps.length c2]] w5 fun e w' => e = .returned (.tuple #[.bool false, .bool true]) ∧ Below w5.heap.size w5 w')
      have K4 := Lib.hid k40
      clear k40
      go_wp2_with fail
      refine (K4.out).mono ?_
      rintro e w6 ⟨rfl, hb6⟩
      have hw6 : Below w5.heap.size w5 w6 := hb6
      have hs6 : w5.heap.size ≤ w6.heap.size := hw6.size
      have hB6 : Below w.heap.size w w6 := hB5.trans (hw6.mono (by omega))
      have H0_6 : RdU w6 w.heap.size (.slice A0 xs0.length c0) xs0 := H0_5.below hw6 (by omega)
      clear H0_5
      have H1_6 : RdU w6 w.heap.size (.slice A1 xs1.length c1) xs1 := H1_5.below hw6 (by omega)
      clear H1_5
      have fb_6 : RdB w6 w1.heap.size (.agg #[.slice A2 ps.length c2]) ps := fb_5.below hw6 (by omega)
      clear fb_5
      have qb0_6 := (hw6.cell (p := ⟨w1.heap.size, 0, Option.none⟩) (by show w1.heap.size < _; omega)).trans qb0_5
      clear qb0_5
      clear K4
      have k50 := (by have h := FirstPrefix_any ps _ _ w6 fb_6 (by omega); rw [HBK.out, HFP.out, show prefV true (some (i0, k0)) = .tuple #[.int .i64 (i0 : Int), .int .i64 (k0 : Int), .bool true] from rfl] at h; exact h : Calls Try.prog 48 #[.agg #[.slice A2 ps.length c2]] w6 fun e w' => e = .returned (.tuple #[.int .i64 (i0 : Int), .int .i64 (k0 : Int), .bool true]) ∧ Below w6.heap.size w6 w')
      have K5 := Lib.hid k50
      clear k50
      go_wp2_with fail
      refine (K5.out).mono ?_
      rintro e w7 ⟨rfl, hb7⟩
      have hw7 : Below w6.heap.size w6 w7 := hb7
      have hs7 : w6.heap.size ≤ w7.heap.size := hw7.size
      have hB7 : Below w.heap.size w w7 := hB6.trans (hw7.mono (by omega))
      have H0_7 : RdU w7 w.heap.size (.slice A0 xs0.length c0) xs0 := H0_6.below hw7 (by omega)
      clear H0_6
      have H1_7 : RdU w7 w.heap.size (.slice A1 xs1.length c1) xs1 := H1_6.below hw7 (by omega)
      clear H1_6
      have fb_7 : RdB w7 w1.heap.size (.agg #[.slice A2 ps.length c2]) ps := fb_6.below hw7 (by omega)
      clear fb_6
      have qb0_7 := (hw7.cell (p := ⟨w1.heap.size, 0, Option.none⟩) (by show w1.heap.size < _; omega)).trans qb0_6
      clear qb0_6
      clear K5
      have k60 := (by have h := sFirstPrefix_any ps _ _ w7 fb_7 (by omega); rw [HBK.out, HFP.out, show prefV true (some (i0, k0)) = .tuple #[.int .i64 (i0 : Int), .int .i64 (k0 : Int), .bool true] from rfl] at h; exact h : Calls Try.prog 49 #[.agg #[.slice A2 ps.length c2]] w7 fun e w' => e = .returned (.tuple #[.int .i64 (i0 : Int), .int .i64 (k0 : Int), .bool true]) ∧ Below w7.heap.size w7 w')
      have K6 := Lib.hid k60
      clear k60
      go_wp2_with fail
      refine (K6.out).mono ?_
      rintro e w8 ⟨rfl, hb8⟩
      have hw8 : Below w7.heap.size w7 w8 := hb8
      have hs8 : w7.heap.size ≤ w8.heap.size := hw8.size
      have hB8 : Below w.heap.size w w8 := hB7.trans (hw8.mono (by omega))
      have H0_8 : RdU w8 w.heap.size (.slice A0 xs0.length c0) xs0 := H0_7.below hw8 (by omega)
      clear H0_7
      have H1_8 : RdU w8 w.heap.size (.slice A1 xs1.length c1) xs1 := H1_7.below hw8 (by omega)
      clear H1_7
      have fb_8 : RdB w8 w1.heap.size (.agg #[.slice A2 ps.length c2]) ps := fb_7.below hw8 (by omega)
      clear fb_7
      have qb0_8 := (hw8.cell (p := ⟨w1.heap.size, 0, Option.none⟩) (by show w1.heap.size < _; omega)).trans qb0_7
      clear qb0_7
      clear K6
      go_wp2_with fail
      refine (DrawFirstPrefix_any xs1 _ w.heap.size w8 H1_8 (by omega)).mono ?_
      rintro e w9 ⟨u3, n3, rfl, hn3, hr3, hb9⟩
      obtain ⟨A3, c3, rfl⟩ := hr3.form
      obtain ⟨qs, hpl3, fc⟩ := hr3.rdb
      subst hpl3
      clear hr3
      have hw9 : Below w8.heap.size w8 w9 := hb9
      have hs9 : w8.heap.size ≤ w9.heap.size := hw9.size
      have hB9 : Below w.heap.size w w9 := hB8.trans (hw9.mono (by omega))
      have H0_9 : RdU w9 w.heap.size (.slice A0 xs0.length c0) xs0 := H0_8.below hw9 (by omega)
      clear H0_8
      have H1_9 : RdU w9 w.heap.size (.slice A1 xs1.length c1) xs1 := H1_8.below hw9 (by omega)
      clear H1_8
      have fb_9 : RdB w9 w1.heap.size (.agg #[.slice A2 ps.length c2]) ps := fb_8.below hw9 (by omega)
      clear fb_8
      have qb0_9 := (hw9.cell (p := ⟨w1.heap.size, 0, Option.none⟩) (by show w1.heap.size < _; omega)).trans qb0_8
      clear qb0_8
      have hb10 : Below w9.heap.size w9 (w9.alloc (.cells #[.slice A3 qs.length c3] 48)) := (Below.refl _ _).alloc (Nat.le_refl _) _
      have hz10 : (w9.alloc (.cells #[.slice A3 qs.length c3] 48)).heap.size = w9.heap.size + 1 := by simp
      have qc0_10 : (w9.alloc (.cells #[.slice A3 qs.length c3] 48)).cell? ⟨w9.heap.size, 0, Option.none⟩ = some (.slice A3 qs.length c3) := (Blk.new w9 48 #[.slice A3 qs.length c3]).cell 0
      go_wp2_with fail
      generalize w9.alloc (.cells #[.slice A3 qs.length c3] 48) = w10 at hb10 hz10 qc0_10 ⊢
      have hy10 : w9.heap.size + 1 ≤ w10.heap.size := by omega
      clear hz10
      have hw10 : Below w9.heap.size w9 w10 := hb10
      have hs10 : w9.heap.size ≤ w10.heap.size := hw10.size
      have hB10 : Below w.heap.size w w10 := hB9.trans (hw10.mono (by omega))
      have H0_10 : RdU w10 w.heap.size (.slice A0 xs0.length c0) xs0 := H0_9.below hw10 (by omega)
      clear H0_9
      have H1_10 : RdU w10 w.heap.size (.slice A1 xs1.length c1) xs1 := H1_9.below hw10 (by omega)
      clear H1_9
      have fb_10 : RdB w10 w1.heap.size (.agg #[.slice A2 ps.length c2]) ps := fb_9.below hw10 (by omega)
      clear fb_9
      have fc_10 : RdB w10 w9.heap.size (.agg #[.slice A3 qs.length c3]) qs := fc.below hw10 (by omega)
      clear fc
      have qb0_10 := (hw10.cell (p := ⟨w1.heap.size, 0, Option.none⟩) (by show w1.heap.size < _; omega)).trans qb0_9
      clear qb0_9
      obtain ⟨p3, q3, r3, hT3⟩ := prefV_form (bookB qs) (firstPre qs)
      have HT3 := Lib.hid hT3
      clear hT3
      have k70 := (by have h := FirstPrefix_any qs _ _ w10 fc_10 (by omega); rw [HT3.out] at h; exact h : Calls Try.prog 48 #[.agg #[.slice A3 qs.length c3]] w10 fun e w' => e = .returned (.tuple #[.int .i64 p3, .int .i64 q3, .bool r3]) ∧ Below w10.heap.size w10 w')
      have K7 := Lib.hid k70
      clear k70
      go_wp2_with fail
      refine (K7.out).mono ?_
      rintro e w11 ⟨rfl, hb11⟩
      have hw11 : Below w10.heap.size w10 w11 := hb11
      have hs11 : w10.heap.size ≤ w11.heap.size := hw11.size
      have hB11 : Below w.heap.size w w11 := hB10.trans (hw11.mono (by omega))
      have H0_11 : RdU w11 w.heap.size (.slice A0 xs0.length c0) xs0 := H0_10.below hw11 (by omega)
      clear H0_10
      have H1_11 : RdU w11 w.heap.size (.slice A1 xs1.length c1) xs1 := H1_10.below hw11 (by omega)
      clear H1_10
      have fb_11 : RdB w11 w1.heap.size (.agg #[.slice A2 ps.length c2]) ps := fb_10.below hw11 (by omega)
      clear fb_10
      have fc_11 : RdB w11 w9.heap.size (.agg #[.slice A3 qs.length c3]) qs := fc_10.below hw11 (by omega)
      clear fc_10
      have qb0_11 := (hw11.cell (p := ⟨w1.heap.size, 0, Option.none⟩) (by show w1.heap.size < _; omega)).trans qb0_10
      clear qb0_10
      have qc0_11 := (hw11.cell (p := ⟨w9.heap.size, 0, Option.none⟩) (by show w9.heap.size < _; omega)).trans qc0_10
      clear qc0_10
      clear K7
      have k80 := (by have h := sFirstPrefix_any qs _ _ w11 fc_11 (by omega); rw [HT3.out] at h; exact h : Calls Try.prog 49 #[.agg #[.slice A3 qs.length c3]] w11 fun e w' => e = .returned (.tuple #[.int .i64 p3, .int .i64 q3, .bool r3]) ∧ Below w11.heap.size w11 w')
      have K8 := Lib.hid k80
      clear k80
      go_wp2_with fail
      refine (K8.out).mono ?_
      rintro e w12 ⟨rfl, hb12⟩
      have hw12 : Below w11.heap.size w11 w12 := hb12
      have hs12 : w11.heap.size ≤ w12.heap.size := hw12.size
      have hB12 : Below w.heap.size w w12 := hB11.trans (hw12.mono (by omega))
      have H0_12 : RdU w12 w.heap.size (.slice A0 xs0.length c0) xs0 := H0_11.below hw12 (by omega)
      clear H0_11
      have H1_12 : RdU w12 w.heap.size (.slice A1 xs1.length c1) xs1 := H1_11.below hw12 (by omega)
      clear H1_11
      have fb_12 : RdB w12 w1.heap.size (.agg #[.slice A2 ps.length c2]) ps := fb_11.below hw12 (by omega)
      clear fb_11
      have fc_12 : RdB w12 w9.heap.size (.agg #[.slice A3 qs.length c3]) qs := fc_11.below hw12 (by omega)
      clear fc_11
      have qb0_12 := (hw12.cell (p := ⟨w1.heap.size, 0, Option.none⟩) (by show w1.heap.size < _; omega)).trans qb0_11
      clear qb0_11
      have qc0_12 := (hw12.cell (p := ⟨w9.heap.size, 0, Option.none⟩) (by show w9.heap.size < _; omega)).trans qc0_11
      clear qc0_11
      clear K8
      clear fc_12
      clear qc0_12 HT3
      have hlt0 := firstPre_lt HFP.out
      have hpb := firstPre_is HFP.out
      obtain ⟨b1, o1, cc1, v1, t1, y1, hv, hbb1, hx1, _, hcell1, hr1, _⟩ := (by obtain ⟨_, hh, hq⟩ := fb_12; cases hh; exact hq : RdPS w12 w1.heap.size (.slice A2 ps.length c2) ps).at_ hlt0.1
      injection hv with hv1 hv2 hv3; subst hv1; clear hv2 hv3
      obtain ⟨b2, o2, cc2, v2, t2, y2, hv, hbb2, hx2, _, hcell2, hr2, _⟩ := (by obtain ⟨_, hh, hq⟩ := fb_12; cases hh; exact hq : RdPS w12 w1.heap.size (.slice (some ⟨b1, o1, Option.none⟩) ps.length c2) ps).at_ hlt0.2
      injection hv with hv1 hv2 hv3; cases hv1; clear hv2 hv3
      have hne : ((i0 : Int) == (k0 : Int)) = false := by unfold preB at hpb; rw [Bool.and_eq_true] at hpb; have h := hpb.1; simp at h; rw [beq_eq_false_iff_ne]; omega
      have hbg : begB y1 y2 = true := by unfold preB at hpb; rw [Bool.and_eq_true, sigAt_eq hx1, sigAt_eq hx2] at hpb; exact hpb.2
      have hle : y1.length ≤ y2.length := begB_le hbg
      have htk : y2.take y1.length = y1 := by unfold begB at hbg; rw [Bool.and_eq_true, decide_eq_true_eq, decide_eq_true_eq] at hbg; exact hbg.2.symm
      obtain ⟨Aa, ca, rfl, hca, hma⟩ := Rd.form hr1
      obtain ⟨Az, cz, rfl, hcz, hmz⟩ := Rd.form hr2
      have hrt := RdI.takeLe hr2 hle
      rw [htk] at hrt
      have hgl : decide (y2.length < y1.length) = false := decide_eq_false (by omega)
      have HR1 := Lib.hid hr1
      have HRT := Lib.hid hrt
      have hylz : y1.length ≤ cz := by omega
      clear hpb hbg htk hr1 hr2 hrt hx1 hx2
      go_wp2_with fail
      go_quiet (fail)
      have hb13 := bel_drewN w12.heap.size w12 nq
      have hrA := HR1.out.below hb13 (by omega)
      have hrB := HRT.out.below hb13 (by omega)
      have hw13 : Below w12.heap.size w12 (w12.drewN nq) := hb13
      have hs13 : w12.heap.size ≤ (w12.drewN nq).heap.size := hw13.size
      have hB13 : Below w.heap.size w (w12.drewN nq) := hB12.trans (hw13.mono (by omega))
      have H0_13 : RdU (w12.drewN nq) w.heap.size (.slice A0 xs0.length c0) xs0 := H0_12.below hw13 (by omega)
      clear H0_12
      have H1_13 : RdU (w12.drewN nq) w.heap.size (.slice A1 xs1.length c1) xs1 := H1_12.below hw13 (by omega)
      clear H1_12
      have fb_13 : RdB (w12.drewN nq) w1.heap.size (.agg #[.slice (some ⟨b1, o1, Option.none⟩) ps.length c2]) ps := fb_12.below hw13 (by omega)
      clear fb_12
      have qb0_13 := (hw13.cell (p := ⟨w1.heap.size, 0, Option.none⟩) (by show w1.heap.size < _; omega)).trans qb0_12
      clear qb0_12
      generalize w12.drewN nq = wh at hb13 hw13 hs13 hB13 H0_13 H1_13 fb_13 qb0_13 hrA hrB ⊢
      go_wp2_with fail
      refine (qInts_sameB _ _ _ _ _ _ hrA hrB).mono ?_
      rintro e w14 ⟨rfl, hb14⟩
      have hw14 : Below wh.heap.size wh w14 := hb14
      have hs14 : wh.heap.size ≤ w14.heap.size := hw14.size
      have hB14 : Below w.heap.size w w14 := hB13.trans (hw14.mono (by omega))
      have H0_14 : RdU w14 w.heap.size (.slice A0 xs0.length c0) xs0 := H0_13.below hw14 (by omega)
      clear H0_13
      have H1_14 : RdU w14 w.heap.size (.slice A1 xs1.length c1) xs1 := H1_13.below hw14 (by omega)
      clear H1_13
      have fb_14 : RdB w14 w1.heap.size (.agg #[.slice (some ⟨b1, o1, Option.none⟩) ps.length c2]) ps := fb_13.below hw14 (by omega)
      clear fb_13
      have qb0_14 := (hw14.cell (p := ⟨w1.heap.size, 0, Option.none⟩) (by show w1.heap.size < _; omega)).trans qb0_13
      clear qb0_13
      clear hrA hrB HR1 HRT hcell1 hcell2
      cases on
      · go_wp2_with fail
        go_ret
        exact ⟨rfl, hB14⟩
      · by_cases h14 : 14 < ps.length
        · go_wp2_with fail
          go_ret
          exact ⟨rfl, hB14⟩
        · clear H0_14
          clear H1_14
          go_wp2_with fail
          obtain ⟨n, hn⟩ : ∃ n, n = ps.length := ⟨_, rfl⟩
          have HN := Lib.hid hn
          have hn14 : n ≤ 14 := by omega
          have hfb := fb_14
          rw [← hn] at hfb
          rw [← hn]
          have hbc := qb0_14
          rw [← hn] at hbc
          clear hn h14
          have HFB := Lib.hid hfb
          clear hfb
          go_loopw [29, 207] (fun v i wr => ∃ k : Nat, k ≤ n ∧ i = .int .i64 (k : Int) ∧ Hid (GrowL w14 w14.heap.size wr v ((lsN n k).map waysI))) (fun _ i _ => n - (intOf i).toNat)
          case atStart => exact ⟨0, Nat.zero_le _, rfl, GrowL.start _ rfl⟩
          case round =>
            obtain ⟨k, hk, rfl, hg⟩ := hrel
            have hsr := hg.out.2.1.size
            have hbr := (hg.out.2.1.cell (p := ⟨w1.heap.size, 0, Option.none⟩) (by show w1.heap.size < w14.heap.size; omega)).trans hbc
            have hlenk := lsN_len n k
            have HLK := Lib.hid hlenk
            clear hlenk
            have hlb : k * (n + 1) ≤ 14 * 15 := Nat.mul_le_mul (by omega) (by omega)
            by_cases hlt : k < n
            · have HE := Lib.hid (el_lit (w := wr) (B := w14.heap.size) (g := wr.heap.size) (n := 1) (arr := #[.int .i64 (k : Int)]) [(k : Int)] rfl rfl rfl (by simp))
              have HGA := Lib.hid (hg.out.belowR ((Below.refl _ _).alloc (Nat.le_refl _) (.cells #[.int .i64 (k : Int)] 3)))
              have hm0 : ((lsN n k).map waysI).length ≤ 210 := by rw [List.length_map, HLK.out]; omega
              clear hg
              go_wp2_with (at_builtin; refine GrowL.appG rfl (.tmp 210) (.tmp 213) rfl HGA.out HE.out (by omega) rfl (by simp) rfl ?_; intro v5 w5 hG5; obtain ⟨A5, c5, hv5, _⟩ := hG5.form; obtain ⟨m5, hm5⟩ : ∃ m, m = ((lsN n k).map waysI ++ [[(k : Int)]]).length := ⟨_, rfl⟩; rw [← hm5] at hv5; subst hv5; have HG5 := Lib.hid hG5; clear hG5 hm5; have hs5 := HG5.out.2.1.size; have hb5 := (HG5.out.2.1.cell (p := ⟨w1.heap.size, 0, Option.none⟩) (by show w1.heap.size < w14.heap.size; omega)).trans hbc; clear hbr hsr)
              have hst : (lsN n k).map waysI ++ [[(k : Int)]] = (lsN n k ++ lsI k 0).map waysI := by rw [List.map_append]; rfl
              have HST : Hid (GrowL w14 w14.heap.size w5 (.slice A5 m5 c5) ((lsN n k ++ lsI k 0).map waysI)) := by have h := HG5.out; rwa [hst] at h
              clear HG5 hst
              go_loopw [29, 218] (fun v i wr => ∃ j : Nat, j ≤ n ∧ i = .int .i64 (j : Int) ∧ Hid (GrowL w14 w14.heap.size wr v ((lsN n k ++ lsI k j).map waysI))) (fun _ i _ => n - (intOf i).toNat)
              case atStart => exact ⟨0, Nat.zero_le _, rfl, HST.out⟩
              case round =>
                obtain ⟨j, hj, rfl, hg⟩ := hrel
                have hsr := hg.out.2.1.size
                have hbr := (hg.out.2.1.cell (p := ⟨w1.heap.size, 0, Option.none⟩) (by show w1.heap.size < w14.heap.size; omega)).trans hbc
                by_cases hltj : j < n
                · have HE := Lib.hid (el_lit (w := wr) (B := w14.heap.size) (g := wr.heap.size) (n := 2) (arr := #[.int .i64 (k : Int), .int .i64 (j : Int)]) [(k : Int), (j : Int)] rfl rfl rfl (by simp))
                  have HGA := Lib.hid (hg.out.belowR ((Below.refl _ _).alloc (Nat.le_refl _) (.cells #[.int .i64 (k : Int), .int .i64 (j : Int)] 3)))
                  have hm0 : ((lsN n k ++ lsI k j).map waysI).length ≤ 230 := by rw [List.length_map, List.length_append, HLK.out, lsI_len]; omega
                  clear hg
                  go_wp2_with (at_builtin; refine GrowL.appG rfl (.tmp 221) (.tmp 225) rfl HGA.out HE.out (by omega) rfl (by simp) rfl ?_; intro v6 w6 hG6; obtain ⟨A6, c6, hv6, _⟩ := hG6.form; obtain ⟨m6, hm6⟩ : ∃ m, m = ((lsN n k ++ lsI k j).map waysI ++ [[(k : Int), (j : Int)]]).length := ⟨_, rfl⟩; rw [← hm6] at hv6; subst hv6; have HG6 := Lib.hid hG6; clear hG6 hm6)
                  have hst : (lsN n k ++ lsI k j).map waysI ++ [[(k : Int), (j : Int)]] = (lsN n k ++ lsI k (j + 1)).map waysI := by rw [lsI_succ, ← List.append_assoc, List.map_append (l₂ := [[k, j]])]; rfl
                  have HST6 : Hid (GrowL w14 w14.heap.size w6 (.slice A6 m6 c6) ((lsN n k ++ lsI k (j + 1)).map waysI)) := by have h := HG6.out; rwa [hst] at h
                  clear HG6 hst
                  go_roundw
                  case rel => exact ⟨j + 1, by omega, by go_num, HST6.out⟩
                  case measure => (simp [intOf]; try omega)
                · obtain rfl : j = n := by omega
                  have HL : Hid (GrowL w14 w14.heap.size wr _ ((lsN j (k + 1)).map waysI)) := hg.out
                  clear hg
                  go_wp2_with fail
                  go_roundw
                  case rel => exact ⟨k + 1, by omega, by go_num, HL.out⟩
                  case measure => (simp [intOf]; try omega)
            · obtain rfl : k = n := by omega
              obtain ⟨A5, c5, rfl, _⟩ := hg.out.form
              have hbel := hg.out.2.1
              have hrl := hg.out.rd
              have hlenk := HLK.out
              clear HLK
              obtain ⟨N, hN⟩ : ∃ N, N = k * (k + 1) := ⟨_, rfl⟩
              have hcap : N ≤ c5 := by obtain ⟨us, _, hrd⟩ := hrl; obtain ⟨_, _, hv, h1, _⟩ := Rd.form hrd; injection hv with h2 h3 h4; rw [hN, ← hlenk]; rw [List.length_map] at h1; omega
              rw [List.length_map, hlenk] at hrl ⊢
              rw [← hN] at hrl hlenk hlb ⊢
              have HLN := Lib.hid hlenk
              have HRL := Lib.hid hrl
              clear hg hN hlenk hrl
              obtain ⟨wz, hwz⟩ : ∃ wz, wz = wr := ⟨_, rfl⟩; subst hwz
              have HBZ := Lib.hid (hB14.trans (hbel.mono (by omega)))
              have HFZ := Lib.hid (HFB.out.below hbel (by omega))
              have HBZC := Lib.hid ((hbel.cell (p := ⟨w1.heap.size, 0, Option.none⟩) (by show w1.heap.size < w14.heap.size; omega)).trans hbc)
              have hszz := hbel.size
              clear hbel
              go_wp2_with fail
              go_loopw [231] (fun i wr => ∃ j : Nat, j ≤ N ∧ i = .int .i64 (j : Int) ∧ Hid (Below wz.heap.size wz wr)) (fun i _ => N - (intOf i).toNat)
              case atStart => exact ⟨0, Nat.zero_le _, rfl, Below.refl _ _⟩
              case round =>
                obtain ⟨j, hj, rfl, HBW⟩ := hrel
                have hsw := HBW.out.size
                by_cases hltj : j < N
                · have hrw := HRL.out.below HBW.out (Nat.le_refl _)
                  have hjl : j < ((lsN k k).map waysI).length := by rw [List.length_map, HLN.out]; exact hltj
                  obtain ⟨bl, ol, cl, ua, xa, hv, hbl, hxa, hcella, hra⟩ := hrw.at_ hjl
                  injection hv with hv1 hv2 hv3; cases hv1; clear hv2 hv3
                  rw [List.getElem?_map, Option.map_eq_some_iff] at hxa
                  obtain ⟨la, hla, rfl⟩ := hxa
                  obtain ⟨Aa, ca, rfl, hca, hma⟩ := Rd.form hra
                  have HRA := Lib.hid hra
                  have HLA := Lib.hid hla
                  clear hra hla hjl hrw
                  obtain ⟨wo, hwo⟩ : ∃ wo, wo = wr := ⟨_, rfl⟩; subst hwo
                  go_wp2_with fail
                  go_loopw [240] (fun i wr => ∃ t : Nat, t ≤ j ∧ i = .int .i64 (t : Int) ∧ Hid (Below wo.heap.size wo wr)) (fun i _ => j - (intOf i).toNat)
                  case atStart => exact ⟨0, Nat.zero_le _, rfl, Below.refl _ _⟩
                  case round =>
                    obtain ⟨t, ht, rfl, HBV⟩ := hrel
                    have hsv := HBV.out.size
                    by_cases hltt : t < j
                    · have HBT := Lib.hid (HBW.out.trans (HBV.out.mono hsw))
                      have hrw := HRL.out.below HBT.out (Nat.le_refl _)
                      have htl : t < ((lsN k k).map waysI).length := by rw [List.length_map, HLN.out]; omega
                      obtain ⟨bm, om, cm, uz, xz, hv, hbm, hxz, hcellz, hrz⟩ := hrw.at_ htl
                      injection hv with hv1 hv2 hv3; cases hv1; clear hv2 hv3
                      rw [List.getElem?_map, Option.map_eq_some_iff] at hxz
                      obtain ⟨lz, hlz, rfl⟩ := hxz
                      obtain ⟨Az, cz, rfl, hcz, hmz⟩ := Rd.form hrz
                      have hda : decide (sigsOf ps la = sigsOf ps lz) = false := by
                        have h1 := HLA.out; rw [HN.out] at h1; have h2 := hlz; rw [HN.out] at h2
                        exact ls_differ HBK.out HON.out h1 h2 (by omega)
                      have hma2 : (∀ i ∈ la, i < ps.length) ∧ la.length ≤ 2 := by have h := lsN_mem (Nat.le_refl _) (List.mem_of_getElem? HLA.out); rw [← HN.out]; exact ⟨h.1, h.2.2⟩
                      have hmz2 : (∀ i ∈ lz, i < ps.length) ∧ lz.length ≤ 2 := by have h := lsN_mem (Nat.le_refl _) (List.mem_of_getElem? hlz); rw [← HN.out]; exact ⟨h.1, h.2.2⟩
                      have HDA := Lib.hid hda
                      have HMA := Lib.hid hma2
                      have HMZ := Lib.hid hmz2
                      have hb0 : Below wr.heap.size wr wr.drew := (Below.refl _ _).drew
                      have hsd : wr.heap.size ≤ wr.drew.heap.size := Nat.le_refl _
                      have hfd := (HFZ.out.below HBT.out (by omega)).below hb0 (by omega)
                      have hrad := (HRA.out.below HBV.out (by omega)).below hb0 (by omega)
                      have hrzd := hrz.below hb0 (by omega)
                      have hbcz := (HBT.out.cell (p := ⟨w1.heap.size, 0, Option.none⟩) (by show w1.heap.size < wz.heap.size; omega)).trans HBZC.out
                      have hbcd : wr.drew.cell? ⟨w1.heap.size, 0, Option.none⟩ = some (.slice (some ⟨b1, o1, Option.none⟩) k c2) := hbcz
                      have HBLZ : w1.heap.size < wr.drew.heap.size := by omega
                      clear hrz hlz hda hma2 hmz2 hrw htl
                      go_upto_region 40 with fail
                      go_cut [250] (fun s wx => s = .bool false ∧ Hid (Below wo.heap.size wo wx))
                      case first =>
                        go_region_law (first
                          | ((go_simp; go_at_call 52; (with_reducible refine (qJoined_any ps la _ _ _ _ _ (by first | (with_reducible exact hfd) | (with_reducible exact hfz)) (by first | (with_reducible exact hrad) | (with_reducible exact hra2)) (by omega) (by omega) HBK.out HMA.out.1 (by have := HMA.out.2; omega)).mono ?_); rintro e w5 ⟨va, rfl, hoa, hba⟩; have hsa := hba.size; (first | (have hozF := hoz.rd.below hba (Nat.le_refl _)) | (have hfa := hfd.below hba (by omega); have hrz2 := hrzd.below hba (by omega); have hca := (hba.cell (p := ⟨w1.heap.size, 0, Option.none⟩) (by show w1.heap.size < wr.drew.heap.size; omega)).trans hbcd))))
                          | ((go_simp; go_at_call 52; (with_reducible refine (qJoined_any ps lz _ _ _ _ _ (by first | (with_reducible exact hfd) | (with_reducible exact hfa)) (by first | (with_reducible exact hrzd) | (with_reducible exact hrz2)) (by omega) (by omega) HBK.out HMZ.out.1 (by have := HMZ.out.2; omega)).mono ?_); rintro e w6 ⟨vz, rfl, hoz, hbz⟩; have hsz := hbz.size; (first | (have hoaF := hoa.rd.below hbz (Nat.le_refl _)) | (have hfz := hfd.below hbz (by omega); have hra2 := hrad.below hbz (by omega); have hcz := (hbz.cell (p := ⟨w1.heap.size, 0, Option.none⟩) (by show w1.heap.size < wr.drew.heap.size; omega)).trans hbcd))))
                          | ((go_simp; go_at_call 51; (with_reducible refine (qInts_any (sigsOf ps la) (sigsOf ps lz) _ _ _ _ _ (by first | (with_reducible exact hoaF) | (with_reducible exact hoa.rd)) (by first | (with_reducible exact hozF) | (with_reducible exact hoz.rd))).mono ?_); rintro e w7 ⟨he, n7, hw7⟩; rw [HDA.out] at he; subst he; subst hw7)))
                        all_goals
                          first
                            | have HFIN := Lib.hid ((((HBV.out.trans (hb0.mono hsv)).trans (hba.mono (by omega))).trans (hbz.mono (by omega))).trans (bel_drewN wo.heap.size _ n7))
                            | have HFIN := Lib.hid ((((HBV.out.trans (hb0.mono hsv)).trans (hbz.mono (by omega))).trans (hba.mono (by omega))).trans (bel_drewN wo.heap.size _ n7))
                          go_wp2_with fail
                          go_meet
                          exact ⟨rfl, HFIN.out⟩
                      case rest =>
                        obtain ⟨rfl, HFIN⟩ := hcut
                        clear hfd hrad hrzd hbcz hbcd hb0 HBLZ hsd
                        go_wp2_with fail
                        go_roundw
                        case rel => exact ⟨t + 1, by omega, by go_num, HFIN.out⟩
                        case measure => (simp [intOf]; try omega)
                    · obtain rfl : t = j := by omega
                      go_wp2_with fail
                      go_roundw
                      case rel => exact ⟨t + 1, by omega, by go_num, HBW.out.trans (HBV.out.mono hsw)⟩
                      case measure => (simp [intOf]; try omega)
                · obtain rfl : j = N := by omega
                  go_wp2_with fail
                  go_ret
                  exact ⟨rfl, HBZ.out.trans (HBW.out.mono (by have := HBZ.out.size; omega))⟩
end Go.Proofs.Ytabiobjcfopakaa.fnReadOneWay
