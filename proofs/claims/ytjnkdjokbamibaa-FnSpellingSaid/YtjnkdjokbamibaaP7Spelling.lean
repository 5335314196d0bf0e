/- Texts of one claim, joined: VSpelling. -/
import Derived.Test.YtjnkdjokbamibaaP6Spelling
/- The walk of the law FnSpelling. -/
namespace Go.Proofs.Ytjnkdjokbamibaa.fnSpelling
open Go.ChangeShapes Go.WideShapes Go.ChangeAt Go.RowKit
open Go.ChangeMaps (open_string)
set_option linter.unusedVariables false
set_option maxHeartbeats 20000000 in
set_option maxRecDepth 100000 in
theorem walk (v0 : Value) (xs0 : List UInt8) (v1 : Value) (xs1 : List UInt8) (w : World) (hr0 : RdU w w.heap.size v0 xs0) (hr1 : RdU w w.heap.size v1 xs1) : Calls Try.prog 5 #[v0, v1] w fun e w' => e = .returned (.bool true) ∧ Below w.heap.size w w' := by
  obtain ⟨A0, c0, rfl, hc0, hm0⟩ := Rd.form hr0
  obtain ⟨A1, c1, rfl, hc1, hm1⟩ := Rd.form hr1
  have cb := big_any xs0 xs1 _ _ _ _ w hr0 hr1
  have H0 := Lib.hid hr0
  have H1 := Lib.hid hr1
  clear hr0 hr1
  cases hbig : (decide (1048576 < xs0.length) || decide (1048576 - (xs0.length : Int) < xs1.length))
  · rw [hbig] at cb
    have CB := Lib.hid cb
    clear cb hbig
    go_enter Try.func5, Try.ntmps5
    go_wp2_with fail
    refine CB.out.mono ?_
    rintro e _ ⟨rfl, rfl⟩
    clear CB
    go_wp2_with fail
    refine (DrawSpellMessage_any xs0 _ w.heap.size w H0.out (Nat.le_refl _)).mono ?_
    rintro e w1 ⟨u2, n2, s, rfl, hn2, hsz2, hr2, hb1⟩
    obtain ⟨A2, c2, rfl⟩ := hr2.form
    obtain ⟨ps, hpl2, fb⟩ := hr2.rdb
    subst hpl2
    clear hr2
    have hw1 : Below w.heap.size w w1 := hb1
    have hs1 : w.heap.size ≤ w1.heap.size := hw1.size
    have hB1 : Below w.heap.size w w1 := hw1.mono (by omega)
    have H0_1 : RdU w1 w.heap.size (.slice A0 xs0.length c0) xs0 := H0.out.below hw1 (by omega)
    have H1_1 : RdU w1 w.heap.size (.slice A1 xs1.length c1) xs1 := H1.out.below hw1 (by omega)
    have hb2 : Below w1.heap.size w1 (w1.alloc (.cells #[.slice A2 ps.length c2] 28)) := (Below.refl _ _).alloc (Nat.le_refl _) _
    have hz2 : (w1.alloc (.cells #[.slice A2 ps.length c2] 28)).heap.size = w1.heap.size + 1 := by simp
    have qb20_2 : (w1.alloc (.cells #[.slice A2 ps.length c2] 28)).cell? ⟨w1.heap.size, 0, Option.none⟩ = some (.slice A2 ps.length c2) := (Blk.new w1 28 #[.slice A2 ps.length c2]).cell 0
    go_wp2_with fail
    generalize w1.alloc (.cells #[.slice A2 ps.length c2] 28) = w2 at hb2 hz2 qb20_2 ⊢
    have hy2 : w1.heap.size + 1 ≤ w2.heap.size := by omega
    clear hz2
    have hw2 : Below w1.heap.size w1 w2 := hb2
    have hs2 : w1.heap.size ≤ w2.heap.size := hw2.size
    have hB2 : Below w.heap.size w w2 := hB1.trans (hw2.mono (by omega))
    have H0_2 : RdU w2 w.heap.size (.slice A0 xs0.length c0) xs0 := H0_1.below hw2 (by omega)
    clear H0_1
    have H1_2 : RdU w2 w.heap.size (.slice A1 xs1.length c1) xs1 := H1_1.below hw2 (by omega)
    clear H1_1
    have fb_2 : RdB w2 w1.heap.size (.agg #[.slice A2 ps.length c2]) ps := fb.below hw2 (by omega)
    clear fb
    have hsm : s.size ≤ maxLen := by unfold maxLen; omega
    cases hgd : (bookB ps && lettB s)
    · have HGD := Lib.hid hgd
      have HL := Lib.hid (leastO_no hgd)
      clear hgd
      have k10 := (by have h := SpellMessage_any ps s _ _ w2 hsm fb_2 (by omega); rw [spellN_no HL.out, show waysI [] = [] from rfl, HL.out, show (Option.none : Option Nat).isSome = false from rfl] at h; exact h : Calls Try.prog 22 #[.agg #[.slice A2 ps.length c2], .string s] w2 (RetOwT ([]) false w2))
      have K1 := Lib.hid k10
      clear k10
      go_wp2_with fail
      refine (K1.out).mono ?_
      rintro e w3 ⟨x, rfl, fx, hb3⟩
      obtain ⟨Ax, cx, rfl, _⟩ := fx.form
      have fx_3 : RdI w3 w3.heap.size (.slice Ax ([]).length cx) ([]) := fx.rd
      clear fx
      have hw3 : Below w2.heap.size w2 w3 := hb3
      have hs3 : w2.heap.size ≤ w3.heap.size := hw3.size
      have hB3 : Below w.heap.size w w3 := hB2.trans (hw3.mono (by omega))
      have H0_3 : RdU w3 w.heap.size (.slice A0 xs0.length c0) xs0 := H0_2.below hw3 (by omega)
      clear H0_2
      have H1_3 : RdU w3 w.heap.size (.slice A1 xs1.length c1) xs1 := H1_2.below hw3 (by omega)
      clear H1_2
      have fb_3 : RdB w3 w1.heap.size (.agg #[.slice A2 ps.length c2]) ps := fb_2.below hw3 (by omega)
      clear fb_2
      have qb20_3 := (hw3.cell (p := ⟨w1.heap.size, 0, Option.none⟩) (by show w1.heap.size < _; omega)).trans qb20_2
      clear qb20_2
      clear K1
      have k20 := (by have h := sSpellMessage_any ps s _ _ w3 hsm fb_3 (by omega); rw [spellN_no HL.out, show waysI [] = [] from rfl, HL.out, show (Option.none : Option Nat).isSome = false from rfl] at h; exact h : Calls Try.prog 23 #[.agg #[.slice A2 ps.length c2], .string s] w3 (RetOwT ([]) false w3))
      have K2 := Lib.hid k20
      clear k20
      go_wp2_with fail
      refine (K2.out).mono ?_
      rintro e w4 ⟨y, rfl, fy, hb4⟩
      obtain ⟨Ay, cy, rfl, _⟩ := fy.form
      have fy_4 : RdI w4 w4.heap.size (.slice Ay ([]).length cy) ([]) := fy.rd
      clear fy
      have hw4 : Below w3.heap.size w3 w4 := hb4
      have hs4 : w3.heap.size ≤ w4.heap.size := hw4.size
      have hB4 : Below w.heap.size w w4 := hB3.trans (hw4.mono (by omega))
      have H0_4 : RdU w4 w.heap.size (.slice A0 xs0.length c0) xs0 := H0_3.below hw4 (by omega)
      clear H0_3
      have H1_4 : RdU w4 w.heap.size (.slice A1 xs1.length c1) xs1 := H1_3.below hw4 (by omega)
      clear H1_3
      have fb_4 : RdB w4 w1.heap.size (.agg #[.slice A2 ps.length c2]) ps := fb_3.below hw4 (by omega)
      clear fb_3
      have fx_4 : RdI w4 w3.heap.size (.slice Ax ([]).length cx) ([]) := fx_3.below hw4 (by omega)
      clear fx_3
      have qb20_4 := (hw4.cell (p := ⟨w1.heap.size, 0, Option.none⟩) (by show w1.heap.size < _; omega)).trans qb20_3
      clear qb20_3
      clear K2
      have k30 := (by have h := EncodeMessage_any ps s _ _ w4 hsm fb_4 (by omega); rw [spellN_no HL.out, show sigsOf ps [] = [] from rfl, HL.out, show (Option.none : Option Nat).isSome = false from rfl] at h; exact h : Calls Try.prog 24 #[.agg #[.slice A2 ps.length c2], .string s] w4 (RetOwT ([]) false w4))
      have K3 := Lib.hid k30
      clear k30
      go_wp2_with fail
      refine (K3.out).mono ?_
      rintro e w5 ⟨p, rfl, fp, hb5⟩
      obtain ⟨Ap, cp, rfl, _⟩ := fp.form
      have fp_5 : RdI w5 w5.heap.size (.slice Ap ([]).length cp) ([]) := fp.rd
      clear fp
      have hw5 : Below w4.heap.size w4 w5 := hb5
      have hs5 : w4.heap.size ≤ w5.heap.size := hw5.size
      have hB5 : Below w.heap.size w w5 := hB4.trans (hw5.mono (by omega))
      have H0_5 : RdU w5 w.heap.size (.slice A0 xs0.length c0) xs0 := H0_4.below hw5 (by omega)
      clear H0_4
      have H1_5 : RdU w5 w.heap.size (.slice A1 xs1.length c1) xs1 := H1_4.below hw5 (by omega)
      clear H1_4
      have fb_5 : RdB w5 w1.heap.size (.agg #[.slice A2 ps.length c2]) ps := fb_4.below hw5 (by omega)
      clear fb_4
      have fx_5 : RdI w5 w3.heap.size (.slice Ax ([]).length cx) ([]) := fx_4.below hw5 (by omega)
      clear fx_4
      have fy_5 : RdI w5 w4.heap.size (.slice Ay ([]).length cy) ([]) := fy_4.below hw5 (by omega)
      clear fy_4
      have qb20_5 := (hw5.cell (p := ⟨w1.heap.size, 0, Option.none⟩) (by show w1.heap.size < _; omega)).trans qb20_4
      clear qb20_4
      clear K3
      have k40 := (by have h := sEncodeMessage_any ps s _ _ w5 hsm fb_5 (by omega); rw [spellN_no HL.out, show sigsOf ps [] = [] from rfl, HL.out, show (Option.none : Option Nat).isSome = false from rfl] at h; exact h : Calls Try.prog 25 #[.agg #[.slice A2 ps.length c2], .string s] w5 (RetOwT ([]) false w5))
      have K4 := Lib.hid k40
      clear k40
      go_wp2_with fail
      refine (K4.out).mono ?_
      rintro e w6 ⟨q, rfl, fq, hb6⟩
      obtain ⟨Aq, cq, rfl, _⟩ := fq.form
      have fq_6 : RdI w6 w6.heap.size (.slice Aq ([]).length cq) ([]) := fq.rd
      clear fq
      have hw6 : Below w5.heap.size w5 w6 := hb6
      have hs6 : w5.heap.size ≤ w6.heap.size := hw6.size
      have hB6 : Below w.heap.size w w6 := hB5.trans (hw6.mono (by omega))
      have H0_6 : RdU w6 w.heap.size (.slice A0 xs0.length c0) xs0 := H0_5.below hw6 (by omega)
      clear H0_5
      have H1_6 : RdU w6 w.heap.size (.slice A1 xs1.length c1) xs1 := H1_5.below hw6 (by omega)
      clear H1_5
      have fb_6 : RdB w6 w1.heap.size (.agg #[.slice A2 ps.length c2]) ps := fb_5.below hw6 (by omega)
      clear fb_5
      have fx_6 : RdI w6 w3.heap.size (.slice Ax ([]).length cx) ([]) := fx_5.below hw6 (by omega)
      clear fx_5
      have fy_6 : RdI w6 w4.heap.size (.slice Ay ([]).length cy) ([]) := fy_5.below hw6 (by omega)
      clear fy_5
      have fp_6 : RdI w6 w5.heap.size (.slice Ap ([]).length cp) ([]) := fp_5.below hw6 (by omega)
      clear fp_5
      have qb20_6 := (hw6.cell (p := ⟨w1.heap.size, 0, Option.none⟩) (by show w1.heap.size < _; omega)).trans qb20_5
      clear qb20_5
      clear K4
      have k50 := (by have h := LeastSignals_any ps s _ _ w6 hsm fb_6 (by omega); rw [HL.out, show lstV Option.none = .tuple #[.int .i64 (0), .bool false] from rfl] at h; exact h : Calls Try.prog 26 #[.agg #[.slice A2 ps.length c2], .string s] w6 fun e w' => e = .returned (.tuple #[.int .i64 (0), .bool false]) ∧ Below w6.heap.size w6 w')
      have K5 := Lib.hid k50
      clear k50
      go_wp2_with fail
      refine (K5.out).mono ?_
      rintro e w7 ⟨rfl, hb7⟩
      have hw7 : Below w6.heap.size w6 w7 := hb7
      have hs7 : w6.heap.size ≤ w7.heap.size := hw7.size
      have hB7 : Below w.heap.size w w7 := hB6.trans (hw7.mono (by omega))
      have H0_7 : RdU w7 w.heap.size (.slice A0 xs0.length c0) xs0 := H0_6.below hw7 (by omega)
      clear H0_6
      have H1_7 : RdU w7 w.heap.size (.slice A1 xs1.length c1) xs1 := H1_6.below hw7 (by omega)
      clear H1_6
      have fb_7 : RdB w7 w1.heap.size (.agg #[.slice A2 ps.length c2]) ps := fb_6.below hw7 (by omega)
      clear fb_6
      have fx_7 : RdI w7 w3.heap.size (.slice Ax ([]).length cx) ([]) := fx_6.below hw7 (by omega)
      clear fx_6
      have fy_7 : RdI w7 w4.heap.size (.slice Ay ([]).length cy) ([]) := fy_6.below hw7 (by omega)
      clear fy_6
      have fp_7 : RdI w7 w5.heap.size (.slice Ap ([]).length cp) ([]) := fp_6.below hw7 (by omega)
      clear fp_6
      have fq_7 : RdI w7 w6.heap.size (.slice Aq ([]).length cq) ([]) := fq_6.below hw7 (by omega)
      clear fq_6
      have qb20_7 := (hw7.cell (p := ⟨w1.heap.size, 0, Option.none⟩) (by show w1.heap.size < _; omega)).trans qb20_6
      clear qb20_6
      clear K5
      have k60 := (by have h := sLeastSignals_any ps s _ _ w7 hsm fb_7 (by omega); rw [HL.out, show lstV Option.none = .tuple #[.int .i64 (0), .bool false] from rfl] at h; exact h : Calls Try.prog 27 #[.agg #[.slice A2 ps.length c2], .string s] w7 fun e w' => e = .returned (.tuple #[.int .i64 (0), .bool false]) ∧ Below w7.heap.size w7 w')
      have K6 := Lib.hid k60
      clear k60
      go_wp2_with fail
      refine (K6.out).mono ?_
      rintro e w8 ⟨rfl, hb8⟩
      have hw8 : Below w7.heap.size w7 w8 := hb8
      have hs8 : w7.heap.size ≤ w8.heap.size := hw8.size
      have hB8 : Below w.heap.size w w8 := hB7.trans (hw8.mono (by omega))
      have H0_8 : RdU w8 w.heap.size (.slice A0 xs0.length c0) xs0 := H0_7.below hw8 (by omega)
      clear H0_7
      have H1_8 : RdU w8 w.heap.size (.slice A1 xs1.length c1) xs1 := H1_7.below hw8 (by omega)
      clear H1_7
      have fb_8 : RdB w8 w1.heap.size (.agg #[.slice A2 ps.length c2]) ps := fb_7.below hw8 (by omega)
      clear fb_7
      have fx_8 : RdI w8 w3.heap.size (.slice Ax ([]).length cx) ([]) := fx_7.below hw8 (by omega)
      clear fx_7
      have fy_8 : RdI w8 w4.heap.size (.slice Ay ([]).length cy) ([]) := fy_7.below hw8 (by omega)
      clear fy_7
      have fp_8 : RdI w8 w5.heap.size (.slice Ap ([]).length cp) ([]) := fp_7.below hw8 (by omega)
      clear fp_7
      have fq_8 : RdI w8 w6.heap.size (.slice Aq ([]).length cq) ([]) := fq_7.below hw8 (by omega)
      clear fq_7
      have qb20_8 := (hw8.cell (p := ⟨w1.heap.size, 0, Option.none⟩) (by show w1.heap.size < _; omega)).trans qb20_7
      clear qb20_7
      clear K6
      have k70 := (by have h := CountSpellings_any ps s _ _ w8 hsm fb_8 (by omega); rw [HGD.out, show cntV false (cntT ps s) = .tuple #[.int .i64 (0), .bool false] from rfl] at h; exact h : Calls Try.prog 28 #[.agg #[.slice A2 ps.length c2], .string s] w8 fun e w' => e = .returned (.tuple #[.int .i64 (0), .bool false]) ∧ Below w8.heap.size w8 w')
      have K7 := Lib.hid k70
      clear k70
      go_wp2_with fail
      refine (K7.out).mono ?_
      rintro e w9 ⟨rfl, hb9⟩
      have hw9 : Below w8.heap.size w8 w9 := hb9
      have hs9 : w8.heap.size ≤ w9.heap.size := hw9.size
      have hB9 : Below w.heap.size w w9 := hB8.trans (hw9.mono (by omega))
      have H0_9 : RdU w9 w.heap.size (.slice A0 xs0.length c0) xs0 := H0_8.below hw9 (by omega)
      clear H0_8
      have H1_9 : RdU w9 w.heap.size (.slice A1 xs1.length c1) xs1 := H1_8.below hw9 (by omega)
      clear H1_8
      have fb_9 : RdB w9 w1.heap.size (.agg #[.slice A2 ps.length c2]) ps := fb_8.below hw9 (by omega)
      clear fb_8
      have fx_9 : RdI w9 w3.heap.size (.slice Ax ([]).length cx) ([]) := fx_8.below hw9 (by omega)
      clear fx_8
      have fy_9 : RdI w9 w4.heap.size (.slice Ay ([]).length cy) ([]) := fy_8.below hw9 (by omega)
      clear fy_8
      have fp_9 : RdI w9 w5.heap.size (.slice Ap ([]).length cp) ([]) := fp_8.below hw9 (by omega)
      clear fp_8
      have fq_9 : RdI w9 w6.heap.size (.slice Aq ([]).length cq) ([]) := fq_8.below hw9 (by omega)
      clear fq_8
      have qb20_9 := (hw9.cell (p := ⟨w1.heap.size, 0, Option.none⟩) (by show w1.heap.size < _; omega)).trans qb20_8
      clear qb20_8
      clear K7
      have k80 := (by have h := sCountSpellings_any ps s _ _ w9 hsm fb_9 (by omega); rw [HGD.out, show cntV false (cntT ps s) = .tuple #[.int .i64 (0), .bool false] from rfl] at h; exact h : Calls Try.prog 29 #[.agg #[.slice A2 ps.length c2], .string s] w9 fun e w' => e = .returned (.tuple #[.int .i64 (0), .bool false]) ∧ Below w9.heap.size w9 w')
      have K8 := Lib.hid k80
      clear k80
      go_wp2_with fail
      refine (K8.out).mono ?_
      rintro e w10 ⟨rfl, hb10⟩
      have hw10 : Below w9.heap.size w9 w10 := hb10
      have hs10 : w9.heap.size ≤ w10.heap.size := hw10.size
      have hB10 : Below w.heap.size w w10 := hB9.trans (hw10.mono (by omega))
      have H0_10 : RdU w10 w.heap.size (.slice A0 xs0.length c0) xs0 := H0_9.below hw10 (by omega)
      clear H0_9
      have H1_10 : RdU w10 w.heap.size (.slice A1 xs1.length c1) xs1 := H1_9.below hw10 (by omega)
      clear H1_9
      have fb_10 : RdB w10 w1.heap.size (.agg #[.slice A2 ps.length c2]) ps := fb_9.below hw10 (by omega)
      clear fb_9
      have fx_10 : RdI w10 w3.heap.size (.slice Ax ([]).length cx) ([]) := fx_9.below hw10 (by omega)
      clear fx_9
      have fy_10 : RdI w10 w4.heap.size (.slice Ay ([]).length cy) ([]) := fy_9.below hw10 (by omega)
      clear fy_9
      have fp_10 : RdI w10 w5.heap.size (.slice Ap ([]).length cp) ([]) := fp_9.below hw10 (by omega)
      clear fp_9
      have fq_10 : RdI w10 w6.heap.size (.slice Aq ([]).length cq) ([]) := fq_9.below hw10 (by omega)
      clear fq_9
      have qb20_10 := (hw10.cell (p := ⟨w1.heap.size, 0, Option.none⟩) (by show w1.heap.size < _; omega)).trans qb20_9
      clear qb20_9
      clear K8
      have k90 := (by have h := SpelledPart_any ps s _ _ w10 hsm fb_10 (by omega); rw [HGD.out, show cntV false (partV ps s) = .tuple #[.int .i64 (0), .bool false] from rfl] at h; exact h : Calls Try.prog 30 #[.agg #[.slice A2 ps.length c2], .string s] w10 fun e w' => e = .returned (.tuple #[.int .i64 (0), .bool false]) ∧ Below w10.heap.size w10 w')
      have K9 := Lib.hid k90
      clear k90
      go_wp2_with fail
      refine (K9.out).mono ?_
      rintro e w11 ⟨rfl, hb11⟩
      have hw11 : Below w10.heap.size w10 w11 := hb11
      have hs11 : w10.heap.size ≤ w11.heap.size := hw11.size
      have hB11 : Below w.heap.size w w11 := hB10.trans (hw11.mono (by omega))
      have H0_11 : RdU w11 w.heap.size (.slice A0 xs0.length c0) xs0 := H0_10.below hw11 (by omega)
      clear H0_10
      have H1_11 : RdU w11 w.heap.size (.slice A1 xs1.length c1) xs1 := H1_10.below hw11 (by omega)
      clear H1_10
      have fb_11 : RdB w11 w1.heap.size (.agg #[.slice A2 ps.length c2]) ps := fb_10.below hw11 (by omega)
      clear fb_10
      have fx_11 : RdI w11 w3.heap.size (.slice Ax ([]).length cx) ([]) := fx_10.below hw11 (by omega)
      clear fx_10
      have fy_11 : RdI w11 w4.heap.size (.slice Ay ([]).length cy) ([]) := fy_10.below hw11 (by omega)
      clear fy_10
      have fp_11 : RdI w11 w5.heap.size (.slice Ap ([]).length cp) ([]) := fp_10.below hw11 (by omega)
      clear fp_10
      have fq_11 : RdI w11 w6.heap.size (.slice Aq ([]).length cq) ([]) := fq_10.below hw11 (by omega)
      clear fq_10
      have qb20_11 := (hw11.cell (p := ⟨w1.heap.size, 0, Option.none⟩) (by show w1.heap.size < _; omega)).trans qb20_10
      clear qb20_10
      clear K9
      have ka0 := (by have h := sSpelledPart_any ps s _ _ w11 hsm fb_11 (by omega); rw [HGD.out, show cntV false (partV ps s) = .tuple #[.int .i64 (0), .bool false] from rfl] at h; exact h : Calls Try.prog 31 #[.agg #[.slice A2 ps.length c2], .string s] w11 fun e w' => e = .returned (.tuple #[.int .i64 (0), .bool false]) ∧ Below w11.heap.size w11 w')
      have KA := Lib.hid ka0
      clear ka0
      go_wp2_with fail
      refine (KA.out).mono ?_
      rintro e w12 ⟨rfl, hb12⟩
      have hw12 : Below w11.heap.size w11 w12 := hb12
      have hs12 : w11.heap.size ≤ w12.heap.size := hw12.size
      have hB12 : Below w.heap.size w w12 := hB11.trans (hw12.mono (by omega))
      have H0_12 : RdU w12 w.heap.size (.slice A0 xs0.length c0) xs0 := H0_11.below hw12 (by omega)
      clear H0_11
      have H1_12 : RdU w12 w.heap.size (.slice A1 xs1.length c1) xs1 := H1_11.below hw12 (by omega)
      clear H1_11
      have fb_12 : RdB w12 w1.heap.size (.agg #[.slice A2 ps.length c2]) ps := fb_11.below hw12 (by omega)
      clear fb_11
      have fx_12 : RdI w12 w3.heap.size (.slice Ax ([]).length cx) ([]) := fx_11.below hw12 (by omega)
      clear fx_11
      have fy_12 : RdI w12 w4.heap.size (.slice Ay ([]).length cy) ([]) := fy_11.below hw12 (by omega)
      clear fy_11
      have fp_12 : RdI w12 w5.heap.size (.slice Ap ([]).length cp) ([]) := fp_11.below hw12 (by omega)
      clear fp_11
      have fq_12 : RdI w12 w6.heap.size (.slice Aq ([]).length cq) ([]) := fq_11.below hw12 (by omega)
      clear fq_11
      have qb20_12 := (hw12.cell (p := ⟨w1.heap.size, 0, Option.none⟩) (by show w1.heap.size < _; omega)).trans qb20_11
      clear qb20_11
      clear KA
      go_wp2_with fail
      refine (sameInts_sameB _ _ _ _ _ _ fx_12 fy_12).mono ?_
      rintro e w13 ⟨rfl, hb13⟩
      have hw13 : Below w12.heap.size w12 w13 := hb13
      have hs13 : w12.heap.size ≤ w13.heap.size := hw13.size
      have hB13 : Below w.heap.size w w13 := hB12.trans (hw13.mono (by omega))
      have H0_13 : RdU w13 w.heap.size (.slice A0 xs0.length c0) xs0 := H0_12.below hw13 (by omega)
      clear H0_12
      have H1_13 : RdU w13 w.heap.size (.slice A1 xs1.length c1) xs1 := H1_12.below hw13 (by omega)
      clear H1_12
      have fb_13 : RdB w13 w1.heap.size (.agg #[.slice A2 ps.length c2]) ps := fb_12.below hw13 (by omega)
      clear fb_12
      have fx_13 : RdI w13 w3.heap.size (.slice Ax ([]).length cx) ([]) := fx_12.below hw13 (by omega)
      clear fx_12
      have fy_13 : RdI w13 w4.heap.size (.slice Ay ([]).length cy) ([]) := fy_12.below hw13 (by omega)
      clear fy_12
      have fp_13 : RdI w13 w5.heap.size (.slice Ap ([]).length cp) ([]) := fp_12.below hw13 (by omega)
      clear fp_12
      have fq_13 : RdI w13 w6.heap.size (.slice Aq ([]).length cq) ([]) := fq_12.below hw13 (by omega)
      clear fq_12
      have qb20_13 := (hw13.cell (p := ⟨w1.heap.size, 0, Option.none⟩) (by show w1.heap.size < _; omega)).trans qb20_12
      clear qb20_12
      clear fy_13
      go_wp2_with fail
      refine (sameInts_sameB _ _ _ _ _ _ fp_13 fq_13).mono ?_
      rintro e w14 ⟨rfl, hb14⟩
      have hw14 : Below w13.heap.size w13 w14 := hb14
      have hs14 : w13.heap.size ≤ w14.heap.size := hw14.size
      have hB14 : Below w.heap.size w w14 := hB13.trans (hw14.mono (by omega))
      have H0_14 : RdU w14 w.heap.size (.slice A0 xs0.length c0) xs0 := H0_13.below hw14 (by omega)
      clear H0_13
      have H1_14 : RdU w14 w.heap.size (.slice A1 xs1.length c1) xs1 := H1_13.below hw14 (by omega)
      clear H1_13
      have fb_14 : RdB w14 w1.heap.size (.agg #[.slice A2 ps.length c2]) ps := fb_13.below hw14 (by omega)
      clear fb_13
      have fx_14 : RdI w14 w3.heap.size (.slice Ax ([]).length cx) ([]) := fx_13.below hw14 (by omega)
      clear fx_13
      have fp_14 : RdI w14 w5.heap.size (.slice Ap ([]).length cp) ([]) := fp_13.below hw14 (by omega)
      clear fp_13
      have fq_14 : RdI w14 w6.heap.size (.slice Aq ([]).length cq) ([]) := fq_13.below hw14 (by omega)
      clear fq_13
      have qb20_14 := (hw14.cell (p := ⟨w1.heap.size, 0, Option.none⟩) (by show w1.heap.size < _; omega)).trans qb20_13
      clear qb20_13
      clear fx_14
      clear fp_14
      clear fq_14
      clear qb20_14
      clear fb_14
      go_wp2_with fail
      refine (DrawSavedSignals_any xs1 _ w.heap.size w14 H1_14 (by omega)).mono ?_
      rintro e w15 ⟨u5, n5, t, rfl, hn5, hsz5, hr5, hb15⟩
      obtain ⟨A5, c5, rfl⟩ := hr5.form
      obtain ⟨qs, hpl5, fc⟩ := hr5.rdb
      subst hpl5
      clear hr5
      have hw15 : Below w14.heap.size w14 w15 := hb15
      have hs15 : w14.heap.size ≤ w15.heap.size := hw15.size
      have hB15 : Below w.heap.size w w15 := hB14.trans (hw15.mono (by omega))
      have H0_15 : RdU w15 w.heap.size (.slice A0 xs0.length c0) xs0 := H0_14.below hw15 (by omega)
      clear H0_14
      have H1_15 : RdU w15 w.heap.size (.slice A1 xs1.length c1) xs1 := H1_14.below hw15 (by omega)
      clear H1_14
      have hb16 : Below w15.heap.size w15 (w15.alloc (.cells #[.slice A5 qs.length c5] 28)) := (Below.refl _ _).alloc (Nat.le_refl _) _
      have hz16 : (w15.alloc (.cells #[.slice A5 qs.length c5] 28)).heap.size = w15.heap.size + 1 := by simp
      have qb50_16 : (w15.alloc (.cells #[.slice A5 qs.length c5] 28)).cell? ⟨w15.heap.size, 0, Option.none⟩ = some (.slice A5 qs.length c5) := (Blk.new w15 28 #[.slice A5 qs.length c5]).cell 0
      go_wp2_with fail
      generalize w15.alloc (.cells #[.slice A5 qs.length c5] 28) = w16 at hb16 hz16 qb50_16 ⊢
      have hy16 : w15.heap.size + 1 ≤ w16.heap.size := by omega
      clear hz16
      have hw16 : Below w15.heap.size w15 w16 := hb16
      have hs16 : w15.heap.size ≤ w16.heap.size := hw16.size
      have hB16 : Below w.heap.size w w16 := hB15.trans (hw16.mono (by omega))
      have H0_16 : RdU w16 w.heap.size (.slice A0 xs0.length c0) xs0 := H0_15.below hw16 (by omega)
      clear H0_15
      have H1_16 : RdU w16 w.heap.size (.slice A1 xs1.length c1) xs1 := H1_15.below hw16 (by omega)
      clear H1_15
      have fc_16 : RdB w16 w15.heap.size (.agg #[.slice A5 qs.length c5]) qs := fc.below hw16 (by omega)
      clear fc
      have htm : t.size ≤ maxLen := by unfold maxLen; omega
      obtain ⟨z5, q5, hz5, hz5n⟩ := sav_told qs t
      have HZ5 := Lib.hid hz5
      clear hz5
      have ke0 := (by have h := SavedSignals_any qs t _ _ w16 htm fc_16 (by omega); rw [HZ5.out] at h; exact h : Calls Try.prog 37 #[.agg #[.slice A5 qs.length c5], .string t] w16 fun e w' => e = .returned (.tuple #[.int .i64 z5, .bool q5]) ∧ Below w16.heap.size w16 w')
      have KE := Lib.hid ke0
      clear ke0
      go_wp2_with fail
      refine (KE.out).mono ?_
      rintro e w17 ⟨rfl, hb17⟩
      have hw17 : Below w16.heap.size w16 w17 := hb17
      have hs17 : w16.heap.size ≤ w17.heap.size := hw17.size
      have hB17 : Below w.heap.size w w17 := hB16.trans (hw17.mono (by omega))
      have H0_17 : RdU w17 w.heap.size (.slice A0 xs0.length c0) xs0 := H0_16.below hw17 (by omega)
      clear H0_16
      have H1_17 : RdU w17 w.heap.size (.slice A1 xs1.length c1) xs1 := H1_16.below hw17 (by omega)
      clear H1_16
      have fc_17 : RdB w17 w15.heap.size (.agg #[.slice A5 qs.length c5]) qs := fc_16.below hw17 (by omega)
      clear fc_16
      have qb50_17 := (hw17.cell (p := ⟨w15.heap.size, 0, Option.none⟩) (by show w15.heap.size < _; omega)).trans qb50_16
      clear qb50_16
      clear KE
      have kf0 := (by have h := sSavedSignals_any qs t _ _ w17 htm fc_17 (by omega); rw [HZ5.out] at h; exact h : Calls Try.prog 38 #[.agg #[.slice A5 qs.length c5], .string t] w17 fun e w' => e = .returned (.tuple #[.int .i64 z5, .bool q5]) ∧ Below w17.heap.size w17 w')
      have KF := Lib.hid kf0
      clear kf0
      go_wp2_with fail
      refine (KF.out).mono ?_
      rintro e w18 ⟨rfl, hb18⟩
      have hw18 : Below w17.heap.size w17 w18 := hb18
      have hs18 : w17.heap.size ≤ w18.heap.size := hw18.size
      have hB18 : Below w.heap.size w w18 := hB17.trans (hw18.mono (by omega))
      have H0_18 : RdU w18 w.heap.size (.slice A0 xs0.length c0) xs0 := H0_17.below hw18 (by omega)
      clear H0_17
      have H1_18 : RdU w18 w.heap.size (.slice A1 xs1.length c1) xs1 := H1_17.below hw18 (by omega)
      clear H1_17
      have fc_18 : RdB w18 w15.heap.size (.agg #[.slice A5 qs.length c5]) qs := fc_17.below hw18 (by omega)
      clear fc_17
      have qb50_18 := (hw18.cell (p := ⟨w15.heap.size, 0, Option.none⟩) (by show w15.heap.size < _; omega)).trans qb50_17
      clear qb50_17
      clear KF
      clear qb50_18
      clear fc_18
      go_wp2_with fail
      refine (DrawLoneLetters_any xs1 _ w.heap.size w18 H1_18 (by omega)).mono ?_
      rintro e w19 ⟨u7, n7, rfl, hn7, hr7, hb19⟩
      obtain ⟨A7, c7, rfl⟩ := hr7.form
      obtain ⟨rs, hpl7, fl⟩ := hr7.rdb
      subst hpl7
      clear hr7
      have hw19 : Below w18.heap.size w18 w19 := hb19
      have hs19 : w18.heap.size ≤ w19.heap.size := hw19.size
      have hB19 : Below w.heap.size w w19 := hB18.trans (hw19.mono (by omega))
      have H0_19 : RdU w19 w.heap.size (.slice A0 xs0.length c0) xs0 := H0_18.below hw19 (by omega)
      clear H0_18
      have H1_19 : RdU w19 w.heap.size (.slice A1 xs1.length c1) xs1 := H1_18.below hw19 (by omega)
      clear H1_18
      have hb20 : Below w19.heap.size w19 (w19.alloc (.cells #[.slice A7 rs.length c7] 28)) := (Below.refl _ _).alloc (Nat.le_refl _) _
      have hz20 : (w19.alloc (.cells #[.slice A7 rs.length c7] 28)).heap.size = w19.heap.size + 1 := by simp
      have qb70_20 : (w19.alloc (.cells #[.slice A7 rs.length c7] 28)).cell? ⟨w19.heap.size, 0, Option.none⟩ = some (.slice A7 rs.length c7) := (Blk.new w19 28 #[.slice A7 rs.length c7]).cell 0
      go_wp2_with fail
      generalize w19.alloc (.cells #[.slice A7 rs.length c7] 28) = w20 at hb20 hz20 qb70_20 ⊢
      have hy20 : w19.heap.size + 1 ≤ w20.heap.size := by omega
      clear hz20
      have hw20 : Below w19.heap.size w19 w20 := hb20
      have hs20 : w19.heap.size ≤ w20.heap.size := hw20.size
      have hB20 : Below w.heap.size w w20 := hB19.trans (hw20.mono (by omega))
      have H0_20 : RdU w20 w.heap.size (.slice A0 xs0.length c0) xs0 := H0_19.below hw20 (by omega)
      clear H0_19
      have H1_20 : RdU w20 w.heap.size (.slice A1 xs1.length c1) xs1 := H1_19.below hw20 (by omega)
      clear H1_19
      have fl_20 : RdB w20 w19.heap.size (.agg #[.slice A7 rs.length c7]) rs := fl.below hw20 (by omega)
      clear fl
      obtain ⟨p8, q8, hT8⟩ := loneV_form rs
      have HT8 := Lib.hid hT8
      clear hT8
      have kg0 := (by have h := Lone_any rs _ _ w20 fl_20 (by omega); rw [HT8.out] at h; exact h : Calls Try.prog 40 #[.agg #[.slice A7 rs.length c7]] w20 fun e w' => e = .returned (.tuple #[.string p8, .bool q8]) ∧ Below w20.heap.size w20 w')
      have KG := Lib.hid kg0
      clear kg0
      go_wp2_with fail
      refine (KG.out).mono ?_
      rintro e w21 ⟨rfl, hb21⟩
      have hw21 : Below w20.heap.size w20 w21 := hb21
      have hs21 : w20.heap.size ≤ w21.heap.size := hw21.size
      have hB21 : Below w.heap.size w w21 := hB20.trans (hw21.mono (by omega))
      have H0_21 : RdU w21 w.heap.size (.slice A0 xs0.length c0) xs0 := H0_20.below hw21 (by omega)
      clear H0_20
      have H1_21 : RdU w21 w.heap.size (.slice A1 xs1.length c1) xs1 := H1_20.below hw21 (by omega)
      clear H1_20
      have fl_21 : RdB w21 w19.heap.size (.agg #[.slice A7 rs.length c7]) rs := fl_20.below hw21 (by omega)
      clear fl_20
      have qb70_21 := (hw21.cell (p := ⟨w19.heap.size, 0, Option.none⟩) (by show w19.heap.size < _; omega)).trans qb70_20
      clear qb70_20
      clear KG
      have kh0 := (by have h := sLone_any rs _ _ w21 fl_21 (by omega); rw [HT8.out] at h; exact h : Calls Try.prog 41 #[.agg #[.slice A7 rs.length c7]] w21 fun e w' => e = .returned (.tuple #[.string p8, .bool q8]) ∧ Below w21.heap.size w21 w')
      have KH := Lib.hid kh0
      clear kh0
      go_wp2_with fail
      refine (KH.out).mono ?_
      rintro e w22 ⟨rfl, hb22⟩
      have hw22 : Below w21.heap.size w21 w22 := hb22
      have hs22 : w21.heap.size ≤ w22.heap.size := hw22.size
      have hB22 : Below w.heap.size w w22 := hB21.trans (hw22.mono (by omega))
      have H0_22 : RdU w22 w.heap.size (.slice A0 xs0.length c0) xs0 := H0_21.below hw22 (by omega)
      clear H0_21
      have H1_22 : RdU w22 w.heap.size (.slice A1 xs1.length c1) xs1 := H1_21.below hw22 (by omega)
      clear H1_21
      have fl_22 : RdB w22 w19.heap.size (.agg #[.slice A7 rs.length c7]) rs := fl_21.below hw22 (by omega)
      clear fl_21
      have qb70_22 := (hw22.cell (p := ⟨w19.heap.size, 0, Option.none⟩) (by show w19.heap.size < _; omega)).trans qb70_21
      clear qb70_21
      clear KH
      cases q5
      · go_wp2_with fail
        go_ret
        exact ⟨ret_bool (by simp), hB22⟩
      · have hz5b := hz5n rfl
        have hd9 : decide (0 ≤ z5) = true := decide_eq_true hz5b
        go_wp2_with fail
        go_ret
        exact ⟨ret_bool (by simp), hB22⟩
    · have HGD := Lib.hid hgd
      clear hgd
      cases hl : leastO ps s
      · have HL := Lib.hid hl
        have HC := Lib.hid (spell_none HGD.out hl)
        clear hl
        have k10 := (by have h := SpellMessage_any ps s _ _ w2 hsm fb_2 (by omega); rw [spellN_no HL.out, show waysI [] = [] from rfl, HL.out, show (Option.none : Option Nat).isSome = false from rfl] at h; exact h : Calls Try.prog 22 #[.agg #[.slice A2 ps.length c2], .string s] w2 (RetOwT ([]) false w2))
        have K1 := Lib.hid k10
        clear k10
        go_wp2_with fail
        refine (K1.out).mono ?_
        rintro e w3 ⟨x, rfl, fx, hb3⟩
        obtain ⟨Ax, cx, rfl, _⟩ := fx.form
        have fx_3 : RdI w3 w3.heap.size (.slice Ax ([]).length cx) ([]) := fx.rd
        clear fx
        have hw3 : Below w2.heap.size w2 w3 := hb3
        have hs3 : w2.heap.size ≤ w3.heap.size := hw3.size
        have hB3 : Below w.heap.size w w3 := hB2.trans (hw3.mono (by omega))
        have H0_3 : RdU w3 w.heap.size (.slice A0 xs0.length c0) xs0 := H0_2.below hw3 (by omega)
        clear H0_2
        have H1_3 : RdU w3 w.heap.size (.slice A1 xs1.length c1) xs1 := H1_2.below hw3 (by omega)
        clear H1_2
        have fb_3 : RdB w3 w1.heap.size (.agg #[.slice A2 ps.length c2]) ps := fb_2.below hw3 (by omega)
        clear fb_2
        have qb20_3 := (hw3.cell (p := ⟨w1.heap.size, 0, Option.none⟩) (by show w1.heap.size < _; omega)).trans qb20_2
        clear qb20_2
        clear K1
        have k20 := (by have h := sSpellMessage_any ps s _ _ w3 hsm fb_3 (by omega); rw [spellN_no HL.out, show waysI [] = [] from rfl, HL.out, show (Option.none : Option Nat).isSome = false from rfl] at h; exact h : Calls Try.prog 23 #[.agg #[.slice A2 ps.length c2], .string s] w3 (RetOwT ([]) false w3))
        have K2 := Lib.hid k20
        clear k20
        go_wp2_with fail
        refine (K2.out).mono ?_
        rintro e w4 ⟨y, rfl, fy, hb4⟩
        obtain ⟨Ay, cy, rfl, _⟩ := fy.form
        have fy_4 : RdI w4 w4.heap.size (.slice Ay ([]).length cy) ([]) := fy.rd
        clear fy
        have hw4 : Below w3.heap.size w3 w4 := hb4
        have hs4 : w3.heap.size ≤ w4.heap.size := hw4.size
        have hB4 : Below w.heap.size w w4 := hB3.trans (hw4.mono (by omega))
        have H0_4 : RdU w4 w.heap.size (.slice A0 xs0.length c0) xs0 := H0_3.below hw4 (by omega)
        clear H0_3
        have H1_4 : RdU w4 w.heap.size (.slice A1 xs1.length c1) xs1 := H1_3.below hw4 (by omega)
        clear H1_3
        have fb_4 : RdB w4 w1.heap.size (.agg #[.slice A2 ps.length c2]) ps := fb_3.below hw4 (by omega)
        clear fb_3
        have fx_4 : RdI w4 w3.heap.size (.slice Ax ([]).length cx) ([]) := fx_3.below hw4 (by omega)
        clear fx_3
        have qb20_4 := (hw4.cell (p := ⟨w1.heap.size, 0, Option.none⟩) (by show w1.heap.size < _; omega)).trans qb20_3
        clear qb20_3
        clear K2
        have k30 := (by have h := EncodeMessage_any ps s _ _ w4 hsm fb_4 (by omega); rw [spellN_no HL.out, show sigsOf ps [] = [] from rfl, HL.out, show (Option.none : Option Nat).isSome = false from rfl] at h; exact h : Calls Try.prog 24 #[.agg #[.slice A2 ps.length c2], .string s] w4 (RetOwT ([]) false w4))
        have K3 := Lib.hid k30
        clear k30
        go_wp2_with fail
        refine (K3.out).mono ?_
        rintro e w5 ⟨p, rfl, fp, hb5⟩
        obtain ⟨Ap, cp, rfl, _⟩ := fp.form
        have fp_5 : RdI w5 w5.heap.size (.slice Ap ([]).length cp) ([]) := fp.rd
        clear fp
        have hw5 : Below w4.heap.size w4 w5 := hb5
        have hs5 : w4.heap.size ≤ w5.heap.size := hw5.size
        have hB5 : Below w.heap.size w w5 := hB4.trans (hw5.mono (by omega))
        have H0_5 : RdU w5 w.heap.size (.slice A0 xs0.length c0) xs0 := H0_4.below hw5 (by omega)
        clear H0_4
        have H1_5 : RdU w5 w.heap.size (.slice A1 xs1.length c1) xs1 := H1_4.below hw5 (by omega)
        clear H1_4
        have fb_5 : RdB w5 w1.heap.size (.agg #[.slice A2 ps.length c2]) ps := fb_4.below hw5 (by omega)
        clear fb_4
        have fx_5 : RdI w5 w3.heap.size (.slice Ax ([]).length cx) ([]) := fx_4.below hw5 (by omega)
        clear fx_4
        have fy_5 : RdI w5 w4.heap.size (.slice Ay ([]).length cy) ([]) := fy_4.below hw5 (by omega)
        clear fy_4
        have qb20_5 := (hw5.cell (p := ⟨w1.heap.size, 0, Option.none⟩) (by show w1.heap.size < _; omega)).trans qb20_4
        clear qb20_4
        clear K3
        have k40 := (by have h := sEncodeMessage_any ps s _ _ w5 hsm fb_5 (by omega); rw [spellN_no HL.out, show sigsOf ps [] = [] from rfl, HL.out, show (Option.none : Option Nat).isSome = false from rfl] at h; exact h : Calls Try.prog 25 #[.agg #[.slice A2 ps.length c2], .string s] w5 (RetOwT ([]) false w5))
        have K4 := Lib.hid k40
        clear k40
        go_wp2_with fail
        refine (K4.out).mono ?_
        rintro e w6 ⟨q, rfl, fq, hb6⟩
        obtain ⟨Aq, cq, rfl, _⟩ := fq.form
        have fq_6 : RdI w6 w6.heap.size (.slice Aq ([]).length cq) ([]) := fq.rd
        clear fq
        have hw6 : Below w5.heap.size w5 w6 := hb6
        have hs6 : w5.heap.size ≤ w6.heap.size := hw6.size
        have hB6 : Below w.heap.size w w6 := hB5.trans (hw6.mono (by omega))
        have H0_6 : RdU w6 w.heap.size (.slice A0 xs0.length c0) xs0 := H0_5.below hw6 (by omega)
        clear H0_5
        have H1_6 : RdU w6 w.heap.size (.slice A1 xs1.length c1) xs1 := H1_5.below hw6 (by omega)
        clear H1_5
        have fb_6 : RdB w6 w1.heap.size (.agg #[.slice A2 ps.length c2]) ps := fb_5.below hw6 (by omega)
        clear fb_5
        have fx_6 : RdI w6 w3.heap.size (.slice Ax ([]).length cx) ([]) := fx_5.below hw6 (by omega)
        clear fx_5
        have fy_6 : RdI w6 w4.heap.size (.slice Ay ([]).length cy) ([]) := fy_5.below hw6 (by omega)
        clear fy_5
        have fp_6 : RdI w6 w5.heap.size (.slice Ap ([]).length cp) ([]) := fp_5.below hw6 (by omega)
        clear fp_5
        have qb20_6 := (hw6.cell (p := ⟨w1.heap.size, 0, Option.none⟩) (by show w1.heap.size < _; omega)).trans qb20_5
        clear qb20_5
        clear K4
        have k50 := (by have h := LeastSignals_any ps s _ _ w6 hsm fb_6 (by omega); rw [HL.out, show lstV Option.none = .tuple #[.int .i64 (0), .bool false] from rfl] at h; exact h : Calls Try.prog 26 #[.agg #[.slice A2 ps.length c2], .string s] w6 fun e w' => e = .returned (.tuple #[.int .i64 (0), .bool false]) ∧ Below w6.heap.size w6 w')
        have K5 := Lib.hid k50
        clear k50
        go_wp2_with fail
        refine (K5.out).mono ?_
        rintro e w7 ⟨rfl, hb7⟩
        have hw7 : Below w6.heap.size w6 w7 := hb7
        have hs7 : w6.heap.size ≤ w7.heap.size := hw7.size
        have hB7 : Below w.heap.size w w7 := hB6.trans (hw7.mono (by omega))
        have H0_7 : RdU w7 w.heap.size (.slice A0 xs0.length c0) xs0 := H0_6.below hw7 (by omega)
        clear H0_6
        have H1_7 : RdU w7 w.heap.size (.slice A1 xs1.length c1) xs1 := H1_6.below hw7 (by omega)
        clear H1_6
        have fb_7 : RdB w7 w1.heap.size (.agg #[.slice A2 ps.length c2]) ps := fb_6.below hw7 (by omega)
        clear fb_6
        have fx_7 : RdI w7 w3.heap.size (.slice Ax ([]).length cx) ([]) := fx_6.below hw7 (by omega)
        clear fx_6
        have fy_7 : RdI w7 w4.heap.size (.slice Ay ([]).length cy) ([]) := fy_6.below hw7 (by omega)
        clear fy_6
        have fp_7 : RdI w7 w5.heap.size (.slice Ap ([]).length cp) ([]) := fp_6.below hw7 (by omega)
        clear fp_6
        have fq_7 : RdI w7 w6.heap.size (.slice Aq ([]).length cq) ([]) := fq_6.below hw7 (by omega)
        clear fq_6
        have qb20_7 := (hw7.cell (p := ⟨w1.heap.size, 0, Option.none⟩) (by show w1.heap.size < _; omega)).trans qb20_6
        clear qb20_6
        clear K5
        have k60 := (by have h := sLeastSignals_any ps s _ _ w7 hsm fb_7 (by omega); rw [HL.out, show lstV Option.none = .tuple #[.int .i64 (0), .bool false] from rfl] at h; exact h : Calls Try.prog 27 #[.agg #[.slice A2 ps.length c2], .string s] w7 fun e w' => e = .returned (.tuple #[.int .i64 (0), .bool false]) ∧ Below w7.heap.size w7 w')
        have K6 := Lib.hid k60
        clear k60
        go_wp2_with fail
        refine (K6.out).mono ?_
        rintro e w8 ⟨rfl, hb8⟩
        have hw8 : Below w7.heap.size w7 w8 := hb8
        have hs8 : w7.heap.size ≤ w8.heap.size := hw8.size
        have hB8 : Below w.heap.size w w8 := hB7.trans (hw8.mono (by omega))
        have H0_8 : RdU w8 w.heap.size (.slice A0 xs0.length c0) xs0 := H0_7.below hw8 (by omega)
        clear H0_7
        have H1_8 : RdU w8 w.heap.size (.slice A1 xs1.length c1) xs1 := H1_7.below hw8 (by omega)
        clear H1_7
        have fb_8 : RdB w8 w1.heap.size (.agg #[.slice A2 ps.length c2]) ps := fb_7.below hw8 (by omega)
        clear fb_7
        have fx_8 : RdI w8 w3.heap.size (.slice Ax ([]).length cx) ([]) := fx_7.below hw8 (by omega)
        clear fx_7
        have fy_8 : RdI w8 w4.heap.size (.slice Ay ([]).length cy) ([]) := fy_7.below hw8 (by omega)
        clear fy_7
        have fp_8 : RdI w8 w5.heap.size (.slice Ap ([]).length cp) ([]) := fp_7.below hw8 (by omega)
        clear fp_7
        have fq_8 : RdI w8 w6.heap.size (.slice Aq ([]).length cq) ([]) := fq_7.below hw8 (by omega)
        clear fq_7
        have qb20_8 := (hw8.cell (p := ⟨w1.heap.size, 0, Option.none⟩) (by show w1.heap.size < _; omega)).trans qb20_7
        clear qb20_7
        clear K6
        have k70 := (by have h := CountSpellings_any ps s _ _ w8 hsm fb_8 (by omega); rw [HGD.out, HC.out, show cntV true 0 = .tuple #[.int .i64 (0), .bool true] from rfl] at h; exact h : Calls Try.prog 28 #[.agg #[.slice A2 ps.length c2], .string s] w8 fun e w' => e = .returned (.tuple #[.int .i64 (0), .bool true]) ∧ Below w8.heap.size w8 w')
        have K7 := Lib.hid k70
        clear k70
        go_wp2_with fail
        refine (K7.out).mono ?_
        rintro e w9 ⟨rfl, hb9⟩
        have hw9 : Below w8.heap.size w8 w9 := hb9
        have hs9 : w8.heap.size ≤ w9.heap.size := hw9.size
        have hB9 : Below w.heap.size w w9 := hB8.trans (hw9.mono (by omega))
        have H0_9 : RdU w9 w.heap.size (.slice A0 xs0.length c0) xs0 := H0_8.below hw9 (by omega)
        clear H0_8
        have H1_9 : RdU w9 w.heap.size (.slice A1 xs1.length c1) xs1 := H1_8.below hw9 (by omega)
        clear H1_8
        have fb_9 : RdB w9 w1.heap.size (.agg #[.slice A2 ps.length c2]) ps := fb_8.below hw9 (by omega)
        clear fb_8
        have fx_9 : RdI w9 w3.heap.size (.slice Ax ([]).length cx) ([]) := fx_8.below hw9 (by omega)
        clear fx_8
        have fy_9 : RdI w9 w4.heap.size (.slice Ay ([]).length cy) ([]) := fy_8.below hw9 (by omega)
        clear fy_8
        have fp_9 : RdI w9 w5.heap.size (.slice Ap ([]).length cp) ([]) := fp_8.below hw9 (by omega)
        clear fp_8
        have fq_9 : RdI w9 w6.heap.size (.slice Aq ([]).length cq) ([]) := fq_8.below hw9 (by omega)
        clear fq_8
        have qb20_9 := (hw9.cell (p := ⟨w1.heap.size, 0, Option.none⟩) (by show w1.heap.size < _; omega)).trans qb20_8
        clear qb20_8
        clear K7
        have k80 := (by have h := sCountSpellings_any ps s _ _ w9 hsm fb_9 (by omega); rw [HGD.out, HC.out, show cntV true 0 = .tuple #[.int .i64 (0), .bool true] from rfl] at h; exact h : Calls Try.prog 29 #[.agg #[.slice A2 ps.length c2], .string s] w9 fun e w' => e = .returned (.tuple #[.int .i64 (0), .bool true]) ∧ Below w9.heap.size w9 w')
        have K8 := Lib.hid k80
        clear k80
        go_wp2_with fail
        refine (K8.out).mono ?_
        rintro e w10 ⟨rfl, hb10⟩
        have hw10 : Below w9.heap.size w9 w10 := hb10
        have hs10 : w9.heap.size ≤ w10.heap.size := hw10.size
        have hB10 : Below w.heap.size w w10 := hB9.trans (hw10.mono (by omega))
        have H0_10 : RdU w10 w.heap.size (.slice A0 xs0.length c0) xs0 := H0_9.below hw10 (by omega)
        clear H0_9
        have H1_10 : RdU w10 w.heap.size (.slice A1 xs1.length c1) xs1 := H1_9.below hw10 (by omega)
        clear H1_9
        have fb_10 : RdB w10 w1.heap.size (.agg #[.slice A2 ps.length c2]) ps := fb_9.below hw10 (by omega)
        clear fb_9
        have fx_10 : RdI w10 w3.heap.size (.slice Ax ([]).length cx) ([]) := fx_9.below hw10 (by omega)
        clear fx_9
        have fy_10 : RdI w10 w4.heap.size (.slice Ay ([]).length cy) ([]) := fy_9.below hw10 (by omega)
        clear fy_9
        have fp_10 : RdI w10 w5.heap.size (.slice Ap ([]).length cp) ([]) := fp_9.below hw10 (by omega)
        clear fp_9
        have fq_10 : RdI w10 w6.heap.size (.slice Aq ([]).length cq) ([]) := fq_9.below hw10 (by omega)
        clear fq_9
        have qb20_10 := (hw10.cell (p := ⟨w1.heap.size, 0, Option.none⟩) (by show w1.heap.size < _; omega)).trans qb20_9
        clear qb20_9
        clear K8
        obtain ⟨PP, hPP⟩ : ∃ PP, PP = partV ps s := ⟨_, rfl⟩
        have hpl : PP ≤ s.size := by rw [hPP]; exact part_le ps s
        have HP := Lib.hid hPP
        clear hPP
        have k90 := (by have h := SpelledPart_any ps s _ _ w10 hsm fb_10 (by omega); rw [HGD.out, ← HP.out, show cntV true PP = .tuple #[.int .i64 (PP), .bool true] from rfl] at h; exact h : Calls Try.prog 30 #[.agg #[.slice A2 ps.length c2], .string s] w10 fun e w' => e = .returned (.tuple #[.int .i64 (PP), .bool true]) ∧ Below w10.heap.size w10 w')
        have K9 := Lib.hid k90
        clear k90
        go_wp2_with fail
        refine (K9.out).mono ?_
        rintro e w11 ⟨rfl, hb11⟩
        have hw11 : Below w10.heap.size w10 w11 := hb11
        have hs11 : w10.heap.size ≤ w11.heap.size := hw11.size
        have hB11 : Below w.heap.size w w11 := hB10.trans (hw11.mono (by omega))
        have H0_11 : RdU w11 w.heap.size (.slice A0 xs0.length c0) xs0 := H0_10.below hw11 (by omega)
        clear H0_10
        have H1_11 : RdU w11 w.heap.size (.slice A1 xs1.length c1) xs1 := H1_10.below hw11 (by omega)
        clear H1_10
        have fb_11 : RdB w11 w1.heap.size (.agg #[.slice A2 ps.length c2]) ps := fb_10.below hw11 (by omega)
        clear fb_10
        have fx_11 : RdI w11 w3.heap.size (.slice Ax ([]).length cx) ([]) := fx_10.below hw11 (by omega)
        clear fx_10
        have fy_11 : RdI w11 w4.heap.size (.slice Ay ([]).length cy) ([]) := fy_10.below hw11 (by omega)
        clear fy_10
        have fp_11 : RdI w11 w5.heap.size (.slice Ap ([]).length cp) ([]) := fp_10.below hw11 (by omega)
        clear fp_10
        have fq_11 : RdI w11 w6.heap.size (.slice Aq ([]).length cq) ([]) := fq_10.below hw11 (by omega)
        clear fq_10
        have qb20_11 := (hw11.cell (p := ⟨w1.heap.size, 0, Option.none⟩) (by show w1.heap.size < _; omega)).trans qb20_10
        clear qb20_10
        clear K9
        have ka0 := (by have h := sSpelledPart_any ps s _ _ w11 hsm fb_11 (by omega); rw [HGD.out, ← HP.out, show cntV true PP = .tuple #[.int .i64 (PP), .bool true] from rfl] at h; exact h : Calls Try.prog 31 #[.agg #[.slice A2 ps.length c2], .string s] w11 fun e w' => e = .returned (.tuple #[.int .i64 (PP), .bool true]) ∧ Below w11.heap.size w11 w')
        have KA := Lib.hid ka0
        clear ka0
        go_wp2_with fail
        refine (KA.out).mono ?_
        rintro e w12 ⟨rfl, hb12⟩
        have hw12 : Below w11.heap.size w11 w12 := hb12
        have hs12 : w11.heap.size ≤ w12.heap.size := hw12.size
        have hB12 : Below w.heap.size w w12 := hB11.trans (hw12.mono (by omega))
        have H0_12 : RdU w12 w.heap.size (.slice A0 xs0.length c0) xs0 := H0_11.below hw12 (by omega)
        clear H0_11
        have H1_12 : RdU w12 w.heap.size (.slice A1 xs1.length c1) xs1 := H1_11.below hw12 (by omega)
        clear H1_11
        have fb_12 : RdB w12 w1.heap.size (.agg #[.slice A2 ps.length c2]) ps := fb_11.below hw12 (by omega)
        clear fb_11
        have fx_12 : RdI w12 w3.heap.size (.slice Ax ([]).length cx) ([]) := fx_11.below hw12 (by omega)
        clear fx_11
        have fy_12 : RdI w12 w4.heap.size (.slice Ay ([]).length cy) ([]) := fy_11.below hw12 (by omega)
        clear fy_11
        have fp_12 : RdI w12 w5.heap.size (.slice Ap ([]).length cp) ([]) := fp_11.below hw12 (by omega)
        clear fp_11
        have fq_12 : RdI w12 w6.heap.size (.slice Aq ([]).length cq) ([]) := fq_11.below hw12 (by omega)
        clear fq_11
        have qb20_12 := (hw12.cell (p := ⟨w1.heap.size, 0, Option.none⟩) (by show w1.heap.size < _; omega)).trans qb20_11
        clear qb20_11
        clear KA
        have hd1 : decide (s.size < PP) = false := decide_eq_false (by omega)
        go_wp2_with fail
        refine (sameInts_sameB _ _ _ _ _ _ fx_12 fy_12).mono ?_
        rintro e w13 ⟨rfl, hb13⟩
        have hw13 : Below w12.heap.size w12 w13 := hb13
        have hs13 : w12.heap.size ≤ w13.heap.size := hw13.size
        have hB13 : Below w.heap.size w w13 := hB12.trans (hw13.mono (by omega))
        have H0_13 : RdU w13 w.heap.size (.slice A0 xs0.length c0) xs0 := H0_12.below hw13 (by omega)
        clear H0_12
        have H1_13 : RdU w13 w.heap.size (.slice A1 xs1.length c1) xs1 := H1_12.below hw13 (by omega)
        clear H1_12
        have fb_13 : RdB w13 w1.heap.size (.agg #[.slice A2 ps.length c2]) ps := fb_12.below hw13 (by omega)
        clear fb_12
        have fx_13 : RdI w13 w3.heap.size (.slice Ax ([]).length cx) ([]) := fx_12.below hw13 (by omega)
        clear fx_12
        have fy_13 : RdI w13 w4.heap.size (.slice Ay ([]).length cy) ([]) := fy_12.below hw13 (by omega)
        clear fy_12
        have fp_13 : RdI w13 w5.heap.size (.slice Ap ([]).length cp) ([]) := fp_12.below hw13 (by omega)
        clear fp_12
        have fq_13 : RdI w13 w6.heap.size (.slice Aq ([]).length cq) ([]) := fq_12.below hw13 (by omega)
        clear fq_12
        have qb20_13 := (hw13.cell (p := ⟨w1.heap.size, 0, Option.none⟩) (by show w1.heap.size < _; omega)).trans qb20_12
        clear qb20_12
        clear fy_13
        go_wp2_with fail
        refine (sameInts_sameB _ _ _ _ _ _ fp_13 fq_13).mono ?_
        rintro e w14 ⟨rfl, hb14⟩
        have hw14 : Below w13.heap.size w13 w14 := hb14
        have hs14 : w13.heap.size ≤ w14.heap.size := hw14.size
        have hB14 : Below w.heap.size w w14 := hB13.trans (hw14.mono (by omega))
        have H0_14 : RdU w14 w.heap.size (.slice A0 xs0.length c0) xs0 := H0_13.below hw14 (by omega)
        clear H0_13
        have H1_14 : RdU w14 w.heap.size (.slice A1 xs1.length c1) xs1 := H1_13.below hw14 (by omega)
        clear H1_13
        have fb_14 : RdB w14 w1.heap.size (.agg #[.slice A2 ps.length c2]) ps := fb_13.below hw14 (by omega)
        clear fb_13
        have fx_14 : RdI w14 w3.heap.size (.slice Ax ([]).length cx) ([]) := fx_13.below hw14 (by omega)
        clear fx_13
        have fp_14 : RdI w14 w5.heap.size (.slice Ap ([]).length cp) ([]) := fp_13.below hw14 (by omega)
        clear fp_13
        have fq_14 : RdI w14 w6.heap.size (.slice Aq ([]).length cq) ([]) := fq_13.below hw14 (by omega)
        clear fq_13
        have qb20_14 := (hw14.cell (p := ⟨w1.heap.size, 0, Option.none⟩) (by show w1.heap.size < _; omega)).trans qb20_13
        clear qb20_13
        clear fx_14
        clear fp_14
        clear fq_14
        clear qb20_14
        clear fb_14
        go_wp2_with fail
        refine (DrawSavedSignals_any xs1 _ w.heap.size w14 H1_14 (by omega)).mono ?_
        rintro e w15 ⟨u5, n5, t, rfl, hn5, hsz5, hr5, hb15⟩
        obtain ⟨A5, c5, rfl⟩ := hr5.form
        obtain ⟨qs, hpl5, fc⟩ := hr5.rdb
        subst hpl5
        clear hr5
        have hw15 : Below w14.heap.size w14 w15 := hb15
        have hs15 : w14.heap.size ≤ w15.heap.size := hw15.size
        have hB15 : Below w.heap.size w w15 := hB14.trans (hw15.mono (by omega))
        have H0_15 : RdU w15 w.heap.size (.slice A0 xs0.length c0) xs0 := H0_14.below hw15 (by omega)
        clear H0_14
        have H1_15 : RdU w15 w.heap.size (.slice A1 xs1.length c1) xs1 := H1_14.below hw15 (by omega)
        clear H1_14
        have hb16 : Below w15.heap.size w15 (w15.alloc (.cells #[.slice A5 qs.length c5] 28)) := (Below.refl _ _).alloc (Nat.le_refl _) _
        have hz16 : (w15.alloc (.cells #[.slice A5 qs.length c5] 28)).heap.size = w15.heap.size + 1 := by simp
        have qb50_16 : (w15.alloc (.cells #[.slice A5 qs.length c5] 28)).cell? ⟨w15.heap.size, 0, Option.none⟩ = some (.slice A5 qs.length c5) := (Blk.new w15 28 #[.slice A5 qs.length c5]).cell 0
        go_wp2_with fail
        generalize w15.alloc (.cells #[.slice A5 qs.length c5] 28) = w16 at hb16 hz16 qb50_16 ⊢
        have hy16 : w15.heap.size + 1 ≤ w16.heap.size := by omega
        clear hz16
        have hw16 : Below w15.heap.size w15 w16 := hb16
        have hs16 : w15.heap.size ≤ w16.heap.size := hw16.size
        have hB16 : Below w.heap.size w w16 := hB15.trans (hw16.mono (by omega))
        have H0_16 : RdU w16 w.heap.size (.slice A0 xs0.length c0) xs0 := H0_15.below hw16 (by omega)
        clear H0_15
        have H1_16 : RdU w16 w.heap.size (.slice A1 xs1.length c1) xs1 := H1_15.below hw16 (by omega)
        clear H1_15
        have fc_16 : RdB w16 w15.heap.size (.agg #[.slice A5 qs.length c5]) qs := fc.below hw16 (by omega)
        clear fc
        have htm : t.size ≤ maxLen := by unfold maxLen; omega
        obtain ⟨z5, q5, hz5, hz5n⟩ := sav_told qs t
        have HZ5 := Lib.hid hz5
        clear hz5
        have ke0 := (by have h := SavedSignals_any qs t _ _ w16 htm fc_16 (by omega); rw [HZ5.out] at h; exact h : Calls Try.prog 37 #[.agg #[.slice A5 qs.length c5], .string t] w16 fun e w' => e = .returned (.tuple #[.int .i64 z5, .bool q5]) ∧ Below w16.heap.size w16 w')
        have KE := Lib.hid ke0
        clear ke0
        go_wp2_with fail
        refine (KE.out).mono ?_
        rintro e w17 ⟨rfl, hb17⟩
        have hw17 : Below w16.heap.size w16 w17 := hb17
        have hs17 : w16.heap.size ≤ w17.heap.size := hw17.size
        have hB17 : Below w.heap.size w w17 := hB16.trans (hw17.mono (by omega))
        have H0_17 : RdU w17 w.heap.size (.slice A0 xs0.length c0) xs0 := H0_16.below hw17 (by omega)
        clear H0_16
        have H1_17 : RdU w17 w.heap.size (.slice A1 xs1.length c1) xs1 := H1_16.below hw17 (by omega)
        clear H1_16
        have fc_17 : RdB w17 w15.heap.size (.agg #[.slice A5 qs.length c5]) qs := fc_16.below hw17 (by omega)
        clear fc_16
        have qb50_17 := (hw17.cell (p := ⟨w15.heap.size, 0, Option.none⟩) (by show w15.heap.size < _; omega)).trans qb50_16
        clear qb50_16
        clear KE
        have kf0 := (by have h := sSavedSignals_any qs t _ _ w17 htm fc_17 (by omega); rw [HZ5.out] at h; exact h : Calls Try.prog 38 #[.agg #[.slice A5 qs.length c5], .string t] w17 fun e w' => e = .returned (.tuple #[.int .i64 z5, .bool q5]) ∧ Below w17.heap.size w17 w')
        have KF := Lib.hid kf0
        clear kf0
        go_wp2_with fail
        refine (KF.out).mono ?_
        rintro e w18 ⟨rfl, hb18⟩
        have hw18 : Below w17.heap.size w17 w18 := hb18
        have hs18 : w17.heap.size ≤ w18.heap.size := hw18.size
        have hB18 : Below w.heap.size w w18 := hB17.trans (hw18.mono (by omega))
        have H0_18 : RdU w18 w.heap.size (.slice A0 xs0.length c0) xs0 := H0_17.below hw18 (by omega)
        clear H0_17
        have H1_18 : RdU w18 w.heap.size (.slice A1 xs1.length c1) xs1 := H1_17.below hw18 (by omega)
        clear H1_17
        have fc_18 : RdB w18 w15.heap.size (.agg #[.slice A5 qs.length c5]) qs := fc_17.below hw18 (by omega)
        clear fc_17
        have qb50_18 := (hw18.cell (p := ⟨w15.heap.size, 0, Option.none⟩) (by show w15.heap.size < _; omega)).trans qb50_17
        clear qb50_17
        clear KF
        clear qb50_18
        clear fc_18
        go_wp2_with fail
        refine (DrawLoneLetters_any xs1 _ w.heap.size w18 H1_18 (by omega)).mono ?_
        rintro e w19 ⟨u7, n7, rfl, hn7, hr7, hb19⟩
        obtain ⟨A7, c7, rfl⟩ := hr7.form
        obtain ⟨rs, hpl7, fl⟩ := hr7.rdb
        subst hpl7
        clear hr7
        have hw19 : Below w18.heap.size w18 w19 := hb19
        have hs19 : w18.heap.size ≤ w19.heap.size := hw19.size
        have hB19 : Below w.heap.size w w19 := hB18.trans (hw19.mono (by omega))
        have H0_19 : RdU w19 w.heap.size (.slice A0 xs0.length c0) xs0 := H0_18.below hw19 (by omega)
        clear H0_18
        have H1_19 : RdU w19 w.heap.size (.slice A1 xs1.length c1) xs1 := H1_18.below hw19 (by omega)
        clear H1_18
        have hb20 : Below w19.heap.size w19 (w19.alloc (.cells #[.slice A7 rs.length c7] 28)) := (Below.refl _ _).alloc (Nat.le_refl _) _
        have hz20 : (w19.alloc (.cells #[.slice A7 rs.length c7] 28)).heap.size = w19.heap.size + 1 := by simp
        have qb70_20 : (w19.alloc (.cells #[.slice A7 rs.length c7] 28)).cell? ⟨w19.heap.size, 0, Option.none⟩ = some (.slice A7 rs.length c7) := (Blk.new w19 28 #[.slice A7 rs.length c7]).cell 0
        go_wp2_with fail
        generalize w19.alloc (.cells #[.slice A7 rs.length c7] 28) = w20 at hb20 hz20 qb70_20 ⊢
        have hy20 : w19.heap.size + 1 ≤ w20.heap.size := by omega
        clear hz20
        have hw20 : Below w19.heap.size w19 w20 := hb20
        have hs20 : w19.heap.size ≤ w20.heap.size := hw20.size
        have hB20 : Below w.heap.size w w20 := hB19.trans (hw20.mono (by omega))
        have H0_20 : RdU w20 w.heap.size (.slice A0 xs0.length c0) xs0 := H0_19.below hw20 (by omega)
        clear H0_19
        have H1_20 : RdU w20 w.heap.size (.slice A1 xs1.length c1) xs1 := H1_19.below hw20 (by omega)
        clear H1_19
        have fl_20 : RdB w20 w19.heap.size (.agg #[.slice A7 rs.length c7]) rs := fl.below hw20 (by omega)
        clear fl
        obtain ⟨p8, q8, hT8⟩ := loneV_form rs
        have HT8 := Lib.hid hT8
        clear hT8
        have kg0 := (by have h := Lone_any rs _ _ w20 fl_20 (by omega); rw [HT8.out] at h; exact h : Calls Try.prog 40 #[.agg #[.slice A7 rs.length c7]] w20 fun e w' => e = .returned (.tuple #[.string p8, .bool q8]) ∧ Below w20.heap.size w20 w')
        have KG := Lib.hid kg0
        clear kg0
        go_wp2_with fail
        refine (KG.out).mono ?_
        rintro e w21 ⟨rfl, hb21⟩
        have hw21 : Below w20.heap.size w20 w21 := hb21
        have hs21 : w20.heap.size ≤ w21.heap.size := hw21.size
        have hB21 : Below w.heap.size w w21 := hB20.trans (hw21.mono (by omega))
        have H0_21 : RdU w21 w.heap.size (.slice A0 xs0.length c0) xs0 := H0_20.below hw21 (by omega)
        clear H0_20
        have H1_21 : RdU w21 w.heap.size (.slice A1 xs1.length c1) xs1 := H1_20.below hw21 (by omega)
        clear H1_20
        have fl_21 : RdB w21 w19.heap.size (.agg #[.slice A7 rs.length c7]) rs := fl_20.below hw21 (by omega)
        clear fl_20
        have qb70_21 := (hw21.cell (p := ⟨w19.heap.size, 0, Option.none⟩) (by show w19.heap.size < _; omega)).trans qb70_20
        clear qb70_20
        clear KG
        have kh0 := (by have h := sLone_any rs _ _ w21 fl_21 (by omega); rw [HT8.out] at h; exact h : Calls Try.prog 41 #[.agg #[.slice A7 rs.length c7]] w21 fun e w' => e = .returned (.tuple #[.string p8, .bool q8]) ∧ Below w21.heap.size w21 w')
        have KH := Lib.hid kh0
        clear kh0
        go_wp2_with fail
        refine (KH.out).mono ?_
        rintro e w22 ⟨rfl, hb22⟩
        have hw22 : Below w21.heap.size w21 w22 := hb22
        have hs22 : w21.heap.size ≤ w22.heap.size := hw22.size
        have hB22 : Below w.heap.size w w22 := hB21.trans (hw22.mono (by omega))
        have H0_22 : RdU w22 w.heap.size (.slice A0 xs0.length c0) xs0 := H0_21.below hw22 (by omega)
        clear H0_21
        have H1_22 : RdU w22 w.heap.size (.slice A1 xs1.length c1) xs1 := H1_21.below hw22 (by omega)
        clear H1_21
        have fl_22 : RdB w22 w19.heap.size (.agg #[.slice A7 rs.length c7]) rs := fl_21.below hw22 (by omega)
        clear fl_21
        have qb70_22 := (hw22.cell (p := ⟨w19.heap.size, 0, Option.none⟩) (by show w19.heap.size < _; omega)).trans qb70_21
        clear qb70_21
        clear KH
        cases q5
        · go_wp2_with fail
          go_ret
          exact ⟨ret_bool (by simp), hB22⟩
        · have hz5b := hz5n rfl
          have hd9 : decide (0 ≤ z5) = true := decide_eq_true hz5b
          go_wp2_with fail
          go_ret
          exact ⟨ret_bool (by simp), hB22⟩
      · rename_i n
        have HL := Lib.hid hl
        have hcp := spell_some hl
        obtain ⟨N, hN⟩ : ∃ N, N = cntT ps s := ⟨_, rfl⟩
        rw [← hN] at hcp
        have HC := Lib.hid hN
        clear hl hN
        have k10 := (by have h := SpellMessage_any ps s _ _ w2 hsm fb_2 (by omega); rw [HL.out, show (some n).isSome = true from rfl] at h; exact h : Calls Try.prog 22 #[.agg #[.slice A2 ps.length c2], .string s] w2 (RetOwT (waysI (spellN ps s)) true w2))
        have K1 := Lib.hid k10
        clear k10
        go_wp2_with fail
        refine (K1.out).mono ?_
        rintro e w3 ⟨x, rfl, fx, hb3⟩
        obtain ⟨Ax, cx, rfl, _⟩ := fx.form
        rw [waysI_len] at fx ⊢
        have fx_3 : RdI w3 w3.heap.size (.slice Ax (spellN ps s).length cx) (waysI (spellN ps s)) := fx.rd
        clear fx
        have hw3 : Below w2.heap.size w2 w3 := hb3
        have hs3 : w2.heap.size ≤ w3.heap.size := hw3.size
        have hB3 : Below w.heap.size w w3 := hB2.trans (hw3.mono (by omega))
        have H0_3 : RdU w3 w.heap.size (.slice A0 xs0.length c0) xs0 := H0_2.below hw3 (by omega)
        clear H0_2
        have H1_3 : RdU w3 w.heap.size (.slice A1 xs1.length c1) xs1 := H1_2.below hw3 (by omega)
        clear H1_2
        have fb_3 : RdB w3 w1.heap.size (.agg #[.slice A2 ps.length c2]) ps := fb_2.below hw3 (by omega)
        clear fb_2
        have qb20_3 := (hw3.cell (p := ⟨w1.heap.size, 0, Option.none⟩) (by show w1.heap.size < _; omega)).trans qb20_2
        clear qb20_2
        clear K1
        have k20 := (by have h := sSpellMessage_any ps s _ _ w3 hsm fb_3 (by omega); rw [HL.out, show (some n).isSome = true from rfl] at h; exact h : Calls Try.prog 23 #[.agg #[.slice A2 ps.length c2], .string s] w3 (RetOwT (waysI (spellN ps s)) true w3))
        have K2 := Lib.hid k20
        clear k20
        go_wp2_with fail
        refine (K2.out).mono ?_
        rintro e w4 ⟨y, rfl, fy, hb4⟩
        obtain ⟨Ay, cy, rfl, _⟩ := fy.form
        rw [waysI_len] at fy ⊢
        have fy_4 : RdI w4 w4.heap.size (.slice Ay (spellN ps s).length cy) (waysI (spellN ps s)) := fy.rd
        clear fy
        have hw4 : Below w3.heap.size w3 w4 := hb4
        have hs4 : w3.heap.size ≤ w4.heap.size := hw4.size
        have hB4 : Below w.heap.size w w4 := hB3.trans (hw4.mono (by omega))
        have H0_4 : RdU w4 w.heap.size (.slice A0 xs0.length c0) xs0 := H0_3.below hw4 (by omega)
        clear H0_3
        have H1_4 : RdU w4 w.heap.size (.slice A1 xs1.length c1) xs1 := H1_3.below hw4 (by omega)
        clear H1_3
        have fb_4 : RdB w4 w1.heap.size (.agg #[.slice A2 ps.length c2]) ps := fb_3.below hw4 (by omega)
        clear fb_3
        have fx_4 : RdI w4 w3.heap.size (.slice Ax (spellN ps s).length cx) (waysI (spellN ps s)) := fx_3.below hw4 (by omega)
        clear fx_3
        have qb20_4 := (hw4.cell (p := ⟨w1.heap.size, 0, Option.none⟩) (by show w1.heap.size < _; omega)).trans qb20_3
        clear qb20_3
        clear K2
        have k30 := (by have h := EncodeMessage_any ps s _ _ w4 hsm fb_4 (by omega); rw [HL.out, show (some n).isSome = true from rfl] at h; exact h : Calls Try.prog 24 #[.agg #[.slice A2 ps.length c2], .string s] w4 (RetOwT (sigsOf ps (spellN ps s)) true w4))
        have K3 := Lib.hid k30
        clear k30
        go_wp2_with fail
        refine (K3.out).mono ?_
        rintro e w5 ⟨p, rfl, fp, hb5⟩
        obtain ⟨Ap, cp, rfl, _⟩ := fp.form
        rw [enc_len HL.out] at fp ⊢
        have fp_5 : RdI w5 w5.heap.size (.slice Ap n cp) (sigsOf ps (spellN ps s)) := fp.rd
        clear fp
        have hw5 : Below w4.heap.size w4 w5 := hb5
        have hs5 : w4.heap.size ≤ w5.heap.size := hw5.size
        have hB5 : Below w.heap.size w w5 := hB4.trans (hw5.mono (by omega))
        have H0_5 : RdU w5 w.heap.size (.slice A0 xs0.length c0) xs0 := H0_4.below hw5 (by omega)
        clear H0_4
        have H1_5 : RdU w5 w.heap.size (.slice A1 xs1.length c1) xs1 := H1_4.below hw5 (by omega)
        clear H1_4
        have fb_5 : RdB w5 w1.heap.size (.agg #[.slice A2 ps.length c2]) ps := fb_4.below hw5 (by omega)
        clear fb_4
        have fx_5 : RdI w5 w3.heap.size (.slice Ax (spellN ps s).length cx) (waysI (spellN ps s)) := fx_4.below hw5 (by omega)
        clear fx_4
        have fy_5 : RdI w5 w4.heap.size (.slice Ay (spellN ps s).length cy) (waysI (spellN ps s)) := fy_4.below hw5 (by omega)
        clear fy_4
        have qb20_5 := (hw5.cell (p := ⟨w1.heap.size, 0, Option.none⟩) (by show w1.heap.size < _; omega)).trans qb20_4
        clear qb20_4
        clear K3
        have k40 := (by have h := sEncodeMessage_any ps s _ _ w5 hsm fb_5 (by omega); rw [HL.out, show (some n).isSome = true from rfl] at h; exact h : Calls Try.prog 25 #[.agg #[.slice A2 ps.length c2], .string s] w5 (RetOwT (sigsOf ps (spellN ps s)) true w5))
        have K4 := Lib.hid k40
        clear k40
        go_wp2_with fail
        refine (K4.out).mono ?_
        rintro e w6 ⟨q, rfl, fq, hb6⟩
        obtain ⟨Aq, cq, rfl, _⟩ := fq.form
        rw [enc_len HL.out] at fq ⊢
        have fq_6 : RdI w6 w6.heap.size (.slice Aq n cq) (sigsOf ps (spellN ps s)) := fq.rd
        clear fq
        have hw6 : Below w5.heap.size w5 w6 := hb6
        have hs6 : w5.heap.size ≤ w6.heap.size := hw6.size
        have hB6 : Below w.heap.size w w6 := hB5.trans (hw6.mono (by omega))
        have H0_6 : RdU w6 w.heap.size (.slice A0 xs0.length c0) xs0 := H0_5.below hw6 (by omega)
        clear H0_5
        have H1_6 : RdU w6 w.heap.size (.slice A1 xs1.length c1) xs1 := H1_5.below hw6 (by omega)
        clear H1_5
        have fb_6 : RdB w6 w1.heap.size (.agg #[.slice A2 ps.length c2]) ps := fb_5.below hw6 (by omega)
        clear fb_5
        have fx_6 : RdI w6 w3.heap.size (.slice Ax (spellN ps s).length cx) (waysI (spellN ps s)) := fx_5.below hw6 (by omega)
        clear fx_5
        have fy_6 : RdI w6 w4.heap.size (.slice Ay (spellN ps s).length cy) (waysI (spellN ps s)) := fy_5.below hw6 (by omega)
        clear fy_5
        have fp_6 : RdI w6 w5.heap.size (.slice Ap n cp) (sigsOf ps (spellN ps s)) := fp_5.below hw6 (by omega)
        clear fp_5
        have qb20_6 := (hw6.cell (p := ⟨w1.heap.size, 0, Option.none⟩) (by show w1.heap.size < _; omega)).trans qb20_5
        clear qb20_5
        clear K4
        have k50 := (by have h := LeastSignals_any ps s _ _ w6 hsm fb_6 (by omega); rw [HL.out, show lstV (some n) = .tuple #[.int .i64 (n), .bool true] from rfl] at h; exact h : Calls Try.prog 26 #[.agg #[.slice A2 ps.length c2], .string s] w6 fun e w' => e = .returned (.tuple #[.int .i64 (n), .bool true]) ∧ Below w6.heap.size w6 w')
        have K5 := Lib.hid k50
        clear k50
        go_wp2_with fail
        refine (K5.out).mono ?_
        rintro e w7 ⟨rfl, hb7⟩
        have hw7 : Below w6.heap.size w6 w7 := hb7
        have hs7 : w6.heap.size ≤ w7.heap.size := hw7.size
        have hB7 : Below w.heap.size w w7 := hB6.trans (hw7.mono (by omega))
        have H0_7 : RdU w7 w.heap.size (.slice A0 xs0.length c0) xs0 := H0_6.below hw7 (by omega)
        clear H0_6
        have H1_7 : RdU w7 w.heap.size (.slice A1 xs1.length c1) xs1 := H1_6.below hw7 (by omega)
        clear H1_6
        have fb_7 : RdB w7 w1.heap.size (.agg #[.slice A2 ps.length c2]) ps := fb_6.below hw7 (by omega)
        clear fb_6
        have fx_7 : RdI w7 w3.heap.size (.slice Ax (spellN ps s).length cx) (waysI (spellN ps s)) := fx_6.below hw7 (by omega)
        clear fx_6
        have fy_7 : RdI w7 w4.heap.size (.slice Ay (spellN ps s).length cy) (waysI (spellN ps s)) := fy_6.below hw7 (by omega)
        clear fy_6
        have fp_7 : RdI w7 w5.heap.size (.slice Ap n cp) (sigsOf ps (spellN ps s)) := fp_6.below hw7 (by omega)
        clear fp_6
        have fq_7 : RdI w7 w6.heap.size (.slice Aq n cq) (sigsOf ps (spellN ps s)) := fq_6.below hw7 (by omega)
        clear fq_6
        have qb20_7 := (hw7.cell (p := ⟨w1.heap.size, 0, Option.none⟩) (by show w1.heap.size < _; omega)).trans qb20_6
        clear qb20_6
        clear K5
        have k60 := (by have h := sLeastSignals_any ps s _ _ w7 hsm fb_7 (by omega); rw [HL.out, show lstV (some n) = .tuple #[.int .i64 (n), .bool true] from rfl] at h; exact h : Calls Try.prog 27 #[.agg #[.slice A2 ps.length c2], .string s] w7 fun e w' => e = .returned (.tuple #[.int .i64 (n), .bool true]) ∧ Below w7.heap.size w7 w')
        have K6 := Lib.hid k60
        clear k60
        go_wp2_with fail
        refine (K6.out).mono ?_
        rintro e w8 ⟨rfl, hb8⟩
        have hw8 : Below w7.heap.size w7 w8 := hb8
        have hs8 : w7.heap.size ≤ w8.heap.size := hw8.size
        have hB8 : Below w.heap.size w w8 := hB7.trans (hw8.mono (by omega))
        have H0_8 : RdU w8 w.heap.size (.slice A0 xs0.length c0) xs0 := H0_7.below hw8 (by omega)
        clear H0_7
        have H1_8 : RdU w8 w.heap.size (.slice A1 xs1.length c1) xs1 := H1_7.below hw8 (by omega)
        clear H1_7
        have fb_8 : RdB w8 w1.heap.size (.agg #[.slice A2 ps.length c2]) ps := fb_7.below hw8 (by omega)
        clear fb_7
        have fx_8 : RdI w8 w3.heap.size (.slice Ax (spellN ps s).length cx) (waysI (spellN ps s)) := fx_7.below hw8 (by omega)
        clear fx_7
        have fy_8 : RdI w8 w4.heap.size (.slice Ay (spellN ps s).length cy) (waysI (spellN ps s)) := fy_7.below hw8 (by omega)
        clear fy_7
        have fp_8 : RdI w8 w5.heap.size (.slice Ap n cp) (sigsOf ps (spellN ps s)) := fp_7.below hw8 (by omega)
        clear fp_7
        have fq_8 : RdI w8 w6.heap.size (.slice Aq n cq) (sigsOf ps (spellN ps s)) := fq_7.below hw8 (by omega)
        clear fq_7
        have qb20_8 := (hw8.cell (p := ⟨w1.heap.size, 0, Option.none⟩) (by show w1.heap.size < _; omega)).trans qb20_7
        clear qb20_7
        clear K6
        have k70 := (by have h := CountSpellings_any ps s _ _ w8 hsm fb_8 (by omega); rw [HGD.out, ← HC.out, show cntV true N = .tuple #[.int .i64 (N), .bool true] from rfl] at h; exact h : Calls Try.prog 28 #[.agg #[.slice A2 ps.length c2], .string s] w8 fun e w' => e = .returned (.tuple #[.int .i64 (N), .bool true]) ∧ Below w8.heap.size w8 w')
        have K7 := Lib.hid k70
        clear k70
        go_wp2_with fail
        refine (K7.out).mono ?_
        rintro e w9 ⟨rfl, hb9⟩
        have hw9 : Below w8.heap.size w8 w9 := hb9
        have hs9 : w8.heap.size ≤ w9.heap.size := hw9.size
        have hB9 : Below w.heap.size w w9 := hB8.trans (hw9.mono (by omega))
        have H0_9 : RdU w9 w.heap.size (.slice A0 xs0.length c0) xs0 := H0_8.below hw9 (by omega)
        clear H0_8
        have H1_9 : RdU w9 w.heap.size (.slice A1 xs1.length c1) xs1 := H1_8.below hw9 (by omega)
        clear H1_8
        have fb_9 : RdB w9 w1.heap.size (.agg #[.slice A2 ps.length c2]) ps := fb_8.below hw9 (by omega)
        clear fb_8
        have fx_9 : RdI w9 w3.heap.size (.slice Ax (spellN ps s).length cx) (waysI (spellN ps s)) := fx_8.below hw9 (by omega)
        clear fx_8
        have fy_9 : RdI w9 w4.heap.size (.slice Ay (spellN ps s).length cy) (waysI (spellN ps s)) := fy_8.below hw9 (by omega)
        clear fy_8
        have fp_9 : RdI w9 w5.heap.size (.slice Ap n cp) (sigsOf ps (spellN ps s)) := fp_8.below hw9 (by omega)
        clear fp_8
        have fq_9 : RdI w9 w6.heap.size (.slice Aq n cq) (sigsOf ps (spellN ps s)) := fq_8.below hw9 (by omega)
        clear fq_8
        have qb20_9 := (hw9.cell (p := ⟨w1.heap.size, 0, Option.none⟩) (by show w1.heap.size < _; omega)).trans qb20_8
        clear qb20_8
        clear K7
        have k80 := (by have h := sCountSpellings_any ps s _ _ w9 hsm fb_9 (by omega); rw [HGD.out, ← HC.out, show cntV true N = .tuple #[.int .i64 (N), .bool true] from rfl] at h; exact h : Calls Try.prog 29 #[.agg #[.slice A2 ps.length c2], .string s] w9 fun e w' => e = .returned (.tuple #[.int .i64 (N), .bool true]) ∧ Below w9.heap.size w9 w')
        have K8 := Lib.hid k80
        clear k80
        go_wp2_with fail
        refine (K8.out).mono ?_
        rintro e w10 ⟨rfl, hb10⟩
        have hw10 : Below w9.heap.size w9 w10 := hb10
        have hs10 : w9.heap.size ≤ w10.heap.size := hw10.size
        have hB10 : Below w.heap.size w w10 := hB9.trans (hw10.mono (by omega))
        have H0_10 : RdU w10 w.heap.size (.slice A0 xs0.length c0) xs0 := H0_9.below hw10 (by omega)
        clear H0_9
        have H1_10 : RdU w10 w.heap.size (.slice A1 xs1.length c1) xs1 := H1_9.below hw10 (by omega)
        clear H1_9
        have fb_10 : RdB w10 w1.heap.size (.agg #[.slice A2 ps.length c2]) ps := fb_9.below hw10 (by omega)
        clear fb_9
        have fx_10 : RdI w10 w3.heap.size (.slice Ax (spellN ps s).length cx) (waysI (spellN ps s)) := fx_9.below hw10 (by omega)
        clear fx_9
        have fy_10 : RdI w10 w4.heap.size (.slice Ay (spellN ps s).length cy) (waysI (spellN ps s)) := fy_9.below hw10 (by omega)
        clear fy_9
        have fp_10 : RdI w10 w5.heap.size (.slice Ap n cp) (sigsOf ps (spellN ps s)) := fp_9.below hw10 (by omega)
        clear fp_9
        have fq_10 : RdI w10 w6.heap.size (.slice Aq n cq) (sigsOf ps (spellN ps s)) := fq_9.below hw10 (by omega)
        clear fq_9
        have qb20_10 := (hw10.cell (p := ⟨w1.heap.size, 0, Option.none⟩) (by show w1.heap.size < _; omega)).trans qb20_9
        clear qb20_9
        clear K8
        have k90 := (by have h := SpelledPart_any ps s _ _ w10 hsm fb_10 (by omega); rw [HGD.out, part_full HL.out, show cntV true s.size = .tuple #[.int .i64 (s.size), .bool true] from rfl] at h; exact h : Calls Try.prog 30 #[.agg #[.slice A2 ps.length c2], .string s] w10 fun e w' => e = .returned (.tuple #[.int .i64 (s.size), .bool true]) ∧ Below w10.heap.size w10 w')
        have K9 := Lib.hid k90
        clear k90
        go_wp2_with fail
        refine (K9.out).mono ?_
        rintro e w11 ⟨rfl, hb11⟩
        have hw11 : Below w10.heap.size w10 w11 := hb11
        have hs11 : w10.heap.size ≤ w11.heap.size := hw11.size
        have hB11 : Below w.heap.size w w11 := hB10.trans (hw11.mono (by omega))
        have H0_11 : RdU w11 w.heap.size (.slice A0 xs0.length c0) xs0 := H0_10.below hw11 (by omega)
        clear H0_10
        have H1_11 : RdU w11 w.heap.size (.slice A1 xs1.length c1) xs1 := H1_10.below hw11 (by omega)
        clear H1_10
        have fb_11 : RdB w11 w1.heap.size (.agg #[.slice A2 ps.length c2]) ps := fb_10.below hw11 (by omega)
        clear fb_10
        have fx_11 : RdI w11 w3.heap.size (.slice Ax (spellN ps s).length cx) (waysI (spellN ps s)) := fx_10.below hw11 (by omega)
        clear fx_10
        have fy_11 : RdI w11 w4.heap.size (.slice Ay (spellN ps s).length cy) (waysI (spellN ps s)) := fy_10.below hw11 (by omega)
        clear fy_10
        have fp_11 : RdI w11 w5.heap.size (.slice Ap n cp) (sigsOf ps (spellN ps s)) := fp_10.below hw11 (by omega)
        clear fp_10
        have fq_11 : RdI w11 w6.heap.size (.slice Aq n cq) (sigsOf ps (spellN ps s)) := fq_10.below hw11 (by omega)
        clear fq_10
        have qb20_11 := (hw11.cell (p := ⟨w1.heap.size, 0, Option.none⟩) (by show w1.heap.size < _; omega)).trans qb20_10
        clear qb20_10
        clear K9
        have ka0 := (by have h := sSpelledPart_any ps s _ _ w11 hsm fb_11 (by omega); rw [HGD.out, part_full HL.out, show cntV true s.size = .tuple #[.int .i64 (s.size), .bool true] from rfl] at h; exact h : Calls Try.prog 31 #[.agg #[.slice A2 ps.length c2], .string s] w11 fun e w' => e = .returned (.tuple #[.int .i64 (s.size), .bool true]) ∧ Below w11.heap.size w11 w')
        have KA := Lib.hid ka0
        clear ka0
        go_wp2_with fail
        refine (KA.out).mono ?_
        rintro e w12 ⟨rfl, hb12⟩
        have hw12 : Below w11.heap.size w11 w12 := hb12
        have hs12 : w11.heap.size ≤ w12.heap.size := hw12.size
        have hB12 : Below w.heap.size w w12 := hB11.trans (hw12.mono (by omega))
        have H0_12 : RdU w12 w.heap.size (.slice A0 xs0.length c0) xs0 := H0_11.below hw12 (by omega)
        clear H0_11
        have H1_12 : RdU w12 w.heap.size (.slice A1 xs1.length c1) xs1 := H1_11.below hw12 (by omega)
        clear H1_11
        have fb_12 : RdB w12 w1.heap.size (.agg #[.slice A2 ps.length c2]) ps := fb_11.below hw12 (by omega)
        clear fb_11
        have fx_12 : RdI w12 w3.heap.size (.slice Ax (spellN ps s).length cx) (waysI (spellN ps s)) := fx_11.below hw12 (by omega)
        clear fx_11
        have fy_12 : RdI w12 w4.heap.size (.slice Ay (spellN ps s).length cy) (waysI (spellN ps s)) := fy_11.below hw12 (by omega)
        clear fy_11
        have fp_12 : RdI w12 w5.heap.size (.slice Ap n cp) (sigsOf ps (spellN ps s)) := fp_11.below hw12 (by omega)
        clear fp_11
        have fq_12 : RdI w12 w6.heap.size (.slice Aq n cq) (sigsOf ps (spellN ps s)) := fq_11.below hw12 (by omega)
        clear fq_11
        have qb20_12 := (hw12.cell (p := ⟨w1.heap.size, 0, Option.none⟩) (by show w1.heap.size < _; omega)).trans qb20_11
        clear qb20_11
        clear KA
        have hd1 : decide (0 < N) = true := decide_eq_true hcp
        go_wp2_with fail
        refine (sameInts_sameB _ _ _ _ _ _ fx_12 fy_12).mono ?_
        rintro e w13 ⟨rfl, hb13⟩
        have hw13 : Below w12.heap.size w12 w13 := hb13
        have hs13 : w12.heap.size ≤ w13.heap.size := hw13.size
        have hB13 : Below w.heap.size w w13 := hB12.trans (hw13.mono (by omega))
        have H0_13 : RdU w13 w.heap.size (.slice A0 xs0.length c0) xs0 := H0_12.below hw13 (by omega)
        clear H0_12
        have H1_13 : RdU w13 w.heap.size (.slice A1 xs1.length c1) xs1 := H1_12.below hw13 (by omega)
        clear H1_12
        have fb_13 : RdB w13 w1.heap.size (.agg #[.slice A2 ps.length c2]) ps := fb_12.below hw13 (by omega)
        clear fb_12
        have fx_13 : RdI w13 w3.heap.size (.slice Ax (spellN ps s).length cx) (waysI (spellN ps s)) := fx_12.below hw13 (by omega)
        clear fx_12
        have fy_13 : RdI w13 w4.heap.size (.slice Ay (spellN ps s).length cy) (waysI (spellN ps s)) := fy_12.below hw13 (by omega)
        clear fy_12
        have fp_13 : RdI w13 w5.heap.size (.slice Ap n cp) (sigsOf ps (spellN ps s)) := fp_12.below hw13 (by omega)
        clear fp_12
        have fq_13 : RdI w13 w6.heap.size (.slice Aq n cq) (sigsOf ps (spellN ps s)) := fq_12.below hw13 (by omega)
        clear fq_12
        have qb20_13 := (hw13.cell (p := ⟨w1.heap.size, 0, Option.none⟩) (by show w1.heap.size < _; omega)).trans qb20_12
        clear qb20_12
        clear fy_13
        go_wp2_with fail
        refine (sameInts_sameB _ _ _ _ _ _ fp_13 fq_13).mono ?_
        rintro e w14 ⟨rfl, hb14⟩
        have hw14 : Below w13.heap.size w13 w14 := hb14
        have hs14 : w13.heap.size ≤ w14.heap.size := hw14.size
        have hB14 : Below w.heap.size w w14 := hB13.trans (hw14.mono (by omega))
        have H0_14 : RdU w14 w.heap.size (.slice A0 xs0.length c0) xs0 := H0_13.below hw14 (by omega)
        clear H0_13
        have H1_14 : RdU w14 w.heap.size (.slice A1 xs1.length c1) xs1 := H1_13.below hw14 (by omega)
        clear H1_13
        have fb_14 : RdB w14 w1.heap.size (.agg #[.slice A2 ps.length c2]) ps := fb_13.below hw14 (by omega)
        clear fb_13
        have fx_14 : RdI w14 w3.heap.size (.slice Ax (spellN ps s).length cx) (waysI (spellN ps s)) := fx_13.below hw14 (by omega)
        clear fx_13
        have fp_14 : RdI w14 w5.heap.size (.slice Ap n cp) (sigsOf ps (spellN ps s)) := fp_13.below hw14 (by omega)
        clear fp_13
        have fq_14 : RdI w14 w6.heap.size (.slice Aq n cq) (sigsOf ps (spellN ps s)) := fq_13.below hw14 (by omega)
        clear fq_13
        have qb20_14 := (hw14.cell (p := ⟨w1.heap.size, 0, Option.none⟩) (by show w1.heap.size < _; omega)).trans qb20_13
        clear qb20_13
        have kb0 := (by have h := TextOfPhrases_any ps (waysI (spellN ps s)) _ _ _ _ w14 fb_14 fx_14 (by omega) (by omega); rw [txts_spell HL.out] at h; exact h : Calls Try.prog 33 #[.agg #[.slice A2 ps.length c2], .slice Ax (spellN ps s).length cx] w14 fun e w' => e = .returned (.tuple #[.string s, .bool true]) ∧ Below w14.heap.size w14 w')
        have KB := Lib.hid kb0
        clear kb0
        go_wp2_with fail
        refine (KB.out).mono ?_
        rintro e w15 ⟨rfl, hb15⟩
        have hw15 : Below w14.heap.size w14 w15 := hb15
        have hs15 : w14.heap.size ≤ w15.heap.size := hw15.size
        have hB15 : Below w.heap.size w w15 := hB14.trans (hw15.mono (by omega))
        have H0_15 : RdU w15 w.heap.size (.slice A0 xs0.length c0) xs0 := H0_14.below hw15 (by omega)
        clear H0_14
        have H1_15 : RdU w15 w.heap.size (.slice A1 xs1.length c1) xs1 := H1_14.below hw15 (by omega)
        clear H1_14
        have fb_15 : RdB w15 w1.heap.size (.agg #[.slice A2 ps.length c2]) ps := fb_14.below hw15 (by omega)
        clear fb_14
        have fx_15 : RdI w15 w3.heap.size (.slice Ax (spellN ps s).length cx) (waysI (spellN ps s)) := fx_14.below hw15 (by omega)
        clear fx_14
        have fp_15 : RdI w15 w5.heap.size (.slice Ap n cp) (sigsOf ps (spellN ps s)) := fp_14.below hw15 (by omega)
        clear fp_14
        have fq_15 : RdI w15 w6.heap.size (.slice Aq n cq) (sigsOf ps (spellN ps s)) := fq_14.below hw15 (by omega)
        clear fq_14
        have qb20_15 := (hw15.cell (p := ⟨w1.heap.size, 0, Option.none⟩) (by show w1.heap.size < _; omega)).trans qb20_14
        clear qb20_14
        clear KB
        clear fx_15
        by_cases h60 : n ≤ 60
        · have hd2 : decide (n ≤ 60) = true := decide_eq_true h60
          have HRB := Lib.hid (readB_spell HL.out h60)
          obtain ⟨R, hR⟩ : ∃ R, R = cntS ps (sigsOf ps (spellN ps s)) := ⟨_, rfl⟩
          have hR1 : 1 ≤ R := by have h := HGD.out; rw [Bool.and_eq_true] at h; rw [hR]; exact read_sent h.1 (spellN_lt ps s)
          have HR := Lib.hid hR
          clear hR
          have kc0 := (by have h := CountReadings_any ps (sigsOf ps (spellN ps s)) _ _ _ _ w15 fb_15 fp_15 (by omega) (by omega); rw [HRB.out, ← HR.out, show cntV true R = .tuple #[.int .i64 (R), .bool true] from rfl] at h; exact h : Calls Try.prog 34 #[.agg #[.slice A2 ps.length c2], .slice Ap n cp] w15 fun e w' => e = .returned (.tuple #[.int .i64 (R), .bool true]) ∧ Below w15.heap.size w15 w')
          have KC := Lib.hid kc0
          clear kc0
          go_wp2_with fail
          refine (KC.out).mono ?_
          rintro e w16 ⟨rfl, hb16⟩
          have hw16 : Below w15.heap.size w15 w16 := hb16
          have hs16 : w15.heap.size ≤ w16.heap.size := hw16.size
          have hB16 : Below w.heap.size w w16 := hB15.trans (hw16.mono (by omega))
          have H0_16 : RdU w16 w.heap.size (.slice A0 xs0.length c0) xs0 := H0_15.below hw16 (by omega)
          clear H0_15
          have H1_16 : RdU w16 w.heap.size (.slice A1 xs1.length c1) xs1 := H1_15.below hw16 (by omega)
          clear H1_15
          have fb_16 : RdB w16 w1.heap.size (.agg #[.slice A2 ps.length c2]) ps := fb_15.below hw16 (by omega)
          clear fb_15
          have fp_16 : RdI w16 w5.heap.size (.slice Ap n cp) (sigsOf ps (spellN ps s)) := fp_15.below hw16 (by omega)
          clear fp_15
          have fq_16 : RdI w16 w6.heap.size (.slice Aq n cq) (sigsOf ps (spellN ps s)) := fq_15.below hw16 (by omega)
          clear fq_15
          have qb20_16 := (hw16.cell (p := ⟨w1.heap.size, 0, Option.none⟩) (by show w1.heap.size < _; omega)).trans qb20_15
          clear qb20_15
          clear KC
          have kd0 := (by have h := sCountReadings_any ps (sigsOf ps (spellN ps s)) _ _ _ _ w16 fb_16 fq_16 (by omega) (by omega); rw [HRB.out, ← HR.out, show cntV true R = .tuple #[.int .i64 (R), .bool true] from rfl] at h; exact h : Calls Try.prog 35 #[.agg #[.slice A2 ps.length c2], .slice Aq n cq] w16 fun e w' => e = .returned (.tuple #[.int .i64 (R), .bool true]) ∧ Below w16.heap.size w16 w')
          have KD := Lib.hid kd0
          clear kd0
          go_wp2_with fail
          refine (KD.out).mono ?_
          rintro e w17 ⟨rfl, hb17⟩
          have hw17 : Below w16.heap.size w16 w17 := hb17
          have hs17 : w16.heap.size ≤ w17.heap.size := hw17.size
          have hB17 : Below w.heap.size w w17 := hB16.trans (hw17.mono (by omega))
          have H0_17 : RdU w17 w.heap.size (.slice A0 xs0.length c0) xs0 := H0_16.below hw17 (by omega)
          clear H0_16
          have H1_17 : RdU w17 w.heap.size (.slice A1 xs1.length c1) xs1 := H1_16.below hw17 (by omega)
          clear H1_16
          have fb_17 : RdB w17 w1.heap.size (.agg #[.slice A2 ps.length c2]) ps := fb_16.below hw17 (by omega)
          clear fb_16
          have fp_17 : RdI w17 w5.heap.size (.slice Ap n cp) (sigsOf ps (spellN ps s)) := fp_16.below hw17 (by omega)
          clear fp_16
          have fq_17 : RdI w17 w6.heap.size (.slice Aq n cq) (sigsOf ps (spellN ps s)) := fq_16.below hw17 (by omega)
          clear fq_16
          have qb20_17 := (hw17.cell (p := ⟨w1.heap.size, 0, Option.none⟩) (by show w1.heap.size < _; omega)).trans qb20_16
          clear qb20_16
          clear KD
          have hd3 : decide (R < 1) = false := decide_eq_false (by omega)
          clear fp_17
          clear fq_17
          clear qb20_17
          clear fb_17
          go_wp2_with fail
          refine (DrawSavedSignals_any xs1 _ w.heap.size w17 H1_17 (by omega)).mono ?_
          rintro e w18 ⟨u5, n5, t, rfl, hn5, hsz5, hr5, hb18⟩
          obtain ⟨A5, c5, rfl⟩ := hr5.form
          obtain ⟨qs, hpl5, fc⟩ := hr5.rdb
          subst hpl5
          clear hr5
          have hw18 : Below w17.heap.size w17 w18 := hb18
          have hs18 : w17.heap.size ≤ w18.heap.size := hw18.size
          have hB18 : Below w.heap.size w w18 := hB17.trans (hw18.mono (by omega))
          have H0_18 : RdU w18 w.heap.size (.slice A0 xs0.length c0) xs0 := H0_17.below hw18 (by omega)
          clear H0_17
          have H1_18 : RdU w18 w.heap.size (.slice A1 xs1.length c1) xs1 := H1_17.below hw18 (by omega)
          clear H1_17
          have hb19 : Below w18.heap.size w18 (w18.alloc (.cells #[.slice A5 qs.length c5] 28)) := (Below.refl _ _).alloc (Nat.le_refl _) _
          have hz19 : (w18.alloc (.cells #[.slice A5 qs.length c5] 28)).heap.size = w18.heap.size + 1 := by simp
          have qb50_19 : (w18.alloc (.cells #[.slice A5 qs.length c5] 28)).cell? ⟨w18.heap.size, 0, Option.none⟩ = some (.slice A5 qs.length c5) := (Blk.new w18 28 #[.slice A5 qs.length c5]).cell 0
          go_wp2_with fail
          generalize w18.alloc (.cells #[.slice A5 qs.length c5] 28) = w19 at hb19 hz19 qb50_19 ⊢
          have hy19 : w18.heap.size + 1 ≤ w19.heap.size := by omega
          clear hz19
          have hw19 : Below w18.heap.size w18 w19 := hb19
          have hs19 : w18.heap.size ≤ w19.heap.size := hw19.size
          have hB19 : Below w.heap.size w w19 := hB18.trans (hw19.mono (by omega))
          have H0_19 : RdU w19 w.heap.size (.slice A0 xs0.length c0) xs0 := H0_18.below hw19 (by omega)
          clear H0_18
          have H1_19 : RdU w19 w.heap.size (.slice A1 xs1.length c1) xs1 := H1_18.below hw19 (by omega)
          clear H1_18
          have fc_19 : RdB w19 w18.heap.size (.agg #[.slice A5 qs.length c5]) qs := fc.below hw19 (by omega)
          clear fc
          have htm : t.size ≤ maxLen := by unfold maxLen; omega
          obtain ⟨z5, q5, hz5, hz5n⟩ := sav_told qs t
          have HZ5 := Lib.hid hz5
          clear hz5
          have ke0 := (by have h := SavedSignals_any qs t _ _ w19 htm fc_19 (by omega); rw [HZ5.out] at h; exact h : Calls Try.prog 37 #[.agg #[.slice A5 qs.length c5], .string t] w19 fun e w' => e = .returned (.tuple #[.int .i64 z5, .bool q5]) ∧ Below w19.heap.size w19 w')
          have KE := Lib.hid ke0
          clear ke0
          go_wp2_with fail
          refine (KE.out).mono ?_
          rintro e w20 ⟨rfl, hb20⟩
          have hw20 : Below w19.heap.size w19 w20 := hb20
          have hs20 : w19.heap.size ≤ w20.heap.size := hw20.size
          have hB20 : Below w.heap.size w w20 := hB19.trans (hw20.mono (by omega))
          have H0_20 : RdU w20 w.heap.size (.slice A0 xs0.length c0) xs0 := H0_19.below hw20 (by omega)
          clear H0_19
          have H1_20 : RdU w20 w.heap.size (.slice A1 xs1.length c1) xs1 := H1_19.below hw20 (by omega)
          clear H1_19
          have fc_20 : RdB w20 w18.heap.size (.agg #[.slice A5 qs.length c5]) qs := fc_19.below hw20 (by omega)
          clear fc_19
          have qb50_20 := (hw20.cell (p := ⟨w18.heap.size, 0, Option.none⟩) (by show w18.heap.size < _; omega)).trans qb50_19
          clear qb50_19
          clear KE
          have kf0 := (by have h := sSavedSignals_any qs t _ _ w20 htm fc_20 (by omega); rw [HZ5.out] at h; exact h : Calls Try.prog 38 #[.agg #[.slice A5 qs.length c5], .string t] w20 fun e w' => e = .returned (.tuple #[.int .i64 z5, .bool q5]) ∧ Below w20.heap.size w20 w')
          have KF := Lib.hid kf0
          clear kf0
          go_wp2_with fail
          refine (KF.out).mono ?_
          rintro e w21 ⟨rfl, hb21⟩
          have hw21 : Below w20.heap.size w20 w21 := hb21
          have hs21 : w20.heap.size ≤ w21.heap.size := hw21.size
          have hB21 : Below w.heap.size w w21 := hB20.trans (hw21.mono (by omega))
          have H0_21 : RdU w21 w.heap.size (.slice A0 xs0.length c0) xs0 := H0_20.below hw21 (by omega)
          clear H0_20
          have H1_21 : RdU w21 w.heap.size (.slice A1 xs1.length c1) xs1 := H1_20.below hw21 (by omega)
          clear H1_20
          have fc_21 : RdB w21 w18.heap.size (.agg #[.slice A5 qs.length c5]) qs := fc_20.below hw21 (by omega)
          clear fc_20
          have qb50_21 := (hw21.cell (p := ⟨w18.heap.size, 0, Option.none⟩) (by show w18.heap.size < _; omega)).trans qb50_20
          clear qb50_20
          clear KF
          clear qb50_21
          clear fc_21
          go_wp2_with fail
          refine (DrawLoneLetters_any xs1 _ w.heap.size w21 H1_21 (by omega)).mono ?_
          rintro e w22 ⟨u7, n7, rfl, hn7, hr7, hb22⟩
          obtain ⟨A7, c7, rfl⟩ := hr7.form
          obtain ⟨rs, hpl7, fl⟩ := hr7.rdb
          subst hpl7
          clear hr7
          have hw22 : Below w21.heap.size w21 w22 := hb22
          have hs22 : w21.heap.size ≤ w22.heap.size := hw22.size
          have hB22 : Below w.heap.size w w22 := hB21.trans (hw22.mono (by omega))
          have H0_22 : RdU w22 w.heap.size (.slice A0 xs0.length c0) xs0 := H0_21.below hw22 (by omega)
          clear H0_21
          have H1_22 : RdU w22 w.heap.size (.slice A1 xs1.length c1) xs1 := H1_21.below hw22 (by omega)
          clear H1_21
          have hb23 : Below w22.heap.size w22 (w22.alloc (.cells #[.slice A7 rs.length c7] 28)) := (Below.refl _ _).alloc (Nat.le_refl _) _
          have hz23 : (w22.alloc (.cells #[.slice A7 rs.length c7] 28)).heap.size = w22.heap.size + 1 := by simp
          have qb70_23 : (w22.alloc (.cells #[.slice A7 rs.length c7] 28)).cell? ⟨w22.heap.size, 0, Option.none⟩ = some (.slice A7 rs.length c7) := (Blk.new w22 28 #[.slice A7 rs.length c7]).cell 0
          go_wp2_with fail
          generalize w22.alloc (.cells #[.slice A7 rs.length c7] 28) = w23 at hb23 hz23 qb70_23 ⊢
          have hy23 : w22.heap.size + 1 ≤ w23.heap.size := by omega
          clear hz23
          have hw23 : Below w22.heap.size w22 w23 := hb23
          have hs23 : w22.heap.size ≤ w23.heap.size := hw23.size
          have hB23 : Below w.heap.size w w23 := hB22.trans (hw23.mono (by omega))
          have H0_23 : RdU w23 w.heap.size (.slice A0 xs0.length c0) xs0 := H0_22.below hw23 (by omega)
          clear H0_22
          have H1_23 : RdU w23 w.heap.size (.slice A1 xs1.length c1) xs1 := H1_22.below hw23 (by omega)
          clear H1_22
          have fl_23 : RdB w23 w22.heap.size (.agg #[.slice A7 rs.length c7]) rs := fl.below hw23 (by omega)
          clear fl
          obtain ⟨p8, q8, hT8⟩ := loneV_form rs
          have HT8 := Lib.hid hT8
          clear hT8
          have kg0 := (by have h := Lone_any rs _ _ w23 fl_23 (by omega); rw [HT8.out] at h; exact h : Calls Try.prog 40 #[.agg #[.slice A7 rs.length c7]] w23 fun e w' => e = .returned (.tuple #[.string p8, .bool q8]) ∧ Below w23.heap.size w23 w')
          have KG := Lib.hid kg0
          clear kg0
          go_wp2_with fail
          refine (KG.out).mono ?_
          rintro e w24 ⟨rfl, hb24⟩
          have hw24 : Below w23.heap.size w23 w24 := hb24
          have hs24 : w23.heap.size ≤ w24.heap.size := hw24.size
          have hB24 : Below w.heap.size w w24 := hB23.trans (hw24.mono (by omega))
          have H0_24 : RdU w24 w.heap.size (.slice A0 xs0.length c0) xs0 := H0_23.below hw24 (by omega)
          clear H0_23
          have H1_24 : RdU w24 w.heap.size (.slice A1 xs1.length c1) xs1 := H1_23.below hw24 (by omega)
          clear H1_23
          have fl_24 : RdB w24 w22.heap.size (.agg #[.slice A7 rs.length c7]) rs := fl_23.below hw24 (by omega)
          clear fl_23
          have qb70_24 := (hw24.cell (p := ⟨w22.heap.size, 0, Option.none⟩) (by show w22.heap.size < _; omega)).trans qb70_23
          clear qb70_23
          clear KG
          have kh0 := (by have h := sLone_any rs _ _ w24 fl_24 (by omega); rw [HT8.out] at h; exact h : Calls Try.prog 41 #[.agg #[.slice A7 rs.length c7]] w24 fun e w' => e = .returned (.tuple #[.string p8, .bool q8]) ∧ Below w24.heap.size w24 w')
          have KH := Lib.hid kh0
          clear kh0
          go_wp2_with fail
          refine (KH.out).mono ?_
          rintro e w25 ⟨rfl, hb25⟩
          have hw25 : Below w24.heap.size w24 w25 := hb25
          have hs25 : w24.heap.size ≤ w25.heap.size := hw25.size
          have hB25 : Below w.heap.size w w25 := hB24.trans (hw25.mono (by omega))
          have H0_25 : RdU w25 w.heap.size (.slice A0 xs0.length c0) xs0 := H0_24.below hw25 (by omega)
          clear H0_24
          have H1_25 : RdU w25 w.heap.size (.slice A1 xs1.length c1) xs1 := H1_24.below hw25 (by omega)
          clear H1_24
          have fl_25 : RdB w25 w22.heap.size (.agg #[.slice A7 rs.length c7]) rs := fl_24.below hw25 (by omega)
          clear fl_24
          have qb70_25 := (hw25.cell (p := ⟨w22.heap.size, 0, Option.none⟩) (by show w22.heap.size < _; omega)).trans qb70_24
          clear qb70_24
          clear KH
          cases q5
          · go_wp2_with fail
            go_ret
            exact ⟨ret_bool (by simp), hB25⟩
          · have hz5b := hz5n rfl
            have hd9 : decide (0 ≤ z5) = true := decide_eq_true hz5b
            go_wp2_with fail
            go_ret
            exact ⟨ret_bool (by simp), hB25⟩
        · have hd2 : decide (n ≤ 60) = false := decide_eq_false h60
          clear fp_15
          clear fq_15
          clear qb20_15
          clear fb_15
          go_wp2_with fail
          refine (DrawSavedSignals_any xs1 _ w.heap.size w15 H1_15 (by omega)).mono ?_
          rintro e w16 ⟨u5, n5, t, rfl, hn5, hsz5, hr5, hb16⟩
          obtain ⟨A5, c5, rfl⟩ := hr5.form
          obtain ⟨qs, hpl5, fc⟩ := hr5.rdb
          subst hpl5
          clear hr5
          have hw16 : Below w15.heap.size w15 w16 := hb16
          have hs16 : w15.heap.size ≤ w16.heap.size := hw16.size
          have hB16 : Below w.heap.size w w16 := hB15.trans (hw16.mono (by omega))
          have H0_16 : RdU w16 w.heap.size (.slice A0 xs0.length c0) xs0 := H0_15.below hw16 (by omega)
          clear H0_15
          have H1_16 : RdU w16 w.heap.size (.slice A1 xs1.length c1) xs1 := H1_15.below hw16 (by omega)
          clear H1_15
          have hb17 : Below w16.heap.size w16 (w16.alloc (.cells #[.slice A5 qs.length c5] 28)) := (Below.refl _ _).alloc (Nat.le_refl _) _
          have hz17 : (w16.alloc (.cells #[.slice A5 qs.length c5] 28)).heap.size = w16.heap.size + 1 := by simp
          have qb50_17 : (w16.alloc (.cells #[.slice A5 qs.length c5] 28)).cell? ⟨w16.heap.size, 0, Option.none⟩ = some (.slice A5 qs.length c5) := (Blk.new w16 28 #[.slice A5 qs.length c5]).cell 0
          go_wp2_with fail
          generalize w16.alloc (.cells #[.slice A5 qs.length c5] 28) = w17 at hb17 hz17 qb50_17 ⊢
          have hy17 : w16.heap.size + 1 ≤ w17.heap.size := by omega
          clear hz17
          have hw17 : Below w16.heap.size w16 w17 := hb17
          have hs17 : w16.heap.size ≤ w17.heap.size := hw17.size
          have hB17 : Below w.heap.size w w17 := hB16.trans (hw17.mono (by omega))
          have H0_17 : RdU w17 w.heap.size (.slice A0 xs0.length c0) xs0 := H0_16.below hw17 (by omega)
          clear H0_16
          have H1_17 : RdU w17 w.heap.size (.slice A1 xs1.length c1) xs1 := H1_16.below hw17 (by omega)
          clear H1_16
          have fc_17 : RdB w17 w16.heap.size (.agg #[.slice A5 qs.length c5]) qs := fc.below hw17 (by omega)
          clear fc
          have htm : t.size ≤ maxLen := by unfold maxLen; omega
          obtain ⟨z5, q5, hz5, hz5n⟩ := sav_told qs t
          have HZ5 := Lib.hid hz5
          clear hz5
          have ke0 := (by have h := SavedSignals_any qs t _ _ w17 htm fc_17 (by omega); rw [HZ5.out] at h; exact h : Calls Try.prog 37 #[.agg #[.slice A5 qs.length c5], .string t] w17 fun e w' => e = .returned (.tuple #[.int .i64 z5, .bool q5]) ∧ Below w17.heap.size w17 w')
          have KE := Lib.hid ke0
          clear ke0
          go_wp2_with fail
          refine (KE.out).mono ?_
          rintro e w18 ⟨rfl, hb18⟩
          have hw18 : Below w17.heap.size w17 w18 := hb18
          have hs18 : w17.heap.size ≤ w18.heap.size := hw18.size
          have hB18 : Below w.heap.size w w18 := hB17.trans (hw18.mono (by omega))
          have H0_18 : RdU w18 w.heap.size (.slice A0 xs0.length c0) xs0 := H0_17.below hw18 (by omega)
          clear H0_17
          have H1_18 : RdU w18 w.heap.size (.slice A1 xs1.length c1) xs1 := H1_17.below hw18 (by omega)
          clear H1_17
          have fc_18 : RdB w18 w16.heap.size (.agg #[.slice A5 qs.length c5]) qs := fc_17.below hw18 (by omega)
          clear fc_17
          have qb50_18 := (hw18.cell (p := ⟨w16.heap.size, 0, Option.none⟩) (by show w16.heap.size < _; omega)).trans qb50_17
          clear qb50_17
          clear KE
          have kf0 := (by have h := sSavedSignals_any qs t _ _ w18 htm fc_18 (by omega); rw [HZ5.out] at h; exact h : Calls Try.prog 38 #[.agg #[.slice A5 qs.length c5], .string t] w18 fun e w' => e = .returned (.tuple #[.int .i64 z5, .bool q5]) ∧ Below w18.heap.size w18 w')
          have KF := Lib.hid kf0
          clear kf0
          go_wp2_with fail
          refine (KF.out).mono ?_
          rintro e w19 ⟨rfl, hb19⟩
          have hw19 : Below w18.heap.size w18 w19 := hb19
          have hs19 : w18.heap.size ≤ w19.heap.size := hw19.size
          have hB19 : Below w.heap.size w w19 := hB18.trans (hw19.mono (by omega))
          have H0_19 : RdU w19 w.heap.size (.slice A0 xs0.length c0) xs0 := H0_18.below hw19 (by omega)
          clear H0_18
          have H1_19 : RdU w19 w.heap.size (.slice A1 xs1.length c1) xs1 := H1_18.below hw19 (by omega)
          clear H1_18
          have fc_19 : RdB w19 w16.heap.size (.agg #[.slice A5 qs.length c5]) qs := fc_18.below hw19 (by omega)
          clear fc_18
          have qb50_19 := (hw19.cell (p := ⟨w16.heap.size, 0, Option.none⟩) (by show w16.heap.size < _; omega)).trans qb50_18
          clear qb50_18
          clear KF
          clear qb50_19
          clear fc_19
          go_wp2_with fail
          refine (DrawLoneLetters_any xs1 _ w.heap.size w19 H1_19 (by omega)).mono ?_
          rintro e w20 ⟨u7, n7, rfl, hn7, hr7, hb20⟩
          obtain ⟨A7, c7, rfl⟩ := hr7.form
          obtain ⟨rs, hpl7, fl⟩ := hr7.rdb
          subst hpl7
          clear hr7
          have hw20 : Below w19.heap.size w19 w20 := hb20
          have hs20 : w19.heap.size ≤ w20.heap.size := hw20.size
          have hB20 : Below w.heap.size w w20 := hB19.trans (hw20.mono (by omega))
          have H0_20 : RdU w20 w.heap.size (.slice A0 xs0.length c0) xs0 := H0_19.below hw20 (by omega)
          clear H0_19
          have H1_20 : RdU w20 w.heap.size (.slice A1 xs1.length c1) xs1 := H1_19.below hw20 (by omega)
          clear H1_19
          have hb21 : Below w20.heap.size w20 (w20.alloc (.cells #[.slice A7 rs.length c7] 28)) := (Below.refl _ _).alloc (Nat.le_refl _) _
          have hz21 : (w20.alloc (.cells #[.slice A7 rs.length c7] 28)).heap.size = w20.heap.size + 1 := by simp
          have qb70_21 : (w20.alloc (.cells #[.slice A7 rs.length c7] 28)).cell? ⟨w20.heap.size, 0, Option.none⟩ = some (.slice A7 rs.length c7) := (Blk.new w20 28 #[.slice A7 rs.length c7]).cell 0
          go_wp2_with fail
          generalize w20.alloc (.cells #[.slice A7 rs.length c7] 28) = w21 at hb21 hz21 qb70_21 ⊢
          have hy21 : w20.heap.size + 1 ≤ w21.heap.size := by omega
          clear hz21
          have hw21 : Below w20.heap.size w20 w21 := hb21
          have hs21 : w20.heap.size ≤ w21.heap.size := hw21.size
          have hB21 : Below w.heap.size w w21 := hB20.trans (hw21.mono (by omega))
          have H0_21 : RdU w21 w.heap.size (.slice A0 xs0.length c0) xs0 := H0_20.below hw21 (by omega)
          clear H0_20
          have H1_21 : RdU w21 w.heap.size (.slice A1 xs1.length c1) xs1 := H1_20.below hw21 (by omega)
          clear H1_20
          have fl_21 : RdB w21 w20.heap.size (.agg #[.slice A7 rs.length c7]) rs := fl.below hw21 (by omega)
          clear fl
          obtain ⟨p8, q8, hT8⟩ := loneV_form rs
          have HT8 := Lib.hid hT8
          clear hT8
          have kg0 := (by have h := Lone_any rs _ _ w21 fl_21 (by omega); rw [HT8.out] at h; exact h : Calls Try.prog 40 #[.agg #[.slice A7 rs.length c7]] w21 fun e w' => e = .returned (.tuple #[.string p8, .bool q8]) ∧ Below w21.heap.size w21 w')
          have KG := Lib.hid kg0
          clear kg0
          go_wp2_with fail
          refine (KG.out).mono ?_
          rintro e w22 ⟨rfl, hb22⟩
          have hw22 : Below w21.heap.size w21 w22 := hb22
          have hs22 : w21.heap.size ≤ w22.heap.size := hw22.size
          have hB22 : Below w.heap.size w w22 := hB21.trans (hw22.mono (by omega))
          have H0_22 : RdU w22 w.heap.size (.slice A0 xs0.length c0) xs0 := H0_21.below hw22 (by omega)
          clear H0_21
          have H1_22 : RdU w22 w.heap.size (.slice A1 xs1.length c1) xs1 := H1_21.below hw22 (by omega)
          clear H1_21
          have fl_22 : RdB w22 w20.heap.size (.agg #[.slice A7 rs.length c7]) rs := fl_21.below hw22 (by omega)
          clear fl_21
          have qb70_22 := (hw22.cell (p := ⟨w20.heap.size, 0, Option.none⟩) (by show w20.heap.size < _; omega)).trans qb70_21
          clear qb70_21
          clear KG
          have kh0 := (by have h := sLone_any rs _ _ w22 fl_22 (by omega); rw [HT8.out] at h; exact h : Calls Try.prog 41 #[.agg #[.slice A7 rs.length c7]] w22 fun e w' => e = .returned (.tuple #[.string p8, .bool q8]) ∧ Below w22.heap.size w22 w')
          have KH := Lib.hid kh0
          clear kh0
          go_wp2_with fail
          refine (KH.out).mono ?_
          rintro e w23 ⟨rfl, hb23⟩
          have hw23 : Below w22.heap.size w22 w23 := hb23
          have hs23 : w22.heap.size ≤ w23.heap.size := hw23.size
          have hB23 : Below w.heap.size w w23 := hB22.trans (hw23.mono (by omega))
          have H0_23 : RdU w23 w.heap.size (.slice A0 xs0.length c0) xs0 := H0_22.below hw23 (by omega)
          clear H0_22
          have H1_23 : RdU w23 w.heap.size (.slice A1 xs1.length c1) xs1 := H1_22.below hw23 (by omega)
          clear H1_22
          have fl_23 : RdB w23 w20.heap.size (.agg #[.slice A7 rs.length c7]) rs := fl_22.below hw23 (by omega)
          clear fl_22
          have qb70_23 := (hw23.cell (p := ⟨w20.heap.size, 0, Option.none⟩) (by show w20.heap.size < _; omega)).trans qb70_22
          clear qb70_22
          clear KH
          cases q5
          · go_wp2_with fail
            go_ret
            exact ⟨ret_bool (by simp), hB23⟩
          · have hz5b := hz5n rfl
            have hd9 : decide (0 ≤ z5) = true := decide_eq_true hz5b
            go_wp2_with fail
            go_ret
            exact ⟨ret_bool (by simp), hB23⟩
  · rw [hbig] at cb
    have CB := Lib.hid cb
    clear cb hbig
    go_enter Try.func5, Try.ntmps5
    go_wp2_with fail
    refine CB.out.mono ?_
    rintro e _ ⟨rfl, rfl⟩
    go_wp2_with fail
    go_ret
    exact ⟨rfl, Below.refl _ _⟩
end Go.Proofs.Ytjnkdjokbamibaa.fnSpelling
