/- Proved: FnExactReadMessage returns true for every book and all signals.
   Conditions: none; for every input that the row speaks of. -/
import Derived.Test.YtabhnbooboceeaaP
import Derived.Test.YtabhnbooboceeaaO3
import Derived.Test.YtabhnbooboceeaaG7
import Derived.Deep.RegionHeld3
namespace Go.Proofs.Ytabhnbooboceeaa.fnExactReadMessage
open Go.ChangeShapes Go.WideShapes Go.ChangeAt Go.RowKit
open Go.ChangeMaps (open_string)
set_option linter.unusedVariables false
set_option maxHeartbeats 4000000 in
set_option maxRecDepth 100000 in
theorem walk (v0 : Value) (xs0 : List Phr) (v1 : Value) (xs1 : List Int) (w : World) (hr0 : RdB w w.heap.size v0 xs0) (hr1 : RdI w w.heap.size v1 xs1) : Calls Try.prog 6 #[v0, v1] w fun e w' => e = .returned (.bool true) ∧ Below w.heap.size w w' := by
  obtain ⟨_, rfl, hr0⟩ := hr0
  obtain ⟨A0, c0, rfl, hc0, hm0⟩ := hr0.form
  have hr0 : RdB w w.heap.size (.agg #[.slice A0 xs0.length c0]) xs0 := ⟨_, rfl, hr0⟩
  have H0 := Lib.hid hr0
  clear hr0
  obtain ⟨A1, c1, rfl, hc1, hm1⟩ := Rd.form hr1
  have H1 := Lib.hid hr1
  clear hr1
  by_cases hbig1 : 1048576 < xs1.length
  · go_enter Try.func6, Try.ntmps6
    go_wp2_with fail
    go_ret
    exact ⟨rfl, (Below.refl _ _).alloc (Nat.le_refl _) _⟩
  have hsm1 : xs1.length ≤ 1048576 := by omega
  obtain ⟨z0, hz0⟩ : ∃ z : Int, z = szBookM xs0 1048576 := ⟨_, rfl⟩
  have HZ0 := Lib.hid hz0
  clear hz0
  by_cases hneg0 : z0 < 0
  · go_enter Try.func6, Try.ntmps6
    have hb1 : Below w.heap.size w (w.alloc (.cells #[.slice A0 xs0.length c0] 24)) := (Below.refl _ _).alloc (Nat.le_refl _) _
    have hz1 : (w.alloc (.cells #[.slice A0 xs0.length c0] 24)).heap.size = w.heap.size + 1 := by simp
    have qa00_1 : (w.alloc (.cells #[.slice A0 xs0.length c0] 24)).cell? ⟨w.heap.size, 0, Option.none⟩ = some (.slice A0 xs0.length c0) := (Blk.new w 24 #[.slice A0 xs0.length c0]).cell 0
    go_wp2_with fail
    generalize w.alloc (.cells #[.slice A0 xs0.length c0] 24) = w1 at hb1 hz1 qa00_1 ⊢
    have hy1 : w.heap.size + 1 ≤ w1.heap.size := by omega
    clear hz1
    have hw1 : Below w.heap.size w w1 := hb1
    have hs1 : w.heap.size ≤ w1.heap.size := hw1.size
    have hB1 : Below w.heap.size w w1 := hw1.mono (by omega)
    have H0_1 : RdB w1 w.heap.size (.agg #[.slice A0 xs0.length c0]) xs0 := H0.out.below hw1 (by omega)
    have H1_1 : RdI w1 w.heap.size (.slice A1 xs1.length c1) xs1 := H1.out.below hw1 (by omega)
    go_wp2_with fail
    refine (szBook_any xs0 (.agg #[.slice A0 xs0.length c0]) 1048576 _ _ H0_1 (by omega) (by omega) (by omega)).mono ?_
    rw [← HZ0.out]
    rintro e w2 ⟨rfl, hb2⟩
    have hw2 : Below w1.heap.size w1 w2 := hb2
    have hs2 : w1.heap.size ≤ w2.heap.size := hw2.size
    have hB2 : Below w.heap.size w w2 := hB1.trans (hw2.mono (by omega))
    have H0_2 : RdB w2 w.heap.size (.agg #[.slice A0 xs0.length c0]) xs0 := H0_1.below hw2 (by omega)
    clear H0_1
    have H1_2 : RdI w2 w.heap.size (.slice A1 xs1.length c1) xs1 := H1_1.below hw2 (by omega)
    clear H1_1
    have qa00_2 := (hw2.cell (p := ⟨w.heap.size, 0, Option.none⟩) (by show w.heap.size < _; omega)).trans qa00_1
    clear qa00_1
    go_wp2_with fail
    go_ret
    exact ⟨rfl, hB2⟩
  have hsb0 := szBook_bd HZ0.out hneg0
  go_enter Try.func6, Try.ntmps6
  have hb1 : Below w.heap.size w (w.alloc (.cells #[.slice A0 xs0.length c0] 24)) := (Below.refl _ _).alloc (Nat.le_refl _) _
  have hz1 : (w.alloc (.cells #[.slice A0 xs0.length c0] 24)).heap.size = w.heap.size + 1 := by simp
  have qa00_1 : (w.alloc (.cells #[.slice A0 xs0.length c0] 24)).cell? ⟨w.heap.size, 0, Option.none⟩ = some (.slice A0 xs0.length c0) := (Blk.new w 24 #[.slice A0 xs0.length c0]).cell 0
  go_wp2_with fail
  generalize w.alloc (.cells #[.slice A0 xs0.length c0] 24) = w1 at hb1 hz1 qa00_1 ⊢
  have hy1 : w.heap.size + 1 ≤ w1.heap.size := by omega
  clear hz1
  have hw1 : Below w.heap.size w w1 := hb1
  have hs1 : w.heap.size ≤ w1.heap.size := hw1.size
  have hB1 : Below w.heap.size w w1 := hw1.mono (by omega)
  have H0_1 : RdB w1 w.heap.size (.agg #[.slice A0 xs0.length c0]) xs0 := H0.out.below hw1 (by omega)
  have H1_1 : RdI w1 w.heap.size (.slice A1 xs1.length c1) xs1 := H1.out.below hw1 (by omega)
  go_wp2_with fail
  refine (szBook_any xs0 (.agg #[.slice A0 xs0.length c0]) 1048576 _ _ H0_1 (by omega) (by omega) (by omega)).mono ?_
  rw [← HZ0.out]
  rintro e w2 ⟨rfl, hb2⟩
  have hw2 : Below w1.heap.size w1 w2 := hb2
  have hs2 : w1.heap.size ≤ w2.heap.size := hw2.size
  have hB2 : Below w.heap.size w w2 := hB1.trans (hw2.mono (by omega))
  have H0_2 : RdB w2 w.heap.size (.agg #[.slice A0 xs0.length c0]) xs0 := H0_1.below hw2 (by omega)
  clear H0_1
  have H1_2 : RdI w2 w.heap.size (.slice A1 xs1.length c1) xs1 := H1_1.below hw2 (by omega)
  clear H1_1
  have qa00_2 := (hw2.cell (p := ⟨w.heap.size, 0, Option.none⟩) (by show w.heap.size < _; omega)).trans qa00_1
  clear qa00_1
  go_wp2_with fail
  refine (toBook_any xs0 _ w.heap.size _ H0_2 hsb0 (by omega)).mono ?_
  rintro e w3 ⟨u0, rfl, fu0, hb3⟩
  obtain ⟨_, rfl, hgu0⟩ := fu0
  obtain ⟨Au0, cu0, rfl, _, _⟩ := hgu0.rd.form
  have fu0_3 : OwB w3 w2.heap.size w3.heap.size (.agg #[.slice Au0 (xs0).length cu0]) xs0 := ⟨_, rfl, hgu0⟩
  clear hgu0
  have hw3 : Below w2.heap.size w2 w3 := hb3
  have hs3 : w2.heap.size ≤ w3.heap.size := hw3.size
  have hB3 : Below w.heap.size w w3 := hB2.trans (hw3.mono (by omega))
  have H0_3 : RdB w3 w.heap.size (.agg #[.slice A0 xs0.length c0]) xs0 := H0_2.below hw3 (by omega)
  clear H0_2
  have H1_3 : RdI w3 w.heap.size (.slice A1 xs1.length c1) xs1 := H1_2.below hw3 (by omega)
  clear H1_2
  have qa00_3 := (hw3.cell (p := ⟨w.heap.size, 0, Option.none⟩) (by show w.heap.size < _; omega)).trans qa00_2
  clear qa00_2
  go_wp2_with fail
  refine (toIntS_any xs1 _ w.heap.size _ H1_3 (by omega) (by omega)).mono ?_
  rintro e w4 ⟨u1, rfl, fu1, hb4⟩
  have fu1_4 : OwI w4 w3.heap.size w4.heap.size u1 xs1 := fu1
  have hw4 : Below w3.heap.size w3 w4 := hb4
  have hs4 : w3.heap.size ≤ w4.heap.size := hw4.size
  have hB4 : Below w.heap.size w w4 := hB3.trans (hw4.mono (by omega))
  have H0_4 : RdB w4 w.heap.size (.agg #[.slice A0 xs0.length c0]) xs0 := H0_3.below hw4 (by omega)
  clear H0_3
  have H1_4 : RdI w4 w.heap.size (.slice A1 xs1.length c1) xs1 := H1_3.below hw4 (by omega)
  clear H1_3
  have fu0_4 : OwB w4 w2.heap.size w3.heap.size (.agg #[.slice Au0 (xs0).length cu0]) xs0 := fu0_3.below hw4 (by omega)
  clear fu0_3
  have qa00_4 := (hw4.cell (p := ⟨w.heap.size, 0, Option.none⟩) (by show w.heap.size < _; omega)).trans qa00_3
  clear qa00_3
  obtain ⟨p0, q0, hT⟩ : ∃ p0 q0, msgV xs0 xs1 = .tuple #[.string p0, .bool q0] := msgV_form _ _
  have c1 := sReadMessage_any xs0 xs1 (.agg #[.slice Au0 (xs0).length cu0]) u1 _ _ _ fu0_4.rd fu1_4.rd (by omega) (by omega)
  rw [hT] at c1
  have C1 := Lib.hid c1
  clear c1
  have HT := Lib.hid hT
  clear hT
  go_wp2_with fail
  refine (C1.out).mono ?_
  rintro e w5 ⟨rfl, hb5⟩
  have hw5 : Below w4.heap.size w4 w5 := hb5
  have hs5 : w4.heap.size ≤ w5.heap.size := hw5.size
  have hB5 : Below w.heap.size w w5 := hB4.trans (hw5.mono (by omega))
  have H0_5 : RdB w5 w.heap.size (.agg #[.slice A0 xs0.length c0]) xs0 := H0_4.below hw5 (by omega)
  clear H0_4
  have H1_5 : RdI w5 w.heap.size (.slice A1 xs1.length c1) xs1 := H1_4.below hw5 (by omega)
  clear H1_4
  have fu0_5 : OwB w5 w2.heap.size w3.heap.size (.agg #[.slice Au0 (xs0).length cu0]) xs0 := fu0_4.below hw5 (by omega)
  clear fu0_4
  have fu1_5 : OwI w5 w3.heap.size w4.heap.size u1 xs1 := fu1_4.below hw5 (by omega)
  clear fu1_4
  have qa00_5 := (hw5.cell (p := ⟨w.heap.size, 0, Option.none⟩) (by show w.heap.size < _; omega)).trans qa00_4
  clear qa00_4
  go_wp2_with fail
  refine (toBook_any xs0 _ w.heap.size _ H0_5 hsb0 (by omega)).mono ?_
  rintro e w6 ⟨x0, rfl, fx0, hb6⟩
  obtain ⟨_, rfl, hgx0⟩ := fx0
  obtain ⟨Ax0, cx0, rfl, _, _⟩ := hgx0.rd.form
  have fx0_6 : OwB w6 w5.heap.size w6.heap.size (.agg #[.slice Ax0 (xs0).length cx0]) xs0 := ⟨_, rfl, hgx0⟩
  clear hgx0
  have hw6 : Below w5.heap.size w5 w6 := hb6
  have hs6 : w5.heap.size ≤ w6.heap.size := hw6.size
  have hB6 : Below w.heap.size w w6 := hB5.trans (hw6.mono (by omega))
  have H0_6 : RdB w6 w.heap.size (.agg #[.slice A0 xs0.length c0]) xs0 := H0_5.below hw6 (by omega)
  clear H0_5
  have H1_6 : RdI w6 w.heap.size (.slice A1 xs1.length c1) xs1 := H1_5.below hw6 (by omega)
  clear H1_5
  have fu0_6 : OwB w6 w2.heap.size w3.heap.size (.agg #[.slice Au0 (xs0).length cu0]) xs0 := fu0_5.below hw6 (by omega)
  clear fu0_5
  have fu1_6 : OwI w6 w3.heap.size w4.heap.size u1 xs1 := fu1_5.below hw6 (by omega)
  clear fu1_5
  have qa00_6 := (hw6.cell (p := ⟨w.heap.size, 0, Option.none⟩) (by show w.heap.size < _; omega)).trans qa00_5
  clear qa00_5
  have hb7 : Below w6.heap.size w6 (w6.alloc (.cells #[.slice Ax0 (xs0).length cx0] 30)) := (Below.refl _ _).alloc (Nat.le_refl _) _
  have hz7 : (w6.alloc (.cells #[.slice Ax0 (xs0).length cx0] 30)).heap.size = w6.heap.size + 1 := by simp
  have qx00_7 : (w6.alloc (.cells #[.slice Ax0 (xs0).length cx0] 30)).cell? ⟨w6.heap.size, 0, Option.none⟩ = some (.slice Ax0 (xs0).length cx0) := (Blk.new w6 30 #[.slice Ax0 (xs0).length cx0]).cell 0
  go_wp2_with fail
  generalize w6.alloc (.cells #[.slice Ax0 (xs0).length cx0] 30) = w7 at hb7 hz7 qx00_7 ⊢
  have hy7 : w6.heap.size + 1 ≤ w7.heap.size := by omega
  clear hz7
  have hw7 : Below w6.heap.size w6 w7 := hb7
  have hs7 : w6.heap.size ≤ w7.heap.size := hw7.size
  have hB7 : Below w.heap.size w w7 := hB6.trans (hw7.mono (by omega))
  have H0_7 : RdB w7 w.heap.size (.agg #[.slice A0 xs0.length c0]) xs0 := H0_6.below hw7 (by omega)
  clear H0_6
  have H1_7 : RdI w7 w.heap.size (.slice A1 xs1.length c1) xs1 := H1_6.below hw7 (by omega)
  clear H1_6
  have fu0_7 : OwB w7 w2.heap.size w3.heap.size (.agg #[.slice Au0 (xs0).length cu0]) xs0 := fu0_6.below hw7 (by omega)
  clear fu0_6
  have fu1_7 : OwI w7 w3.heap.size w4.heap.size u1 xs1 := fu1_6.below hw7 (by omega)
  clear fu1_6
  have fx0_7 : OwB w7 w5.heap.size w6.heap.size (.agg #[.slice Ax0 (xs0).length cx0]) xs0 := fx0_6.below hw7 (by omega)
  clear fx0_6
  have qa00_7 := (hw7.cell (p := ⟨w.heap.size, 0, Option.none⟩) (by show w.heap.size < _; omega)).trans qa00_6
  clear qa00_6
  go_wp2_with fail
  refine (toIntS_any xs1 _ w.heap.size _ H1_7 (by omega) (by omega)).mono ?_
  rintro e w8 ⟨x1, rfl, fx1, hb8⟩
  have fx1_8 : OwI w8 w7.heap.size w8.heap.size x1 xs1 := fx1
  have hw8 : Below w7.heap.size w7 w8 := hb8
  have hs8 : w7.heap.size ≤ w8.heap.size := hw8.size
  have hB8 : Below w.heap.size w w8 := hB7.trans (hw8.mono (by omega))
  have H0_8 : RdB w8 w.heap.size (.agg #[.slice A0 xs0.length c0]) xs0 := H0_7.below hw8 (by omega)
  clear H0_7
  have H1_8 : RdI w8 w.heap.size (.slice A1 xs1.length c1) xs1 := H1_7.below hw8 (by omega)
  clear H1_7
  have fu0_8 : OwB w8 w2.heap.size w3.heap.size (.agg #[.slice Au0 (xs0).length cu0]) xs0 := fu0_7.below hw8 (by omega)
  clear fu0_7
  have fu1_8 : OwI w8 w3.heap.size w4.heap.size u1 xs1 := fu1_7.below hw8 (by omega)
  clear fu1_7
  have fx0_8 : OwB w8 w5.heap.size w6.heap.size (.agg #[.slice Ax0 (xs0).length cx0]) xs0 := fx0_7.below hw8 (by omega)
  clear fx0_7
  have qa00_8 := (hw8.cell (p := ⟨w.heap.size, 0, Option.none⟩) (by show w.heap.size < _; omega)).trans qa00_7
  clear qa00_7
  have qx00_8 := (hw8.cell (p := ⟨w6.heap.size, 0, Option.none⟩) (by show w6.heap.size < _; omega)).trans qx00_7
  clear qx00_7
  have c2 := ReadMessage_any xs0 xs1 (.agg #[.slice Ax0 (xs0).length cx0]) x1 _ _ _ fx0_8.rd fx1_8.rd (by omega) (by omega)
  rw [HT.out] at c2
  have C2 := Lib.hid c2
  clear c2
  go_wp2_with fail
  refine (C2.out).mono ?_
  rintro e w9 ⟨rfl, hb9⟩
  have hw9 : Below w8.heap.size w8 w9 := hb9
  have hs9 : w8.heap.size ≤ w9.heap.size := hw9.size
  have hB9 : Below w.heap.size w w9 := hB8.trans (hw9.mono (by omega))
  have H0_9 : RdB w9 w.heap.size (.agg #[.slice A0 xs0.length c0]) xs0 := H0_8.below hw9 (by omega)
  clear H0_8
  have H1_9 : RdI w9 w.heap.size (.slice A1 xs1.length c1) xs1 := H1_8.below hw9 (by omega)
  clear H1_8
  have fu0_9 : OwB w9 w2.heap.size w3.heap.size (.agg #[.slice Au0 (xs0).length cu0]) xs0 := fu0_8.below hw9 (by omega)
  clear fu0_8
  have fu1_9 : OwI w9 w3.heap.size w4.heap.size u1 xs1 := fu1_8.below hw9 (by omega)
  clear fu1_8
  have fx0_9 : OwB w9 w5.heap.size w6.heap.size (.agg #[.slice Ax0 (xs0).length cx0]) xs0 := fx0_8.below hw9 (by omega)
  clear fx0_8
  have fx1_9 : OwI w9 w7.heap.size w8.heap.size x1 xs1 := fx1_8.below hw9 (by omega)
  clear fx1_8
  have qa00_9 := (hw9.cell (p := ⟨w.heap.size, 0, Option.none⟩) (by show w.heap.size < _; omega)).trans qa00_8
  clear qa00_8
  have qx00_9 := (hw9.cell (p := ⟨w6.heap.size, 0, Option.none⟩) (by show w6.heap.size < _; omega)).trans qx00_8
  clear qx00_8
  go_wp2_with fail
  have hb10 : Below w9.heap.size w9 w9.drew := (Below.refl _ _).drew
  have hw10 : Below w9.heap.size w9 w9.drew := hb10
  have hs10 : w9.heap.size ≤ w9.drew.heap.size := hw10.size
  have hB10 : Below w.heap.size w w9.drew := hB9.trans (hw10.mono (by omega))
  have H0_10 : RdB w9.drew w.heap.size (.agg #[.slice A0 xs0.length c0]) xs0 := H0_9.below hw10 (by omega)
  clear H0_9
  have H1_10 : RdI w9.drew w.heap.size (.slice A1 xs1.length c1) xs1 := H1_9.below hw10 (by omega)
  clear H1_9
  have fu0_10 : OwB w9.drew w2.heap.size w3.heap.size (.agg #[.slice Au0 (xs0).length cu0]) xs0 := fu0_9.below hw10 (by omega)
  clear fu0_9
  have fu1_10 : OwI w9.drew w3.heap.size w4.heap.size u1 xs1 := fu1_9.below hw10 (by omega)
  clear fu1_9
  have fx0_10 : OwB w9.drew w5.heap.size w6.heap.size (.agg #[.slice Ax0 (xs0).length cx0]) xs0 := fx0_9.below hw10 (by omega)
  clear fx0_9
  have fx1_10 : OwI w9.drew w7.heap.size w8.heap.size x1 xs1 := fx1_9.below hw10 (by omega)
  clear fx1_9
  have qa00_10 := (hw10.cell (p := ⟨w.heap.size, 0, Option.none⟩) (by show w.heap.size < _; omega)).trans qa00_9
  clear qa00_9
  have qx00_10 := (hw10.cell (p := ⟨w6.heap.size, 0, Option.none⟩) (by show w6.heap.size < _; omega)).trans qx00_9
  clear qx00_9
  go_region_held3 (fun w' => w'.cell? ⟨w6.heap.size, 0, Option.none⟩ = some (.slice Ax0 (xs0).length cx0) ∧ w'.cell? ⟨w.heap.size, 0, Option.none⟩ = some (.slice A0 xs0.length c0)) (first | exact ⟨qx00_12, qa00_12⟩ | exact ⟨qx00_11, qa00_11⟩ | exact ⟨qx00_10, qa00_10⟩)
    (first
      | (
        go_at_call 15
        refine (toBook_any xs0 _ w.heap.size _ H0_10 hsb0 (by omega)).mono ?_
        rintro e w11 ⟨y0, rfl, fy0, hb11⟩
        obtain ⟨_, rfl, hgy0⟩ := fy0
        obtain ⟨Ay0, cy0, rfl, _, _⟩ := hgy0.rd.form
        have fy0_11 : OwB w11 w9.drew.heap.size w11.heap.size (.agg #[.slice Ay0 (xs0).length cy0]) xs0 := ⟨_, rfl, hgy0⟩
        clear hgy0
        have hw11 : Below w9.drew.heap.size w9.drew w11 := hb11
        have hs11 : w9.drew.heap.size ≤ w11.heap.size := hw11.size
        have hB11 : Below w.heap.size w w11 := hB10.trans (hw11.mono (by omega))
        have H0_11 : RdB w11 w.heap.size (.agg #[.slice A0 xs0.length c0]) xs0 := H0_10.below hw11 (by omega)
        clear H0_10
        have H1_11 : RdI w11 w.heap.size (.slice A1 xs1.length c1) xs1 := H1_10.below hw11 (by omega)
        clear H1_10
        have fu0_11 : OwB w11 w2.heap.size w3.heap.size (.agg #[.slice Au0 (xs0).length cu0]) xs0 := fu0_10.below hw11 (by omega)
        clear fu0_10
        have fu1_11 : OwI w11 w3.heap.size w4.heap.size u1 xs1 := fu1_10.below hw11 (by omega)
        clear fu1_10
        have fx0_11 : OwB w11 w5.heap.size w6.heap.size (.agg #[.slice Ax0 (xs0).length cx0]) xs0 := fx0_10.below hw11 (by omega)
        clear fx0_10
        have fx1_11 : OwI w11 w7.heap.size w8.heap.size x1 xs1 := fx1_10.below hw11 (by omega)
        clear fx1_10
        have qa00_11 := (hw11.cell (p := ⟨w.heap.size, 0, Option.none⟩) (by show w.heap.size < _; omega)).trans qa00_10
        clear qa00_10
        have qx00_11 := (hw11.cell (p := ⟨w6.heap.size, 0, Option.none⟩) (by show w6.heap.size < _; omega)).trans qx00_10
        clear qx00_10)
      | (
        go_at_call 17
        refine (eqBook_sameB _ _ _ _ _ _ fx0_11.rd fy0_11.rd).mono ?_
        rintro e w12 ⟨rfl, hb12⟩
        have hw12 : Below w11.heap.size w11 w12 := hb12
        have hs12 : w11.heap.size ≤ w12.heap.size := hw12.size
        have hB12 : Below w.heap.size w w12 := hB11.trans (hw12.mono (by omega))
        have H0_12 : RdB w12 w.heap.size (.agg #[.slice A0 xs0.length c0]) xs0 := H0_11.below hw12 (by omega)
        clear H0_11
        have H1_12 : RdI w12 w.heap.size (.slice A1 xs1.length c1) xs1 := H1_11.below hw12 (by omega)
        clear H1_11
        have fu0_12 : OwB w12 w2.heap.size w3.heap.size (.agg #[.slice Au0 (xs0).length cu0]) xs0 := fu0_11.below hw12 (by omega)
        clear fu0_11
        have fu1_12 : OwI w12 w3.heap.size w4.heap.size u1 xs1 := fu1_11.below hw12 (by omega)
        clear fu1_11
        have fx0_12 : OwB w12 w5.heap.size w6.heap.size (.agg #[.slice Ax0 (xs0).length cx0]) xs0 := fx0_11.below hw12 (by omega)
        clear fx0_11
        have fx1_12 : OwI w12 w7.heap.size w8.heap.size x1 xs1 := fx1_11.below hw12 (by omega)
        clear fx1_11
        have fy0_12 : OwB w12 w9.drew.heap.size w11.heap.size (.agg #[.slice Ay0 (xs0).length cy0]) xs0 := fy0_11.below hw12 (by omega)
        clear fy0_11
        have qa00_12 := (hw12.cell (p := ⟨w.heap.size, 0, Option.none⟩) (by show w.heap.size < _; omega)).trans qa00_11
        clear qa00_11
        have qx00_12 := (hw12.cell (p := ⟨w6.heap.size, 0, Option.none⟩) (by show w6.heap.size < _; omega)).trans qx00_11
        clear qx00_11))
  go_wp2_with fail
  refine (toIntS_any xs1 _ w.heap.size _ H1_12 (by omega) (by omega)).mono ?_
  rintro e w13 ⟨y1, rfl, fy1, hb13⟩
  have fy1_13 : OwI w13 w12.heap.size w13.heap.size y1 xs1 := fy1
  have hw13 : Below w12.heap.size w12 w13 := hb13
  have hs13 : w12.heap.size ≤ w13.heap.size := hw13.size
  have hB13 : Below w.heap.size w w13 := hB12.trans (hw13.mono (by omega))
  have H0_13 : RdB w13 w.heap.size (.agg #[.slice A0 xs0.length c0]) xs0 := H0_12.below hw13 (by omega)
  clear H0_12
  have H1_13 : RdI w13 w.heap.size (.slice A1 xs1.length c1) xs1 := H1_12.below hw13 (by omega)
  clear H1_12
  have fu0_13 : OwB w13 w2.heap.size w3.heap.size (.agg #[.slice Au0 (xs0).length cu0]) xs0 := fu0_12.below hw13 (by omega)
  clear fu0_12
  have fu1_13 : OwI w13 w3.heap.size w4.heap.size u1 xs1 := fu1_12.below hw13 (by omega)
  clear fu1_12
  have fx0_13 : OwB w13 w5.heap.size w6.heap.size (.agg #[.slice Ax0 (xs0).length cx0]) xs0 := fx0_12.below hw13 (by omega)
  clear fx0_12
  have fx1_13 : OwI w13 w7.heap.size w8.heap.size x1 xs1 := fx1_12.below hw13 (by omega)
  clear fx1_12
  have fy0_13 : OwB w13 w9.drew.heap.size w11.heap.size (.agg #[.slice Ay0 (xs0).length cy0]) xs0 := fy0_12.below hw13 (by omega)
  clear fy0_12
  have qa00_13 := (hw13.cell (p := ⟨w.heap.size, 0, Option.none⟩) (by show w.heap.size < _; omega)).trans qa00_12
  clear qa00_12
  have qx00_13 := (hw13.cell (p := ⟨w6.heap.size, 0, Option.none⟩) (by show w6.heap.size < _; omega)).trans qx00_12
  clear qx00_12
  go_wp2_with fail
  refine (eqIntS_sameB _ _ _ _ _ _ fx1_13.rd fy1_13.rd).mono ?_
  rintro e w14 ⟨rfl, hb14⟩
  have hw14 : Below w13.heap.size w13 w14 := hb14
  have hs14 : w13.heap.size ≤ w14.heap.size := hw14.size
  have hB14 : Below w.heap.size w w14 := hB13.trans (hw14.mono (by omega))
  have H0_14 : RdB w14 w.heap.size (.agg #[.slice A0 xs0.length c0]) xs0 := H0_13.below hw14 (by omega)
  clear H0_13
  have H1_14 : RdI w14 w.heap.size (.slice A1 xs1.length c1) xs1 := H1_13.below hw14 (by omega)
  clear H1_13
  have fu0_14 : OwB w14 w2.heap.size w3.heap.size (.agg #[.slice Au0 (xs0).length cu0]) xs0 := fu0_13.below hw14 (by omega)
  clear fu0_13
  have fu1_14 : OwI w14 w3.heap.size w4.heap.size u1 xs1 := fu1_13.below hw14 (by omega)
  clear fu1_13
  have fx0_14 : OwB w14 w5.heap.size w6.heap.size (.agg #[.slice Ax0 (xs0).length cx0]) xs0 := fx0_13.below hw14 (by omega)
  clear fx0_13
  have fx1_14 : OwI w14 w7.heap.size w8.heap.size x1 xs1 := fx1_13.below hw14 (by omega)
  clear fx1_13
  have fy0_14 : OwB w14 w9.drew.heap.size w11.heap.size (.agg #[.slice Ay0 (xs0).length cy0]) xs0 := fy0_13.below hw14 (by omega)
  clear fy0_13
  have fy1_14 : OwI w14 w12.heap.size w13.heap.size y1 xs1 := fy1_13.below hw14 (by omega)
  clear fy1_13
  have qa00_14 := (hw14.cell (p := ⟨w.heap.size, 0, Option.none⟩) (by show w.heap.size < _; omega)).trans qa00_13
  clear qa00_13
  have qx00_14 := (hw14.cell (p := ⟨w6.heap.size, 0, Option.none⟩) (by show w6.heap.size < _; omega)).trans qx00_13
  clear qx00_13
  go_wp2_with fail
  go_ret
  exact ⟨rfl, hB14⟩
set_option maxRecDepth 100000 in
theorem lifted (os : Os) (started : os.Started) (H : Type) (enc : TypeId × Value → H) :
    ReturnsInHanded {} Try.checked os 6 .any (Rows.fnExactReadMessageSpec.pre6 enc Try.prog Try.f6 Rows.fnExactReadMessageRow.domain false) (Rows.fnExactReadMessageSpec.post enc Try.prog Try.f6 false true false false) := by
  refine returnsInHanded_of_change (C := Try.checked) own started (by kernel_rfl) Try.func6
    (ChangeSpec.witness6 (enc := enc) (C := Try.checked) false ⟨#[], #[.agg #[.slice Option.none 0 0], .slice Option.none 0 0], []⟩ 8 (by kernel_rfl) (by kernel_rfl) (by kernel_rfl) (by kernel_rfl)) ?_
  intro W base args ds gs before hval0 hW _ _
  have hval : ∀ (j : Nat) t v, Try.f6.params[j]? = some t → args[j]? = some v → Value.okWide Try.prog W .any base t v := hval0
  have hW' := hW
  obtain ⟨p, q, hA0, hV, rfl, hfz, hnd⟩ := hW
  have hA : DataW.TrodAll enc Try.prog W 0 (fun _ => true) true Try.f6.params.toList args.toList ds p := hA0
  rw [Try.params6] at hA hval
  obtain ⟨v0, vs0, d0, ds0, p0, q0, hargs, rfl, rfl, h0, r0⟩ := trodAll_cons hA
  obtain ⟨v1, vs1, d1, ds1, p1, q1, rfl, rfl, rfl, h1, r1⟩ := trodAll_cons r0
  obtain ⟨rfl, rfl, rfl⟩ := trodAll_nil r1
  obtain rfl : args = #[v0, v1] := by cases args; simp_all
  obtain ⟨rfl, rfl⟩ := trodVars_none hV
  obtain ⟨xs0, x0⟩ := open_book (hval 0 24 v0 rfl rfl) h0
  obtain ⟨f1, g1⟩ := h1
  rw [slice_cells Try.underlying37 (hval 1 37 v1 rfl rfl)] at g1
  obtain ⟨xs1, x1⟩ := open_intS g1
  clear hA0 hval0
  refine (walk v0 xs0 v1 xs1 W x0 x1).mono fun e W' ⟨he, hb⟩ => ?_
  subst he
  exact ⟨_, rfl, law_post hW' rfl rfl (by kernel_rfl) rfl hb⟩
theorem over : Rows.fnExactReadMessageRow.holds Try.pinned (OpenSpec.ofChange Rows.fnExactReadMessageSpec) :=
  OpenClaim.holds_of_wide 6 Try.f6 rfl rfl rfl rfl rfl rfl rfl ⟨rfl, rfl, rfl, rfl, rfl⟩ rfl rfl rfl rfl rfl (by kernel_rfl) Try.func6 (by kernel_rfl)
    (of_decide_eq_true (by kernel_rfl)) (by unfold Func.isWrapper; first | (rw [if_pos (by decide +kernel)]; kernel_rfl) | (rw [if_neg (by decide +kernel)]; exact ⟨rfl, rfl⟩))
    (fun os started H enc _ => lifted os started H enc)
/-- The statement. -/
theorem proved : Rows.FnExactReadMessageSaid :=
  over
#print axioms proved
end Go.Proofs.Ytabhnbooboceeaa.fnExactReadMessage
