/- Proved: FnExactFirstReading returns true for every book and all signals.
   Conditions: none; for every input that the row speaks of. -/
import Derived.Test.YtabhnbooboceeaaP
import Derived.Test.YtabhnbooboceeaaO3
import Derived.Test.YtabhnbooboceeaaG7
import Derived.Test.YtabhnbooboceeaaD7
import Derived.Deep.RegionHeld3
namespace Go.Proofs.Ytabhnbooboceeaa.fnExactFirstReading
open Go.ChangeShapes Go.WideShapes Go.ChangeAt Go.RowKit
open Go.ChangeMaps (open_string)
set_option linter.unusedVariables false
set_option maxHeartbeats 4000000 in
set_option maxRecDepth 100000 in
theorem walk (v0 : Value) (xs0 : List Phr) (v1 : Value) (xs1 : List Int) (w : World) (hr0 : RdB w w.heap.size v0 xs0) (hr1 : RdI w w.heap.size v1 xs1) : Calls Try.prog 5 #[v0, v1] w fun e w' => e = .returned (.bool true) ∧ Below w.heap.size w w' := by
  obtain ⟨_, rfl, hr0⟩ := hr0
  obtain ⟨A0, c0, rfl, hc0, hm0⟩ := hr0.form
  have hr0 : RdB w w.heap.size (.agg #[.slice A0 xs0.length c0]) xs0 := ⟨_, rfl, hr0⟩
  have H0 := Lib.hid hr0
  clear hr0
  obtain ⟨A1, c1, rfl, hc1, hm1⟩ := Rd.form hr1
  have H1 := Lib.hid hr1
  clear hr1
  by_cases hbig1 : 1048576 < xs1.length
  · go_enter Try.func5, Try.ntmps5
    go_wp2_with fail
    go_ret
    exact ⟨rfl, (Below.refl _ _).alloc (Nat.le_refl _) _⟩
  have hsm1 : xs1.length ≤ 1048576 := by omega
  obtain ⟨z0, hz0⟩ : ∃ z : Int, z = szBookM xs0 1048576 := ⟨_, rfl⟩
  have HZ0 := Lib.hid hz0
  clear hz0
  by_cases hneg0 : z0 < 0
  · go_enter Try.func5, Try.ntmps5
    have hb1 : Below w.heap.size w (w.alloc (.cells #[.slice A0 xs0.length c0] 24)) := (Below.refl _ _).alloc (Nat.le_refl _) _
    have hz1 : (w.alloc (.cells #[.slice A0 xs0.length c0] 24)).heap.size = w.heap.size + 1 := by simp
    have qa00_1 : (w.alloc (.cells #[.slice A0 xs0.length c0] 24)).cell? ⟨w.heap.size, 0, Option.none⟩ = some (.slice A0 xs0.length c0) := (Blk.new w 24 #[.slice A0 xs0.length c0]).cell 0
    go_wp2_with fail
    generalize w.alloc (.cells #[.slice A0 xs0.length c0] 24) = w1 at hb1 hz1 qa00_1 ⊢
    have hy1 : w.heap.size + 1 ≤ w1.heap.size := by omega
    clear hz1
    have hw1 : Below w.heap.size w w1 := hb1
    have hs1 : w.heap.size ≤ w1.heap.size := hw1.size
    have hB1 : Below w.heap.size w w1 := hw1.mono (by omega)
    have H0_1 : RdB w1 w.heap.size (.agg #[.slice A0 xs0.length c0]) xs0 := H0.out.below hw1 (by omega)
    have H1_1 : RdI w1 w.heap.size (.slice A1 xs1.length c1) xs1 := H1.out.below hw1 (by omega)
    go_wp2_with fail
    refine (szBook_any xs0 (.agg #[.slice A0 xs0.length c0]) 1048576 _ _ H0_1 (by omega) (by omega) (by omega)).mono ?_
    rw [← HZ0.out]
    rintro e w2 ⟨rfl, hb2⟩
    have hw2 : Below w1.heap.size w1 w2 := hb2
    have hs2 : w1.heap.size ≤ w2.heap.size := hw2.size
    have hB2 : Below w.heap.size w w2 := hB1.trans (hw2.mono (by omega))
    have H0_2 : RdB w2 w.heap.size (.agg #[.slice A0 xs0.length c0]) xs0 := H0_1.below hw2 (by omega)
    clear H0_1
    have H1_2 : RdI w2 w.heap.size (.slice A1 xs1.length c1) xs1 := H1_1.below hw2 (by omega)
    clear H1_1
    have qa00_2 := (hw2.cell (p := ⟨w.heap.size, 0, Option.none⟩) (by show w.heap.size < _; omega)).trans qa00_1
    clear qa00_1
    go_wp2_with fail
    go_ret
    exact ⟨rfl, hB2⟩
  have hsb0 := szBook_bd HZ0.out hneg0
  have hlen := frN_len xs0 xs1
  go_enter Try.func5, Try.ntmps5
  have hb1 : Below w.heap.size w (w.alloc (.cells #[.slice A0 xs0.length c0] 24)) := (Below.refl _ _).alloc (Nat.le_refl _) _
  have hz1 : (w.alloc (.cells #[.slice A0 xs0.length c0] 24)).heap.size = w.heap.size + 1 := by simp
  have qa00_1 : (w.alloc (.cells #[.slice A0 xs0.length c0] 24)).cell? ⟨w.heap.size, 0, Option.none⟩ = some (.slice A0 xs0.length c0) := (Blk.new w 24 #[.slice A0 xs0.length c0]).cell 0
  go_wp2_with fail
  generalize w.alloc (.cells #[.slice A0 xs0.length c0] 24) = w1 at hb1 hz1 qa00_1 ⊢
  have hy1 : w.heap.size + 1 ≤ w1.heap.size := by omega
  clear hz1
  have hw1 : Below w.heap.size w w1 := hb1
  have hs1 : w.heap.size ≤ w1.heap.size := hw1.size
  have hB1 : Below w.heap.size w w1 := hw1.mono (by omega)
  have H0_1 : RdB w1 w.heap.size (.agg #[.slice A0 xs0.length c0]) xs0 := H0.out.below hw1 (by omega)
  have H1_1 : RdI w1 w.heap.size (.slice A1 xs1.length c1) xs1 := H1.out.below hw1 (by omega)
  go_wp2_with fail
  refine (szBook_any xs0 (.agg #[.slice A0 xs0.length c0]) 1048576 _ _ H0_1 (by omega) (by omega) (by omega)).mono ?_
  rw [← HZ0.out]
  rintro e w2 ⟨rfl, hb2⟩
  have hw2 : Below w1.heap.size w1 w2 := hb2
  have hs2 : w1.heap.size ≤ w2.heap.size := hw2.size
  have hB2 : Below w.heap.size w w2 := hB1.trans (hw2.mono (by omega))
  have H0_2 : RdB w2 w.heap.size (.agg #[.slice A0 xs0.length c0]) xs0 := H0_1.below hw2 (by omega)
  clear H0_1
  have H1_2 : RdI w2 w.heap.size (.slice A1 xs1.length c1) xs1 := H1_1.below hw2 (by omega)
  clear H1_1
  have qa00_2 := (hw2.cell (p := ⟨w.heap.size, 0, Option.none⟩) (by show w.heap.size < _; omega)).trans qa00_1
  clear qa00_1
  go_wp2_with fail
  refine (toBook_any xs0 _ w.heap.size _ H0_2 hsb0 (by omega)).mono ?_
  rintro e w3 ⟨u0, rfl, fu0, hb3⟩
  obtain ⟨_, rfl, hgu0⟩ := fu0
  obtain ⟨Au0, cu0, rfl, _, _⟩ := hgu0.rd.form
  have fu0_3 : OwB w3 w2.heap.size w3.heap.size (.agg #[.slice Au0 (xs0).length cu0]) xs0 := ⟨_, rfl, hgu0⟩
  clear hgu0
  have hw3 : Below w2.heap.size w2 w3 := hb3
  have hs3 : w2.heap.size ≤ w3.heap.size := hw3.size
  have hB3 : Below w.heap.size w w3 := hB2.trans (hw3.mono (by omega))
  have H0_3 : RdB w3 w.heap.size (.agg #[.slice A0 xs0.length c0]) xs0 := H0_2.below hw3 (by omega)
  clear H0_2
  have H1_3 : RdI w3 w.heap.size (.slice A1 xs1.length c1) xs1 := H1_2.below hw3 (by omega)
  clear H1_2
  have qa00_3 := (hw3.cell (p := ⟨w.heap.size, 0, Option.none⟩) (by show w.heap.size < _; omega)).trans qa00_2
  clear qa00_2
  go_wp2_with fail
  refine (toIntS_any xs1 _ w.heap.size _ H1_3 (by omega) (by omega)).mono ?_
  rintro e w4 ⟨u1, rfl, fu1, hb4⟩
  have fu1_4 : OwI w4 w3.heap.size w4.heap.size u1 xs1 := fu1
  have hw4 : Below w3.heap.size w3 w4 := hb4
  have hs4 : w3.heap.size ≤ w4.heap.size := hw4.size
  have hB4 : Below w.heap.size w w4 := hB3.trans (hw4.mono (by omega))
  have H0_4 : RdB w4 w.heap.size (.agg #[.slice A0 xs0.length c0]) xs0 := H0_3.below hw4 (by omega)
  clear H0_3
  have H1_4 : RdI w4 w.heap.size (.slice A1 xs1.length c1) xs1 := H1_3.below hw4 (by omega)
  clear H1_3
  have fu0_4 : OwB w4 w2.heap.size w3.heap.size (.agg #[.slice Au0 (xs0).length cu0]) xs0 := fu0_3.below hw4 (by omega)
  clear fu0_3
  have qa00_4 := (hw4.cell (p := ⟨w.heap.size, 0, Option.none⟩) (by show w.heap.size < _; omega)).trans qa00_3
  clear qa00_3
  go_wp2_with fail
  refine (sFirstReading_any xs0 xs1 (.agg #[.slice Au0 (xs0).length cu0]) u1 _ _ _ fu0_4.rd fu1_4.rd (by omega) (by omega)).mono ?_
  rintro e w5 ⟨s, rfl, fs, hb5⟩
  have fs_5 : OwI w5 w4.heap.size w5.heap.size s (waysI (frN xs0 xs1)) := fs
  have hw5 : Below w4.heap.size w4 w5 := hb5
  have hs5 : w4.heap.size ≤ w5.heap.size := hw5.size
  have hB5 : Below w.heap.size w w5 := hB4.trans (hw5.mono (by omega))
  have H0_5 : RdB w5 w.heap.size (.agg #[.slice A0 xs0.length c0]) xs0 := H0_4.below hw5 (by omega)
  clear H0_4
  have H1_5 : RdI w5 w.heap.size (.slice A1 xs1.length c1) xs1 := H1_4.below hw5 (by omega)
  clear H1_4
  have fu0_5 : OwB w5 w2.heap.size w3.heap.size (.agg #[.slice Au0 (xs0).length cu0]) xs0 := fu0_4.below hw5 (by omega)
  clear fu0_4
  have fu1_5 : OwI w5 w3.heap.size w4.heap.size u1 xs1 := fu1_4.below hw5 (by omega)
  clear fu1_4
  have qa00_5 := (hw5.cell (p := ⟨w.heap.size, 0, Option.none⟩) (by show w.heap.size < _; omega)).trans qa00_4
  clear qa00_4
  go_wp2_with fail
  refine (toBook_any xs0 _ w.heap.size _ H0_5 hsb0 (by omega)).mono ?_
  rintro e w6 ⟨x0, rfl, fx0, hb6⟩
  obtain ⟨_, rfl, hgx0⟩ := fx0
  obtain ⟨Ax0, cx0, rfl, _, _⟩ := hgx0.rd.form
  have fx0_6 : OwB w6 w5.heap.size w6.heap.size (.agg #[.slice Ax0 (xs0).length cx0]) xs0 := ⟨_, rfl, hgx0⟩
  clear hgx0
  have hw6 : Below w5.heap.size w5 w6 := hb6
  have hs6 : w5.heap.size ≤ w6.heap.size := hw6.size
  have hB6 : Below w.heap.size w w6 := hB5.trans (hw6.mono (by omega))
  have H0_6 : RdB w6 w.heap.size (.agg #[.slice A0 xs0.length c0]) xs0 := H0_5.below hw6 (by omega)
  clear H0_5
  have H1_6 : RdI w6 w.heap.size (.slice A1 xs1.length c1) xs1 := H1_5.below hw6 (by omega)
  clear H1_5
  have fu0_6 : OwB w6 w2.heap.size w3.heap.size (.agg #[.slice Au0 (xs0).length cu0]) xs0 := fu0_5.below hw6 (by omega)
  clear fu0_5
  have fu1_6 : OwI w6 w3.heap.size w4.heap.size u1 xs1 := fu1_5.below hw6 (by omega)
  clear fu1_5
  have fs_6 : OwI w6 w4.heap.size w5.heap.size s (waysI (frN xs0 xs1)) := fs_5.below hw6 (by omega)
  clear fs_5
  have qa00_6 := (hw6.cell (p := ⟨w.heap.size, 0, Option.none⟩) (by show w.heap.size < _; omega)).trans qa00_5
  clear qa00_5
  have hb7 : Below w6.heap.size w6 (w6.alloc (.cells #[.slice Ax0 (xs0).length cx0] 30)) := (Below.refl _ _).alloc (Nat.le_refl _) _
  have hz7 : (w6.alloc (.cells #[.slice Ax0 (xs0).length cx0] 30)).heap.size = w6.heap.size + 1 := by simp
  have qx00_7 : (w6.alloc (.cells #[.slice Ax0 (xs0).length cx0] 30)).cell? ⟨w6.heap.size, 0, Option.none⟩ = some (.slice Ax0 (xs0).length cx0) := (Blk.new w6 30 #[.slice Ax0 (xs0).length cx0]).cell 0
  go_wp2_with fail
  generalize w6.alloc (.cells #[.slice Ax0 (xs0).length cx0] 30) = w7 at hb7 hz7 qx00_7 ⊢
  have hy7 : w6.heap.size + 1 ≤ w7.heap.size := by omega
  clear hz7
  have hw7 : Below w6.heap.size w6 w7 := hb7
  have hs7 : w6.heap.size ≤ w7.heap.size := hw7.size
  have hB7 : Below w.heap.size w w7 := hB6.trans (hw7.mono (by omega))
  have H0_7 : RdB w7 w.heap.size (.agg #[.slice A0 xs0.length c0]) xs0 := H0_6.below hw7 (by omega)
  clear H0_6
  have H1_7 : RdI w7 w.heap.size (.slice A1 xs1.length c1) xs1 := H1_6.below hw7 (by omega)
  clear H1_6
  have fu0_7 : OwB w7 w2.heap.size w3.heap.size (.agg #[.slice Au0 (xs0).length cu0]) xs0 := fu0_6.below hw7 (by omega)
  clear fu0_6
  have fu1_7 : OwI w7 w3.heap.size w4.heap.size u1 xs1 := fu1_6.below hw7 (by omega)
  clear fu1_6
  have fs_7 : OwI w7 w4.heap.size w5.heap.size s (waysI (frN xs0 xs1)) := fs_6.below hw7 (by omega)
  clear fs_6
  have fx0_7 : OwB w7 w5.heap.size w6.heap.size (.agg #[.slice Ax0 (xs0).length cx0]) xs0 := fx0_6.below hw7 (by omega)
  clear fx0_6
  have qa00_7 := (hw7.cell (p := ⟨w.heap.size, 0, Option.none⟩) (by show w.heap.size < _; omega)).trans qa00_6
  clear qa00_6
  go_wp2_with fail
  refine (toIntS_any xs1 _ w.heap.size _ H1_7 (by omega) (by omega)).mono ?_
  rintro e w8 ⟨x1, rfl, fx1, hb8⟩
  have fx1_8 : OwI w8 w7.heap.size w8.heap.size x1 xs1 := fx1
  have hw8 : Below w7.heap.size w7 w8 := hb8
  have hs8 : w7.heap.size ≤ w8.heap.size := hw8.size
  have hB8 : Below w.heap.size w w8 := hB7.trans (hw8.mono (by omega))
  have H0_8 : RdB w8 w.heap.size (.agg #[.slice A0 xs0.length c0]) xs0 := H0_7.below hw8 (by omega)
  clear H0_7
  have H1_8 : RdI w8 w.heap.size (.slice A1 xs1.length c1) xs1 := H1_7.below hw8 (by omega)
  clear H1_7
  have fu0_8 : OwB w8 w2.heap.size w3.heap.size (.agg #[.slice Au0 (xs0).length cu0]) xs0 := fu0_7.below hw8 (by omega)
  clear fu0_7
  have fu1_8 : OwI w8 w3.heap.size w4.heap.size u1 xs1 := fu1_7.below hw8 (by omega)
  clear fu1_7
  have fs_8 : OwI w8 w4.heap.size w5.heap.size s (waysI (frN xs0 xs1)) := fs_7.below hw8 (by omega)
  clear fs_7
  have fx0_8 : OwB w8 w5.heap.size w6.heap.size (.agg #[.slice Ax0 (xs0).length cx0]) xs0 := fx0_7.below hw8 (by omega)
  clear fx0_7
  have qa00_8 := (hw8.cell (p := ⟨w.heap.size, 0, Option.none⟩) (by show w.heap.size < _; omega)).trans qa00_7
  clear qa00_7
  have qx00_8 := (hw8.cell (p := ⟨w6.heap.size, 0, Option.none⟩) (by show w6.heap.size < _; omega)).trans qx00_7
  clear qx00_7
  go_wp2_with fail
  refine (FirstReading_any xs0 xs1 (.agg #[.slice Ax0 (xs0).length cx0]) x1 _ _ _ fx0_8.rd fx1_8.rd (by omega) (by omega)).mono ?_
  rintro e w9 ⟨g, rfl, fg, hb9⟩
  have fg_9 : OwI w9 w8.heap.size w9.heap.size g (waysI (frN xs0 xs1)) := fg
  have hw9 : Below w8.heap.size w8 w9 := hb9
  have hs9 : w8.heap.size ≤ w9.heap.size := hw9.size
  have hB9 : Below w.heap.size w w9 := hB8.trans (hw9.mono (by omega))
  have H0_9 : RdB w9 w.heap.size (.agg #[.slice A0 xs0.length c0]) xs0 := H0_8.below hw9 (by omega)
  clear H0_8
  have H1_9 : RdI w9 w.heap.size (.slice A1 xs1.length c1) xs1 := H1_8.below hw9 (by omega)
  clear H1_8
  have fu0_9 : OwB w9 w2.heap.size w3.heap.size (.agg #[.slice Au0 (xs0).length cu0]) xs0 := fu0_8.below hw9 (by omega)
  clear fu0_8
  have fu1_9 : OwI w9 w3.heap.size w4.heap.size u1 xs1 := fu1_8.below hw9 (by omega)
  clear fu1_8
  have fs_9 : OwI w9 w4.heap.size w5.heap.size s (waysI (frN xs0 xs1)) := fs_8.below hw9 (by omega)
  clear fs_8
  have fx0_9 : OwB w9 w5.heap.size w6.heap.size (.agg #[.slice Ax0 (xs0).length cx0]) xs0 := fx0_8.below hw9 (by omega)
  clear fx0_8
  have fx1_9 : OwI w9 w7.heap.size w8.heap.size x1 xs1 := fx1_8.below hw9 (by omega)
  clear fx1_8
  have qa00_9 := (hw9.cell (p := ⟨w.heap.size, 0, Option.none⟩) (by show w.heap.size < _; omega)).trans qa00_8
  clear qa00_8
  have qx00_9 := (hw9.cell (p := ⟨w6.heap.size, 0, Option.none⟩) (by show w6.heap.size < _; omega)).trans qx00_8
  clear qx00_8
  go_wp2_with fail
  refine (eqIntS_sameB _ _ _ _ _ _ fg_9.rd fs_9.rd).mono ?_
  rintro e w10 ⟨rfl, hb10⟩
  have hw10 : Below w9.heap.size w9 w10 := hb10
  have hs10 : w9.heap.size ≤ w10.heap.size := hw10.size
  have hB10 : Below w.heap.size w w10 := hB9.trans (hw10.mono (by omega))
  have H0_10 : RdB w10 w.heap.size (.agg #[.slice A0 xs0.length c0]) xs0 := H0_9.below hw10 (by omega)
  clear H0_9
  have H1_10 : RdI w10 w.heap.size (.slice A1 xs1.length c1) xs1 := H1_9.below hw10 (by omega)
  clear H1_9
  have fu0_10 : OwB w10 w2.heap.size w3.heap.size (.agg #[.slice Au0 (xs0).length cu0]) xs0 := fu0_9.below hw10 (by omega)
  clear fu0_9
  have fu1_10 : OwI w10 w3.heap.size w4.heap.size u1 xs1 := fu1_9.below hw10 (by omega)
  clear fu1_9
  have fs_10 : OwI w10 w4.heap.size w5.heap.size s (waysI (frN xs0 xs1)) := fs_9.below hw10 (by omega)
  clear fs_9
  have fx0_10 : OwB w10 w5.heap.size w6.heap.size (.agg #[.slice Ax0 (xs0).length cx0]) xs0 := fx0_9.below hw10 (by omega)
  clear fx0_9
  have fx1_10 : OwI w10 w7.heap.size w8.heap.size x1 xs1 := fx1_9.below hw10 (by omega)
  clear fx1_9
  have fg_10 : OwI w10 w8.heap.size w9.heap.size g (waysI (frN xs0 xs1)) := fg_9.below hw10 (by omega)
  clear fg_9
  have qa00_10 := (hw10.cell (p := ⟨w.heap.size, 0, Option.none⟩) (by show w.heap.size < _; omega)).trans qa00_9
  clear qa00_9
  have qx00_10 := (hw10.cell (p := ⟨w6.heap.size, 0, Option.none⟩) (by show w6.heap.size < _; omega)).trans qx00_9
  clear qx00_9
  go_wp2_with fail
  have hb11 : Below w10.heap.size w10 w10.drew := (Below.refl _ _).drew
  have hw11 : Below w10.heap.size w10 w10.drew := hb11
  have hs11 : w10.heap.size ≤ w10.drew.heap.size := hw11.size
  have hB11 : Below w.heap.size w w10.drew := hB10.trans (hw11.mono (by omega))
  have H0_11 : RdB w10.drew w.heap.size (.agg #[.slice A0 xs0.length c0]) xs0 := H0_10.below hw11 (by omega)
  clear H0_10
  have H1_11 : RdI w10.drew w.heap.size (.slice A1 xs1.length c1) xs1 := H1_10.below hw11 (by omega)
  clear H1_10
  have fu0_11 : OwB w10.drew w2.heap.size w3.heap.size (.agg #[.slice Au0 (xs0).length cu0]) xs0 := fu0_10.below hw11 (by omega)
  clear fu0_10
  have fu1_11 : OwI w10.drew w3.heap.size w4.heap.size u1 xs1 := fu1_10.below hw11 (by omega)
  clear fu1_10
  have fs_11 : OwI w10.drew w4.heap.size w5.heap.size s (waysI (frN xs0 xs1)) := fs_10.below hw11 (by omega)
  clear fs_10
  have fx0_11 : OwB w10.drew w5.heap.size w6.heap.size (.agg #[.slice Ax0 (xs0).length cx0]) xs0 := fx0_10.below hw11 (by omega)
  clear fx0_10
  have fx1_11 : OwI w10.drew w7.heap.size w8.heap.size x1 xs1 := fx1_10.below hw11 (by omega)
  clear fx1_10
  have fg_11 : OwI w10.drew w8.heap.size w9.heap.size g (waysI (frN xs0 xs1)) := fg_10.below hw11 (by omega)
  clear fg_10
  have qa00_11 := (hw11.cell (p := ⟨w.heap.size, 0, Option.none⟩) (by show w.heap.size < _; omega)).trans qa00_10
  clear qa00_10
  have qx00_11 := (hw11.cell (p := ⟨w6.heap.size, 0, Option.none⟩) (by show w6.heap.size < _; omega)).trans qx00_10
  clear qx00_10
  go_region_held3 (fun w' => w'.cell? ⟨w6.heap.size, 0, Option.none⟩ = some (.slice Ax0 (xs0).length cx0) ∧ w'.cell? ⟨w.heap.size, 0, Option.none⟩ = some (.slice A0 xs0.length c0)) (first | exact ⟨qx00_13, qa00_13⟩ | exact ⟨qx00_12, qa00_12⟩ | exact ⟨qx00_11, qa00_11⟩)
    (first
      | (
        go_at_call 15
        refine (toBook_any xs0 _ w.heap.size _ H0_11 hsb0 (by omega)).mono ?_
        rintro e w12 ⟨y0, rfl, fy0, hb12⟩
        obtain ⟨_, rfl, hgy0⟩ := fy0
        obtain ⟨Ay0, cy0, rfl, _, _⟩ := hgy0.rd.form
        have fy0_12 : OwB w12 w10.drew.heap.size w12.heap.size (.agg #[.slice Ay0 (xs0).length cy0]) xs0 := ⟨_, rfl, hgy0⟩
        clear hgy0
        have hw12 : Below w10.drew.heap.size w10.drew w12 := hb12
        have hs12 : w10.drew.heap.size ≤ w12.heap.size := hw12.size
        have hB12 : Below w.heap.size w w12 := hB11.trans (hw12.mono (by omega))
        have H0_12 : RdB w12 w.heap.size (.agg #[.slice A0 xs0.length c0]) xs0 := H0_11.below hw12 (by omega)
        clear H0_11
        have H1_12 : RdI w12 w.heap.size (.slice A1 xs1.length c1) xs1 := H1_11.below hw12 (by omega)
        clear H1_11
        have fu0_12 : OwB w12 w2.heap.size w3.heap.size (.agg #[.slice Au0 (xs0).length cu0]) xs0 := fu0_11.below hw12 (by omega)
        clear fu0_11
        have fu1_12 : OwI w12 w3.heap.size w4.heap.size u1 xs1 := fu1_11.below hw12 (by omega)
        clear fu1_11
        have fs_12 : OwI w12 w4.heap.size w5.heap.size s (waysI (frN xs0 xs1)) := fs_11.below hw12 (by omega)
        clear fs_11
        have fx0_12 : OwB w12 w5.heap.size w6.heap.size (.agg #[.slice Ax0 (xs0).length cx0]) xs0 := fx0_11.below hw12 (by omega)
        clear fx0_11
        have fx1_12 : OwI w12 w7.heap.size w8.heap.size x1 xs1 := fx1_11.below hw12 (by omega)
        clear fx1_11
        have fg_12 : OwI w12 w8.heap.size w9.heap.size g (waysI (frN xs0 xs1)) := fg_11.below hw12 (by omega)
        clear fg_11
        have qa00_12 := (hw12.cell (p := ⟨w.heap.size, 0, Option.none⟩) (by show w.heap.size < _; omega)).trans qa00_11
        clear qa00_11
        have qx00_12 := (hw12.cell (p := ⟨w6.heap.size, 0, Option.none⟩) (by show w6.heap.size < _; omega)).trans qx00_11
        clear qx00_11)
      | (
        go_at_call 17
        refine (eqBook_sameB _ _ _ _ _ _ fx0_12.rd fy0_12.rd).mono ?_
        rintro e w13 ⟨rfl, hb13⟩
        have hw13 : Below w12.heap.size w12 w13 := hb13
        have hs13 : w12.heap.size ≤ w13.heap.size := hw13.size
        have hB13 : Below w.heap.size w w13 := hB12.trans (hw13.mono (by omega))
        have H0_13 : RdB w13 w.heap.size (.agg #[.slice A0 xs0.length c0]) xs0 := H0_12.below hw13 (by omega)
        clear H0_12
        have H1_13 : RdI w13 w.heap.size (.slice A1 xs1.length c1) xs1 := H1_12.below hw13 (by omega)
        clear H1_12
        have fu0_13 : OwB w13 w2.heap.size w3.heap.size (.agg #[.slice Au0 (xs0).length cu0]) xs0 := fu0_12.below hw13 (by omega)
        clear fu0_12
        have fu1_13 : OwI w13 w3.heap.size w4.heap.size u1 xs1 := fu1_12.below hw13 (by omega)
        clear fu1_12
        have fs_13 : OwI w13 w4.heap.size w5.heap.size s (waysI (frN xs0 xs1)) := fs_12.below hw13 (by omega)
        clear fs_12
        have fx0_13 : OwB w13 w5.heap.size w6.heap.size (.agg #[.slice Ax0 (xs0).length cx0]) xs0 := fx0_12.below hw13 (by omega)
        clear fx0_12
        have fx1_13 : OwI w13 w7.heap.size w8.heap.size x1 xs1 := fx1_12.below hw13 (by omega)
        clear fx1_12
        have fg_13 : OwI w13 w8.heap.size w9.heap.size g (waysI (frN xs0 xs1)) := fg_12.below hw13 (by omega)
        clear fg_12
        have fy0_13 : OwB w13 w10.drew.heap.size w12.heap.size (.agg #[.slice Ay0 (xs0).length cy0]) xs0 := fy0_12.below hw13 (by omega)
        clear fy0_12
        have qa00_13 := (hw13.cell (p := ⟨w.heap.size, 0, Option.none⟩) (by show w.heap.size < _; omega)).trans qa00_12
        clear qa00_12
        have qx00_13 := (hw13.cell (p := ⟨w6.heap.size, 0, Option.none⟩) (by show w6.heap.size < _; omega)).trans qx00_12
        clear qx00_12))
  go_wp2_with fail
  refine (toIntS_any xs1 _ w.heap.size _ H1_13 (by omega) (by omega)).mono ?_
  rintro e w14 ⟨y1, rfl, fy1, hb14⟩
  have fy1_14 : OwI w14 w13.heap.size w14.heap.size y1 xs1 := fy1
  have hw14 : Below w13.heap.size w13 w14 := hb14
  have hs14 : w13.heap.size ≤ w14.heap.size := hw14.size
  have hB14 : Below w.heap.size w w14 := hB13.trans (hw14.mono (by omega))
  have H0_14 : RdB w14 w.heap.size (.agg #[.slice A0 xs0.length c0]) xs0 := H0_13.below hw14 (by omega)
  clear H0_13
  have H1_14 : RdI w14 w.heap.size (.slice A1 xs1.length c1) xs1 := H1_13.below hw14 (by omega)
  clear H1_13
  have fu0_14 : OwB w14 w2.heap.size w3.heap.size (.agg #[.slice Au0 (xs0).length cu0]) xs0 := fu0_13.below hw14 (by omega)
  clear fu0_13
  have fu1_14 : OwI w14 w3.heap.size w4.heap.size u1 xs1 := fu1_13.below hw14 (by omega)
  clear fu1_13
  have fs_14 : OwI w14 w4.heap.size w5.heap.size s (waysI (frN xs0 xs1)) := fs_13.below hw14 (by omega)
  clear fs_13
  have fx0_14 : OwB w14 w5.heap.size w6.heap.size (.agg #[.slice Ax0 (xs0).length cx0]) xs0 := fx0_13.below hw14 (by omega)
  clear fx0_13
  have fx1_14 : OwI w14 w7.heap.size w8.heap.size x1 xs1 := fx1_13.below hw14 (by omega)
  clear fx1_13
  have fg_14 : OwI w14 w8.heap.size w9.heap.size g (waysI (frN xs0 xs1)) := fg_13.below hw14 (by omega)
  clear fg_13
  have fy0_14 : OwB w14 w10.drew.heap.size w12.heap.size (.agg #[.slice Ay0 (xs0).length cy0]) xs0 := fy0_13.below hw14 (by omega)
  clear fy0_13
  have qa00_14 := (hw14.cell (p := ⟨w.heap.size, 0, Option.none⟩) (by show w.heap.size < _; omega)).trans qa00_13
  clear qa00_13
  have qx00_14 := (hw14.cell (p := ⟨w6.heap.size, 0, Option.none⟩) (by show w6.heap.size < _; omega)).trans qx00_13
  clear qx00_13
  go_wp2_with fail
  refine (eqIntS_sameB _ _ _ _ _ _ fx1_14.rd fy1_14.rd).mono ?_
  rintro e w15 ⟨rfl, hb15⟩
  have hw15 : Below w14.heap.size w14 w15 := hb15
  have hs15 : w14.heap.size ≤ w15.heap.size := hw15.size
  have hB15 : Below w.heap.size w w15 := hB14.trans (hw15.mono (by omega))
  have H0_15 : RdB w15 w.heap.size (.agg #[.slice A0 xs0.length c0]) xs0 := H0_14.below hw15 (by omega)
  clear H0_14
  have H1_15 : RdI w15 w.heap.size (.slice A1 xs1.length c1) xs1 := H1_14.below hw15 (by omega)
  clear H1_14
  have fu0_15 : OwB w15 w2.heap.size w3.heap.size (.agg #[.slice Au0 (xs0).length cu0]) xs0 := fu0_14.below hw15 (by omega)
  clear fu0_14
  have fu1_15 : OwI w15 w3.heap.size w4.heap.size u1 xs1 := fu1_14.below hw15 (by omega)
  clear fu1_14
  have fs_15 : OwI w15 w4.heap.size w5.heap.size s (waysI (frN xs0 xs1)) := fs_14.below hw15 (by omega)
  clear fs_14
  have fx0_15 : OwB w15 w5.heap.size w6.heap.size (.agg #[.slice Ax0 (xs0).length cx0]) xs0 := fx0_14.below hw15 (by omega)
  clear fx0_14
  have fx1_15 : OwI w15 w7.heap.size w8.heap.size x1 xs1 := fx1_14.below hw15 (by omega)
  clear fx1_14
  have fg_15 : OwI w15 w8.heap.size w9.heap.size g (waysI (frN xs0 xs1)) := fg_14.below hw15 (by omega)
  clear fg_14
  have fy0_15 : OwB w15 w10.drew.heap.size w12.heap.size (.agg #[.slice Ay0 (xs0).length cy0]) xs0 := fy0_14.below hw15 (by omega)
  clear fy0_14
  have fy1_15 : OwI w15 w13.heap.size w14.heap.size y1 xs1 := fy1_14.below hw15 (by omega)
  clear fy1_14
  have qa00_15 := (hw15.cell (p := ⟨w.heap.size, 0, Option.none⟩) (by show w.heap.size < _; omega)).trans qa00_14
  clear qa00_14
  have qx00_15 := (hw15.cell (p := ⟨w6.heap.size, 0, Option.none⟩) (by show w6.heap.size < _; omega)).trans qx00_14
  clear qx00_14
  go_wp2_with fail
  refine (markBook_ex _ _ _ _ 1 _ fx0_15 (by omega) (by omega) (by omega) (by omega)).mono ?_
  rintro e w17 ⟨q16, m16, rfl, hq16, hp16, -, hk16, hb17⟩
  have hs16 : m16.heap.size = w15.heap.size := hk16.size
  have hw16 : Below w5.heap.size w15 m16 := hk16.bel
  have hB16 : Below w.heap.size w m16 := hB15.trans (hw16.mono (by omega))
  have H0_16 : RdB m16 w.heap.size (.agg #[.slice A0 xs0.length c0]) xs0 := H0_15.below hw16 (by omega)
  clear H0_15
  have H1_16 : RdI m16 w.heap.size (.slice A1 xs1.length c1) xs1 := H1_15.below hw16 (by omega)
  clear H1_15
  have fu0_16 : OwB m16 w2.heap.size w3.heap.size (.agg #[.slice Au0 (xs0).length cu0]) xs0 := fu0_15.keep hk16 (by omega)
  clear fu0_15
  have fu1_16 : OwI m16 w3.heap.size w4.heap.size u1 xs1 := fu1_15.keep hk16 (by omega)
  clear fu1_15
  have fs_16 : OwI m16 w4.heap.size w5.heap.size s (waysI (frN xs0 xs1)) := fs_15.keep hk16 (by omega)
  clear fs_15
  have fx1_16 : OwI m16 w7.heap.size w8.heap.size x1 xs1 := fx1_15.keep hk16 (by omega)
  clear fx1_15
  have fg_16 : OwI m16 w8.heap.size w9.heap.size g (waysI (frN xs0 xs1)) := fg_15.keep hk16 (by omega)
  clear fg_15
  have fy0_16 : OwB m16 w10.drew.heap.size w12.heap.size (.agg #[.slice Ay0 (xs0).length cy0]) xs0 := fy0_15.keep hk16 (by omega)
  clear fy0_15
  have fy1_16 : OwI m16 w13.heap.size w14.heap.size y1 xs1 := fy1_15.keep hk16 (by omega)
  clear fy1_15
  have qa00_16 := (hw16.cell (p := ⟨w.heap.size, 0, Option.none⟩) (by show w.heap.size < _; omega)).trans qa00_15
  clear qa00_15
  clear qx00_15
  have hw17 : Below m16.heap.size m16 w17 := hb17
  have hs17 : m16.heap.size ≤ w17.heap.size := hw17.size
  have hB17 : Below w.heap.size w w17 := hB16.trans (hw17.mono (by omega))
  have H0_17 : RdB w17 w.heap.size (.agg #[.slice A0 xs0.length c0]) xs0 := H0_16.below hw17 (by omega)
  clear H0_16
  have H1_17 : RdI w17 w.heap.size (.slice A1 xs1.length c1) xs1 := H1_16.below hw17 (by omega)
  clear H1_16
  have fu0_17 : OwB w17 w2.heap.size w3.heap.size (.agg #[.slice Au0 (xs0).length cu0]) xs0 := fu0_16.below hw17 (by omega)
  clear fu0_16
  have fu1_17 : OwI w17 w3.heap.size w4.heap.size u1 xs1 := fu1_16.below hw17 (by omega)
  clear fu1_16
  have fs_17 : OwI w17 w4.heap.size w5.heap.size s (waysI (frN xs0 xs1)) := fs_16.below hw17 (by omega)
  clear fs_16
  have fx1_17 : OwI w17 w7.heap.size w8.heap.size x1 xs1 := fx1_16.below hw17 (by omega)
  clear fx1_16
  have fg_17 : OwI w17 w8.heap.size w9.heap.size g (waysI (frN xs0 xs1)) := fg_16.below hw17 (by omega)
  clear fg_16
  have fy0_17 : OwB w17 w10.drew.heap.size w12.heap.size (.agg #[.slice Ay0 (xs0).length cy0]) xs0 := fy0_16.below hw17 (by omega)
  clear fy0_16
  have fy1_17 : OwI w17 w13.heap.size w14.heap.size y1 xs1 := fy1_16.below hw17 (by omega)
  clear fy1_16
  have qa00_17 := (hw17.cell (p := ⟨w.heap.size, 0, Option.none⟩) (by show w.heap.size < _; omega)).trans qa00_16
  clear qa00_16
  go_wp2_with fail
  refine (markIntS_ex _ x1 _ _ q16 _ fx1_17 (by omega) (by omega)).mono ?_
  rintro e w18 ⟨q18, rfl, hq18, fx1m18, hk18⟩
  have hs18 : w18.heap.size = w17.heap.size := hk18.size
  have hw18 : Below w7.heap.size w17 w18 := hk18.bel
  have hB18 : Below w.heap.size w w18 := hB17.trans (hw18.mono (by omega))
  have H0_18 : RdB w18 w.heap.size (.agg #[.slice A0 xs0.length c0]) xs0 := H0_17.below hw18 (by omega)
  clear H0_17
  have H1_18 : RdI w18 w.heap.size (.slice A1 xs1.length c1) xs1 := H1_17.below hw18 (by omega)
  clear H1_17
  have fu0_18 : OwB w18 w2.heap.size w3.heap.size (.agg #[.slice Au0 (xs0).length cu0]) xs0 := fu0_17.keep hk18 (by omega)
  clear fu0_17
  have fu1_18 : OwI w18 w3.heap.size w4.heap.size u1 xs1 := fu1_17.keep hk18 (by omega)
  clear fu1_17
  have fs_18 : OwI w18 w4.heap.size w5.heap.size s (waysI (frN xs0 xs1)) := fs_17.keep hk18 (by omega)
  clear fs_17
  have fg_18 : OwI w18 w8.heap.size w9.heap.size g (waysI (frN xs0 xs1)) := fg_17.keep hk18 (by omega)
  clear fg_17
  have fy0_18 : OwB w18 w10.drew.heap.size w12.heap.size (.agg #[.slice Ay0 (xs0).length cy0]) xs0 := fy0_17.keep hk18 (by omega)
  clear fy0_17
  have fy1_18 : OwI w18 w13.heap.size w14.heap.size y1 xs1 := fy1_17.keep hk18 (by omega)
  clear fy1_17
  have qa00_18 := (hw18.cell (p := ⟨w.heap.size, 0, Option.none⟩) (by show w.heap.size < _; omega)).trans qa00_17
  clear qa00_17
  go_wp2_with fail
  refine (eqIntS_sameB _ _ _ _ _ _ fg_18.rd fs_18.rd).mono ?_
  rintro e w19 ⟨rfl, hb19⟩
  have hw19 : Below w18.heap.size w18 w19 := hb19
  have hs19 : w18.heap.size ≤ w19.heap.size := hw19.size
  have hB19 : Below w.heap.size w w19 := hB18.trans (hw19.mono (by omega))
  have H0_19 : RdB w19 w.heap.size (.agg #[.slice A0 xs0.length c0]) xs0 := H0_18.below hw19 (by omega)
  clear H0_18
  have H1_19 : RdI w19 w.heap.size (.slice A1 xs1.length c1) xs1 := H1_18.below hw19 (by omega)
  clear H1_18
  have fu0_19 : OwB w19 w2.heap.size w3.heap.size (.agg #[.slice Au0 (xs0).length cu0]) xs0 := fu0_18.below hw19 (by omega)
  clear fu0_18
  have fu1_19 : OwI w19 w3.heap.size w4.heap.size u1 xs1 := fu1_18.below hw19 (by omega)
  clear fu1_18
  have fs_19 : OwI w19 w4.heap.size w5.heap.size s (waysI (frN xs0 xs1)) := fs_18.below hw19 (by omega)
  clear fs_18
  have fx1_19 : OwI w19 w7.heap.size w8.heap.size x1 (marks q16 xs1.length) := fx1m18.below hw19 (by omega)
  clear fx1m18
  have fg_19 : OwI w19 w8.heap.size w9.heap.size g (waysI (frN xs0 xs1)) := fg_18.below hw19 (by omega)
  clear fg_18
  have fy0_19 : OwB w19 w10.drew.heap.size w12.heap.size (.agg #[.slice Ay0 (xs0).length cy0]) xs0 := fy0_18.below hw19 (by omega)
  clear fy0_18
  have fy1_19 : OwI w19 w13.heap.size w14.heap.size y1 xs1 := fy1_18.below hw19 (by omega)
  clear fy1_18
  have qa00_19 := (hw19.cell (p := ⟨w.heap.size, 0, Option.none⟩) (by show w.heap.size < _; omega)).trans qa00_18
  clear qa00_18
  go_wp2_with fail
  refine (markIntS_any _ g _ _ 1 _ fg_19 (by omega) (by omega)).mono ?_
  rintro e w20 ⟨rfl, fgm20, hk20⟩
  have hs20 : w20.heap.size = w19.heap.size := hk20.size
  have hw20 : Below w8.heap.size w19 w20 := hk20.bel
  have hB20 : Below w.heap.size w w20 := hB19.trans (hw20.mono (by omega))
  have H0_20 : RdB w20 w.heap.size (.agg #[.slice A0 xs0.length c0]) xs0 := H0_19.below hw20 (by omega)
  clear H0_19
  have H1_20 : RdI w20 w.heap.size (.slice A1 xs1.length c1) xs1 := H1_19.below hw20 (by omega)
  clear H1_19
  have fu0_20 : OwB w20 w2.heap.size w3.heap.size (.agg #[.slice Au0 (xs0).length cu0]) xs0 := fu0_19.keep hk20 (by omega)
  clear fu0_19
  have fu1_20 : OwI w20 w3.heap.size w4.heap.size u1 xs1 := fu1_19.keep hk20 (by omega)
  clear fu1_19
  have fs_20 : OwI w20 w4.heap.size w5.heap.size s (waysI (frN xs0 xs1)) := fs_19.keep hk20 (by omega)
  clear fs_19
  have fx1_20 : OwI w20 w7.heap.size w8.heap.size x1 (marks q16 xs1.length) := fx1_19.keep hk20 (by omega)
  clear fx1_19
  have fy0_20 : OwB w20 w10.drew.heap.size w12.heap.size (.agg #[.slice Ay0 (xs0).length cy0]) xs0 := fy0_19.keep hk20 (by omega)
  clear fy0_19
  have fy1_20 : OwI w20 w13.heap.size w14.heap.size y1 xs1 := fy1_19.keep hk20 (by omega)
  clear fy1_19
  have qa00_20 := (hw20.cell (p := ⟨w.heap.size, 0, Option.none⟩) (by show w.heap.size < _; omega)).trans qa00_19
  clear qa00_19
  go_wp2_with fail
  refine (heldIntS_any (((waysI (frN xs0 xs1))).length) g _ 1 _ fgm20.rd (by omega) (by omega)).mono ?_
  rintro e w' ⟨rfl, rfl⟩
  go_wp2_with fail
  refine (toBook_any xs0 _ w.heap.size _ H0_20 hsb0 (by omega)).mono ?_
  rintro e w21 ⟨z0, rfl, fz0, hb21⟩
  obtain ⟨_, rfl, hgz0⟩ := fz0
  obtain ⟨Az0, cz0, rfl, _, _⟩ := hgz0.rd.form
  have fz0_21 : OwB w21 w20.heap.size w21.heap.size (.agg #[.slice Az0 (xs0).length cz0]) xs0 := ⟨_, rfl, hgz0⟩
  clear hgz0
  have hw21 : Below w20.heap.size w20 w21 := hb21
  have hs21 : w20.heap.size ≤ w21.heap.size := hw21.size
  have hB21 : Below w.heap.size w w21 := hB20.trans (hw21.mono (by omega))
  have H0_21 : RdB w21 w.heap.size (.agg #[.slice A0 xs0.length c0]) xs0 := H0_20.below hw21 (by omega)
  clear H0_20
  have H1_21 : RdI w21 w.heap.size (.slice A1 xs1.length c1) xs1 := H1_20.below hw21 (by omega)
  clear H1_20
  have fu0_21 : OwB w21 w2.heap.size w3.heap.size (.agg #[.slice Au0 (xs0).length cu0]) xs0 := fu0_20.below hw21 (by omega)
  clear fu0_20
  have fu1_21 : OwI w21 w3.heap.size w4.heap.size u1 xs1 := fu1_20.below hw21 (by omega)
  clear fu1_20
  have fs_21 : OwI w21 w4.heap.size w5.heap.size s (waysI (frN xs0 xs1)) := fs_20.below hw21 (by omega)
  clear fs_20
  have fx1_21 : OwI w21 w7.heap.size w8.heap.size x1 (marks q16 xs1.length) := fx1_20.below hw21 (by omega)
  clear fx1_20
  have fg_21 : OwI w21 w8.heap.size w9.heap.size g (marks 1 ((waysI (frN xs0 xs1))).length) := fgm20.below hw21 (by omega)
  clear fgm20
  have fy0_21 : OwB w21 w10.drew.heap.size w12.heap.size (.agg #[.slice Ay0 (xs0).length cy0]) xs0 := fy0_20.below hw21 (by omega)
  clear fy0_20
  have fy1_21 : OwI w21 w13.heap.size w14.heap.size y1 xs1 := fy1_20.below hw21 (by omega)
  clear fy1_20
  have qa00_21 := (hw21.cell (p := ⟨w.heap.size, 0, Option.none⟩) (by show w.heap.size < _; omega)).trans qa00_20
  clear qa00_20
  go_wp2_with fail
  refine (toIntS_any xs1 _ w.heap.size _ H1_21 (by omega) (by omega)).mono ?_
  rintro e w22 ⟨z1, rfl, fz1, hb22⟩
  have fz1_22 : OwI w22 w21.heap.size w22.heap.size z1 xs1 := fz1
  have hw22 : Below w21.heap.size w21 w22 := hb22
  have hs22 : w21.heap.size ≤ w22.heap.size := hw22.size
  have hB22 : Below w.heap.size w w22 := hB21.trans (hw22.mono (by omega))
  have H0_22 : RdB w22 w.heap.size (.agg #[.slice A0 xs0.length c0]) xs0 := H0_21.below hw22 (by omega)
  clear H0_21
  have H1_22 : RdI w22 w.heap.size (.slice A1 xs1.length c1) xs1 := H1_21.below hw22 (by omega)
  clear H1_21
  have fu0_22 : OwB w22 w2.heap.size w3.heap.size (.agg #[.slice Au0 (xs0).length cu0]) xs0 := fu0_21.below hw22 (by omega)
  clear fu0_21
  have fu1_22 : OwI w22 w3.heap.size w4.heap.size u1 xs1 := fu1_21.below hw22 (by omega)
  clear fu1_21
  have fs_22 : OwI w22 w4.heap.size w5.heap.size s (waysI (frN xs0 xs1)) := fs_21.below hw22 (by omega)
  clear fs_21
  have fx1_22 : OwI w22 w7.heap.size w8.heap.size x1 (marks q16 xs1.length) := fx1_21.below hw22 (by omega)
  clear fx1_21
  have fg_22 : OwI w22 w8.heap.size w9.heap.size g (marks 1 ((waysI (frN xs0 xs1))).length) := fg_21.below hw22 (by omega)
  clear fg_21
  have fy0_22 : OwB w22 w10.drew.heap.size w12.heap.size (.agg #[.slice Ay0 (xs0).length cy0]) xs0 := fy0_21.below hw22 (by omega)
  clear fy0_21
  have fy1_22 : OwI w22 w13.heap.size w14.heap.size y1 xs1 := fy1_21.below hw22 (by omega)
  clear fy1_21
  have fz0_22 : OwB w22 w20.heap.size w21.heap.size (.agg #[.slice Az0 (xs0).length cz0]) xs0 := fz0_21.below hw22 (by omega)
  clear fz0_21
  have qa00_22 := (hw22.cell (p := ⟨w.heap.size, 0, Option.none⟩) (by show w.heap.size < _; omega)).trans qa00_21
  clear qa00_21
  go_wp2_with fail
  refine (FirstReading_any xs0 xs1 (.agg #[.slice Az0 (xs0).length cz0]) z1 _ _ _ fz0_22.rd fz1_22.rd (by omega) (by omega)).mono ?_
  rintro e w23 ⟨t, rfl, ft, hb23⟩
  have ft_23 : OwI w23 w22.heap.size w23.heap.size t (waysI (frN xs0 xs1)) := ft
  have hw23 : Below w22.heap.size w22 w23 := hb23
  have hs23 : w22.heap.size ≤ w23.heap.size := hw23.size
  have hB23 : Below w.heap.size w w23 := hB22.trans (hw23.mono (by omega))
  have H0_23 : RdB w23 w.heap.size (.agg #[.slice A0 xs0.length c0]) xs0 := H0_22.below hw23 (by omega)
  clear H0_22
  have H1_23 : RdI w23 w.heap.size (.slice A1 xs1.length c1) xs1 := H1_22.below hw23 (by omega)
  clear H1_22
  have fu0_23 : OwB w23 w2.heap.size w3.heap.size (.agg #[.slice Au0 (xs0).length cu0]) xs0 := fu0_22.below hw23 (by omega)
  clear fu0_22
  have fu1_23 : OwI w23 w3.heap.size w4.heap.size u1 xs1 := fu1_22.below hw23 (by omega)
  clear fu1_22
  have fs_23 : OwI w23 w4.heap.size w5.heap.size s (waysI (frN xs0 xs1)) := fs_22.below hw23 (by omega)
  clear fs_22
  have fx1_23 : OwI w23 w7.heap.size w8.heap.size x1 (marks q16 xs1.length) := fx1_22.below hw23 (by omega)
  clear fx1_22
  have fg_23 : OwI w23 w8.heap.size w9.heap.size g (marks 1 ((waysI (frN xs0 xs1))).length) := fg_22.below hw23 (by omega)
  clear fg_22
  have fy0_23 : OwB w23 w10.drew.heap.size w12.heap.size (.agg #[.slice Ay0 (xs0).length cy0]) xs0 := fy0_22.below hw23 (by omega)
  clear fy0_22
  have fy1_23 : OwI w23 w13.heap.size w14.heap.size y1 xs1 := fy1_22.below hw23 (by omega)
  clear fy1_22
  have fz0_23 : OwB w23 w20.heap.size w21.heap.size (.agg #[.slice Az0 (xs0).length cz0]) xs0 := fz0_22.below hw23 (by omega)
  clear fz0_22
  have fz1_23 : OwI w23 w21.heap.size w22.heap.size z1 xs1 := fz1_22.below hw23 (by omega)
  clear fz1_22
  have qa00_23 := (hw23.cell (p := ⟨w.heap.size, 0, Option.none⟩) (by show w.heap.size < _; omega)).trans qa00_22
  clear qa00_22
  go_wp2_with fail
  refine (eqIntS_sameB _ _ _ _ _ _ ft_23.rd fs_23.rd).mono ?_
  rintro e w24 ⟨rfl, hb24⟩
  have hw24 : Below w23.heap.size w23 w24 := hb24
  have hs24 : w23.heap.size ≤ w24.heap.size := hw24.size
  have hB24 : Below w.heap.size w w24 := hB23.trans (hw24.mono (by omega))
  have H0_24 : RdB w24 w.heap.size (.agg #[.slice A0 xs0.length c0]) xs0 := H0_23.below hw24 (by omega)
  clear H0_23
  have H1_24 : RdI w24 w.heap.size (.slice A1 xs1.length c1) xs1 := H1_23.below hw24 (by omega)
  clear H1_23
  have fu0_24 : OwB w24 w2.heap.size w3.heap.size (.agg #[.slice Au0 (xs0).length cu0]) xs0 := fu0_23.below hw24 (by omega)
  clear fu0_23
  have fu1_24 : OwI w24 w3.heap.size w4.heap.size u1 xs1 := fu1_23.below hw24 (by omega)
  clear fu1_23
  have fs_24 : OwI w24 w4.heap.size w5.heap.size s (waysI (frN xs0 xs1)) := fs_23.below hw24 (by omega)
  clear fs_23
  have fx1_24 : OwI w24 w7.heap.size w8.heap.size x1 (marks q16 xs1.length) := fx1_23.below hw24 (by omega)
  clear fx1_23
  have fg_24 : OwI w24 w8.heap.size w9.heap.size g (marks 1 ((waysI (frN xs0 xs1))).length) := fg_23.below hw24 (by omega)
  clear fg_23
  have fy0_24 : OwB w24 w10.drew.heap.size w12.heap.size (.agg #[.slice Ay0 (xs0).length cy0]) xs0 := fy0_23.below hw24 (by omega)
  clear fy0_23
  have fy1_24 : OwI w24 w13.heap.size w14.heap.size y1 xs1 := fy1_23.below hw24 (by omega)
  clear fy1_23
  have fz0_24 : OwB w24 w20.heap.size w21.heap.size (.agg #[.slice Az0 (xs0).length cz0]) xs0 := fz0_23.below hw24 (by omega)
  clear fz0_23
  have fz1_24 : OwI w24 w21.heap.size w22.heap.size z1 xs1 := fz1_23.below hw24 (by omega)
  clear fz1_23
  have ft_24 : OwI w24 w22.heap.size w23.heap.size t (waysI (frN xs0 xs1)) := ft_23.below hw24 (by omega)
  clear ft_23
  have qa00_24 := (hw24.cell (p := ⟨w.heap.size, 0, Option.none⟩) (by show w.heap.size < _; omega)).trans qa00_23
  clear qa00_23
  go_wp2_with fail
  refine (heldIntS_any (((waysI (frN xs0 xs1))).length) g _ 1 _ fg_24.rd (by omega) (by omega)).mono ?_
  rintro e w' ⟨rfl, rfl⟩
  go_wp2_with fail
  go_ret
  exact ⟨rfl, hB24⟩
set_option maxRecDepth 100000 in
theorem lifted (os : Os) (started : os.Started) (H : Type) (enc : TypeId × Value → H) :
    ReturnsInHanded {} Try.checked os 5 .any (Rows.fnExactFirstReadingSpec.pre6 enc Try.prog Try.f5 Rows.fnExactFirstReadingRow.domain false) (Rows.fnExactFirstReadingSpec.post enc Try.prog Try.f5 false true false false) := by
  refine returnsInHanded_of_change (C := Try.checked) own started (by kernel_rfl) Try.func5
    (ChangeSpec.witness6 (enc := enc) (C := Try.checked) false ⟨#[], #[.agg #[.slice Option.none 0 0], .slice Option.none 0 0], []⟩ 8 (by kernel_rfl) (by kernel_rfl) (by kernel_rfl) (by kernel_rfl)) ?_
  intro W base args ds gs before hval0 hW _ _
  have hval : ∀ (j : Nat) t v, Try.f5.params[j]? = some t → args[j]? = some v → Value.okWide Try.prog W .any base t v := hval0
  have hW' := hW
  obtain ⟨p, q, hA0, hV, rfl, hfz, hnd⟩ := hW
  have hA : DataW.TrodAll enc Try.prog W 0 (fun _ => true) true Try.f5.params.toList args.toList ds p := hA0
  rw [Try.params5] at hA hval
  obtain ⟨v0, vs0, d0, ds0, p0, q0, hargs, rfl, rfl, h0, r0⟩ := trodAll_cons hA
  obtain ⟨v1, vs1, d1, ds1, p1, q1, rfl, rfl, rfl, h1, r1⟩ := trodAll_cons r0
  obtain ⟨rfl, rfl, rfl⟩ := trodAll_nil r1
  obtain rfl : args = #[v0, v1] := by cases args; simp_all
  obtain ⟨rfl, rfl⟩ := trodVars_none hV
  obtain ⟨xs0, x0⟩ := open_book (hval 0 24 v0 rfl rfl) h0
  obtain ⟨f1, g1⟩ := h1
  rw [slice_cells Try.underlying37 (hval 1 37 v1 rfl rfl)] at g1
  obtain ⟨xs1, x1⟩ := open_intS g1
  clear hA0 hval0
  refine (walk v0 xs0 v1 xs1 W x0 x1).mono fun e W' ⟨he, hb⟩ => ?_
  subst he
  exact ⟨_, rfl, law_post hW' rfl rfl (by kernel_rfl) rfl hb⟩
theorem over : Rows.fnExactFirstReadingRow.holds Try.pinned (OpenSpec.ofChange Rows.fnExactFirstReadingSpec) :=
  OpenClaim.holds_of_wide 5 Try.f5 rfl rfl rfl rfl rfl rfl rfl ⟨rfl, rfl, rfl, rfl, rfl⟩ rfl rfl rfl rfl rfl (by kernel_rfl) Try.func5 (by kernel_rfl)
    (of_decide_eq_true (by kernel_rfl)) (by unfold Func.isWrapper; first | (rw [if_pos (by decide +kernel)]; kernel_rfl) | (rw [if_neg (by decide +kernel)]; exact ⟨rfl, rfl⟩))
    (fun os started H enc _ => lifted os started H enc)
/-- The statement. -/
theorem proved : Rows.FnExactFirstReadingSaid :=
  over
#print axioms proved
end Go.Proofs.Ytabhnbooboceeaa.fnExactFirstReading
