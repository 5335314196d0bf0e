/- Proved: FnExactEncodeMessage returns true for every book and all letters.
   Conditions: none; for every input that the row speaks of. -/
import Derived.Test.YtabhnbooboceeaaP
import Derived.Test.YtabhnbooboceeaaO3
import Derived.Test.YtabhnbooboceeaaG2
import Derived.Test.YtabhnbooboceeaaD7
import Derived.Deep.RegionHeld3
namespace Go.Proofs.Ytabhnbooboceeaa.fnExactEncodeMessage
open Go.ChangeShapes Go.WideShapes Go.ChangeAt Go.RowKit
open Go.ChangeMaps (open_string)
set_option linter.unusedVariables false
set_option maxHeartbeats 4000000 in
set_option maxRecDepth 100000 in
theorem walk (v0 : Value) (xs0 : List Phr) (a1 : ByteArray) (w01 : a1.size ≤ maxLen) (w : World) (hr0 : RdB w w.heap.size v0 xs0) : Calls Try.prog 10 #[v0, .string a1] w fun e w' => e = .returned (.bool true) ∧ Below w.heap.size w w' := by
  obtain ⟨_, rfl, hr0⟩ := hr0
  obtain ⟨A0, c0, rfl, hc0, hm0⟩ := hr0.form
  have hr0 : RdB w w.heap.size (.agg #[.slice A0 xs0.length c0]) xs0 := ⟨_, rfl, hr0⟩
  have H0 := Lib.hid hr0
  clear hr0
  by_cases hbig1 : 1048576 < a1.size
  · go_enter Try.func10, Try.ntmps10
    go_wp2_with fail
    go_ret
    exact ⟨rfl, (Below.refl _ _).alloc (Nat.le_refl _) _⟩
  have hsm1 : a1.size ≤ 1048576 := by omega
  obtain ⟨z0, hz0⟩ : ∃ z : Int, z = szBookM xs0 1048576 := ⟨_, rfl⟩
  have HZ0 := Lib.hid hz0
  clear hz0
  by_cases hneg0 : z0 < 0
  · go_enter Try.func10, Try.ntmps10
    have hb1 : Below w.heap.size w (w.alloc (.cells #[.slice A0 xs0.length c0] 24)) := (Below.refl _ _).alloc (Nat.le_refl _) _
    have hz1 : (w.alloc (.cells #[.slice A0 xs0.length c0] 24)).heap.size = w.heap.size + 1 := by simp
    have qa00_1 : (w.alloc (.cells #[.slice A0 xs0.length c0] 24)).cell? ⟨w.heap.size, 0, Option.none⟩ = some (.slice A0 xs0.length c0) := (Blk.new w 24 #[.slice A0 xs0.length c0]).cell 0
    go_wp2_with fail
    generalize w.alloc (.cells #[.slice A0 xs0.length c0] 24) = w1 at hb1 hz1 qa00_1 ⊢
    have hy1 : w.heap.size + 1 ≤ w1.heap.size := by omega
    clear hz1
    have hw1 : Below w.heap.size w w1 := hb1
    have hs1 : w.heap.size ≤ w1.heap.size := hw1.size
    have hB1 : Below w.heap.size w w1 := hw1.mono (by omega)
    have H0_1 : RdB w1 w.heap.size (.agg #[.slice A0 xs0.length c0]) xs0 := H0.out.below hw1 (by omega)
    go_wp2_with fail
    refine (szBook_any xs0 (.agg #[.slice A0 xs0.length c0]) 1048576 _ _ H0_1 (by omega) (by omega) (by omega)).mono ?_
    rw [← HZ0.out]
    rintro e w2 ⟨rfl, hb2⟩
    have hw2 : Below w1.heap.size w1 w2 := hb2
    have hs2 : w1.heap.size ≤ w2.heap.size := hw2.size
    have hB2 : Below w.heap.size w w2 := hB1.trans (hw2.mono (by omega))
    have H0_2 : RdB w2 w.heap.size (.agg #[.slice A0 xs0.length c0]) xs0 := H0_1.below hw2 (by omega)
    clear H0_1
    have qa00_2 := (hw2.cell (p := ⟨w.heap.size, 0, Option.none⟩) (by show w.heap.size < _; omega)).trans qa00_1
    clear qa00_1
    go_wp2_with fail
    go_ret
    exact ⟨rfl, hB2⟩
  have hsb0 := szBook_bd HZ0.out hneg0
  have hlen := enc_le xs0 a1
  go_enter Try.func10, Try.ntmps10
  have hb1 : Below w.heap.size w (w.alloc (.cells #[.slice A0 xs0.length c0] 24)) := (Below.refl _ _).alloc (Nat.le_refl _) _
  have hz1 : (w.alloc (.cells #[.slice A0 xs0.length c0] 24)).heap.size = w.heap.size + 1 := by simp
  have qa00_1 : (w.alloc (.cells #[.slice A0 xs0.length c0] 24)).cell? ⟨w.heap.size, 0, Option.none⟩ = some (.slice A0 xs0.length c0) := (Blk.new w 24 #[.slice A0 xs0.length c0]).cell 0
  go_wp2_with fail
  generalize w.alloc (.cells #[.slice A0 xs0.length c0] 24) = w1 at hb1 hz1 qa00_1 ⊢
  have hy1 : w.heap.size + 1 ≤ w1.heap.size := by omega
  clear hz1
  have hw1 : Below w.heap.size w w1 := hb1
  have hs1 : w.heap.size ≤ w1.heap.size := hw1.size
  have hB1 : Below w.heap.size w w1 := hw1.mono (by omega)
  have H0_1 : RdB w1 w.heap.size (.agg #[.slice A0 xs0.length c0]) xs0 := H0.out.below hw1 (by omega)
  go_wp2_with fail
  refine (szBook_any xs0 (.agg #[.slice A0 xs0.length c0]) 1048576 _ _ H0_1 (by omega) (by omega) (by omega)).mono ?_
  rw [← HZ0.out]
  rintro e w2 ⟨rfl, hb2⟩
  have hw2 : Below w1.heap.size w1 w2 := hb2
  have hs2 : w1.heap.size ≤ w2.heap.size := hw2.size
  have hB2 : Below w.heap.size w w2 := hB1.trans (hw2.mono (by omega))
  have H0_2 : RdB w2 w.heap.size (.agg #[.slice A0 xs0.length c0]) xs0 := H0_1.below hw2 (by omega)
  clear H0_1
  have qa00_2 := (hw2.cell (p := ⟨w.heap.size, 0, Option.none⟩) (by show w.heap.size < _; omega)).trans qa00_1
  clear qa00_1
  go_wp2_with fail
  refine (toBook_any xs0 _ w.heap.size _ H0_2 hsb0 (by omega)).mono ?_
  rintro e w3 ⟨u0, rfl, fu0, hb3⟩
  obtain ⟨_, rfl, hgu0⟩ := fu0
  obtain ⟨Au0, cu0, rfl, _, _⟩ := hgu0.rd.form
  have fu0_3 : OwB w3 w2.heap.size w3.heap.size (.agg #[.slice Au0 (xs0).length cu0]) xs0 := ⟨_, rfl, hgu0⟩
  clear hgu0
  have hw3 : Below w2.heap.size w2 w3 := hb3
  have hs3 : w2.heap.size ≤ w3.heap.size := hw3.size
  have hB3 : Below w.heap.size w w3 := hB2.trans (hw3.mono (by omega))
  have H0_3 : RdB w3 w.heap.size (.agg #[.slice A0 xs0.length c0]) xs0 := H0_2.below hw3 (by omega)
  clear H0_2
  have qa00_3 := (hw3.cell (p := ⟨w.heap.size, 0, Option.none⟩) (by show w.heap.size < _; omega)).trans qa00_2
  clear qa00_2
  go_wp2_with fail
  refine (sEncodeMessage_any xs0 a1 (.agg #[.slice Au0 (xs0).length cu0]) _ _ w01 fu0_3.rd (by omega)).mono ?_
  rintro e w4 ⟨s, rfl, fs, hb4⟩
  have fs_4 : OwI w4 w3.heap.size w4.heap.size s (sigsOf xs0 (spellN xs0 a1)) := fs
  have hw4 : Below w3.heap.size w3 w4 := hb4
  have hs4 : w3.heap.size ≤ w4.heap.size := hw4.size
  have hB4 : Below w.heap.size w w4 := hB3.trans (hw4.mono (by omega))
  have H0_4 : RdB w4 w.heap.size (.agg #[.slice A0 xs0.length c0]) xs0 := H0_3.below hw4 (by omega)
  clear H0_3
  have fu0_4 : OwB w4 w2.heap.size w3.heap.size (.agg #[.slice Au0 (xs0).length cu0]) xs0 := fu0_3.below hw4 (by omega)
  clear fu0_3
  have qa00_4 := (hw4.cell (p := ⟨w.heap.size, 0, Option.none⟩) (by show w.heap.size < _; omega)).trans qa00_3
  clear qa00_3
  go_wp2_with fail
  refine (toBook_any xs0 _ w.heap.size _ H0_4 hsb0 (by omega)).mono ?_
  rintro e w5 ⟨x0, rfl, fx0, hb5⟩
  obtain ⟨_, rfl, hgx0⟩ := fx0
  obtain ⟨Ax0, cx0, rfl, _, _⟩ := hgx0.rd.form
  have fx0_5 : OwB w5 w4.heap.size w5.heap.size (.agg #[.slice Ax0 (xs0).length cx0]) xs0 := ⟨_, rfl, hgx0⟩
  clear hgx0
  have hw5 : Below w4.heap.size w4 w5 := hb5
  have hs5 : w4.heap.size ≤ w5.heap.size := hw5.size
  have hB5 : Below w.heap.size w w5 := hB4.trans (hw5.mono (by omega))
  have H0_5 : RdB w5 w.heap.size (.agg #[.slice A0 xs0.length c0]) xs0 := H0_4.below hw5 (by omega)
  clear H0_4
  have fu0_5 : OwB w5 w2.heap.size w3.heap.size (.agg #[.slice Au0 (xs0).length cu0]) xs0 := fu0_4.below hw5 (by omega)
  clear fu0_4
  have fs_5 : OwI w5 w3.heap.size w4.heap.size s (sigsOf xs0 (spellN xs0 a1)) := fs_4.below hw5 (by omega)
  clear fs_4
  have qa00_5 := (hw5.cell (p := ⟨w.heap.size, 0, Option.none⟩) (by show w.heap.size < _; omega)).trans qa00_4
  clear qa00_4
  have hb6 : Below w5.heap.size w5 (w5.alloc (.cells #[.slice Ax0 (xs0).length cx0] 30)) := (Below.refl _ _).alloc (Nat.le_refl _) _
  have hz6 : (w5.alloc (.cells #[.slice Ax0 (xs0).length cx0] 30)).heap.size = w5.heap.size + 1 := by simp
  have qx00_6 : (w5.alloc (.cells #[.slice Ax0 (xs0).length cx0] 30)).cell? ⟨w5.heap.size, 0, Option.none⟩ = some (.slice Ax0 (xs0).length cx0) := (Blk.new w5 30 #[.slice Ax0 (xs0).length cx0]).cell 0
  go_wp2_with fail
  generalize w5.alloc (.cells #[.slice Ax0 (xs0).length cx0] 30) = w6 at hb6 hz6 qx00_6 ⊢
  have hy6 : w5.heap.size + 1 ≤ w6.heap.size := by omega
  clear hz6
  have hw6 : Below w5.heap.size w5 w6 := hb6
  have hs6 : w5.heap.size ≤ w6.heap.size := hw6.size
  have hB6 : Below w.heap.size w w6 := hB5.trans (hw6.mono (by omega))
  have H0_6 : RdB w6 w.heap.size (.agg #[.slice A0 xs0.length c0]) xs0 := H0_5.below hw6 (by omega)
  clear H0_5
  have fu0_6 : OwB w6 w2.heap.size w3.heap.size (.agg #[.slice Au0 (xs0).length cu0]) xs0 := fu0_5.below hw6 (by omega)
  clear fu0_5
  have fs_6 : OwI w6 w3.heap.size w4.heap.size s (sigsOf xs0 (spellN xs0 a1)) := fs_5.below hw6 (by omega)
  clear fs_5
  have fx0_6 : OwB w6 w4.heap.size w5.heap.size (.agg #[.slice Ax0 (xs0).length cx0]) xs0 := fx0_5.below hw6 (by omega)
  clear fx0_5
  have qa00_6 := (hw6.cell (p := ⟨w.heap.size, 0, Option.none⟩) (by show w.heap.size < _; omega)).trans qa00_5
  clear qa00_5
  go_wp2_with fail
  refine (EncodeMessage_any xs0 a1 (.agg #[.slice Ax0 (xs0).length cx0]) _ _ w01 fx0_6.rd (by omega)).mono ?_
  rintro e w7 ⟨g, rfl, fg, hb7⟩
  have fg_7 : OwI w7 w6.heap.size w7.heap.size g (sigsOf xs0 (spellN xs0 a1)) := fg
  have hw7 : Below w6.heap.size w6 w7 := hb7
  have hs7 : w6.heap.size ≤ w7.heap.size := hw7.size
  have hB7 : Below w.heap.size w w7 := hB6.trans (hw7.mono (by omega))
  have H0_7 : RdB w7 w.heap.size (.agg #[.slice A0 xs0.length c0]) xs0 := H0_6.below hw7 (by omega)
  clear H0_6
  have fu0_7 : OwB w7 w2.heap.size w3.heap.size (.agg #[.slice Au0 (xs0).length cu0]) xs0 := fu0_6.below hw7 (by omega)
  clear fu0_6
  have fs_7 : OwI w7 w3.heap.size w4.heap.size s (sigsOf xs0 (spellN xs0 a1)) := fs_6.below hw7 (by omega)
  clear fs_6
  have fx0_7 : OwB w7 w4.heap.size w5.heap.size (.agg #[.slice Ax0 (xs0).length cx0]) xs0 := fx0_6.below hw7 (by omega)
  clear fx0_6
  have qa00_7 := (hw7.cell (p := ⟨w.heap.size, 0, Option.none⟩) (by show w.heap.size < _; omega)).trans qa00_6
  clear qa00_6
  have qx00_7 := (hw7.cell (p := ⟨w5.heap.size, 0, Option.none⟩) (by show w5.heap.size < _; omega)).trans qx00_6
  clear qx00_6
  go_wp2_with fail
  refine (eqIntS_sameB _ _ _ _ _ _ fg_7.rd fs_7.rd).mono ?_
  rintro e w8 ⟨rfl, hb8⟩
  have hw8 : Below w7.heap.size w7 w8 := hb8
  have hs8 : w7.heap.size ≤ w8.heap.size := hw8.size
  have hB8 : Below w.heap.size w w8 := hB7.trans (hw8.mono (by omega))
  have H0_8 : RdB w8 w.heap.size (.agg #[.slice A0 xs0.length c0]) xs0 := H0_7.below hw8 (by omega)
  clear H0_7
  have fu0_8 : OwB w8 w2.heap.size w3.heap.size (.agg #[.slice Au0 (xs0).length cu0]) xs0 := fu0_7.below hw8 (by omega)
  clear fu0_7
  have fs_8 : OwI w8 w3.heap.size w4.heap.size s (sigsOf xs0 (spellN xs0 a1)) := fs_7.below hw8 (by omega)
  clear fs_7
  have fx0_8 : OwB w8 w4.heap.size w5.heap.size (.agg #[.slice Ax0 (xs0).length cx0]) xs0 := fx0_7.below hw8 (by omega)
  clear fx0_7
  have fg_8 : OwI w8 w6.heap.size w7.heap.size g (sigsOf xs0 (spellN xs0 a1)) := fg_7.below hw8 (by omega)
  clear fg_7
  have qa00_8 := (hw8.cell (p := ⟨w.heap.size, 0, Option.none⟩) (by show w.heap.size < _; omega)).trans qa00_7
  clear qa00_7
  have qx00_8 := (hw8.cell (p := ⟨w5.heap.size, 0, Option.none⟩) (by show w5.heap.size < _; omega)).trans qx00_7
  clear qx00_7
  go_wp2_with fail
  have hb9 : Below w8.heap.size w8 w8.drew := (Below.refl _ _).drew
  have hw9 : Below w8.heap.size w8 w8.drew := hb9
  have hs9 : w8.heap.size ≤ w8.drew.heap.size := hw9.size
  have hB9 : Below w.heap.size w w8.drew := hB8.trans (hw9.mono (by omega))
  have H0_9 : RdB w8.drew w.heap.size (.agg #[.slice A0 xs0.length c0]) xs0 := H0_8.below hw9 (by omega)
  clear H0_8
  have fu0_9 : OwB w8.drew w2.heap.size w3.heap.size (.agg #[.slice Au0 (xs0).length cu0]) xs0 := fu0_8.below hw9 (by omega)
  clear fu0_8
  have fs_9 : OwI w8.drew w3.heap.size w4.heap.size s (sigsOf xs0 (spellN xs0 a1)) := fs_8.below hw9 (by omega)
  clear fs_8
  have fx0_9 : OwB w8.drew w4.heap.size w5.heap.size (.agg #[.slice Ax0 (xs0).length cx0]) xs0 := fx0_8.below hw9 (by omega)
  clear fx0_8
  have fg_9 : OwI w8.drew w6.heap.size w7.heap.size g (sigsOf xs0 (spellN xs0 a1)) := fg_8.below hw9 (by omega)
  clear fg_8
  have qa00_9 := (hw9.cell (p := ⟨w.heap.size, 0, Option.none⟩) (by show w.heap.size < _; omega)).trans qa00_8
  clear qa00_8
  have qx00_9 := (hw9.cell (p := ⟨w5.heap.size, 0, Option.none⟩) (by show w5.heap.size < _; omega)).trans qx00_8
  clear qx00_8
  go_region_held3 (fun w' => w'.cell? ⟨w5.heap.size, 0, Option.none⟩ = some (.slice Ax0 (xs0).length cx0) ∧ w'.cell? ⟨w.heap.size, 0, Option.none⟩ = some (.slice A0 xs0.length c0)) (first | exact ⟨qx00_11, qa00_11⟩ | exact ⟨qx00_10, qa00_10⟩ | exact ⟨qx00_9, qa00_9⟩)
    (first
      | (
        go_at_call 15
        refine (toBook_any xs0 _ w.heap.size _ H0_9 hsb0 (by omega)).mono ?_
        rintro e w10 ⟨y0, rfl, fy0, hb10⟩
        obtain ⟨_, rfl, hgy0⟩ := fy0
        obtain ⟨Ay0, cy0, rfl, _, _⟩ := hgy0.rd.form
        have fy0_10 : OwB w10 w8.drew.heap.size w10.heap.size (.agg #[.slice Ay0 (xs0).length cy0]) xs0 := ⟨_, rfl, hgy0⟩
        clear hgy0
        have hw10 : Below w8.drew.heap.size w8.drew w10 := hb10
        have hs10 : w8.drew.heap.size ≤ w10.heap.size := hw10.size
        have hB10 : Below w.heap.size w w10 := hB9.trans (hw10.mono (by omega))
        have H0_10 : RdB w10 w.heap.size (.agg #[.slice A0 xs0.length c0]) xs0 := H0_9.below hw10 (by omega)
        clear H0_9
        have fu0_10 : OwB w10 w2.heap.size w3.heap.size (.agg #[.slice Au0 (xs0).length cu0]) xs0 := fu0_9.below hw10 (by omega)
        clear fu0_9
        have fs_10 : OwI w10 w3.heap.size w4.heap.size s (sigsOf xs0 (spellN xs0 a1)) := fs_9.below hw10 (by omega)
        clear fs_9
        have fx0_10 : OwB w10 w4.heap.size w5.heap.size (.agg #[.slice Ax0 (xs0).length cx0]) xs0 := fx0_9.below hw10 (by omega)
        clear fx0_9
        have fg_10 : OwI w10 w6.heap.size w7.heap.size g (sigsOf xs0 (spellN xs0 a1)) := fg_9.below hw10 (by omega)
        clear fg_9
        have qa00_10 := (hw10.cell (p := ⟨w.heap.size, 0, Option.none⟩) (by show w.heap.size < _; omega)).trans qa00_9
        clear qa00_9
        have qx00_10 := (hw10.cell (p := ⟨w5.heap.size, 0, Option.none⟩) (by show w5.heap.size < _; omega)).trans qx00_9
        clear qx00_9)
      | (
        go_at_call 17
        refine (eqBook_sameB _ _ _ _ _ _ fx0_10.rd fy0_10.rd).mono ?_
        rintro e w11 ⟨rfl, hb11⟩
        have hw11 : Below w10.heap.size w10 w11 := hb11
        have hs11 : w10.heap.size ≤ w11.heap.size := hw11.size
        have hB11 : Below w.heap.size w w11 := hB10.trans (hw11.mono (by omega))
        have H0_11 : RdB w11 w.heap.size (.agg #[.slice A0 xs0.length c0]) xs0 := H0_10.below hw11 (by omega)
        clear H0_10
        have fu0_11 : OwB w11 w2.heap.size w3.heap.size (.agg #[.slice Au0 (xs0).length cu0]) xs0 := fu0_10.below hw11 (by omega)
        clear fu0_10
        have fs_11 : OwI w11 w3.heap.size w4.heap.size s (sigsOf xs0 (spellN xs0 a1)) := fs_10.below hw11 (by omega)
        clear fs_10
        have fx0_11 : OwB w11 w4.heap.size w5.heap.size (.agg #[.slice Ax0 (xs0).length cx0]) xs0 := fx0_10.below hw11 (by omega)
        clear fx0_10
        have fg_11 : OwI w11 w6.heap.size w7.heap.size g (sigsOf xs0 (spellN xs0 a1)) := fg_10.below hw11 (by omega)
        clear fg_10
        have fy0_11 : OwB w11 w8.drew.heap.size w10.heap.size (.agg #[.slice Ay0 (xs0).length cy0]) xs0 := fy0_10.below hw11 (by omega)
        clear fy0_10
        have qa00_11 := (hw11.cell (p := ⟨w.heap.size, 0, Option.none⟩) (by show w.heap.size < _; omega)).trans qa00_10
        clear qa00_10
        have qx00_11 := (hw11.cell (p := ⟨w5.heap.size, 0, Option.none⟩) (by show w5.heap.size < _; omega)).trans qx00_10
        clear qx00_10))
  go_wp2_with fail
  refine (markBook_ex _ _ _ _ 1 _ fx0_11 (by omega) (by omega) (by omega) (by omega)).mono ?_
  rintro e w13 ⟨q12, m12, rfl, hq12, hp12, -, hk12, hb13⟩
  have hs12 : m12.heap.size = w11.heap.size := hk12.size
  have hw12 : Below w4.heap.size w11 m12 := hk12.bel
  have hB12 : Below w.heap.size w m12 := hB11.trans (hw12.mono (by omega))
  have H0_12 : RdB m12 w.heap.size (.agg #[.slice A0 xs0.length c0]) xs0 := H0_11.below hw12 (by omega)
  clear H0_11
  have fu0_12 : OwB m12 w2.heap.size w3.heap.size (.agg #[.slice Au0 (xs0).length cu0]) xs0 := fu0_11.keep hk12 (by omega)
  clear fu0_11
  have fs_12 : OwI m12 w3.heap.size w4.heap.size s (sigsOf xs0 (spellN xs0 a1)) := fs_11.keep hk12 (by omega)
  clear fs_11
  have fg_12 : OwI m12 w6.heap.size w7.heap.size g (sigsOf xs0 (spellN xs0 a1)) := fg_11.keep hk12 (by omega)
  clear fg_11
  have fy0_12 : OwB m12 w8.drew.heap.size w10.heap.size (.agg #[.slice Ay0 (xs0).length cy0]) xs0 := fy0_11.keep hk12 (by omega)
  clear fy0_11
  have qa00_12 := (hw12.cell (p := ⟨w.heap.size, 0, Option.none⟩) (by show w.heap.size < _; omega)).trans qa00_11
  clear qa00_11
  clear qx00_11
  have hw13 : Below m12.heap.size m12 w13 := hb13
  have hs13 : m12.heap.size ≤ w13.heap.size := hw13.size
  have hB13 : Below w.heap.size w w13 := hB12.trans (hw13.mono (by omega))
  have H0_13 : RdB w13 w.heap.size (.agg #[.slice A0 xs0.length c0]) xs0 := H0_12.below hw13 (by omega)
  clear H0_12
  have fu0_13 : OwB w13 w2.heap.size w3.heap.size (.agg #[.slice Au0 (xs0).length cu0]) xs0 := fu0_12.below hw13 (by omega)
  clear fu0_12
  have fs_13 : OwI w13 w3.heap.size w4.heap.size s (sigsOf xs0 (spellN xs0 a1)) := fs_12.below hw13 (by omega)
  clear fs_12
  have fg_13 : OwI w13 w6.heap.size w7.heap.size g (sigsOf xs0 (spellN xs0 a1)) := fg_12.below hw13 (by omega)
  clear fg_12
  have fy0_13 : OwB w13 w8.drew.heap.size w10.heap.size (.agg #[.slice Ay0 (xs0).length cy0]) xs0 := fy0_12.below hw13 (by omega)
  clear fy0_12
  have qa00_13 := (hw13.cell (p := ⟨w.heap.size, 0, Option.none⟩) (by show w.heap.size < _; omega)).trans qa00_12
  clear qa00_12
  go_wp2_with fail
  refine (eqIntS_sameB _ _ _ _ _ _ fg_13.rd fs_13.rd).mono ?_
  rintro e w14 ⟨rfl, hb14⟩
  have hw14 : Below w13.heap.size w13 w14 := hb14
  have hs14 : w13.heap.size ≤ w14.heap.size := hw14.size
  have hB14 : Below w.heap.size w w14 := hB13.trans (hw14.mono (by omega))
  have H0_14 : RdB w14 w.heap.size (.agg #[.slice A0 xs0.length c0]) xs0 := H0_13.below hw14 (by omega)
  clear H0_13
  have fu0_14 : OwB w14 w2.heap.size w3.heap.size (.agg #[.slice Au0 (xs0).length cu0]) xs0 := fu0_13.below hw14 (by omega)
  clear fu0_13
  have fs_14 : OwI w14 w3.heap.size w4.heap.size s (sigsOf xs0 (spellN xs0 a1)) := fs_13.below hw14 (by omega)
  clear fs_13
  have fg_14 : OwI w14 w6.heap.size w7.heap.size g (sigsOf xs0 (spellN xs0 a1)) := fg_13.below hw14 (by omega)
  clear fg_13
  have fy0_14 : OwB w14 w8.drew.heap.size w10.heap.size (.agg #[.slice Ay0 (xs0).length cy0]) xs0 := fy0_13.below hw14 (by omega)
  clear fy0_13
  have qa00_14 := (hw14.cell (p := ⟨w.heap.size, 0, Option.none⟩) (by show w.heap.size < _; omega)).trans qa00_13
  clear qa00_13
  go_wp2_with fail
  refine (markIntS_any _ g _ _ 1 _ fg_14 (by omega) (by omega)).mono ?_
  rintro e w15 ⟨rfl, fgm15, hk15⟩
  have hs15 : w15.heap.size = w14.heap.size := hk15.size
  have hw15 : Below w6.heap.size w14 w15 := hk15.bel
  have hB15 : Below w.heap.size w w15 := hB14.trans (hw15.mono (by omega))
  have H0_15 : RdB w15 w.heap.size (.agg #[.slice A0 xs0.length c0]) xs0 := H0_14.below hw15 (by omega)
  clear H0_14
  have fu0_15 : OwB w15 w2.heap.size w3.heap.size (.agg #[.slice Au0 (xs0).length cu0]) xs0 := fu0_14.keep hk15 (by omega)
  clear fu0_14
  have fs_15 : OwI w15 w3.heap.size w4.heap.size s (sigsOf xs0 (spellN xs0 a1)) := fs_14.keep hk15 (by omega)
  clear fs_14
  have fy0_15 : OwB w15 w8.drew.heap.size w10.heap.size (.agg #[.slice Ay0 (xs0).length cy0]) xs0 := fy0_14.keep hk15 (by omega)
  clear fy0_14
  have qa00_15 := (hw15.cell (p := ⟨w.heap.size, 0, Option.none⟩) (by show w.heap.size < _; omega)).trans qa00_14
  clear qa00_14
  go_wp2_with fail
  refine (heldIntS_any (((sigsOf xs0 (spellN xs0 a1))).length) g _ 1 _ fgm15.rd (by omega) (by omega)).mono ?_
  rintro e w' ⟨rfl, rfl⟩
  go_wp2_with fail
  refine (toBook_any xs0 _ w.heap.size _ H0_15 hsb0 (by omega)).mono ?_
  rintro e w16 ⟨z0, rfl, fz0, hb16⟩
  obtain ⟨_, rfl, hgz0⟩ := fz0
  obtain ⟨Az0, cz0, rfl, _, _⟩ := hgz0.rd.form
  have fz0_16 : OwB w16 w15.heap.size w16.heap.size (.agg #[.slice Az0 (xs0).length cz0]) xs0 := ⟨_, rfl, hgz0⟩
  clear hgz0
  have hw16 : Below w15.heap.size w15 w16 := hb16
  have hs16 : w15.heap.size ≤ w16.heap.size := hw16.size
  have hB16 : Below w.heap.size w w16 := hB15.trans (hw16.mono (by omega))
  have H0_16 : RdB w16 w.heap.size (.agg #[.slice A0 xs0.length c0]) xs0 := H0_15.below hw16 (by omega)
  clear H0_15
  have fu0_16 : OwB w16 w2.heap.size w3.heap.size (.agg #[.slice Au0 (xs0).length cu0]) xs0 := fu0_15.below hw16 (by omega)
  clear fu0_15
  have fs_16 : OwI w16 w3.heap.size w4.heap.size s (sigsOf xs0 (spellN xs0 a1)) := fs_15.below hw16 (by omega)
  clear fs_15
  have fg_16 : OwI w16 w6.heap.size w7.heap.size g (marks 1 ((sigsOf xs0 (spellN xs0 a1))).length) := fgm15.below hw16 (by omega)
  clear fgm15
  have fy0_16 : OwB w16 w8.drew.heap.size w10.heap.size (.agg #[.slice Ay0 (xs0).length cy0]) xs0 := fy0_15.below hw16 (by omega)
  clear fy0_15
  have qa00_16 := (hw16.cell (p := ⟨w.heap.size, 0, Option.none⟩) (by show w.heap.size < _; omega)).trans qa00_15
  clear qa00_15
  go_wp2_with fail
  refine (EncodeMessage_any xs0 a1 (.agg #[.slice Az0 (xs0).length cz0]) _ _ w01 fz0_16.rd (by omega)).mono ?_
  rintro e w17 ⟨t, rfl, ft, hb17⟩
  have ft_17 : OwI w17 w16.heap.size w17.heap.size t (sigsOf xs0 (spellN xs0 a1)) := ft
  have hw17 : Below w16.heap.size w16 w17 := hb17
  have hs17 : w16.heap.size ≤ w17.heap.size := hw17.size
  have hB17 : Below w.heap.size w w17 := hB16.trans (hw17.mono (by omega))
  have H0_17 : RdB w17 w.heap.size (.agg #[.slice A0 xs0.length c0]) xs0 := H0_16.below hw17 (by omega)
  clear H0_16
  have fu0_17 : OwB w17 w2.heap.size w3.heap.size (.agg #[.slice Au0 (xs0).length cu0]) xs0 := fu0_16.below hw17 (by omega)
  clear fu0_16
  have fs_17 : OwI w17 w3.heap.size w4.heap.size s (sigsOf xs0 (spellN xs0 a1)) := fs_16.below hw17 (by omega)
  clear fs_16
  have fg_17 : OwI w17 w6.heap.size w7.heap.size g (marks 1 ((sigsOf xs0 (spellN xs0 a1))).length) := fg_16.below hw17 (by omega)
  clear fg_16
  have fy0_17 : OwB w17 w8.drew.heap.size w10.heap.size (.agg #[.slice Ay0 (xs0).length cy0]) xs0 := fy0_16.below hw17 (by omega)
  clear fy0_16
  have fz0_17 : OwB w17 w15.heap.size w16.heap.size (.agg #[.slice Az0 (xs0).length cz0]) xs0 := fz0_16.below hw17 (by omega)
  clear fz0_16
  have qa00_17 := (hw17.cell (p := ⟨w.heap.size, 0, Option.none⟩) (by show w.heap.size < _; omega)).trans qa00_16
  clear qa00_16
  go_wp2_with fail
  refine (eqIntS_sameB _ _ _ _ _ _ ft_17.rd fs_17.rd).mono ?_
  rintro e w18 ⟨rfl, hb18⟩
  have hw18 : Below w17.heap.size w17 w18 := hb18
  have hs18 : w17.heap.size ≤ w18.heap.size := hw18.size
  have hB18 : Below w.heap.size w w18 := hB17.trans (hw18.mono (by omega))
  have H0_18 : RdB w18 w.heap.size (.agg #[.slice A0 xs0.length c0]) xs0 := H0_17.below hw18 (by omega)
  clear H0_17
  have fu0_18 : OwB w18 w2.heap.size w3.heap.size (.agg #[.slice Au0 (xs0).length cu0]) xs0 := fu0_17.below hw18 (by omega)
  clear fu0_17
  have fs_18 : OwI w18 w3.heap.size w4.heap.size s (sigsOf xs0 (spellN xs0 a1)) := fs_17.below hw18 (by omega)
  clear fs_17
  have fg_18 : OwI w18 w6.heap.size w7.heap.size g (marks 1 ((sigsOf xs0 (spellN xs0 a1))).length) := fg_17.below hw18 (by omega)
  clear fg_17
  have fy0_18 : OwB w18 w8.drew.heap.size w10.heap.size (.agg #[.slice Ay0 (xs0).length cy0]) xs0 := fy0_17.below hw18 (by omega)
  clear fy0_17
  have fz0_18 : OwB w18 w15.heap.size w16.heap.size (.agg #[.slice Az0 (xs0).length cz0]) xs0 := fz0_17.below hw18 (by omega)
  clear fz0_17
  have ft_18 : OwI w18 w16.heap.size w17.heap.size t (sigsOf xs0 (spellN xs0 a1)) := ft_17.below hw18 (by omega)
  clear ft_17
  have qa00_18 := (hw18.cell (p := ⟨w.heap.size, 0, Option.none⟩) (by show w.heap.size < _; omega)).trans qa00_17
  clear qa00_17
  go_wp2_with fail
  refine (heldIntS_any (((sigsOf xs0 (spellN xs0 a1))).length) g _ 1 _ fg_18.rd (by omega) (by omega)).mono ?_
  rintro e w' ⟨rfl, rfl⟩
  go_wp2_with fail
  go_ret
  exact ⟨rfl, hB18⟩
set_option maxRecDepth 100000 in
theorem lifted (os : Os) (started : os.Started) (H : Type) (enc : TypeId × Value → H) :
    ReturnsInHanded {} Try.checked os 10 .any (Rows.fnExactEncodeMessageSpec.pre6 enc Try.prog Try.f10 Rows.fnExactEncodeMessageRow.domain false) (Rows.fnExactEncodeMessageSpec.post enc Try.prog Try.f10 false true false false) := by
  refine returnsInHanded_of_change (C := Try.checked) own started (by kernel_rfl) Try.func10
    (ChangeSpec.witness6 (enc := enc) (C := Try.checked) false ⟨#[], #[.agg #[.slice Option.none 0 0], .string ⟨#[]⟩], []⟩ 8 (by kernel_rfl) (by kernel_rfl) (by kernel_rfl) (by kernel_rfl)) ?_
  intro W base args ds gs before hval0 hW _ _
  have hval : ∀ (j : Nat) t v, Try.f10.params[j]? = some t → args[j]? = some v → Value.okWide Try.prog W .any base t v := hval0
  have hW' := hW
  obtain ⟨p, q, hA0, hV, rfl, hfz, hnd⟩ := hW
  have hA : DataW.TrodAll enc Try.prog W 0 (fun _ => true) true Try.f10.params.toList args.toList ds p := hA0
  rw [Try.params10] at hA hval
  obtain ⟨v0, vs0, d0, ds0, p0, q0, hargs, rfl, rfl, h0, r0⟩ := trodAll_cons hA
  obtain ⟨v1, vs1, d1, ds1, p1, q1, rfl, rfl, rfl, h1, r1⟩ := trodAll_cons r0
  obtain ⟨rfl, rfl, rfl⟩ := trodAll_nil r1
  obtain rfl : args = #[v0, v1] := by cases args; simp_all
  obtain ⟨rfl, rfl⟩ := trodVars_none hV
  obtain ⟨xs0, x0⟩ := open_book (hval 0 24 v0 rfl rfl) h0
  obtain ⟨a1, rfl, rfl, rfl, w1⟩ := open_string Try.underlying9 (hval 1 9 v1 rfl rfl) h1
  clear hA0 hval0
  refine (walk v0 xs0 a1 w1 W x0).mono fun e W' ⟨he, hb⟩ => ?_
  subst he
  exact ⟨_, rfl, law_post hW' rfl rfl (by kernel_rfl) rfl hb⟩
theorem over : Rows.fnExactEncodeMessageRow.holds Try.pinned (OpenSpec.ofChange Rows.fnExactEncodeMessageSpec) :=
  OpenClaim.holds_of_wide 10 Try.f10 rfl rfl rfl rfl rfl rfl rfl ⟨rfl, rfl, rfl, rfl, rfl⟩ rfl rfl rfl rfl rfl (by kernel_rfl) Try.func10 (by kernel_rfl)
    (of_decide_eq_true (by kernel_rfl)) (by unfold Func.isWrapper; first | (rw [if_pos (by decide +kernel)]; kernel_rfl) | (rw [if_neg (by decide +kernel)]; exact ⟨rfl, rfl⟩))
    (fun os started H enc _ => lifted os started H enc)
/-- The statement. -/
theorem proved : Rows.FnExactEncodeMessageSaid :=
  over
#print axioms proved
end Go.Proofs.Ytabhnbooboceeaa.fnExactEncodeMessage
