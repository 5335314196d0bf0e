/- Texts of one claim, joined: VDropPhrase. -/
import Derived.Deep.RegionHeld3
import Derived.Test.YtjnkdjokbamibaaP3DropPhrase
/- The walk of the law FnExactDropPhrase. -/
namespace Go.Proofs.Ytjnkdjokbamibaa.fnExactDropPhrase
open Go.ChangeShapes Go.WideShapes Go.ChangeAt Go.RowKit
open Go.ChangeMaps (open_string)
set_option linter.unusedVariables false
set_option maxHeartbeats 4000000 in
set_option maxRecDepth 100000 in
theorem walk (v0 : Value) (xs0 : List Phr) (a1 : ByteArray) (w01 : a1.size ≤ maxLen) (w : World) (hr0 : RdB w w.heap.size v0 xs0) : Calls Try.prog 3 #[v0, .string a1] w fun e w' => e = .returned (.bool true) ∧ Below w.heap.size w w' := by
  obtain ⟨_, rfl, hr0⟩ := hr0
  obtain ⟨A0, c0, rfl, hc0, hm0⟩ := hr0.form
  have hr0 : RdB w w.heap.size (.agg #[.slice A0 xs0.length c0]) xs0 := ⟨_, rfl, hr0⟩
  have H0 := Lib.hid hr0
  clear hr0
  by_cases hbig1 : 1048576 < a1.size
  · go_enter Try.func3, Try.ntmps3
    go_wp2_with fail
    go_ret
    exact ⟨rfl, (Below.refl _ _).alloc (Nat.le_refl _) _⟩
  have hsm1 : a1.size ≤ 1048576 := by omega
  obtain ⟨z0, hz0⟩ : ∃ z : Int, z = szBookM xs0 1048576 := ⟨_, rfl⟩
  have HZ0 := Lib.hid hz0
  clear hz0
  by_cases hneg0 : z0 < 0
  · go_enter Try.func3, Try.ntmps3
    have hb1 : Below w.heap.size w (w.alloc (.cells #[.slice A0 xs0.length c0] 24)) := (Below.refl _ _).alloc (Nat.le_refl _) _
    have hz1 : (w.alloc (.cells #[.slice A0 xs0.length c0] 24)).heap.size = w.heap.size + 1 := by simp
    have qa00_1 : (w.alloc (.cells #[.slice A0 xs0.length c0] 24)).cell? ⟨w.heap.size, 0, Option.none⟩ = some (.slice A0 xs0.length c0) := (Blk.new w 24 #[.slice A0 xs0.length c0]).cell 0
    go_wp2_with fail
    generalize w.alloc (.cells #[.slice A0 xs0.length c0] 24) = w1 at hb1 hz1 qa00_1 ⊢
    have hy1 : w.heap.size + 1 ≤ w1.heap.size := by omega
    clear hz1
    have hw1 : Below w.heap.size w w1 := hb1
    have hs1 : w.heap.size ≤ w1.heap.size := hw1.size
    have hB1 : Below w.heap.size w w1 := hw1.mono (by omega)
    have H0_1 : RdB w1 w.heap.size (.agg #[.slice A0 xs0.length c0]) xs0 := H0.out.below hw1 (by omega)
    go_wp2_with fail
    refine (szBook_any xs0 (.agg #[.slice A0 xs0.length c0]) 1048576 _ _ H0_1 (by omega) (by omega) (by omega)).mono ?_
    rw [← HZ0.out]
    rintro e w2 ⟨rfl, hb2⟩
    have hw2 : Below w1.heap.size w1 w2 := hb2
    have hs2 : w1.heap.size ≤ w2.heap.size := hw2.size
    have hB2 : Below w.heap.size w w2 := hB1.trans (hw2.mono (by omega))
    have H0_2 : RdB w2 w.heap.size (.agg #[.slice A0 xs0.length c0]) xs0 := H0_1.below hw2 (by omega)
    clear H0_1
    have qa00_2 := (hw2.cell (p := ⟨w.heap.size, 0, Option.none⟩) (by show w.heap.size < _; omega)).trans qa00_1
    clear qa00_1
    go_wp2_with fail
    go_ret
    exact ⟨rfl, hB2⟩
  have hsb0 := szBook_bd HZ0.out hneg0
  have hcnt := drop_cnt xs0 a1
  go_enter Try.func3, Try.ntmps3
  have hb1 : Below w.heap.size w (w.alloc (.cells #[.slice A0 xs0.length c0] 24)) := (Below.refl _ _).alloc (Nat.le_refl _) _
  have hz1 : (w.alloc (.cells #[.slice A0 xs0.length c0] 24)).heap.size = w.heap.size + 1 := by simp
  have qa00_1 : (w.alloc (.cells #[.slice A0 xs0.length c0] 24)).cell? ⟨w.heap.size, 0, Option.none⟩ = some (.slice A0 xs0.length c0) := (Blk.new w 24 #[.slice A0 xs0.length c0]).cell 0
  go_wp2_with fail
  generalize w.alloc (.cells #[.slice A0 xs0.length c0] 24) = w1 at hb1 hz1 qa00_1 ⊢
  have hy1 : w.heap.size + 1 ≤ w1.heap.size := by omega
  clear hz1
  have hw1 : Below w.heap.size w w1 := hb1
  have hs1 : w.heap.size ≤ w1.heap.size := hw1.size
  have hB1 : Below w.heap.size w w1 := hw1.mono (by omega)
  have H0_1 : RdB w1 w.heap.size (.agg #[.slice A0 xs0.length c0]) xs0 := H0.out.below hw1 (by omega)
  go_wp2_with fail
  refine (szBook_any xs0 (.agg #[.slice A0 xs0.length c0]) 1048576 _ _ H0_1 (by omega) (by omega) (by omega)).mono ?_
  rw [← HZ0.out]
  rintro e w2 ⟨rfl, hb2⟩
  have hw2 : Below w1.heap.size w1 w2 := hb2
  have hs2 : w1.heap.size ≤ w2.heap.size := hw2.size
  have hB2 : Below w.heap.size w w2 := hB1.trans (hw2.mono (by omega))
  have H0_2 : RdB w2 w.heap.size (.agg #[.slice A0 xs0.length c0]) xs0 := H0_1.below hw2 (by omega)
  clear H0_1
  have qa00_2 := (hw2.cell (p := ⟨w.heap.size, 0, Option.none⟩) (by show w.heap.size < _; omega)).trans qa00_1
  clear qa00_1
  go_wp2_with fail
  refine (toBook_any xs0 _ w.heap.size _ H0_2 hsb0 (by omega)).mono ?_
  rintro e w3 ⟨u0, rfl, fu0, hb3⟩
  obtain ⟨_, rfl, hgu0⟩ := fu0
  obtain ⟨Au0, cu0, rfl, _, _⟩ := hgu0.rd.form
  have fu0_3 : OwB w3 w2.heap.size w3.heap.size (.agg #[.slice Au0 (xs0).length cu0]) xs0 := ⟨_, rfl, hgu0⟩
  clear hgu0
  have hw3 : Below w2.heap.size w2 w3 := hb3
  have hs3 : w2.heap.size ≤ w3.heap.size := hw3.size
  have hB3 : Below w.heap.size w w3 := hB2.trans (hw3.mono (by omega))
  have H0_3 : RdB w3 w.heap.size (.agg #[.slice A0 xs0.length c0]) xs0 := H0_2.below hw3 (by omega)
  clear H0_2
  have qa00_3 := (hw3.cell (p := ⟨w.heap.size, 0, Option.none⟩) (by show w.heap.size < _; omega)).trans qa00_2
  clear qa00_2
  go_wp2_with fail
  refine (sDropB_any xs0 a1 (.agg #[.slice Au0 (xs0).length cu0]) _ _ w01 fu0_3.rd (by omega)).mono ?_
  rintro e w4 ⟨s, rfl, fs, hb4⟩
  obtain ⟨_, rfl, hgs⟩ := fs
  obtain ⟨As, cs, rfl, _, _⟩ := hgs.rd.form
  have fs_4 : OwB w4 w3.heap.size w4.heap.size (.agg #[.slice As (((dropO xs0 a1).getD [])).length cs]) ((dropO xs0 a1).getD []) := ⟨_, rfl, hgs⟩
  clear hgs
  have hw4 : Below w3.heap.size w3 w4 := hb4
  have hs4 : w3.heap.size ≤ w4.heap.size := hw4.size
  have hB4 : Below w.heap.size w w4 := hB3.trans (hw4.mono (by omega))
  have H0_4 : RdB w4 w.heap.size (.agg #[.slice A0 xs0.length c0]) xs0 := H0_3.below hw4 (by omega)
  clear H0_3
  have fu0_4 : OwB w4 w2.heap.size w3.heap.size (.agg #[.slice Au0 (xs0).length cu0]) xs0 := fu0_3.below hw4 (by omega)
  clear fu0_3
  have qa00_4 := (hw4.cell (p := ⟨w.heap.size, 0, Option.none⟩) (by show w.heap.size < _; omega)).trans qa00_3
  clear qa00_3
  have hb5 : Below w4.heap.size w4 (w4.alloc (.cells #[.slice As (((dropO xs0 a1).getD [])).length cs] 28)) := (Below.refl _ _).alloc (Nat.le_refl _) _
  have hz5 : (w4.alloc (.cells #[.slice As (((dropO xs0 a1).getD [])).length cs] 28)).heap.size = w4.heap.size + 1 := by simp
  have qs0_5 : (w4.alloc (.cells #[.slice As (((dropO xs0 a1).getD [])).length cs] 28)).cell? ⟨w4.heap.size, 0, Option.none⟩ = some (.slice As (((dropO xs0 a1).getD [])).length cs) := (Blk.new w4 28 #[.slice As (((dropO xs0 a1).getD [])).length cs]).cell 0
  have qa00_5 := (hb5.cell (p := ⟨w.heap.size, 0, Option.none⟩) (by show w.heap.size < _; omega)).trans qa00_4
  go_wp2_with fail
  generalize w4.alloc (.cells #[.slice As (((dropO xs0 a1).getD [])).length cs] 28) = w5 at hb5 hz5 qs0_5 qa00_5 ⊢
  clear qa00_4
  have hy5 : w4.heap.size + 1 ≤ w5.heap.size := by omega
  clear hz5
  have hw5 : Below w4.heap.size w4 w5 := hb5
  have hs5 : w4.heap.size ≤ w5.heap.size := hw5.size
  have hB5 : Below w.heap.size w w5 := hB4.trans (hw5.mono (by omega))
  have H0_5 : RdB w5 w.heap.size (.agg #[.slice A0 xs0.length c0]) xs0 := H0_4.below hw5 (by omega)
  clear H0_4
  have fu0_5 : OwB w5 w2.heap.size w3.heap.size (.agg #[.slice Au0 (xs0).length cu0]) xs0 := fu0_4.below hw5 (by omega)
  clear fu0_4
  have fs_5 : OwB w5 w3.heap.size w4.heap.size (.agg #[.slice As (((dropO xs0 a1).getD [])).length cs]) ((dropO xs0 a1).getD []) := fs_4.below hw5 (by omega)
  clear fs_4
  go_wp2_with fail
  refine (toBook_any xs0 _ w.heap.size _ H0_5 hsb0 (by omega)).mono ?_
  rintro e w6 ⟨x0, rfl, fx0, hb6⟩
  obtain ⟨_, rfl, hgx0⟩ := fx0
  obtain ⟨Ax0, cx0, rfl, _, _⟩ := hgx0.rd.form
  have fx0_6 : OwB w6 w5.heap.size w6.heap.size (.agg #[.slice Ax0 (xs0).length cx0]) xs0 := ⟨_, rfl, hgx0⟩
  clear hgx0
  have hw6 : Below w5.heap.size w5 w6 := hb6
  have hs6 : w5.heap.size ≤ w6.heap.size := hw6.size
  have hB6 : Below w.heap.size w w6 := hB5.trans (hw6.mono (by omega))
  have H0_6 : RdB w6 w.heap.size (.agg #[.slice A0 xs0.length c0]) xs0 := H0_5.below hw6 (by omega)
  clear H0_5
  have fu0_6 : OwB w6 w2.heap.size w3.heap.size (.agg #[.slice Au0 (xs0).length cu0]) xs0 := fu0_5.below hw6 (by omega)
  clear fu0_5
  have fs_6 : OwB w6 w3.heap.size w4.heap.size (.agg #[.slice As (((dropO xs0 a1).getD [])).length cs]) ((dropO xs0 a1).getD []) := fs_5.below hw6 (by omega)
  clear fs_5
  have qa00_6 := (hw6.cell (p := ⟨w.heap.size, 0, Option.none⟩) (by show w.heap.size < _; omega)).trans qa00_5
  clear qa00_5
  have qs0_6 := (hw6.cell (p := ⟨w4.heap.size, 0, Option.none⟩) (by show w4.heap.size < _; omega)).trans qs0_5
  clear qs0_5
  have hb7 : Below w6.heap.size w6 (w6.alloc (.cells #[.slice Ax0 (xs0).length cx0] 28)) := (Below.refl _ _).alloc (Nat.le_refl _) _
  have hz7 : (w6.alloc (.cells #[.slice Ax0 (xs0).length cx0] 28)).heap.size = w6.heap.size + 1 := by simp
  have qx00_7 : (w6.alloc (.cells #[.slice Ax0 (xs0).length cx0] 28)).cell? ⟨w6.heap.size, 0, Option.none⟩ = some (.slice Ax0 (xs0).length cx0) := (Blk.new w6 28 #[.slice Ax0 (xs0).length cx0]).cell 0
  have qa00_7 := (hb7.cell (p := ⟨w.heap.size, 0, Option.none⟩) (by show w.heap.size < _; omega)).trans qa00_6
  have qs0_7 := (hb7.cell (p := ⟨w4.heap.size, 0, Option.none⟩) (by show w4.heap.size < _; omega)).trans qs0_6
  go_wp2_with fail
  generalize w6.alloc (.cells #[.slice Ax0 (xs0).length cx0] 28) = w7 at hb7 hz7 qx00_7 qa00_7 qs0_7 ⊢
  clear qa00_6
  clear qs0_6
  have hy7 : w6.heap.size + 1 ≤ w7.heap.size := by omega
  clear hz7
  have hw7 : Below w6.heap.size w6 w7 := hb7
  have hs7 : w6.heap.size ≤ w7.heap.size := hw7.size
  have hB7 : Below w.heap.size w w7 := hB6.trans (hw7.mono (by omega))
  have H0_7 : RdB w7 w.heap.size (.agg #[.slice A0 xs0.length c0]) xs0 := H0_6.below hw7 (by omega)
  clear H0_6
  have fu0_7 : OwB w7 w2.heap.size w3.heap.size (.agg #[.slice Au0 (xs0).length cu0]) xs0 := fu0_6.below hw7 (by omega)
  clear fu0_6
  have fs_7 : OwB w7 w3.heap.size w4.heap.size (.agg #[.slice As (((dropO xs0 a1).getD [])).length cs]) ((dropO xs0 a1).getD []) := fs_6.below hw7 (by omega)
  clear fs_6
  have fx0_7 : OwB w7 w5.heap.size w6.heap.size (.agg #[.slice Ax0 (xs0).length cx0]) xs0 := fx0_6.below hw7 (by omega)
  clear fx0_6
  go_wp2_with fail
  refine (dropB_any xs0 a1 (.agg #[.slice Ax0 (xs0).length cx0]) _ _ w01 fx0_7.rd (by omega)).mono ?_
  rintro e w8 ⟨g, rfl, fg, hb8⟩
  obtain ⟨_, rfl, hgg⟩ := fg
  obtain ⟨Ag, cg, rfl, _, _⟩ := hgg.rd.form
  have fg_8 : OwB w8 w7.heap.size w8.heap.size (.agg #[.slice Ag (((dropO xs0 a1).getD [])).length cg]) ((dropO xs0 a1).getD []) := ⟨_, rfl, hgg⟩
  clear hgg
  have hw8 : Below w7.heap.size w7 w8 := hb8
  have hs8 : w7.heap.size ≤ w8.heap.size := hw8.size
  have hB8 : Below w.heap.size w w8 := hB7.trans (hw8.mono (by omega))
  have H0_8 : RdB w8 w.heap.size (.agg #[.slice A0 xs0.length c0]) xs0 := H0_7.below hw8 (by omega)
  clear H0_7
  have fu0_8 : OwB w8 w2.heap.size w3.heap.size (.agg #[.slice Au0 (xs0).length cu0]) xs0 := fu0_7.below hw8 (by omega)
  clear fu0_7
  have fs_8 : OwB w8 w3.heap.size w4.heap.size (.agg #[.slice As (((dropO xs0 a1).getD [])).length cs]) ((dropO xs0 a1).getD []) := fs_7.below hw8 (by omega)
  clear fs_7
  have fx0_8 : OwB w8 w5.heap.size w6.heap.size (.agg #[.slice Ax0 (xs0).length cx0]) xs0 := fx0_7.below hw8 (by omega)
  clear fx0_7
  have qa00_8 := (hw8.cell (p := ⟨w.heap.size, 0, Option.none⟩) (by show w.heap.size < _; omega)).trans qa00_7
  clear qa00_7
  have qs0_8 := (hw8.cell (p := ⟨w4.heap.size, 0, Option.none⟩) (by show w4.heap.size < _; omega)).trans qs0_7
  clear qs0_7
  have qx00_8 := (hw8.cell (p := ⟨w6.heap.size, 0, Option.none⟩) (by show w6.heap.size < _; omega)).trans qx00_7
  clear qx00_7
  have hb9 : Below w8.heap.size w8 (w8.alloc (.cells #[.slice Ag (((dropO xs0 a1).getD [])).length cg] 28)) := (Below.refl _ _).alloc (Nat.le_refl _) _
  have hz9 : (w8.alloc (.cells #[.slice Ag (((dropO xs0 a1).getD [])).length cg] 28)).heap.size = w8.heap.size + 1 := by simp
  have qg0_9 : (w8.alloc (.cells #[.slice Ag (((dropO xs0 a1).getD [])).length cg] 28)).cell? ⟨w8.heap.size, 0, Option.none⟩ = some (.slice Ag (((dropO xs0 a1).getD [])).length cg) := (Blk.new w8 28 #[.slice Ag (((dropO xs0 a1).getD [])).length cg]).cell 0
  have qa00_9 := (hb9.cell (p := ⟨w.heap.size, 0, Option.none⟩) (by show w.heap.size < _; omega)).trans qa00_8
  have qs0_9 := (hb9.cell (p := ⟨w4.heap.size, 0, Option.none⟩) (by show w4.heap.size < _; omega)).trans qs0_8
  have qx00_9 := (hb9.cell (p := ⟨w6.heap.size, 0, Option.none⟩) (by show w6.heap.size < _; omega)).trans qx00_8
  go_wp2_with fail
  generalize w8.alloc (.cells #[.slice Ag (((dropO xs0 a1).getD [])).length cg] 28) = w9 at hb9 hz9 qg0_9 qa00_9 qs0_9 qx00_9 ⊢
  clear qa00_8
  clear qs0_8
  clear qx00_8
  have hy9 : w8.heap.size + 1 ≤ w9.heap.size := by omega
  clear hz9
  have hw9 : Below w8.heap.size w8 w9 := hb9
  have hs9 : w8.heap.size ≤ w9.heap.size := hw9.size
  have hB9 : Below w.heap.size w w9 := hB8.trans (hw9.mono (by omega))
  have H0_9 : RdB w9 w.heap.size (.agg #[.slice A0 xs0.length c0]) xs0 := H0_8.below hw9 (by omega)
  clear H0_8
  have fu0_9 : OwB w9 w2.heap.size w3.heap.size (.agg #[.slice Au0 (xs0).length cu0]) xs0 := fu0_8.below hw9 (by omega)
  clear fu0_8
  have fs_9 : OwB w9 w3.heap.size w4.heap.size (.agg #[.slice As (((dropO xs0 a1).getD [])).length cs]) ((dropO xs0 a1).getD []) := fs_8.below hw9 (by omega)
  clear fs_8
  have fx0_9 : OwB w9 w5.heap.size w6.heap.size (.agg #[.slice Ax0 (xs0).length cx0]) xs0 := fx0_8.below hw9 (by omega)
  clear fx0_8
  have fg_9 : OwB w9 w7.heap.size w8.heap.size (.agg #[.slice Ag (((dropO xs0 a1).getD [])).length cg]) ((dropO xs0 a1).getD []) := fg_8.below hw9 (by omega)
  clear fg_8
  go_wp2_with fail
  refine (eqBook_sameB _ _ _ _ _ _ fg_9.rd fs_9.rd).mono ?_
  rintro e w10 ⟨rfl, hb10⟩
  have hw10 : Below w9.heap.size w9 w10 := hb10
  have hs10 : w9.heap.size ≤ w10.heap.size := hw10.size
  have hB10 : Below w.heap.size w w10 := hB9.trans (hw10.mono (by omega))
  have H0_10 : RdB w10 w.heap.size (.agg #[.slice A0 xs0.length c0]) xs0 := H0_9.below hw10 (by omega)
  clear H0_9
  have fu0_10 : OwB w10 w2.heap.size w3.heap.size (.agg #[.slice Au0 (xs0).length cu0]) xs0 := fu0_9.below hw10 (by omega)
  clear fu0_9
  have fs_10 : OwB w10 w3.heap.size w4.heap.size (.agg #[.slice As (((dropO xs0 a1).getD [])).length cs]) ((dropO xs0 a1).getD []) := fs_9.below hw10 (by omega)
  clear fs_9
  have fx0_10 : OwB w10 w5.heap.size w6.heap.size (.agg #[.slice Ax0 (xs0).length cx0]) xs0 := fx0_9.below hw10 (by omega)
  clear fx0_9
  have fg_10 : OwB w10 w7.heap.size w8.heap.size (.agg #[.slice Ag (((dropO xs0 a1).getD [])).length cg]) ((dropO xs0 a1).getD []) := fg_9.below hw10 (by omega)
  clear fg_9
  have qa00_10 := (hw10.cell (p := ⟨w.heap.size, 0, Option.none⟩) (by show w.heap.size < _; omega)).trans qa00_9
  clear qa00_9
  have qs0_10 := (hw10.cell (p := ⟨w4.heap.size, 0, Option.none⟩) (by show w4.heap.size < _; omega)).trans qs0_9
  clear qs0_9
  have qx00_10 := (hw10.cell (p := ⟨w6.heap.size, 0, Option.none⟩) (by show w6.heap.size < _; omega)).trans qx00_9
  clear qx00_9
  have qg0_10 := (hw10.cell (p := ⟨w8.heap.size, 0, Option.none⟩) (by show w8.heap.size < _; omega)).trans qg0_9
  clear qg0_9
  go_wp2_with fail
  have hb11 : Below w10.heap.size w10 w10.drew := (Below.refl _ _).drew
  have hw11 : Below w10.heap.size w10 w10.drew := hb11
  have hs11 : w10.heap.size ≤ w10.drew.heap.size := hw11.size
  have hB11 : Below w.heap.size w w10.drew := hB10.trans (hw11.mono (by omega))
  have H0_11 : RdB w10.drew w.heap.size (.agg #[.slice A0 xs0.length c0]) xs0 := H0_10.below hw11 (by omega)
  clear H0_10
  have fu0_11 : OwB w10.drew w2.heap.size w3.heap.size (.agg #[.slice Au0 (xs0).length cu0]) xs0 := fu0_10.below hw11 (by omega)
  clear fu0_10
  have fs_11 : OwB w10.drew w3.heap.size w4.heap.size (.agg #[.slice As (((dropO xs0 a1).getD [])).length cs]) ((dropO xs0 a1).getD []) := fs_10.below hw11 (by omega)
  clear fs_10
  have fx0_11 : OwB w10.drew w5.heap.size w6.heap.size (.agg #[.slice Ax0 (xs0).length cx0]) xs0 := fx0_10.below hw11 (by omega)
  clear fx0_10
  have fg_11 : OwB w10.drew w7.heap.size w8.heap.size (.agg #[.slice Ag (((dropO xs0 a1).getD [])).length cg]) ((dropO xs0 a1).getD []) := fg_10.below hw11 (by omega)
  clear fg_10
  have qa00_11 := (hw11.cell (p := ⟨w.heap.size, 0, Option.none⟩) (by show w.heap.size < _; omega)).trans qa00_10
  clear qa00_10
  have qs0_11 := (hw11.cell (p := ⟨w4.heap.size, 0, Option.none⟩) (by show w4.heap.size < _; omega)).trans qs0_10
  clear qs0_10
  have qx00_11 := (hw11.cell (p := ⟨w6.heap.size, 0, Option.none⟩) (by show w6.heap.size < _; omega)).trans qx00_10
  clear qx00_10
  have qg0_11 := (hw11.cell (p := ⟨w8.heap.size, 0, Option.none⟩) (by show w8.heap.size < _; omega)).trans qg0_10
  clear qg0_10
  go_region_held3 (fun w' => w'.cell? ⟨w6.heap.size, 0, Option.none⟩ = some (.slice Ax0 (xs0).length cx0) ∧ w'.cell? ⟨w.heap.size, 0, Option.none⟩ = some (.slice A0 xs0.length c0)) (first | exact ⟨qx00_13, qa00_13⟩ | exact ⟨qx00_12, qa00_12⟩ | exact ⟨qx00_11, qa00_11⟩)
    (first
      | (
        go_at_call 9
        refine (toBook_any xs0 _ w.heap.size _ H0_11 hsb0 (by omega)).mono ?_
        rintro e w12 ⟨y0, rfl, fy0, hb12⟩
        obtain ⟨_, rfl, hgy0⟩ := fy0
        obtain ⟨Ay0, cy0, rfl, _, _⟩ := hgy0.rd.form
        have fy0_12 : OwB w12 w10.drew.heap.size w12.heap.size (.agg #[.slice Ay0 (xs0).length cy0]) xs0 := ⟨_, rfl, hgy0⟩
        clear hgy0
        have hw12 : Below w10.drew.heap.size w10.drew w12 := hb12
        have hs12 : w10.drew.heap.size ≤ w12.heap.size := hw12.size
        have hB12 : Below w.heap.size w w12 := hB11.trans (hw12.mono (by omega))
        have H0_12 : RdB w12 w.heap.size (.agg #[.slice A0 xs0.length c0]) xs0 := H0_11.below hw12 (by omega)
        clear H0_11
        have fu0_12 : OwB w12 w2.heap.size w3.heap.size (.agg #[.slice Au0 (xs0).length cu0]) xs0 := fu0_11.below hw12 (by omega)
        clear fu0_11
        have fs_12 : OwB w12 w3.heap.size w4.heap.size (.agg #[.slice As (((dropO xs0 a1).getD [])).length cs]) ((dropO xs0 a1).getD []) := fs_11.below hw12 (by omega)
        clear fs_11
        have fx0_12 : OwB w12 w5.heap.size w6.heap.size (.agg #[.slice Ax0 (xs0).length cx0]) xs0 := fx0_11.below hw12 (by omega)
        clear fx0_11
        have fg_12 : OwB w12 w7.heap.size w8.heap.size (.agg #[.slice Ag (((dropO xs0 a1).getD [])).length cg]) ((dropO xs0 a1).getD []) := fg_11.below hw12 (by omega)
        clear fg_11
        have qa00_12 := (hw12.cell (p := ⟨w.heap.size, 0, Option.none⟩) (by show w.heap.size < _; omega)).trans qa00_11
        clear qa00_11
        have qs0_12 := (hw12.cell (p := ⟨w4.heap.size, 0, Option.none⟩) (by show w4.heap.size < _; omega)).trans qs0_11
        clear qs0_11
        have qx00_12 := (hw12.cell (p := ⟨w6.heap.size, 0, Option.none⟩) (by show w6.heap.size < _; omega)).trans qx00_11
        clear qx00_11
        have qg0_12 := (hw12.cell (p := ⟨w8.heap.size, 0, Option.none⟩) (by show w8.heap.size < _; omega)).trans qg0_11
        clear qg0_11)
      | (
        go_at_call 11
        refine (eqBook_sameB _ _ _ _ _ _ fx0_12.rd fy0_12.rd).mono ?_
        rintro e w13 ⟨rfl, hb13⟩
        have hw13 : Below w12.heap.size w12 w13 := hb13
        have hs13 : w12.heap.size ≤ w13.heap.size := hw13.size
        have hB13 : Below w.heap.size w w13 := hB12.trans (hw13.mono (by omega))
        have H0_13 : RdB w13 w.heap.size (.agg #[.slice A0 xs0.length c0]) xs0 := H0_12.below hw13 (by omega)
        clear H0_12
        have fu0_13 : OwB w13 w2.heap.size w3.heap.size (.agg #[.slice Au0 (xs0).length cu0]) xs0 := fu0_12.below hw13 (by omega)
        clear fu0_12
        have fs_13 : OwB w13 w3.heap.size w4.heap.size (.agg #[.slice As (((dropO xs0 a1).getD [])).length cs]) ((dropO xs0 a1).getD []) := fs_12.below hw13 (by omega)
        clear fs_12
        have fx0_13 : OwB w13 w5.heap.size w6.heap.size (.agg #[.slice Ax0 (xs0).length cx0]) xs0 := fx0_12.below hw13 (by omega)
        clear fx0_12
        have fg_13 : OwB w13 w7.heap.size w8.heap.size (.agg #[.slice Ag (((dropO xs0 a1).getD [])).length cg]) ((dropO xs0 a1).getD []) := fg_12.below hw13 (by omega)
        clear fg_12
        have fy0_13 : OwB w13 w10.drew.heap.size w12.heap.size (.agg #[.slice Ay0 (xs0).length cy0]) xs0 := fy0_12.below hw13 (by omega)
        clear fy0_12
        have qa00_13 := (hw13.cell (p := ⟨w.heap.size, 0, Option.none⟩) (by show w.heap.size < _; omega)).trans qa00_12
        clear qa00_12
        have qs0_13 := (hw13.cell (p := ⟨w4.heap.size, 0, Option.none⟩) (by show w4.heap.size < _; omega)).trans qs0_12
        clear qs0_12
        have qx00_13 := (hw13.cell (p := ⟨w6.heap.size, 0, Option.none⟩) (by show w6.heap.size < _; omega)).trans qx00_12
        clear qx00_12
        have qg0_13 := (hw13.cell (p := ⟨w8.heap.size, 0, Option.none⟩) (by show w8.heap.size < _; omega)).trans qg0_12
        clear qg0_12))
  go_wp2_with fail
  refine (markBook_ex _ _ _ _ 1 _ fx0_13 (by omega) (by omega) (by omega) (by omega)).mono ?_
  rintro e w15 ⟨q14, m14, rfl, hq14, hp14, -, hk14, hb15⟩
  have hs14 : m14.heap.size = w13.heap.size := hk14.size
  have hw14 : Below w5.heap.size w13 m14 := hk14.bel
  have hB14 : Below w.heap.size w m14 := hB13.trans (hw14.mono (by omega))
  have H0_14 : RdB m14 w.heap.size (.agg #[.slice A0 xs0.length c0]) xs0 := H0_13.below hw14 (by omega)
  clear H0_13
  have fu0_14 : OwB m14 w2.heap.size w3.heap.size (.agg #[.slice Au0 (xs0).length cu0]) xs0 := fu0_13.keep hk14 (by omega)
  clear fu0_13
  have fs_14 : OwB m14 w3.heap.size w4.heap.size (.agg #[.slice As (((dropO xs0 a1).getD [])).length cs]) ((dropO xs0 a1).getD []) := fs_13.keep hk14 (by omega)
  clear fs_13
  have fg_14 : OwB m14 w7.heap.size w8.heap.size (.agg #[.slice Ag (((dropO xs0 a1).getD [])).length cg]) ((dropO xs0 a1).getD []) := fg_13.keep hk14 (by omega)
  clear fg_13
  have fy0_14 : OwB m14 w10.drew.heap.size w12.heap.size (.agg #[.slice Ay0 (xs0).length cy0]) xs0 := fy0_13.keep hk14 (by omega)
  clear fy0_13
  have qa00_14 := (hw14.cell (p := ⟨w.heap.size, 0, Option.none⟩) (by show w.heap.size < _; omega)).trans qa00_13
  clear qa00_13
  have qs0_14 := (World.cell?_of_block (a := ⟨w4.heap.size, 0, Option.none⟩) (hk14.block _ (by first | exact .inl (by show w4.heap.size < _; omega) | exact .inr (by show _ ≤ w4.heap.size; omega)))).trans qs0_13
  clear qs0_13
  have qx00_14 := (World.cell?_of_block (a := ⟨w6.heap.size, 0, Option.none⟩) (hk14.block _ (by first | exact .inl (by show w6.heap.size < _; omega) | exact .inr (by show _ ≤ w6.heap.size; omega)))).trans qx00_13
  clear qx00_13
  have qg0_14 := (World.cell?_of_block (a := ⟨w8.heap.size, 0, Option.none⟩) (hk14.block _ (by first | exact .inl (by show w8.heap.size < _; omega) | exact .inr (by show _ ≤ w8.heap.size; omega)))).trans qg0_13
  clear qg0_13
  have hw15 : Below m14.heap.size m14 w15 := hb15
  have hs15 : m14.heap.size ≤ w15.heap.size := hw15.size
  have hB15 : Below w.heap.size w w15 := hB14.trans (hw15.mono (by omega))
  have H0_15 : RdB w15 w.heap.size (.agg #[.slice A0 xs0.length c0]) xs0 := H0_14.below hw15 (by omega)
  clear H0_14
  have fu0_15 : OwB w15 w2.heap.size w3.heap.size (.agg #[.slice Au0 (xs0).length cu0]) xs0 := fu0_14.below hw15 (by omega)
  clear fu0_14
  have fs_15 : OwB w15 w3.heap.size w4.heap.size (.agg #[.slice As (((dropO xs0 a1).getD [])).length cs]) ((dropO xs0 a1).getD []) := fs_14.below hw15 (by omega)
  clear fs_14
  have fg_15 : OwB w15 w7.heap.size w8.heap.size (.agg #[.slice Ag (((dropO xs0 a1).getD [])).length cg]) ((dropO xs0 a1).getD []) := fg_14.below hw15 (by omega)
  clear fg_14
  have fy0_15 : OwB w15 w10.drew.heap.size w12.heap.size (.agg #[.slice Ay0 (xs0).length cy0]) xs0 := fy0_14.below hw15 (by omega)
  clear fy0_14
  have qa00_15 := (hw15.cell (p := ⟨w.heap.size, 0, Option.none⟩) (by show w.heap.size < _; omega)).trans qa00_14
  clear qa00_14
  have qs0_15 := (hw15.cell (p := ⟨w4.heap.size, 0, Option.none⟩) (by show w4.heap.size < _; omega)).trans qs0_14
  clear qs0_14
  have qx00_15 := (hw15.cell (p := ⟨w6.heap.size, 0, Option.none⟩) (by show w6.heap.size < _; omega)).trans qx00_14
  clear qx00_14
  have qg0_15 := (hw15.cell (p := ⟨w8.heap.size, 0, Option.none⟩) (by show w8.heap.size < _; omega)).trans qg0_14
  clear qg0_14
  go_wp2_with fail
  refine (eqBook_sameB _ _ _ _ _ _ fg_15.rd fs_15.rd).mono ?_
  rintro e w16 ⟨rfl, hb16⟩
  have hw16 : Below w15.heap.size w15 w16 := hb16
  have hs16 : w15.heap.size ≤ w16.heap.size := hw16.size
  have hB16 : Below w.heap.size w w16 := hB15.trans (hw16.mono (by omega))
  have H0_16 : RdB w16 w.heap.size (.agg #[.slice A0 xs0.length c0]) xs0 := H0_15.below hw16 (by omega)
  clear H0_15
  have fu0_16 : OwB w16 w2.heap.size w3.heap.size (.agg #[.slice Au0 (xs0).length cu0]) xs0 := fu0_15.below hw16 (by omega)
  clear fu0_15
  have fs_16 : OwB w16 w3.heap.size w4.heap.size (.agg #[.slice As (((dropO xs0 a1).getD [])).length cs]) ((dropO xs0 a1).getD []) := fs_15.below hw16 (by omega)
  clear fs_15
  have fg_16 : OwB w16 w7.heap.size w8.heap.size (.agg #[.slice Ag (((dropO xs0 a1).getD [])).length cg]) ((dropO xs0 a1).getD []) := fg_15.below hw16 (by omega)
  clear fg_15
  have fy0_16 : OwB w16 w10.drew.heap.size w12.heap.size (.agg #[.slice Ay0 (xs0).length cy0]) xs0 := fy0_15.below hw16 (by omega)
  clear fy0_15
  have qa00_16 := (hw16.cell (p := ⟨w.heap.size, 0, Option.none⟩) (by show w.heap.size < _; omega)).trans qa00_15
  clear qa00_15
  have qs0_16 := (hw16.cell (p := ⟨w4.heap.size, 0, Option.none⟩) (by show w4.heap.size < _; omega)).trans qs0_15
  clear qs0_15
  have qx00_16 := (hw16.cell (p := ⟨w6.heap.size, 0, Option.none⟩) (by show w6.heap.size < _; omega)).trans qx00_15
  clear qx00_15
  have qg0_16 := (hw16.cell (p := ⟨w8.heap.size, 0, Option.none⟩) (by show w8.heap.size < _; omega)).trans qg0_15
  clear qg0_15
  go_wp2_with fail
  refine (markBook_g _ _ _ _ 1 _ fg_16 (by omega) (by omega) (by omega) (by omega)).mono ?_
  rintro e w18 ⟨rfl, fgm18, hkg17⟩
  obtain ⟨m17, hk17, hb18⟩ := hkg17.split
  have hs17 : m17.heap.size = w16.heap.size := hk17.size
  have hw17 : Below w7.heap.size w16 m17 := hk17.bel
  have hB17 : Below w.heap.size w m17 := hB16.trans (hw17.mono (by omega))
  have H0_17 : RdB m17 w.heap.size (.agg #[.slice A0 xs0.length c0]) xs0 := H0_16.below hw17 (by omega)
  clear H0_16
  have fu0_17 : OwB m17 w2.heap.size w3.heap.size (.agg #[.slice Au0 (xs0).length cu0]) xs0 := fu0_16.keep hk17 (by omega)
  clear fu0_16
  have fs_17 : OwB m17 w3.heap.size w4.heap.size (.agg #[.slice As (((dropO xs0 a1).getD [])).length cs]) ((dropO xs0 a1).getD []) := fs_16.keep hk17 (by omega)
  clear fs_16
  have fy0_17 : OwB m17 w10.drew.heap.size w12.heap.size (.agg #[.slice Ay0 (xs0).length cy0]) xs0 := fy0_16.keep hk17 (by omega)
  clear fy0_16
  have qa00_17 := (hw17.cell (p := ⟨w.heap.size, 0, Option.none⟩) (by show w.heap.size < _; omega)).trans qa00_16
  clear qa00_16
  have qs0_17 := (World.cell?_of_block (a := ⟨w4.heap.size, 0, Option.none⟩) (hk17.block _ (by first | exact .inl (by show w4.heap.size < _; omega) | exact .inr (by show _ ≤ w4.heap.size; omega)))).trans qs0_16
  clear qs0_16
  have qx00_17 := (World.cell?_of_block (a := ⟨w6.heap.size, 0, Option.none⟩) (hk17.block _ (by first | exact .inl (by show w6.heap.size < _; omega) | exact .inr (by show _ ≤ w6.heap.size; omega)))).trans qx00_16
  clear qx00_16
  have qg0_17 := (World.cell?_of_block (a := ⟨w8.heap.size, 0, Option.none⟩) (hk17.block _ (by first | exact .inl (by show w8.heap.size < _; omega) | exact .inr (by show _ ≤ w8.heap.size; omega)))).trans qg0_16
  clear qg0_16
  have hw18 : Below m17.heap.size m17 w18 := hb18
  have hs18 : m17.heap.size ≤ w18.heap.size := hw18.size
  have hB18 : Below w.heap.size w w18 := hB17.trans (hw18.mono (by omega))
  have H0_18 : RdB w18 w.heap.size (.agg #[.slice A0 xs0.length c0]) xs0 := H0_17.below hw18 (by omega)
  clear H0_17
  have fu0_18 : OwB w18 w2.heap.size w3.heap.size (.agg #[.slice Au0 (xs0).length cu0]) xs0 := fu0_17.below hw18 (by omega)
  clear fu0_17
  have fs_18 : OwB w18 w3.heap.size w4.heap.size (.agg #[.slice As (((dropO xs0 a1).getD [])).length cs]) ((dropO xs0 a1).getD []) := fs_17.below hw18 (by omega)
  clear fs_17
  have fy0_18 : OwB w18 w10.drew.heap.size w12.heap.size (.agg #[.slice Ay0 (xs0).length cy0]) xs0 := fy0_17.below hw18 (by omega)
  clear fy0_17
  have qa00_18 := (hw18.cell (p := ⟨w.heap.size, 0, Option.none⟩) (by show w.heap.size < _; omega)).trans qa00_17
  clear qa00_17
  have qs0_18 := (hw18.cell (p := ⟨w4.heap.size, 0, Option.none⟩) (by show w4.heap.size < _; omega)).trans qs0_17
  clear qs0_17
  have qx00_18 := (hw18.cell (p := ⟨w6.heap.size, 0, Option.none⟩) (by show w6.heap.size < _; omega)).trans qx00_17
  clear qx00_17
  have qg0_18 := (hw18.cell (p := ⟨w8.heap.size, 0, Option.none⟩) (by show w8.heap.size < _; omega)).trans qg0_17
  clear qg0_17
  go_wp2_with fail
  refine (heldBook_any (((dropO xs0 a1).getD [])) _ _ 1 _ fgm18.rd (by omega) (by omega) (by omega) (by omega)).mono ?_
  rintro e w19 ⟨rfl, hb19⟩
  have hw19 : Below w18.heap.size w18 w19 := hb19
  have hs19 : w18.heap.size ≤ w19.heap.size := hw19.size
  have hB19 : Below w.heap.size w w19 := hB18.trans (hw19.mono (by omega))
  have H0_19 : RdB w19 w.heap.size (.agg #[.slice A0 xs0.length c0]) xs0 := H0_18.below hw19 (by omega)
  clear H0_18
  have fu0_19 : OwB w19 w2.heap.size w3.heap.size (.agg #[.slice Au0 (xs0).length cu0]) xs0 := fu0_18.below hw19 (by omega)
  clear fu0_18
  have fs_19 : OwB w19 w3.heap.size w4.heap.size (.agg #[.slice As (((dropO xs0 a1).getD [])).length cs]) ((dropO xs0 a1).getD []) := fs_18.below hw19 (by omega)
  clear fs_18
  have fg_19 : OwB w19 w7.heap.size w8.heap.size (.agg #[.slice Ag (((dropO xs0 a1).getD [])).length cg]) (marksB 1 (((dropO xs0 a1).getD []))) := fgm18.below hw19 (by omega)
  clear fgm18
  have fy0_19 : OwB w19 w10.drew.heap.size w12.heap.size (.agg #[.slice Ay0 (xs0).length cy0]) xs0 := fy0_18.below hw19 (by omega)
  clear fy0_18
  have qa00_19 := (hw19.cell (p := ⟨w.heap.size, 0, Option.none⟩) (by show w.heap.size < _; omega)).trans qa00_18
  clear qa00_18
  have qs0_19 := (hw19.cell (p := ⟨w4.heap.size, 0, Option.none⟩) (by show w4.heap.size < _; omega)).trans qs0_18
  clear qs0_18
  have qx00_19 := (hw19.cell (p := ⟨w6.heap.size, 0, Option.none⟩) (by show w6.heap.size < _; omega)).trans qx00_18
  clear qx00_18
  have qg0_19 := (hw19.cell (p := ⟨w8.heap.size, 0, Option.none⟩) (by show w8.heap.size < _; omega)).trans qg0_18
  clear qg0_18
  go_wp2_with fail
  refine (toBook_any xs0 _ w.heap.size _ H0_19 hsb0 (by omega)).mono ?_
  rintro e w20 ⟨z0, rfl, fz0, hb20⟩
  obtain ⟨_, rfl, hgz0⟩ := fz0
  obtain ⟨Az0, cz0, rfl, _, _⟩ := hgz0.rd.form
  have fz0_20 : OwB w20 w19.heap.size w20.heap.size (.agg #[.slice Az0 (xs0).length cz0]) xs0 := ⟨_, rfl, hgz0⟩
  clear hgz0
  have hw20 : Below w19.heap.size w19 w20 := hb20
  have hs20 : w19.heap.size ≤ w20.heap.size := hw20.size
  have hB20 : Below w.heap.size w w20 := hB19.trans (hw20.mono (by omega))
  have H0_20 : RdB w20 w.heap.size (.agg #[.slice A0 xs0.length c0]) xs0 := H0_19.below hw20 (by omega)
  clear H0_19
  have fu0_20 : OwB w20 w2.heap.size w3.heap.size (.agg #[.slice Au0 (xs0).length cu0]) xs0 := fu0_19.below hw20 (by omega)
  clear fu0_19
  have fs_20 : OwB w20 w3.heap.size w4.heap.size (.agg #[.slice As (((dropO xs0 a1).getD [])).length cs]) ((dropO xs0 a1).getD []) := fs_19.below hw20 (by omega)
  clear fs_19
  have fg_20 : OwB w20 w7.heap.size w8.heap.size (.agg #[.slice Ag (((dropO xs0 a1).getD [])).length cg]) (marksB 1 (((dropO xs0 a1).getD []))) := fg_19.below hw20 (by omega)
  clear fg_19
  have fy0_20 : OwB w20 w10.drew.heap.size w12.heap.size (.agg #[.slice Ay0 (xs0).length cy0]) xs0 := fy0_19.below hw20 (by omega)
  clear fy0_19
  have qa00_20 := (hw20.cell (p := ⟨w.heap.size, 0, Option.none⟩) (by show w.heap.size < _; omega)).trans qa00_19
  clear qa00_19
  have qs0_20 := (hw20.cell (p := ⟨w4.heap.size, 0, Option.none⟩) (by show w4.heap.size < _; omega)).trans qs0_19
  clear qs0_19
  have qx00_20 := (hw20.cell (p := ⟨w6.heap.size, 0, Option.none⟩) (by show w6.heap.size < _; omega)).trans qx00_19
  clear qx00_19
  have qg0_20 := (hw20.cell (p := ⟨w8.heap.size, 0, Option.none⟩) (by show w8.heap.size < _; omega)).trans qg0_19
  clear qg0_19
  go_wp2_with fail
  refine (dropB_any xs0 a1 (.agg #[.slice Az0 (xs0).length cz0]) _ _ w01 fz0_20.rd (by omega)).mono ?_
  rintro e w21 ⟨t, rfl, ft, hb21⟩
  obtain ⟨_, rfl, hgt⟩ := ft
  obtain ⟨At, ct, rfl, _, _⟩ := hgt.rd.form
  have ft_21 : OwB w21 w20.heap.size w21.heap.size (.agg #[.slice At (((dropO xs0 a1).getD [])).length ct]) ((dropO xs0 a1).getD []) := ⟨_, rfl, hgt⟩
  clear hgt
  have hw21 : Below w20.heap.size w20 w21 := hb21
  have hs21 : w20.heap.size ≤ w21.heap.size := hw21.size
  have hB21 : Below w.heap.size w w21 := hB20.trans (hw21.mono (by omega))
  have H0_21 : RdB w21 w.heap.size (.agg #[.slice A0 xs0.length c0]) xs0 := H0_20.below hw21 (by omega)
  clear H0_20
  have fu0_21 : OwB w21 w2.heap.size w3.heap.size (.agg #[.slice Au0 (xs0).length cu0]) xs0 := fu0_20.below hw21 (by omega)
  clear fu0_20
  have fs_21 : OwB w21 w3.heap.size w4.heap.size (.agg #[.slice As (((dropO xs0 a1).getD [])).length cs]) ((dropO xs0 a1).getD []) := fs_20.below hw21 (by omega)
  clear fs_20
  have fg_21 : OwB w21 w7.heap.size w8.heap.size (.agg #[.slice Ag (((dropO xs0 a1).getD [])).length cg]) (marksB 1 (((dropO xs0 a1).getD []))) := fg_20.below hw21 (by omega)
  clear fg_20
  have fy0_21 : OwB w21 w10.drew.heap.size w12.heap.size (.agg #[.slice Ay0 (xs0).length cy0]) xs0 := fy0_20.below hw21 (by omega)
  clear fy0_20
  have fz0_21 : OwB w21 w19.heap.size w20.heap.size (.agg #[.slice Az0 (xs0).length cz0]) xs0 := fz0_20.below hw21 (by omega)
  clear fz0_20
  have qa00_21 := (hw21.cell (p := ⟨w.heap.size, 0, Option.none⟩) (by show w.heap.size < _; omega)).trans qa00_20
  clear qa00_20
  have qs0_21 := (hw21.cell (p := ⟨w4.heap.size, 0, Option.none⟩) (by show w4.heap.size < _; omega)).trans qs0_20
  clear qs0_20
  have qx00_21 := (hw21.cell (p := ⟨w6.heap.size, 0, Option.none⟩) (by show w6.heap.size < _; omega)).trans qx00_20
  clear qx00_20
  have qg0_21 := (hw21.cell (p := ⟨w8.heap.size, 0, Option.none⟩) (by show w8.heap.size < _; omega)).trans qg0_20
  clear qg0_20
  have hb22 : Below w21.heap.size w21 (w21.alloc (.cells #[.slice At (((dropO xs0 a1).getD [])).length ct] 28)) := (Below.refl _ _).alloc (Nat.le_refl _) _
  have hz22 : (w21.alloc (.cells #[.slice At (((dropO xs0 a1).getD [])).length ct] 28)).heap.size = w21.heap.size + 1 := by simp
  have qt0_22 : (w21.alloc (.cells #[.slice At (((dropO xs0 a1).getD [])).length ct] 28)).cell? ⟨w21.heap.size, 0, Option.none⟩ = some (.slice At (((dropO xs0 a1).getD [])).length ct) := (Blk.new w21 28 #[.slice At (((dropO xs0 a1).getD [])).length ct]).cell 0
  have qa00_22 := (hb22.cell (p := ⟨w.heap.size, 0, Option.none⟩) (by show w.heap.size < _; omega)).trans qa00_21
  have qs0_22 := (hb22.cell (p := ⟨w4.heap.size, 0, Option.none⟩) (by show w4.heap.size < _; omega)).trans qs0_21
  have qx00_22 := (hb22.cell (p := ⟨w6.heap.size, 0, Option.none⟩) (by show w6.heap.size < _; omega)).trans qx00_21
  have qg0_22 := (hb22.cell (p := ⟨w8.heap.size, 0, Option.none⟩) (by show w8.heap.size < _; omega)).trans qg0_21
  go_wp2_with fail
  generalize w21.alloc (.cells #[.slice At (((dropO xs0 a1).getD [])).length ct] 28) = w22 at hb22 hz22 qt0_22 qa00_22 qs0_22 qx00_22 qg0_22 ⊢
  clear qa00_21
  clear qs0_21
  clear qx00_21
  clear qg0_21
  have hy22 : w21.heap.size + 1 ≤ w22.heap.size := by omega
  clear hz22
  have hw22 : Below w21.heap.size w21 w22 := hb22
  have hs22 : w21.heap.size ≤ w22.heap.size := hw22.size
  have hB22 : Below w.heap.size w w22 := hB21.trans (hw22.mono (by omega))
  have H0_22 : RdB w22 w.heap.size (.agg #[.slice A0 xs0.length c0]) xs0 := H0_21.below hw22 (by omega)
  clear H0_21
  have fu0_22 : OwB w22 w2.heap.size w3.heap.size (.agg #[.slice Au0 (xs0).length cu0]) xs0 := fu0_21.below hw22 (by omega)
  clear fu0_21
  have fs_22 : OwB w22 w3.heap.size w4.heap.size (.agg #[.slice As (((dropO xs0 a1).getD [])).length cs]) ((dropO xs0 a1).getD []) := fs_21.below hw22 (by omega)
  clear fs_21
  have fg_22 : OwB w22 w7.heap.size w8.heap.size (.agg #[.slice Ag (((dropO xs0 a1).getD [])).length cg]) (marksB 1 (((dropO xs0 a1).getD []))) := fg_21.below hw22 (by omega)
  clear fg_21
  have fy0_22 : OwB w22 w10.drew.heap.size w12.heap.size (.agg #[.slice Ay0 (xs0).length cy0]) xs0 := fy0_21.below hw22 (by omega)
  clear fy0_21
  have fz0_22 : OwB w22 w19.heap.size w20.heap.size (.agg #[.slice Az0 (xs0).length cz0]) xs0 := fz0_21.below hw22 (by omega)
  clear fz0_21
  have ft_22 : OwB w22 w20.heap.size w21.heap.size (.agg #[.slice At (((dropO xs0 a1).getD [])).length ct]) ((dropO xs0 a1).getD []) := ft_21.below hw22 (by omega)
  clear ft_21
  go_wp2_with fail
  refine (eqBook_sameB _ _ _ _ _ _ ft_22.rd fs_22.rd).mono ?_
  rintro e w23 ⟨rfl, hb23⟩
  have hw23 : Below w22.heap.size w22 w23 := hb23
  have hs23 : w22.heap.size ≤ w23.heap.size := hw23.size
  have hB23 : Below w.heap.size w w23 := hB22.trans (hw23.mono (by omega))
  have H0_23 : RdB w23 w.heap.size (.agg #[.slice A0 xs0.length c0]) xs0 := H0_22.below hw23 (by omega)
  clear H0_22
  have fu0_23 : OwB w23 w2.heap.size w3.heap.size (.agg #[.slice Au0 (xs0).length cu0]) xs0 := fu0_22.below hw23 (by omega)
  clear fu0_22
  have fs_23 : OwB w23 w3.heap.size w4.heap.size (.agg #[.slice As (((dropO xs0 a1).getD [])).length cs]) ((dropO xs0 a1).getD []) := fs_22.below hw23 (by omega)
  clear fs_22
  have fg_23 : OwB w23 w7.heap.size w8.heap.size (.agg #[.slice Ag (((dropO xs0 a1).getD [])).length cg]) (marksB 1 (((dropO xs0 a1).getD []))) := fg_22.below hw23 (by omega)
  clear fg_22
  have fy0_23 : OwB w23 w10.drew.heap.size w12.heap.size (.agg #[.slice Ay0 (xs0).length cy0]) xs0 := fy0_22.below hw23 (by omega)
  clear fy0_22
  have fz0_23 : OwB w23 w19.heap.size w20.heap.size (.agg #[.slice Az0 (xs0).length cz0]) xs0 := fz0_22.below hw23 (by omega)
  clear fz0_22
  have ft_23 : OwB w23 w20.heap.size w21.heap.size (.agg #[.slice At (((dropO xs0 a1).getD [])).length ct]) ((dropO xs0 a1).getD []) := ft_22.below hw23 (by omega)
  clear ft_22
  have qa00_23 := (hw23.cell (p := ⟨w.heap.size, 0, Option.none⟩) (by show w.heap.size < _; omega)).trans qa00_22
  clear qa00_22
  have qs0_23 := (hw23.cell (p := ⟨w4.heap.size, 0, Option.none⟩) (by show w4.heap.size < _; omega)).trans qs0_22
  clear qs0_22
  have qx00_23 := (hw23.cell (p := ⟨w6.heap.size, 0, Option.none⟩) (by show w6.heap.size < _; omega)).trans qx00_22
  clear qx00_22
  have qg0_23 := (hw23.cell (p := ⟨w8.heap.size, 0, Option.none⟩) (by show w8.heap.size < _; omega)).trans qg0_22
  clear qg0_22
  have qt0_23 := (hw23.cell (p := ⟨w21.heap.size, 0, Option.none⟩) (by show w21.heap.size < _; omega)).trans qt0_22
  clear qt0_22
  go_wp2_with fail
  refine (heldBook_any (((dropO xs0 a1).getD [])) _ _ 1 _ fg_23.rd (by omega) (by omega) (by omega) (by omega)).mono ?_
  rintro e w24 ⟨rfl, hb24⟩
  have hw24 : Below w23.heap.size w23 w24 := hb24
  have hs24 : w23.heap.size ≤ w24.heap.size := hw24.size
  have hB24 : Below w.heap.size w w24 := hB23.trans (hw24.mono (by omega))
  have H0_24 : RdB w24 w.heap.size (.agg #[.slice A0 xs0.length c0]) xs0 := H0_23.below hw24 (by omega)
  clear H0_23
  have fu0_24 : OwB w24 w2.heap.size w3.heap.size (.agg #[.slice Au0 (xs0).length cu0]) xs0 := fu0_23.below hw24 (by omega)
  clear fu0_23
  have fs_24 : OwB w24 w3.heap.size w4.heap.size (.agg #[.slice As (((dropO xs0 a1).getD [])).length cs]) ((dropO xs0 a1).getD []) := fs_23.below hw24 (by omega)
  clear fs_23
  have fg_24 : OwB w24 w7.heap.size w8.heap.size (.agg #[.slice Ag (((dropO xs0 a1).getD [])).length cg]) (marksB 1 (((dropO xs0 a1).getD []))) := fg_23.below hw24 (by omega)
  clear fg_23
  have fy0_24 : OwB w24 w10.drew.heap.size w12.heap.size (.agg #[.slice Ay0 (xs0).length cy0]) xs0 := fy0_23.below hw24 (by omega)
  clear fy0_23
  have fz0_24 : OwB w24 w19.heap.size w20.heap.size (.agg #[.slice Az0 (xs0).length cz0]) xs0 := fz0_23.below hw24 (by omega)
  clear fz0_23
  have ft_24 : OwB w24 w20.heap.size w21.heap.size (.agg #[.slice At (((dropO xs0 a1).getD [])).length ct]) ((dropO xs0 a1).getD []) := ft_23.below hw24 (by omega)
  clear ft_23
  have qa00_24 := (hw24.cell (p := ⟨w.heap.size, 0, Option.none⟩) (by show w.heap.size < _; omega)).trans qa00_23
  clear qa00_23
  have qs0_24 := (hw24.cell (p := ⟨w4.heap.size, 0, Option.none⟩) (by show w4.heap.size < _; omega)).trans qs0_23
  clear qs0_23
  have qx00_24 := (hw24.cell (p := ⟨w6.heap.size, 0, Option.none⟩) (by show w6.heap.size < _; omega)).trans qx00_23
  clear qx00_23
  have qg0_24 := (hw24.cell (p := ⟨w8.heap.size, 0, Option.none⟩) (by show w8.heap.size < _; omega)).trans qg0_23
  clear qg0_23
  have qt0_24 := (hw24.cell (p := ⟨w21.heap.size, 0, Option.none⟩) (by show w21.heap.size < _; omega)).trans qt0_23
  clear qt0_23
  go_wp2_with fail
  go_ret
  exact ⟨rfl, hB24⟩
end Go.Proofs.Ytjnkdjokbamibaa.fnExactDropPhrase
