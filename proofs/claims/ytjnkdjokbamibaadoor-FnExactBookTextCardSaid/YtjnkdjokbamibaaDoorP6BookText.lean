/- Texts of one claim, joined: VBookText. -/
import Derived.Deep.RegionHeld3
import Derived.Test.YtjnkdjokbamibaaDoorP5BookText
/- The walk of the law FnExactBookText. -/
namespace Go.Proofs.YtjnkdjokbamibaaDoor.fnExactBookText
open Go.ChangeShapes Go.WideShapes Go.ChangeAt Go.RowKit
open Go.ChangeMaps (open_string)
set_option linter.unusedVariables false
set_option maxHeartbeats 4000000 in
set_option maxRecDepth 100000 in
theorem walk (v0 : Value) (xs0 : List Phr) (w : World) (hr0 : RdB w w.heap.size v0 xs0) : Calls Tryd.prog 5 #[v0] w fun e w' => e = .returned (.bool true) ∧ Below w.heap.size w w' := by
  obtain ⟨_, rfl, hr0⟩ := hr0
  obtain ⟨A0, c0, rfl, hc0, hm0⟩ := hr0.form
  have hr0 : RdB w w.heap.size (.agg #[.slice A0 xs0.length c0]) xs0 := ⟨_, rfl, hr0⟩
  have H0 := Lib.hid hr0
  clear hr0
  obtain ⟨z0, hz0⟩ : ∃ z : Int, z = szBookM xs0 1048576 := ⟨_, rfl⟩
  have HZ0 := Lib.hid hz0
  clear hz0
  by_cases hneg0 : z0 < 0
  · go_enter Tryd.func5, Tryd.ntmps5
    have hb1 : Below w.heap.size w (w.alloc (.cells #[.slice A0 xs0.length c0] 38)) := (Below.refl _ _).alloc (Nat.le_refl _) _
    have hz1 : (w.alloc (.cells #[.slice A0 xs0.length c0] 38)).heap.size = w.heap.size + 1 := by simp
    have qa00_1 : (w.alloc (.cells #[.slice A0 xs0.length c0] 38)).cell? ⟨w.heap.size, 0, Option.none⟩ = some (.slice A0 xs0.length c0) := (Blk.new w 38 #[.slice A0 xs0.length c0]).cell 0
    go_wp2_with fail
    generalize w.alloc (.cells #[.slice A0 xs0.length c0] 38) = w1 at hb1 hz1 qa00_1 ⊢
    have hy1 : w.heap.size + 1 ≤ w1.heap.size := by omega
    clear hz1
    have hw1 : Below w.heap.size w w1 := hb1
    have hs1 : w.heap.size ≤ w1.heap.size := hw1.size
    have hB1 : Below w.heap.size w w1 := hw1.mono (by omega)
    have H0_1 : RdB w1 w.heap.size (.agg #[.slice A0 xs0.length c0]) xs0 := H0.out.below hw1 (by omega)
    go_wp2_with fail
    refine (szBook_any xs0 (.agg #[.slice A0 xs0.length c0]) 1048576 _ _ H0_1 (by omega) (by omega) (by omega)).mono ?_
    rw [← HZ0.out]
    rintro e w2 ⟨rfl, hb2⟩
    have hw2 : Below w1.heap.size w1 w2 := hb2
    have hs2 : w1.heap.size ≤ w2.heap.size := hw2.size
    have hB2 : Below w.heap.size w w2 := hB1.trans (hw2.mono (by omega))
    have H0_2 : RdB w2 w.heap.size (.agg #[.slice A0 xs0.length c0]) xs0 := H0_1.below hw2 (by omega)
    clear H0_1
    have qa00_2 := (hw2.cell (p := ⟨w.heap.size, 0, Option.none⟩) (by show w.heap.size < _; omega)).trans qa00_1
    clear qa00_1
    go_wp2_with fail
    go_ret
    exact ⟨rfl, hB2⟩
  have hsb0 := szBook_bd HZ0.out hneg0
  go_enter Tryd.func5, Tryd.ntmps5
  have hb1 : Below w.heap.size w (w.alloc (.cells #[.slice A0 xs0.length c0] 38)) := (Below.refl _ _).alloc (Nat.le_refl _) _
  have hz1 : (w.alloc (.cells #[.slice A0 xs0.length c0] 38)).heap.size = w.heap.size + 1 := by simp
  have qa00_1 : (w.alloc (.cells #[.slice A0 xs0.length c0] 38)).cell? ⟨w.heap.size, 0, Option.none⟩ = some (.slice A0 xs0.length c0) := (Blk.new w 38 #[.slice A0 xs0.length c0]).cell 0
  go_wp2_with fail
  generalize w.alloc (.cells #[.slice A0 xs0.length c0] 38) = w1 at hb1 hz1 qa00_1 ⊢
  have hy1 : w.heap.size + 1 ≤ w1.heap.size := by omega
  clear hz1
  have hw1 : Below w.heap.size w w1 := hb1
  have hs1 : w.heap.size ≤ w1.heap.size := hw1.size
  have hB1 : Below w.heap.size w w1 := hw1.mono (by omega)
  have H0_1 : RdB w1 w.heap.size (.agg #[.slice A0 xs0.length c0]) xs0 := H0.out.below hw1 (by omega)
  go_wp2_with fail
  refine (szBook_any xs0 (.agg #[.slice A0 xs0.length c0]) 1048576 _ _ H0_1 (by omega) (by omega) (by omega)).mono ?_
  rw [← HZ0.out]
  rintro e w2 ⟨rfl, hb2⟩
  have hw2 : Below w1.heap.size w1 w2 := hb2
  have hs2 : w1.heap.size ≤ w2.heap.size := hw2.size
  have hB2 : Below w.heap.size w w2 := hB1.trans (hw2.mono (by omega))
  have H0_2 : RdB w2 w.heap.size (.agg #[.slice A0 xs0.length c0]) xs0 := H0_1.below hw2 (by omega)
  clear H0_1
  have qa00_2 := (hw2.cell (p := ⟨w.heap.size, 0, Option.none⟩) (by show w.heap.size < _; omega)).trans qa00_1
  clear qa00_1
  go_wp2_with fail
  refine (toBook_any xs0 _ w.heap.size _ H0_2 hsb0 (by omega)).mono ?_
  rintro e w3 ⟨u0, rfl, fu0, hb3⟩
  obtain ⟨_, rfl, hgu0⟩ := fu0
  obtain ⟨Au0, cu0, rfl, _, _⟩ := hgu0.rd.form
  have fu0_3 : OwB w3 w2.heap.size w3.heap.size (.agg #[.slice Au0 (xs0).length cu0]) xs0 := ⟨_, rfl, hgu0⟩
  clear hgu0
  have hw3 : Below w2.heap.size w2 w3 := hb3
  have hs3 : w2.heap.size ≤ w3.heap.size := hw3.size
  have hB3 : Below w.heap.size w w3 := hB2.trans (hw3.mono (by omega))
  have H0_3 : RdB w3 w.heap.size (.agg #[.slice A0 xs0.length c0]) xs0 := H0_2.below hw3 (by omega)
  clear H0_2
  have qa00_3 := (hw3.cell (p := ⟨w.heap.size, 0, Option.none⟩) (by show w.heap.size < _; omega)).trans qa00_2
  clear qa00_2
  obtain ⟨p0, q0, hT⟩ : ∃ p0 q0, bookV xs0 = .tuple #[.string p0, .bool q0] := bookV_form _
  have c1 := sBookText_any xs0 (.agg #[.slice Au0 (xs0).length cu0]) _ _ fu0_3.rd (by omega)
  rw [hT] at c1
  have C1 := Lib.hid c1
  clear c1
  have HT := Lib.hid hT
  clear hT
  go_wp2_with fail
  refine (C1.out).mono ?_
  rintro e w4 ⟨rfl, hb4⟩
  have hw4 : Below w3.heap.size w3 w4 := hb4
  have hs4 : w3.heap.size ≤ w4.heap.size := hw4.size
  have hB4 : Below w.heap.size w w4 := hB3.trans (hw4.mono (by omega))
  have H0_4 : RdB w4 w.heap.size (.agg #[.slice A0 xs0.length c0]) xs0 := H0_3.below hw4 (by omega)
  clear H0_3
  have fu0_4 : OwB w4 w2.heap.size w3.heap.size (.agg #[.slice Au0 (xs0).length cu0]) xs0 := fu0_3.below hw4 (by omega)
  clear fu0_3
  have qa00_4 := (hw4.cell (p := ⟨w.heap.size, 0, Option.none⟩) (by show w.heap.size < _; omega)).trans qa00_3
  clear qa00_3
  go_wp2_with fail
  refine (toBook_any xs0 _ w.heap.size _ H0_4 hsb0 (by omega)).mono ?_
  rintro e w5 ⟨x0, rfl, fx0, hb5⟩
  obtain ⟨_, rfl, hgx0⟩ := fx0
  obtain ⟨Ax0, cx0, rfl, _, _⟩ := hgx0.rd.form
  have fx0_5 : OwB w5 w4.heap.size w5.heap.size (.agg #[.slice Ax0 (xs0).length cx0]) xs0 := ⟨_, rfl, hgx0⟩
  clear hgx0
  have hw5 : Below w4.heap.size w4 w5 := hb5
  have hs5 : w4.heap.size ≤ w5.heap.size := hw5.size
  have hB5 : Below w.heap.size w w5 := hB4.trans (hw5.mono (by omega))
  have H0_5 : RdB w5 w.heap.size (.agg #[.slice A0 xs0.length c0]) xs0 := H0_4.below hw5 (by omega)
  clear H0_4
  have fu0_5 : OwB w5 w2.heap.size w3.heap.size (.agg #[.slice Au0 (xs0).length cu0]) xs0 := fu0_4.below hw5 (by omega)
  clear fu0_4
  have qa00_5 := (hw5.cell (p := ⟨w.heap.size, 0, Option.none⟩) (by show w.heap.size < _; omega)).trans qa00_4
  clear qa00_4
  have hb6 : Below w5.heap.size w5 (w5.alloc (.cells #[.slice Ax0 (xs0).length cx0] 24)) := (Below.refl _ _).alloc (Nat.le_refl _) _
  have hz6 : (w5.alloc (.cells #[.slice Ax0 (xs0).length cx0] 24)).heap.size = w5.heap.size + 1 := by simp
  have qx00_6 : (w5.alloc (.cells #[.slice Ax0 (xs0).length cx0] 24)).cell? ⟨w5.heap.size, 0, Option.none⟩ = some (.slice Ax0 (xs0).length cx0) := (Blk.new w5 24 #[.slice Ax0 (xs0).length cx0]).cell 0
  go_wp2_with fail
  generalize w5.alloc (.cells #[.slice Ax0 (xs0).length cx0] 24) = w6 at hb6 hz6 qx00_6 ⊢
  have hy6 : w5.heap.size + 1 ≤ w6.heap.size := by omega
  clear hz6
  have hw6 : Below w5.heap.size w5 w6 := hb6
  have hs6 : w5.heap.size ≤ w6.heap.size := hw6.size
  have hB6 : Below w.heap.size w w6 := hB5.trans (hw6.mono (by omega))
  have H0_6 : RdB w6 w.heap.size (.agg #[.slice A0 xs0.length c0]) xs0 := H0_5.below hw6 (by omega)
  clear H0_5
  have fu0_6 : OwB w6 w2.heap.size w3.heap.size (.agg #[.slice Au0 (xs0).length cu0]) xs0 := fu0_5.below hw6 (by omega)
  clear fu0_5
  have fx0_6 : OwB w6 w4.heap.size w5.heap.size (.agg #[.slice Ax0 (xs0).length cx0]) xs0 := fx0_5.below hw6 (by omega)
  clear fx0_5
  have qa00_6 := (hw6.cell (p := ⟨w.heap.size, 0, Option.none⟩) (by show w.heap.size < _; omega)).trans qa00_5
  clear qa00_5
  have c2 := BookText_any xs0 (.agg #[.slice Ax0 (xs0).length cx0]) _ _ fx0_6.rd (by omega)
  rw [HT.out] at c2
  have C2 := Lib.hid c2
  clear c2
  go_wp2_with fail
  refine (C2.out).mono ?_
  rintro e w7 ⟨rfl, hb7⟩
  have hw7 : Below w6.heap.size w6 w7 := hb7
  have hs7 : w6.heap.size ≤ w7.heap.size := hw7.size
  have hB7 : Below w.heap.size w w7 := hB6.trans (hw7.mono (by omega))
  have H0_7 : RdB w7 w.heap.size (.agg #[.slice A0 xs0.length c0]) xs0 := H0_6.below hw7 (by omega)
  clear H0_6
  have fu0_7 : OwB w7 w2.heap.size w3.heap.size (.agg #[.slice Au0 (xs0).length cu0]) xs0 := fu0_6.below hw7 (by omega)
  clear fu0_6
  have fx0_7 : OwB w7 w4.heap.size w5.heap.size (.agg #[.slice Ax0 (xs0).length cx0]) xs0 := fx0_6.below hw7 (by omega)
  clear fx0_6
  have qa00_7 := (hw7.cell (p := ⟨w.heap.size, 0, Option.none⟩) (by show w.heap.size < _; omega)).trans qa00_6
  clear qa00_6
  have qx00_7 := (hw7.cell (p := ⟨w5.heap.size, 0, Option.none⟩) (by show w5.heap.size < _; omega)).trans qx00_6
  clear qx00_6
  go_wp2_with fail
  have hb8 : Below w7.heap.size w7 w7.drew := (Below.refl _ _).drew
  have hw8 : Below w7.heap.size w7 w7.drew := hb8
  have hs8 : w7.heap.size ≤ w7.drew.heap.size := hw8.size
  have hB8 : Below w.heap.size w w7.drew := hB7.trans (hw8.mono (by omega))
  have H0_8 : RdB w7.drew w.heap.size (.agg #[.slice A0 xs0.length c0]) xs0 := H0_7.below hw8 (by omega)
  clear H0_7
  have fu0_8 : OwB w7.drew w2.heap.size w3.heap.size (.agg #[.slice Au0 (xs0).length cu0]) xs0 := fu0_7.below hw8 (by omega)
  clear fu0_7
  have fx0_8 : OwB w7.drew w4.heap.size w5.heap.size (.agg #[.slice Ax0 (xs0).length cx0]) xs0 := fx0_7.below hw8 (by omega)
  clear fx0_7
  have qa00_8 := (hw8.cell (p := ⟨w.heap.size, 0, Option.none⟩) (by show w.heap.size < _; omega)).trans qa00_7
  clear qa00_7
  have qx00_8 := (hw8.cell (p := ⟨w5.heap.size, 0, Option.none⟩) (by show w5.heap.size < _; omega)).trans qx00_7
  clear qx00_7
  go_region_held3 (fun w' => w'.cell? ⟨w5.heap.size, 0, Option.none⟩ = some (.slice Ax0 (xs0).length cx0) ∧ w'.cell? ⟨w.heap.size, 0, Option.none⟩ = some (.slice A0 xs0.length c0)) (first | exact ⟨qx00_10, qa00_10⟩ | exact ⟨qx00_9, qa00_9⟩ | exact ⟨qx00_8, qa00_8⟩)
    (first
      | (
        go_at_call 18
        refine (toBook_any xs0 _ w.heap.size _ H0_8 hsb0 (by omega)).mono ?_
        rintro e w9 ⟨y0, rfl, fy0, hb9⟩
        obtain ⟨_, rfl, hgy0⟩ := fy0
        obtain ⟨Ay0, cy0, rfl, _, _⟩ := hgy0.rd.form
        have fy0_9 : OwB w9 w7.drew.heap.size w9.heap.size (.agg #[.slice Ay0 (xs0).length cy0]) xs0 := ⟨_, rfl, hgy0⟩
        clear hgy0
        have hw9 : Below w7.drew.heap.size w7.drew w9 := hb9
        have hs9 : w7.drew.heap.size ≤ w9.heap.size := hw9.size
        have hB9 : Below w.heap.size w w9 := hB8.trans (hw9.mono (by omega))
        have H0_9 : RdB w9 w.heap.size (.agg #[.slice A0 xs0.length c0]) xs0 := H0_8.below hw9 (by omega)
        clear H0_8
        have fu0_9 : OwB w9 w2.heap.size w3.heap.size (.agg #[.slice Au0 (xs0).length cu0]) xs0 := fu0_8.below hw9 (by omega)
        clear fu0_8
        have fx0_9 : OwB w9 w4.heap.size w5.heap.size (.agg #[.slice Ax0 (xs0).length cx0]) xs0 := fx0_8.below hw9 (by omega)
        clear fx0_8
        have qa00_9 := (hw9.cell (p := ⟨w.heap.size, 0, Option.none⟩) (by show w.heap.size < _; omega)).trans qa00_8
        clear qa00_8
        have qx00_9 := (hw9.cell (p := ⟨w5.heap.size, 0, Option.none⟩) (by show w5.heap.size < _; omega)).trans qx00_8
        clear qx00_8)
      | (
        go_at_call 9
        refine (eqBook_sameB _ _ _ _ _ _ fx0_9.rd fy0_9.rd).mono ?_
        rintro e w10 ⟨rfl, hb10⟩
        have hw10 : Below w9.heap.size w9 w10 := hb10
        have hs10 : w9.heap.size ≤ w10.heap.size := hw10.size
        have hB10 : Below w.heap.size w w10 := hB9.trans (hw10.mono (by omega))
        have H0_10 : RdB w10 w.heap.size (.agg #[.slice A0 xs0.length c0]) xs0 := H0_9.below hw10 (by omega)
        clear H0_9
        have fu0_10 : OwB w10 w2.heap.size w3.heap.size (.agg #[.slice Au0 (xs0).length cu0]) xs0 := fu0_9.below hw10 (by omega)
        clear fu0_9
        have fx0_10 : OwB w10 w4.heap.size w5.heap.size (.agg #[.slice Ax0 (xs0).length cx0]) xs0 := fx0_9.below hw10 (by omega)
        clear fx0_9
        have fy0_10 : OwB w10 w7.drew.heap.size w9.heap.size (.agg #[.slice Ay0 (xs0).length cy0]) xs0 := fy0_9.below hw10 (by omega)
        clear fy0_9
        have qa00_10 := (hw10.cell (p := ⟨w.heap.size, 0, Option.none⟩) (by show w.heap.size < _; omega)).trans qa00_9
        clear qa00_9
        have qx00_10 := (hw10.cell (p := ⟨w5.heap.size, 0, Option.none⟩) (by show w5.heap.size < _; omega)).trans qx00_9
        clear qx00_9))
  go_wp2_with fail
  go_ret
  exact ⟨rfl, hB10⟩
end Go.Proofs.YtjnkdjokbamibaaDoor.fnExactBookText
