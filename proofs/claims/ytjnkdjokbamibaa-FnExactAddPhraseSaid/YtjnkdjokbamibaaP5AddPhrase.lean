/- Texts of one claim, joined: VAddPhrase. -/
import Derived.Deep.RegionHeld3
import Derived.Test.YtjnkdjokbamibaaP4AddPhrase
/- The walk of the law FnExactAddPhrase. -/
namespace Go.Proofs.Ytjnkdjokbamibaa.fnExactAddPhrase
open Go.ChangeShapes Go.WideShapes Go.ChangeAt Go.RowKit
open Go.ChangeMaps (open_string)
set_option linter.unusedVariables false
set_option maxHeartbeats 4000000 in
set_option maxRecDepth 100000 in
theorem walk (v0 : Value) (xs0 : List Phr) (v1 : Value) (xs1 : Phr) (w : World) (hr0 : RdB w w.heap.size v0 xs0) (hr1 : RdP w w.heap.size v1 xs1) : Calls Try.prog 4 #[v0, v1] w fun e w' => e = .returned (.bool true) ∧ Below w.heap.size w w' := by
  obtain ⟨_, rfl, hr0⟩ := hr0
  obtain ⟨A0, c0, rfl, hc0, hm0⟩ := hr0.form
  have hr0 : RdB w w.heap.size (.agg #[.slice A0 xs0.length c0]) xs0 := ⟨_, rfl, hr0⟩
  have H0 := Lib.hid hr0
  clear hr0
  obtain ⟨_, rfl, hr1, ht1⟩ := hr1
  obtain ⟨A1, c1, rfl, hc1, hm1⟩ := Rd.form hr1
  have hr1 : RdP w w.heap.size (.agg #[.string xs1.1, .slice A1 xs1.2.length c1]) xs1 := ⟨_, rfl, hr1, ht1⟩
  have H1 := Lib.hid hr1
  clear hr1
  obtain ⟨z0, hz0⟩ : ∃ z : Int, z = szBookM xs0 1048576 := ⟨_, rfl⟩
  have HZ0 := Lib.hid hz0
  clear hz0
  by_cases hneg0 : z0 < 0
  · go_enter Try.func4, Try.ntmps4
    have hb1 : Below w.heap.size w (w.alloc (.cells #[.slice A0 xs0.length c0] 24)) := (Below.refl _ _).alloc (Nat.le_refl _) _
    have hz1 : (w.alloc (.cells #[.slice A0 xs0.length c0] 24)).heap.size = w.heap.size + 1 := by simp
    have qa00_1 : (w.alloc (.cells #[.slice A0 xs0.length c0] 24)).cell? ⟨w.heap.size, 0, Option.none⟩ = some (.slice A0 xs0.length c0) := (Blk.new w 24 #[.slice A0 xs0.length c0]).cell 0
    go_wp2_with fail
    generalize w.alloc (.cells #[.slice A0 xs0.length c0] 24) = w1 at hb1 hz1 qa00_1 ⊢
    rw [← hz1]
    have hy1 : w.heap.size + 1 ≤ w1.heap.size := by omega
    clear hz1
    have hw1 : Below w.heap.size w w1 := hb1
    have hs1 : w.heap.size ≤ w1.heap.size := hw1.size
    have hB1 : Below w.heap.size w w1 := hw1.mono (by omega)
    have H0_1 : RdB w1 w.heap.size (.agg #[.slice A0 xs0.length c0]) xs0 := H0.out.below hw1 (by omega)
    have H1_1 : RdP w1 w.heap.size (.agg #[.string xs1.1, .slice A1 xs1.2.length c1]) xs1 := H1.out.below hw1 (by omega)
    have hb2 : Below w1.heap.size w1 (w1.alloc (.cells #[.string xs1.1, .slice A1 xs1.2.length c1] 37)) := (Below.refl _ _).alloc (Nat.le_refl _) _
    have hz2 : (w1.alloc (.cells #[.string xs1.1, .slice A1 xs1.2.length c1] 37)).heap.size = w1.heap.size + 1 := by simp
    have qa10_2 : (w1.alloc (.cells #[.string xs1.1, .slice A1 xs1.2.length c1] 37)).cell? ⟨w1.heap.size, 0, Option.none⟩ = some (.string xs1.1) := (Blk.new w1 37 #[.string xs1.1, .slice A1 xs1.2.length c1]).cell 0
    have qa11_2 : (w1.alloc (.cells #[.string xs1.1, .slice A1 xs1.2.length c1] 37)).cell? ⟨w1.heap.size, 1, Option.none⟩ = some (.slice A1 xs1.2.length c1) := (Blk.new w1 37 #[.string xs1.1, .slice A1 xs1.2.length c1]).cell 1
    generalize w1.alloc (.cells #[.string xs1.1, .slice A1 xs1.2.length c1] 37) = w2 at hb2 hz2 qa10_2 qa11_2 ⊢
    have hy2 : w1.heap.size + 1 ≤ w2.heap.size := by omega
    clear hz2
    have hw2 : Below w1.heap.size w1 w2 := hb2
    have hs2 : w1.heap.size ≤ w2.heap.size := hw2.size
    have hB2 : Below w.heap.size w w2 := hB1.trans (hw2.mono (by omega))
    have H0_2 : RdB w2 w.heap.size (.agg #[.slice A0 xs0.length c0]) xs0 := H0_1.below hw2 (by omega)
    clear H0_1
    have H1_2 : RdP w2 w.heap.size (.agg #[.string xs1.1, .slice A1 xs1.2.length c1]) xs1 := H1_1.below hw2 (by omega)
    clear H1_1
    have qa00_2 := (hw2.cell (p := ⟨w.heap.size, 0, Option.none⟩) (by show w.heap.size < _; omega)).trans qa00_1
    clear qa00_1
    go_wp2_with fail
    refine (szBook_any xs0 (.agg #[.slice A0 xs0.length c0]) 1048576 _ _ H0_2 (by omega) (by omega) (by omega)).mono ?_
    rw [← HZ0.out]
    rintro e w3 ⟨rfl, hb3⟩
    have hw3 : Below w2.heap.size w2 w3 := hb3
    have hs3 : w2.heap.size ≤ w3.heap.size := hw3.size
    have hB3 : Below w.heap.size w w3 := hB2.trans (hw3.mono (by omega))
    have H0_3 : RdB w3 w.heap.size (.agg #[.slice A0 xs0.length c0]) xs0 := H0_2.below hw3 (by omega)
    clear H0_2
    have H1_3 : RdP w3 w.heap.size (.agg #[.string xs1.1, .slice A1 xs1.2.length c1]) xs1 := H1_2.below hw3 (by omega)
    clear H1_2
    have qa00_3 := (hw3.cell (p := ⟨w.heap.size, 0, Option.none⟩) (by show w.heap.size < _; omega)).trans qa00_2
    clear qa00_2
    have qa10_3 := (hw3.cell (p := ⟨w1.heap.size, 0, Option.none⟩) (by show w1.heap.size < _; omega)).trans qa10_2
    clear qa10_2
    have qa11_3 := (hw3.cell (p := ⟨w1.heap.size, 1, Option.none⟩) (by show w1.heap.size < _; omega)).trans qa11_2
    clear qa11_2
    go_wp2_with fail
    go_ret
    exact ⟨rfl, hB3⟩
  have hsb0 := szBook_bd HZ0.out hneg0
  have hzu0 : z0 ≤ 1048576 := szBook_up HZ0.out (by omega)
  obtain ⟨z1, hz1⟩ : ∃ z : Int, z = szPhraseM xs1 z0 := ⟨_, rfl⟩
  have HZ1 := Lib.hid hz1
  clear hz1
  by_cases hneg1 : z1 < 0
  · go_enter Try.func4, Try.ntmps4
    have hb1 : Below w.heap.size w (w.alloc (.cells #[.slice A0 xs0.length c0] 24)) := (Below.refl _ _).alloc (Nat.le_refl _) _
    have hz1 : (w.alloc (.cells #[.slice A0 xs0.length c0] 24)).heap.size = w.heap.size + 1 := by simp
    have qa00_1 : (w.alloc (.cells #[.slice A0 xs0.length c0] 24)).cell? ⟨w.heap.size, 0, Option.none⟩ = some (.slice A0 xs0.length c0) := (Blk.new w 24 #[.slice A0 xs0.length c0]).cell 0
    go_wp2_with fail
    generalize w.alloc (.cells #[.slice A0 xs0.length c0] 24) = w1 at hb1 hz1 qa00_1 ⊢
    rw [← hz1]
    have hy1 : w.heap.size + 1 ≤ w1.heap.size := by omega
    clear hz1
    have hw1 : Below w.heap.size w w1 := hb1
    have hs1 : w.heap.size ≤ w1.heap.size := hw1.size
    have hB1 : Below w.heap.size w w1 := hw1.mono (by omega)
    have H0_1 : RdB w1 w.heap.size (.agg #[.slice A0 xs0.length c0]) xs0 := H0.out.below hw1 (by omega)
    have H1_1 : RdP w1 w.heap.size (.agg #[.string xs1.1, .slice A1 xs1.2.length c1]) xs1 := H1.out.below hw1 (by omega)
    have hb2 : Below w1.heap.size w1 (w1.alloc (.cells #[.string xs1.1, .slice A1 xs1.2.length c1] 37)) := (Below.refl _ _).alloc (Nat.le_refl _) _
    have hz2 : (w1.alloc (.cells #[.string xs1.1, .slice A1 xs1.2.length c1] 37)).heap.size = w1.heap.size + 1 := by simp
    have qa10_2 : (w1.alloc (.cells #[.string xs1.1, .slice A1 xs1.2.length c1] 37)).cell? ⟨w1.heap.size, 0, Option.none⟩ = some (.string xs1.1) := (Blk.new w1 37 #[.string xs1.1, .slice A1 xs1.2.length c1]).cell 0
    have qa11_2 : (w1.alloc (.cells #[.string xs1.1, .slice A1 xs1.2.length c1] 37)).cell? ⟨w1.heap.size, 1, Option.none⟩ = some (.slice A1 xs1.2.length c1) := (Blk.new w1 37 #[.string xs1.1, .slice A1 xs1.2.length c1]).cell 1
    generalize w1.alloc (.cells #[.string xs1.1, .slice A1 xs1.2.length c1] 37) = w2 at hb2 hz2 qa10_2 qa11_2 ⊢
    have hy2 : w1.heap.size + 1 ≤ w2.heap.size := by omega
    clear hz2
    have hw2 : Below w1.heap.size w1 w2 := hb2
    have hs2 : w1.heap.size ≤ w2.heap.size := hw2.size
    have hB2 : Below w.heap.size w w2 := hB1.trans (hw2.mono (by omega))
    have H0_2 : RdB w2 w.heap.size (.agg #[.slice A0 xs0.length c0]) xs0 := H0_1.below hw2 (by omega)
    clear H0_1
    have H1_2 : RdP w2 w.heap.size (.agg #[.string xs1.1, .slice A1 xs1.2.length c1]) xs1 := H1_1.below hw2 (by omega)
    clear H1_1
    have qa00_2 := (hw2.cell (p := ⟨w.heap.size, 0, Option.none⟩) (by show w.heap.size < _; omega)).trans qa00_1
    clear qa00_1
    go_wp2_with fail
    refine (szBook_any xs0 (.agg #[.slice A0 xs0.length c0]) 1048576 _ _ H0_2 (by omega) (by omega) (by omega)).mono ?_
    rw [← HZ0.out]
    rintro e w3 ⟨rfl, hb3⟩
    have hw3 : Below w2.heap.size w2 w3 := hb3
    have hs3 : w2.heap.size ≤ w3.heap.size := hw3.size
    have hB3 : Below w.heap.size w w3 := hB2.trans (hw3.mono (by omega))
    have H0_3 : RdB w3 w.heap.size (.agg #[.slice A0 xs0.length c0]) xs0 := H0_2.below hw3 (by omega)
    clear H0_2
    have H1_3 : RdP w3 w.heap.size (.agg #[.string xs1.1, .slice A1 xs1.2.length c1]) xs1 := H1_2.below hw3 (by omega)
    clear H1_2
    have qa00_3 := (hw3.cell (p := ⟨w.heap.size, 0, Option.none⟩) (by show w.heap.size < _; omega)).trans qa00_2
    clear qa00_2
    have qa10_3 := (hw3.cell (p := ⟨w1.heap.size, 0, Option.none⟩) (by show w1.heap.size < _; omega)).trans qa10_2
    clear qa10_2
    have qa11_3 := (hw3.cell (p := ⟨w1.heap.size, 1, Option.none⟩) (by show w1.heap.size < _; omega)).trans qa11_2
    clear qa11_2
    go_wp2_with fail
    refine (szPhrase_any xs1 (.agg #[.string xs1.1, .slice A1 xs1.2.length c1]) z0 _ _ H1_3 (by omega) (by omega) (by omega)).mono ?_
    rw [← HZ1.out]
    rintro e w4 ⟨rfl, hb4⟩
    have hw4 : Below w3.heap.size w3 w4 := hb4
    have hs4 : w3.heap.size ≤ w4.heap.size := hw4.size
    have hB4 : Below w.heap.size w w4 := hB3.trans (hw4.mono (by omega))
    have H0_4 : RdB w4 w.heap.size (.agg #[.slice A0 xs0.length c0]) xs0 := H0_3.below hw4 (by omega)
    clear H0_3
    have H1_4 : RdP w4 w.heap.size (.agg #[.string xs1.1, .slice A1 xs1.2.length c1]) xs1 := H1_3.below hw4 (by omega)
    clear H1_3
    have qa00_4 := (hw4.cell (p := ⟨w.heap.size, 0, Option.none⟩) (by show w.heap.size < _; omega)).trans qa00_3
    clear qa00_3
    have qa10_4 := (hw4.cell (p := ⟨w1.heap.size, 0, Option.none⟩) (by show w1.heap.size < _; omega)).trans qa10_3
    clear qa10_3
    have qa11_4 := (hw4.cell (p := ⟨w1.heap.size, 1, Option.none⟩) (by show w1.heap.size < _; omega)).trans qa11_3
    clear qa11_3
    go_wp2_with fail
    go_ret
    exact ⟨rfl, hB4⟩
  have hsb1 := szPhrase_bd HZ1.out hneg1
  have hcnt := add_cnt xs0 xs1
  have hxs1 : xs1.2.length ≤ 1048576 := by unfold sizeP at hsb1; omega
  go_enter Try.func4, Try.ntmps4
  have hb1 : Below w.heap.size w (w.alloc (.cells #[.slice A0 xs0.length c0] 24)) := (Below.refl _ _).alloc (Nat.le_refl _) _
  have hz1 : (w.alloc (.cells #[.slice A0 xs0.length c0] 24)).heap.size = w.heap.size + 1 := by simp
  have qa00_1 : (w.alloc (.cells #[.slice A0 xs0.length c0] 24)).cell? ⟨w.heap.size, 0, Option.none⟩ = some (.slice A0 xs0.length c0) := (Blk.new w 24 #[.slice A0 xs0.length c0]).cell 0
  go_wp2_with fail
  generalize w.alloc (.cells #[.slice A0 xs0.length c0] 24) = w1 at hb1 hz1 qa00_1 ⊢
  rw [← hz1]
  have hy1 : w.heap.size + 1 ≤ w1.heap.size := by omega
  clear hz1
  have hw1 : Below w.heap.size w w1 := hb1
  have hs1 : w.heap.size ≤ w1.heap.size := hw1.size
  have hB1 : Below w.heap.size w w1 := hw1.mono (by omega)
  have H0_1 : RdB w1 w.heap.size (.agg #[.slice A0 xs0.length c0]) xs0 := H0.out.below hw1 (by omega)
  have H1_1 : RdP w1 w.heap.size (.agg #[.string xs1.1, .slice A1 xs1.2.length c1]) xs1 := H1.out.below hw1 (by omega)
  have hb2 : Below w1.heap.size w1 (w1.alloc (.cells #[.string xs1.1, .slice A1 xs1.2.length c1] 37)) := (Below.refl _ _).alloc (Nat.le_refl _) _
  have hz2 : (w1.alloc (.cells #[.string xs1.1, .slice A1 xs1.2.length c1] 37)).heap.size = w1.heap.size + 1 := by simp
  have qa10_2 : (w1.alloc (.cells #[.string xs1.1, .slice A1 xs1.2.length c1] 37)).cell? ⟨w1.heap.size, 0, Option.none⟩ = some (.string xs1.1) := (Blk.new w1 37 #[.string xs1.1, .slice A1 xs1.2.length c1]).cell 0
  have qa11_2 : (w1.alloc (.cells #[.string xs1.1, .slice A1 xs1.2.length c1] 37)).cell? ⟨w1.heap.size, 1, Option.none⟩ = some (.slice A1 xs1.2.length c1) := (Blk.new w1 37 #[.string xs1.1, .slice A1 xs1.2.length c1]).cell 1
  generalize w1.alloc (.cells #[.string xs1.1, .slice A1 xs1.2.length c1] 37) = w2 at hb2 hz2 qa10_2 qa11_2 ⊢
  have hy2 : w1.heap.size + 1 ≤ w2.heap.size := by omega
  clear hz2
  have hw2 : Below w1.heap.size w1 w2 := hb2
  have hs2 : w1.heap.size ≤ w2.heap.size := hw2.size
  have hB2 : Below w.heap.size w w2 := hB1.trans (hw2.mono (by omega))
  have H0_2 : RdB w2 w.heap.size (.agg #[.slice A0 xs0.length c0]) xs0 := H0_1.below hw2 (by omega)
  clear H0_1
  have H1_2 : RdP w2 w.heap.size (.agg #[.string xs1.1, .slice A1 xs1.2.length c1]) xs1 := H1_1.below hw2 (by omega)
  clear H1_1
  have qa00_2 := (hw2.cell (p := ⟨w.heap.size, 0, Option.none⟩) (by show w.heap.size < _; omega)).trans qa00_1
  clear qa00_1
  go_wp2_with fail
  refine (szBook_any xs0 (.agg #[.slice A0 xs0.length c0]) 1048576 _ _ H0_2 (by omega) (by omega) (by omega)).mono ?_
  rw [← HZ0.out]
  rintro e w3 ⟨rfl, hb3⟩
  have hw3 : Below w2.heap.size w2 w3 := hb3
  have hs3 : w2.heap.size ≤ w3.heap.size := hw3.size
  have hB3 : Below w.heap.size w w3 := hB2.trans (hw3.mono (by omega))
  have H0_3 : RdB w3 w.heap.size (.agg #[.slice A0 xs0.length c0]) xs0 := H0_2.below hw3 (by omega)
  clear H0_2
  have H1_3 : RdP w3 w.heap.size (.agg #[.string xs1.1, .slice A1 xs1.2.length c1]) xs1 := H1_2.below hw3 (by omega)
  clear H1_2
  have qa00_3 := (hw3.cell (p := ⟨w.heap.size, 0, Option.none⟩) (by show w.heap.size < _; omega)).trans qa00_2
  clear qa00_2
  have qa10_3 := (hw3.cell (p := ⟨w1.heap.size, 0, Option.none⟩) (by show w1.heap.size < _; omega)).trans qa10_2
  clear qa10_2
  have qa11_3 := (hw3.cell (p := ⟨w1.heap.size, 1, Option.none⟩) (by show w1.heap.size < _; omega)).trans qa11_2
  clear qa11_2
  go_wp2_with fail
  refine (szPhrase_any xs1 (.agg #[.string xs1.1, .slice A1 xs1.2.length c1]) z0 _ _ H1_3 (by omega) (by omega) (by omega)).mono ?_
  rw [← HZ1.out]
  rintro e w4 ⟨rfl, hb4⟩
  have hw4 : Below w3.heap.size w3 w4 := hb4
  have hs4 : w3.heap.size ≤ w4.heap.size := hw4.size
  have hB4 : Below w.heap.size w w4 := hB3.trans (hw4.mono (by omega))
  have H0_4 : RdB w4 w.heap.size (.agg #[.slice A0 xs0.length c0]) xs0 := H0_3.below hw4 (by omega)
  clear H0_3
  have H1_4 : RdP w4 w.heap.size (.agg #[.string xs1.1, .slice A1 xs1.2.length c1]) xs1 := H1_3.below hw4 (by omega)
  clear H1_3
  have qa00_4 := (hw4.cell (p := ⟨w.heap.size, 0, Option.none⟩) (by show w.heap.size < _; omega)).trans qa00_3
  clear qa00_3
  have qa10_4 := (hw4.cell (p := ⟨w1.heap.size, 0, Option.none⟩) (by show w1.heap.size < _; omega)).trans qa10_3
  clear qa10_3
  have qa11_4 := (hw4.cell (p := ⟨w1.heap.size, 1, Option.none⟩) (by show w1.heap.size < _; omega)).trans qa11_3
  clear qa11_3
  go_upto_region 8 with fail
  go_cut [6, 7] (fun p q wx => ∃ (Bs : Nat) (As : Option Addr) (cs : Nat), p = .pointer (some ⟨Bs, 0, Option.none⟩) ∧ q = .bool (addO xs0 xs1).isSome ∧ w4.heap.size ≤ Bs ∧ Bs < wx.heap.size ∧ Hid (wx.cell? ⟨Bs, 0, Option.none⟩ = some (.slice As (((addO xs0 xs1).getD [])).length cs)) ∧ Hid (RdB wx wx.heap.size (.agg #[.slice As (((addO xs0 xs1).getD [])).length cs]) (((addO xs0 xs1).getD []))) ∧ Hid (Below w4.heap.size w4 wx))
  case first =>
    have HD : Hid (Below w4.heap.size w4 w4.drew) := (Below.refl _ _).drew
    have HDN : Hid (Below w4.heap.size w4 (w4.alloc (.cells #[.slice Option.none 0 0] 28)).drew) := ((Below.refl _ _).alloc (Nat.le_refl _) _).drew
    have HXN : Hid (Blk (w4.alloc (.cells #[.slice Option.none 0 0] 28)).drew w4.heap.size 28 [.slice Option.none 0 0] ∧ w4.heap.size ≤ w4.heap.size) := ⟨Blk.new w4 28 #[.slice Option.none 0 0], Nat.le_refl _⟩
    have hwc : w.heap.size ≤ w4.heap.size := by omega
    have HS0 : Hid (∀ W, Below w4.heap.size w4 W → RdB W w.heap.size (.agg #[.slice A0 xs0.length c0]) xs0) := fun W hb => H0_4.below hb hwc
    have HS1 : Hid (∀ W, Below w4.heap.size w4 W → RdP W w.heap.size (.agg #[.string xs1.1, .slice A1 xs1.2.length c1]) xs1) := fun W hb => H1_4.below hb hwc
    have LC : Hid (∀ W, Below w4.heap.size w4 W → W.cell? ⟨w.heap.size, 0, Option.none⟩ = some (.slice A0 xs0.length c0) ∧ W.cell? ⟨w1.heap.size, 0, Option.none⟩ = some (.string xs1.1) ∧ W.cell? ⟨w1.heap.size, 1, Option.none⟩ = some (.slice A1 xs1.2.length c1)) := fun W hb => ⟨(hb.cell (p := ⟨w.heap.size, 0, Option.none⟩) (by show w.heap.size < _; omega)).trans qa00_4, (hb.cell (p := ⟨w1.heap.size, 0, Option.none⟩) (by show w1.heap.size < _; omega)).trans qa10_4, (hb.cell (p := ⟨w1.heap.size, 1, Option.none⟩) (by show w1.heap.size < _; omega)).trans qa11_4⟩
    have d0 := (LC.out _ HD.out).1
    have d1 := (LC.out _ HD.out).2.1
    have d2 := (LC.out _ HD.out).2.2
    have e0 := (LC.out _ HDN.out).1
    have e1 := (LC.out _ HDN.out).2.1
    have e2 := (LC.out _ HDN.out).2.2
    clear H0_4 H1_4 qa00_4 qa10_4 qa11_4
    go_wp2_with fail
    go_region_law (first
      | ((go_simp; go_at_call 9; (with_reducible refine (toBook_any xs0 _ w.heap.size _ (HS0.out _ (by first | exact HD.out | exact HDN.out)) hsb0 (Nat.le_trans hwc (Below.size (by first | exact HD.out | exact HDN.out)))).mono ?_); rintro e wA ⟨v5, rfl, fu, hbA⟩; obtain ⟨_, rfl, hgu⟩ := fu; obtain ⟨Au, cu, hvu, _, _⟩ := hgu.rd.form; subst hvu; have HBA : Hid (Below w4.heap.size w4 wA) := (by first | exact HD.out.trans (hbA.mono HD.out.size) | exact HDN.out.trans (hbA.mono HDN.out.size)); have FA : Hid (RdB wA wA.heap.size (.agg #[.slice Au xs0.length cu]) xs0) := ⟨_, rfl, hgu.rd⟩; have HNA : Hid (Below w4.heap.size w4 (wA.alloc (.cells #[.slice Option.none 0 0] 28))) := HBA.out.alloc HBA.out.size _; have HMA : Hid (Below wA.heap.size wA (wA.alloc (.cells #[.slice Option.none 0 0] 28))) := (Below.refl _ _).alloc (Nat.le_refl _) _; have a0 := (LC.out _ HBA.out).1; have a1 := (LC.out _ HBA.out).2.1; have a2 := (LC.out _ HBA.out).2.2; have b0 := (LC.out _ HNA.out).1; have b1 := (LC.out _ HNA.out).2.1; have b2 := (LC.out _ HNA.out).2.2; (first | (have HXA := Lib.hid (And.intro (Blk.below HXN.out.1 hbA HXN.out.1.lt) HXN.out.2)) | skip); have HYA : Hid (Blk (wA.alloc (.cells #[.slice Option.none 0 0] 28)) wA.heap.size 28 [.slice Option.none 0 0] ∧ w4.heap.size ≤ wA.heap.size) := ⟨Blk.new wA 28 #[.slice Option.none 0 0], HBA.out.size⟩; clear hgu hbA))
      | ((go_simp; go_at_call 16; (with_reducible refine (toPhrase_any xs1 _ w.heap.size _ (HS1.out _ (by first | exact HD.out | exact HDN.out)) (Nat.le_trans hwc (Below.size (by first | exact HD.out | exact HDN.out))) hsb1).mono ?_); rintro e wB ⟨v5, rfl, fp, hbB⟩; obtain ⟨_, rfl, hgp, htp⟩ := fp; obtain ⟨Ap, cp, hvp, _, _⟩ := Rd.form hgp.rd; subst hvp; have HBB : Hid (Below w4.heap.size w4 wB) := (by first | exact HD.out.trans (hbB.mono HD.out.size) | exact HDN.out.trans (hbB.mono HDN.out.size)); have FB : Hid (RdP wB wB.heap.size (.agg #[.string xs1.1, .slice Ap xs1.2.length cp]) xs1) := ⟨_, rfl, hgp.rd, htp⟩; have HNB : Hid (Below w4.heap.size w4 (wB.alloc (.cells #[.slice Option.none 0 0] 28))) := HBB.out.alloc HBB.out.size _; have HMB : Hid (Below wB.heap.size wB (wB.alloc (.cells #[.slice Option.none 0 0] 28))) := (Below.refl _ _).alloc (Nat.le_refl _) _; have a0 := (LC.out _ HBB.out).1; have a1 := (LC.out _ HBB.out).2.1; have a2 := (LC.out _ HBB.out).2.2; have b0 := (LC.out _ HNB.out).1; have b1 := (LC.out _ HNB.out).2.1; have b2 := (LC.out _ HNB.out).2.2; (first | (have HXB := Lib.hid (And.intro (Blk.below HXN.out.1 hbB HXN.out.1.lt) HXN.out.2)) | skip); have HYB : Hid (Blk (wB.alloc (.cells #[.slice Option.none 0 0] 28)) wB.heap.size 28 [.slice Option.none 0 0] ∧ w4.heap.size ≤ wB.heap.size) := ⟨Blk.new wB 28 #[.slice Option.none 0 0], HBB.out.size⟩; clear hgp htp hbB))
      | ((go_simp; go_at_call 16; (with_reducible refine (toPhrase_any xs1 _ w.heap.size _ (HS1.out _ (by first | exact HBA.out | exact HNA.out)) (Nat.le_trans hwc (Below.size (by first | exact HBA.out | exact HNA.out))) hsb1).mono ?_); rintro e wC ⟨v6, rfl, fp, hbC⟩; obtain ⟨_, rfl, hgp, htp⟩ := fp; obtain ⟨Ap, cp, hvp, _, _⟩ := Rd.form hgp.rd; subst hvp; have HBC : Hid (Below w4.heap.size w4 wC) := (by first | exact HBA.out.trans (hbC.mono HBA.out.size) | exact HNA.out.trans (hbC.mono HNA.out.size)); have HP1 : Hid (RdP wC wC.heap.size (.agg #[.string xs1.1, .slice Ap xs1.2.length cp]) xs1) := ⟨_, rfl, hgp.rd, htp⟩; have HP0 : Hid (RdB wC wC.heap.size (.agg #[.slice Au xs0.length cu]) xs0) := (by first | exact (FA.out.below hbC (Nat.le_refl _)).mono hbC.size | exact ((FA.out.below HMA.out (Nat.le_refl _)).below hbC HMA.out.size).mono (Nat.le_trans HMA.out.size hbC.size)); have HCN : Hid (Below wC.heap.size wC (wC.alloc (.cells #[.slice Option.none 0 0] 28))) := (Below.refl _ _).alloc (Nat.le_refl _) _; have HYC : Hid (Blk (wC.alloc (.cells #[.slice Option.none 0 0] 28)) wC.heap.size 28 [.slice Option.none 0 0] ∧ w4.heap.size ≤ wC.heap.size) := ⟨Blk.new wC 28 #[.slice Option.none 0 0], HBC.out.size⟩; (first | (have HXC := Lib.hid (And.intro (Blk.below HXA.out.1 hbC HXA.out.1.lt) HXA.out.2)) | (have HXC := Lib.hid (And.intro (Blk.below HYA.out.1 hbC HYA.out.1.lt) HYA.out.2)) | skip); clear hgp htp hbC))
      | ((go_simp; go_at_call 9; (with_reducible refine (toBook_any xs0 _ w.heap.size _ (HS0.out _ (by first | exact HBB.out | exact HNB.out)) hsb0 (Nat.le_trans hwc (Below.size (by first | exact HBB.out | exact HNB.out)))).mono ?_); rintro e wC ⟨v6, rfl, fu, hbC⟩; obtain ⟨_, rfl, hgu⟩ := fu; obtain ⟨Au, cu, hvu, _, _⟩ := hgu.rd.form; subst hvu; have HBC : Hid (Below w4.heap.size w4 wC) := (by first | exact HBB.out.trans (hbC.mono HBB.out.size) | exact HNB.out.trans (hbC.mono HNB.out.size)); have HP0 : Hid (RdB wC wC.heap.size (.agg #[.slice Au xs0.length cu]) xs0) := ⟨_, rfl, hgu.rd⟩; have HP1 : Hid (RdP wC wC.heap.size (.agg #[.string xs1.1, .slice Ap xs1.2.length cp]) xs1) := (by first | exact (FB.out.below hbC (Nat.le_refl _)).mono hbC.size | exact ((FB.out.below HMB.out (Nat.le_refl _)).below hbC HMB.out.size).mono (Nat.le_trans HMB.out.size hbC.size)); have HCN : Hid (Below wC.heap.size wC (wC.alloc (.cells #[.slice Option.none 0 0] 28))) := (Below.refl _ _).alloc (Nat.le_refl _) _; have HYC : Hid (Blk (wC.alloc (.cells #[.slice Option.none 0 0] 28)) wC.heap.size 28 [.slice Option.none 0 0] ∧ w4.heap.size ≤ wC.heap.size) := ⟨Blk.new wC 28 #[.slice Option.none 0 0], HBC.out.size⟩; (first | (have HXC := Lib.hid (And.intro (Blk.below HXB.out.1 hbC HXB.out.1.lt) HXB.out.2)) | (have HXC := Lib.hid (And.intro (Blk.below HYB.out.1 hbC HYB.out.1.lt) HYB.out.2)) | skip); clear hgu hbC))
      | ((go_simp; go_at_call 15; (with_reducible refine (sAddB_any xs0 xs1 _ _ wC.heap.size wC.heap.size _ hxs1 (by first | exact HP0.out | exact HP0.out.below HCN.out (Nat.le_refl _)) (by first | exact HP1.out | exact HP1.out.below HCN.out (Nat.le_refl _)) (by first | exact Nat.le_refl _ | exact HCN.out.size) (by first | exact Nat.le_refl _ | exact HCN.out.size)).mono ?_); rintro e wE ⟨v7, rfl, fe, hbE⟩; obtain ⟨_, rfl, hge⟩ := fe; obtain ⟨AE, cE, hvE, _, _⟩ := hge.rd.form; subst hvE; have HGE : Hid (∃ lo, OwPS wE lo wE.heap.size (.slice AE (((addO xs0 xs1).getD [])).length cE) (((addO xs0 xs1).getD []))) := ⟨_, hge⟩; have HBE : Hid (Below w4.heap.size w4 wE) := (by first | exact HBC.out.trans (hbE.mono HBC.out.size) | exact (HBC.out.alloc HBC.out.size _).trans (hbE.mono (Nat.le_trans HBC.out.size HCN.out.size))); (first | (have HXE := Lib.hid (And.intro (Blk.below HXC.out.1 hbE HXC.out.1.lt) HXC.out.2)) | (have HXE := Lib.hid (And.intro (Blk.below HYC.out.1 hbE HYC.out.1.lt) HYC.out.2)) | skip); (first | (have hxc := HXE.out.1.cell 0; have hxf := HXE.out.1.frozen 0) | skip); clear hge hbE)))
    all_goals
      go_wp2_with fail
      go_meet
      first
        | exact ⟨_, AE, cE, rfl, rfl, HXE.out.2, by have h := HXE.out.1.lt; simpa [World.setCell] using h, (HXE.out.1.set_ 0 _).cell 0, by obtain ⟨lo, hq⟩ := HGE.out; exact ⟨_, rfl, (hq.far HXE.out.1 _).rd.mono (by simp [World.setCell])⟩, HBE.out.setCell HXE.out.2 _⟩
        | exact ⟨wE.heap.size, AE, cE, rfl, rfl, HBE.out.size, by simp, (Blk.new wE 28 #[.slice AE (((addO xs0 xs1).getD [])).length cE]).cell 0, by obtain ⟨lo, hq⟩ := HGE.out; exact ⟨_, rfl, (hq.rd.below ((Below.refl _ _).alloc (Nat.le_refl _) _ : Below wE.heap.size wE (wE.alloc (.cells #[.slice AE (((addO xs0 xs1).getD [])).length cE] 28))) (Nat.le_refl _)).mono (by simp)⟩, HBE.out.alloc HBE.out.size _⟩
  case rest =>
    rename World => w5
    obtain ⟨Bs, As, cs, rfl, rfl, hles, hlts, HCfs, Ffs, HBfs⟩ := hcut
    have hb5 := HBfs.out
    clear HBfs
    have fs_5 := Ffs.out
    clear Ffs
    have qs0_5 := HCfs.out
    clear HCfs
    have hw5 : Below w4.heap.size w4 w5 := hb5
    have hs5 : w4.heap.size ≤ w5.heap.size := hw5.size
    have hB5 : Below w.heap.size w w5 := hB4.trans (hw5.mono (by omega))
    have H0_5 : RdB w5 w.heap.size (.agg #[.slice A0 xs0.length c0]) xs0 := H0_4.below hw5 (by omega)
    clear H0_4
    have H1_5 : RdP w5 w.heap.size (.agg #[.string xs1.1, .slice A1 xs1.2.length c1]) xs1 := H1_4.below hw5 (by omega)
    clear H1_4
    have qa00_5 := (hw5.cell (p := ⟨w.heap.size, 0, Option.none⟩) (by show w.heap.size < _; omega)).trans qa00_4
    clear qa00_4
    have qa10_5 := (hw5.cell (p := ⟨w1.heap.size, 0, Option.none⟩) (by show w1.heap.size < _; omega)).trans qa10_4
    clear qa10_4
    have qa11_5 := (hw5.cell (p := ⟨w1.heap.size, 1, Option.none⟩) (by show w1.heap.size < _; omega)).trans qa11_4
    clear qa11_4
    go_wp2_with fail
    refine (toBook_any xs0 _ w.heap.size _ H0_5 hsb0 (by omega)).mono ?_
    rintro e w6 ⟨x0, rfl, fx0, hb6⟩
    obtain ⟨_, rfl, hgx0⟩ := fx0
    obtain ⟨Ax0, cx0, rfl, _, _⟩ := hgx0.rd.form
    have fx0_6 : OwB w6 w5.heap.size w6.heap.size (.agg #[.slice Ax0 (xs0).length cx0]) xs0 := ⟨_, rfl, hgx0⟩
    clear hgx0
    have hw6 : Below w5.heap.size w5 w6 := hb6
    have hs6 : w5.heap.size ≤ w6.heap.size := hw6.size
    have hB6 : Below w.heap.size w w6 := hB5.trans (hw6.mono (by omega))
    have H0_6 : RdB w6 w.heap.size (.agg #[.slice A0 xs0.length c0]) xs0 := H0_5.below hw6 (by omega)
    clear H0_5
    have H1_6 : RdP w6 w.heap.size (.agg #[.string xs1.1, .slice A1 xs1.2.length c1]) xs1 := H1_5.below hw6 (by omega)
    clear H1_5
    have fs_6 : RdB w6 w5.heap.size (.agg #[.slice As (((addO xs0 xs1).getD [])).length cs]) ((addO xs0 xs1).getD []) := fs_5.below hw6 (by omega)
    clear fs_5
    have qa00_6 := (hw6.cell (p := ⟨w.heap.size, 0, Option.none⟩) (by show w.heap.size < _; omega)).trans qa00_5
    clear qa00_5
    have qa10_6 := (hw6.cell (p := ⟨w1.heap.size, 0, Option.none⟩) (by show w1.heap.size < _; omega)).trans qa10_5
    clear qa10_5
    have qa11_6 := (hw6.cell (p := ⟨w1.heap.size, 1, Option.none⟩) (by show w1.heap.size < _; omega)).trans qa11_5
    clear qa11_5
    have qs0_6 := (hw6.cell (p := ⟨Bs, 0, Option.none⟩) (by show Bs < _; omega)).trans qs0_5
    clear qs0_5
    have hb7 : Below w6.heap.size w6 (w6.alloc (.cells #[.slice Ax0 (xs0).length cx0] 28)) := (Below.refl _ _).alloc (Nat.le_refl _) _
    have hz7 : (w6.alloc (.cells #[.slice Ax0 (xs0).length cx0] 28)).heap.size = w6.heap.size + 1 := by simp
    have qx00_7 : (w6.alloc (.cells #[.slice Ax0 (xs0).length cx0] 28)).cell? ⟨w6.heap.size, 0, Option.none⟩ = some (.slice Ax0 (xs0).length cx0) := (Blk.new w6 28 #[.slice Ax0 (xs0).length cx0]).cell 0
    have qa00_7 := (hb7.cell (p := ⟨w.heap.size, 0, Option.none⟩) (by show w.heap.size < _; omega)).trans qa00_6
    have qa10_7 := (hb7.cell (p := ⟨w1.heap.size, 0, Option.none⟩) (by show w1.heap.size < _; omega)).trans qa10_6
    have qa11_7 := (hb7.cell (p := ⟨w1.heap.size, 1, Option.none⟩) (by show w1.heap.size < _; omega)).trans qa11_6
    have qs0_7 := (hb7.cell (p := ⟨Bs, 0, Option.none⟩) (by show Bs < _; omega)).trans qs0_6
    go_wp2_with fail
    generalize w6.alloc (.cells #[.slice Ax0 (xs0).length cx0] 28) = w7 at hb7 hz7 qx00_7 qa00_7 qa10_7 qa11_7 qs0_7 ⊢
    clear qa00_6
    clear qa10_6
    clear qa11_6
    clear qs0_6
    have hy7 : w6.heap.size + 1 ≤ w7.heap.size := by omega
    clear hz7
    have hw7 : Below w6.heap.size w6 w7 := hb7
    have hs7 : w6.heap.size ≤ w7.heap.size := hw7.size
    have hB7 : Below w.heap.size w w7 := hB6.trans (hw7.mono (by omega))
    have H0_7 : RdB w7 w.heap.size (.agg #[.slice A0 xs0.length c0]) xs0 := H0_6.below hw7 (by omega)
    clear H0_6
    have H1_7 : RdP w7 w.heap.size (.agg #[.string xs1.1, .slice A1 xs1.2.length c1]) xs1 := H1_6.below hw7 (by omega)
    clear H1_6
    have fs_7 : RdB w7 w5.heap.size (.agg #[.slice As (((addO xs0 xs1).getD [])).length cs]) ((addO xs0 xs1).getD []) := fs_6.below hw7 (by omega)
    clear fs_6
    have fx0_7 : OwB w7 w5.heap.size w6.heap.size (.agg #[.slice Ax0 (xs0).length cx0]) xs0 := fx0_6.below hw7 (by omega)
    clear fx0_6
    go_wp2_with fail
    refine (toPhrase_any xs1 _ w.heap.size _ H1_7 (by omega) hsb1).mono ?_
    rintro e w8 ⟨x1, rfl, fx1, hb8⟩
    obtain ⟨_, rfl, hgx1, htx1⟩ := fx1
    obtain ⟨Ax1, cx1, rfl, _, _⟩ := Rd.form hgx1.rd
    have fx1_8 : OwP w8 w7.heap.size w8.heap.size (.agg #[.string (xs1).1, .slice Ax1 (xs1).2.length cx1]) xs1 := ⟨_, rfl, hgx1, htx1⟩
    clear hgx1 htx1
    have hw8 : Below w7.heap.size w7 w8 := hb8
    have hs8 : w7.heap.size ≤ w8.heap.size := hw8.size
    have hB8 : Below w.heap.size w w8 := hB7.trans (hw8.mono (by omega))
    have H0_8 : RdB w8 w.heap.size (.agg #[.slice A0 xs0.length c0]) xs0 := H0_7.below hw8 (by omega)
    clear H0_7
    have H1_8 : RdP w8 w.heap.size (.agg #[.string xs1.1, .slice A1 xs1.2.length c1]) xs1 := H1_7.below hw8 (by omega)
    clear H1_7
    have fs_8 : RdB w8 w5.heap.size (.agg #[.slice As (((addO xs0 xs1).getD [])).length cs]) ((addO xs0 xs1).getD []) := fs_7.below hw8 (by omega)
    clear fs_7
    have fx0_8 : OwB w8 w5.heap.size w6.heap.size (.agg #[.slice Ax0 (xs0).length cx0]) xs0 := fx0_7.below hw8 (by omega)
    clear fx0_7
    have qa00_8 := (hw8.cell (p := ⟨w.heap.size, 0, Option.none⟩) (by show w.heap.size < _; omega)).trans qa00_7
    clear qa00_7
    have qa10_8 := (hw8.cell (p := ⟨w1.heap.size, 0, Option.none⟩) (by show w1.heap.size < _; omega)).trans qa10_7
    clear qa10_7
    have qa11_8 := (hw8.cell (p := ⟨w1.heap.size, 1, Option.none⟩) (by show w1.heap.size < _; omega)).trans qa11_7
    clear qa11_7
    have qs0_8 := (hw8.cell (p := ⟨Bs, 0, Option.none⟩) (by show Bs < _; omega)).trans qs0_7
    clear qs0_7
    have qx00_8 := (hw8.cell (p := ⟨w6.heap.size, 0, Option.none⟩) (by show w6.heap.size < _; omega)).trans qx00_7
    clear qx00_7
    have hb9 : Below w8.heap.size w8 (w8.alloc (.cells #[.string (xs1).1, .slice Ax1 (xs1).2.length cx1] 40)) := (Below.refl _ _).alloc (Nat.le_refl _) _
    have hz9 : (w8.alloc (.cells #[.string (xs1).1, .slice Ax1 (xs1).2.length cx1] 40)).heap.size = w8.heap.size + 1 := by simp
    have qx10_9 : (w8.alloc (.cells #[.string (xs1).1, .slice Ax1 (xs1).2.length cx1] 40)).cell? ⟨w8.heap.size, 0, Option.none⟩ = some (.string (xs1).1) := (Blk.new w8 40 #[.string (xs1).1, .slice Ax1 (xs1).2.length cx1]).cell 0
    have qx11_9 : (w8.alloc (.cells #[.string (xs1).1, .slice Ax1 (xs1).2.length cx1] 40)).cell? ⟨w8.heap.size, 1, Option.none⟩ = some (.slice Ax1 (xs1).2.length cx1) := (Blk.new w8 40 #[.string (xs1).1, .slice Ax1 (xs1).2.length cx1]).cell 1
    have qa00_9 := (hb9.cell (p := ⟨w.heap.size, 0, Option.none⟩) (by show w.heap.size < _; omega)).trans qa00_8
    have qa10_9 := (hb9.cell (p := ⟨w1.heap.size, 0, Option.none⟩) (by show w1.heap.size < _; omega)).trans qa10_8
    have qa11_9 := (hb9.cell (p := ⟨w1.heap.size, 1, Option.none⟩) (by show w1.heap.size < _; omega)).trans qa11_8
    have qs0_9 := (hb9.cell (p := ⟨Bs, 0, Option.none⟩) (by show Bs < _; omega)).trans qs0_8
    have qx00_9 := (hb9.cell (p := ⟨w6.heap.size, 0, Option.none⟩) (by show w6.heap.size < _; omega)).trans qx00_8
    go_wp2_with fail
    generalize w8.alloc (.cells #[.string (xs1).1, .slice Ax1 (xs1).2.length cx1] 40) = w9 at hb9 hz9 qx10_9 qx11_9 qa00_9 qa10_9 qa11_9 qs0_9 qx00_9 ⊢
    clear qa00_8
    clear qa10_8
    clear qa11_8
    clear qs0_8
    clear qx00_8
    have hy9 : w8.heap.size + 1 ≤ w9.heap.size := by omega
    clear hz9
    have hw9 : Below w8.heap.size w8 w9 := hb9
    have hs9 : w8.heap.size ≤ w9.heap.size := hw9.size
    have hB9 : Below w.heap.size w w9 := hB8.trans (hw9.mono (by omega))
    have H0_9 : RdB w9 w.heap.size (.agg #[.slice A0 xs0.length c0]) xs0 := H0_8.below hw9 (by omega)
    clear H0_8
    have H1_9 : RdP w9 w.heap.size (.agg #[.string xs1.1, .slice A1 xs1.2.length c1]) xs1 := H1_8.below hw9 (by omega)
    clear H1_8
    have fs_9 : RdB w9 w5.heap.size (.agg #[.slice As (((addO xs0 xs1).getD [])).length cs]) ((addO xs0 xs1).getD []) := fs_8.below hw9 (by omega)
    clear fs_8
    have fx0_9 : OwB w9 w5.heap.size w6.heap.size (.agg #[.slice Ax0 (xs0).length cx0]) xs0 := fx0_8.below hw9 (by omega)
    clear fx0_8
    have fx1_9 : OwP w9 w7.heap.size w8.heap.size (.agg #[.string (xs1).1, .slice Ax1 (xs1).2.length cx1]) xs1 := fx1_8.below hw9 (by omega)
    clear fx1_8
    go_wp2_with fail
    refine (addB_any xs0 xs1 (.agg #[.slice Ax0 (xs0).length cx0]) (.agg #[.string (xs1).1, .slice Ax1 (xs1).2.length cx1]) _ _ _ hxs1 fx0_9.rd fx1_9.rd (by omega) (by omega)).mono ?_
    rintro e w10 ⟨g, rfl, fg, hb10⟩
    obtain ⟨_, rfl, hgg⟩ := fg
    obtain ⟨Ag, cg, rfl, _, _⟩ := hgg.rd.form
    have fg_10 : OwB w10 w9.heap.size w10.heap.size (.agg #[.slice Ag (((addO xs0 xs1).getD [])).length cg]) ((addO xs0 xs1).getD []) := ⟨_, rfl, hgg⟩
    clear hgg
    have hw10 : Below w9.heap.size w9 w10 := hb10
    have hs10 : w9.heap.size ≤ w10.heap.size := hw10.size
    have hB10 : Below w.heap.size w w10 := hB9.trans (hw10.mono (by omega))
    have H0_10 : RdB w10 w.heap.size (.agg #[.slice A0 xs0.length c0]) xs0 := H0_9.below hw10 (by omega)
    clear H0_9
    have H1_10 : RdP w10 w.heap.size (.agg #[.string xs1.1, .slice A1 xs1.2.length c1]) xs1 := H1_9.below hw10 (by omega)
    clear H1_9
    have fs_10 : RdB w10 w5.heap.size (.agg #[.slice As (((addO xs0 xs1).getD [])).length cs]) ((addO xs0 xs1).getD []) := fs_9.below hw10 (by omega)
    clear fs_9
    have fx0_10 : OwB w10 w5.heap.size w6.heap.size (.agg #[.slice Ax0 (xs0).length cx0]) xs0 := fx0_9.below hw10 (by omega)
    clear fx0_9
    have fx1_10 : OwP w10 w7.heap.size w8.heap.size (.agg #[.string (xs1).1, .slice Ax1 (xs1).2.length cx1]) xs1 := fx1_9.below hw10 (by omega)
    clear fx1_9
    have qa00_10 := (hw10.cell (p := ⟨w.heap.size, 0, Option.none⟩) (by show w.heap.size < _; omega)).trans qa00_9
    clear qa00_9
    have qa10_10 := (hw10.cell (p := ⟨w1.heap.size, 0, Option.none⟩) (by show w1.heap.size < _; omega)).trans qa10_9
    clear qa10_9
    have qa11_10 := (hw10.cell (p := ⟨w1.heap.size, 1, Option.none⟩) (by show w1.heap.size < _; omega)).trans qa11_9
    clear qa11_9
    have qs0_10 := (hw10.cell (p := ⟨Bs, 0, Option.none⟩) (by show Bs < _; omega)).trans qs0_9
    clear qs0_9
    have qx00_10 := (hw10.cell (p := ⟨w6.heap.size, 0, Option.none⟩) (by show w6.heap.size < _; omega)).trans qx00_9
    clear qx00_9
    have qx10_10 := (hw10.cell (p := ⟨w8.heap.size, 0, Option.none⟩) (by show w8.heap.size < _; omega)).trans qx10_9
    clear qx10_9
    have qx11_10 := (hw10.cell (p := ⟨w8.heap.size, 1, Option.none⟩) (by show w8.heap.size < _; omega)).trans qx11_9
    clear qx11_9
    have hb11 : Below w10.heap.size w10 (w10.alloc (.cells #[.slice Ag (((addO xs0 xs1).getD [])).length cg] 28)) := (Below.refl _ _).alloc (Nat.le_refl _) _
    have hz11 : (w10.alloc (.cells #[.slice Ag (((addO xs0 xs1).getD [])).length cg] 28)).heap.size = w10.heap.size + 1 := by simp
    have qg0_11 : (w10.alloc (.cells #[.slice Ag (((addO xs0 xs1).getD [])).length cg] 28)).cell? ⟨w10.heap.size, 0, Option.none⟩ = some (.slice Ag (((addO xs0 xs1).getD [])).length cg) := (Blk.new w10 28 #[.slice Ag (((addO xs0 xs1).getD [])).length cg]).cell 0
    have qa00_11 := (hb11.cell (p := ⟨w.heap.size, 0, Option.none⟩) (by show w.heap.size < _; omega)).trans qa00_10
    have qa10_11 := (hb11.cell (p := ⟨w1.heap.size, 0, Option.none⟩) (by show w1.heap.size < _; omega)).trans qa10_10
    have qa11_11 := (hb11.cell (p := ⟨w1.heap.size, 1, Option.none⟩) (by show w1.heap.size < _; omega)).trans qa11_10
    have qs0_11 := (hb11.cell (p := ⟨Bs, 0, Option.none⟩) (by show Bs < _; omega)).trans qs0_10
    have qx00_11 := (hb11.cell (p := ⟨w6.heap.size, 0, Option.none⟩) (by show w6.heap.size < _; omega)).trans qx00_10
    have qx10_11 := (hb11.cell (p := ⟨w8.heap.size, 0, Option.none⟩) (by show w8.heap.size < _; omega)).trans qx10_10
    have qx11_11 := (hb11.cell (p := ⟨w8.heap.size, 1, Option.none⟩) (by show w8.heap.size < _; omega)).trans qx11_10
    go_wp2_with fail
    generalize w10.alloc (.cells #[.slice Ag (((addO xs0 xs1).getD [])).length cg] 28) = w11 at hb11 hz11 qg0_11 qa00_11 qa10_11 qa11_11 qs0_11 qx00_11 qx10_11 qx11_11 ⊢
    clear qa00_10
    clear qa10_10
    clear qa11_10
    clear qs0_10
    clear qx00_10
    clear qx10_10
    clear qx11_10
    have hy11 : w10.heap.size + 1 ≤ w11.heap.size := by omega
    clear hz11
    have hw11 : Below w10.heap.size w10 w11 := hb11
    have hs11 : w10.heap.size ≤ w11.heap.size := hw11.size
    have hB11 : Below w.heap.size w w11 := hB10.trans (hw11.mono (by omega))
    have H0_11 : RdB w11 w.heap.size (.agg #[.slice A0 xs0.length c0]) xs0 := H0_10.below hw11 (by omega)
    clear H0_10
    have H1_11 : RdP w11 w.heap.size (.agg #[.string xs1.1, .slice A1 xs1.2.length c1]) xs1 := H1_10.below hw11 (by omega)
    clear H1_10
    have fs_11 : RdB w11 w5.heap.size (.agg #[.slice As (((addO xs0 xs1).getD [])).length cs]) ((addO xs0 xs1).getD []) := fs_10.below hw11 (by omega)
    clear fs_10
    have fx0_11 : OwB w11 w5.heap.size w6.heap.size (.agg #[.slice Ax0 (xs0).length cx0]) xs0 := fx0_10.below hw11 (by omega)
    clear fx0_10
    have fx1_11 : OwP w11 w7.heap.size w8.heap.size (.agg #[.string (xs1).1, .slice Ax1 (xs1).2.length cx1]) xs1 := fx1_10.below hw11 (by omega)
    clear fx1_10
    have fg_11 : OwB w11 w9.heap.size w10.heap.size (.agg #[.slice Ag (((addO xs0 xs1).getD [])).length cg]) ((addO xs0 xs1).getD []) := fg_10.below hw11 (by omega)
    clear fg_10
    go_wp2_with fail
    refine (eqBook_sameB _ _ _ _ _ _ fg_11.rd fs_11).mono ?_
    rintro e w12 ⟨rfl, hb12⟩
    have hw12 : Below w11.heap.size w11 w12 := hb12
    have hs12 : w11.heap.size ≤ w12.heap.size := hw12.size
    have hB12 : Below w.heap.size w w12 := hB11.trans (hw12.mono (by omega))
    have H0_12 : RdB w12 w.heap.size (.agg #[.slice A0 xs0.length c0]) xs0 := H0_11.below hw12 (by omega)
    clear H0_11
    have H1_12 : RdP w12 w.heap.size (.agg #[.string xs1.1, .slice A1 xs1.2.length c1]) xs1 := H1_11.below hw12 (by omega)
    clear H1_11
    have fs_12 : RdB w12 w5.heap.size (.agg #[.slice As (((addO xs0 xs1).getD [])).length cs]) ((addO xs0 xs1).getD []) := fs_11.below hw12 (by omega)
    clear fs_11
    have fx0_12 : OwB w12 w5.heap.size w6.heap.size (.agg #[.slice Ax0 (xs0).length cx0]) xs0 := fx0_11.below hw12 (by omega)
    clear fx0_11
    have fx1_12 : OwP w12 w7.heap.size w8.heap.size (.agg #[.string (xs1).1, .slice Ax1 (xs1).2.length cx1]) xs1 := fx1_11.below hw12 (by omega)
    clear fx1_11
    have fg_12 : OwB w12 w9.heap.size w10.heap.size (.agg #[.slice Ag (((addO xs0 xs1).getD [])).length cg]) ((addO xs0 xs1).getD []) := fg_11.below hw12 (by omega)
    clear fg_11
    have qa00_12 := (hw12.cell (p := ⟨w.heap.size, 0, Option.none⟩) (by show w.heap.size < _; omega)).trans qa00_11
    clear qa00_11
    have qa10_12 := (hw12.cell (p := ⟨w1.heap.size, 0, Option.none⟩) (by show w1.heap.size < _; omega)).trans qa10_11
    clear qa10_11
    have qa11_12 := (hw12.cell (p := ⟨w1.heap.size, 1, Option.none⟩) (by show w1.heap.size < _; omega)).trans qa11_11
    clear qa11_11
    have qs0_12 := (hw12.cell (p := ⟨Bs, 0, Option.none⟩) (by show Bs < _; omega)).trans qs0_11
    clear qs0_11
    have qx00_12 := (hw12.cell (p := ⟨w6.heap.size, 0, Option.none⟩) (by show w6.heap.size < _; omega)).trans qx00_11
    clear qx00_11
    have qx10_12 := (hw12.cell (p := ⟨w8.heap.size, 0, Option.none⟩) (by show w8.heap.size < _; omega)).trans qx10_11
    clear qx10_11
    have qx11_12 := (hw12.cell (p := ⟨w8.heap.size, 1, Option.none⟩) (by show w8.heap.size < _; omega)).trans qx11_11
    clear qx11_11
    have qg0_12 := (hw12.cell (p := ⟨w10.heap.size, 0, Option.none⟩) (by show w10.heap.size < _; omega)).trans qg0_11
    clear qg0_11
    go_wp2_with fail
    have hb13 : Below w12.heap.size w12 w12.drew := (Below.refl _ _).drew
    have hw13 : Below w12.heap.size w12 w12.drew := hb13
    have hs13 : w12.heap.size ≤ w12.drew.heap.size := hw13.size
    have hB13 : Below w.heap.size w w12.drew := hB12.trans (hw13.mono (by omega))
    have H0_13 : RdB w12.drew w.heap.size (.agg #[.slice A0 xs0.length c0]) xs0 := H0_12.below hw13 (by omega)
    clear H0_12
    have H1_13 : RdP w12.drew w.heap.size (.agg #[.string xs1.1, .slice A1 xs1.2.length c1]) xs1 := H1_12.below hw13 (by omega)
    clear H1_12
    have fs_13 : RdB w12.drew w5.heap.size (.agg #[.slice As (((addO xs0 xs1).getD [])).length cs]) ((addO xs0 xs1).getD []) := fs_12.below hw13 (by omega)
    clear fs_12
    have fx0_13 : OwB w12.drew w5.heap.size w6.heap.size (.agg #[.slice Ax0 (xs0).length cx0]) xs0 := fx0_12.below hw13 (by omega)
    clear fx0_12
    have fx1_13 : OwP w12.drew w7.heap.size w8.heap.size (.agg #[.string (xs1).1, .slice Ax1 (xs1).2.length cx1]) xs1 := fx1_12.below hw13 (by omega)
    clear fx1_12
    have fg_13 : OwB w12.drew w9.heap.size w10.heap.size (.agg #[.slice Ag (((addO xs0 xs1).getD [])).length cg]) ((addO xs0 xs1).getD []) := fg_12.below hw13 (by omega)
    clear fg_12
    have qa00_13 := (hw13.cell (p := ⟨w.heap.size, 0, Option.none⟩) (by show w.heap.size < _; omega)).trans qa00_12
    clear qa00_12
    have qa10_13 := (hw13.cell (p := ⟨w1.heap.size, 0, Option.none⟩) (by show w1.heap.size < _; omega)).trans qa10_12
    clear qa10_12
    have qa11_13 := (hw13.cell (p := ⟨w1.heap.size, 1, Option.none⟩) (by show w1.heap.size < _; omega)).trans qa11_12
    clear qa11_12
    have qs0_13 := (hw13.cell (p := ⟨Bs, 0, Option.none⟩) (by show Bs < _; omega)).trans qs0_12
    clear qs0_12
    have qx00_13 := (hw13.cell (p := ⟨w6.heap.size, 0, Option.none⟩) (by show w6.heap.size < _; omega)).trans qx00_12
    clear qx00_12
    have qx10_13 := (hw13.cell (p := ⟨w8.heap.size, 0, Option.none⟩) (by show w8.heap.size < _; omega)).trans qx10_12
    clear qx10_12
    have qx11_13 := (hw13.cell (p := ⟨w8.heap.size, 1, Option.none⟩) (by show w8.heap.size < _; omega)).trans qx11_12
    clear qx11_12
    have qg0_13 := (hw13.cell (p := ⟨w10.heap.size, 0, Option.none⟩) (by show w10.heap.size < _; omega)).trans qg0_12
    clear qg0_12
    go_region_held3 (fun w' => w'.cell? ⟨w6.heap.size, 0, Option.none⟩ = some (.slice Ax0 (xs0).length cx0) ∧ w'.cell? ⟨w.heap.size, 0, Option.none⟩ = some (.slice A0 xs0.length c0)) (first | exact ⟨qx00_15, qa00_15⟩ | exact ⟨qx00_14, qa00_14⟩ | exact ⟨qx00_13, qa00_13⟩)
      (first
        | (
          go_at_call 9
          refine (toBook_any xs0 _ w.heap.size _ H0_13 hsb0 (by omega)).mono ?_
          rintro e w14 ⟨y0, rfl, fy0, hb14⟩
          obtain ⟨_, rfl, hgy0⟩ := fy0
          obtain ⟨Ay0, cy0, rfl, _, _⟩ := hgy0.rd.form
          have fy0_14 : OwB w14 w12.drew.heap.size w14.heap.size (.agg #[.slice Ay0 (xs0).length cy0]) xs0 := ⟨_, rfl, hgy0⟩
          clear hgy0
          have hw14 : Below w12.drew.heap.size w12.drew w14 := hb14
          have hs14 : w12.drew.heap.size ≤ w14.heap.size := hw14.size
          have hB14 : Below w.heap.size w w14 := hB13.trans (hw14.mono (by omega))
          have H0_14 : RdB w14 w.heap.size (.agg #[.slice A0 xs0.length c0]) xs0 := H0_13.below hw14 (by omega)
          clear H0_13
          have H1_14 : RdP w14 w.heap.size (.agg #[.string xs1.1, .slice A1 xs1.2.length c1]) xs1 := H1_13.below hw14 (by omega)
          clear H1_13
          have fs_14 : RdB w14 w5.heap.size (.agg #[.slice As (((addO xs0 xs1).getD [])).length cs]) ((addO xs0 xs1).getD []) := fs_13.below hw14 (by omega)
          clear fs_13
          have fx0_14 : OwB w14 w5.heap.size w6.heap.size (.agg #[.slice Ax0 (xs0).length cx0]) xs0 := fx0_13.below hw14 (by omega)
          clear fx0_13
          have fx1_14 : OwP w14 w7.heap.size w8.heap.size (.agg #[.string (xs1).1, .slice Ax1 (xs1).2.length cx1]) xs1 := fx1_13.below hw14 (by omega)
          clear fx1_13
          have fg_14 : OwB w14 w9.heap.size w10.heap.size (.agg #[.slice Ag (((addO xs0 xs1).getD [])).length cg]) ((addO xs0 xs1).getD []) := fg_13.below hw14 (by omega)
          clear fg_13
          have qa00_14 := (hw14.cell (p := ⟨w.heap.size, 0, Option.none⟩) (by show w.heap.size < _; omega)).trans qa00_13
          clear qa00_13
          have qa10_14 := (hw14.cell (p := ⟨w1.heap.size, 0, Option.none⟩) (by show w1.heap.size < _; omega)).trans qa10_13
          clear qa10_13
          have qa11_14 := (hw14.cell (p := ⟨w1.heap.size, 1, Option.none⟩) (by show w1.heap.size < _; omega)).trans qa11_13
          clear qa11_13
          have qs0_14 := (hw14.cell (p := ⟨Bs, 0, Option.none⟩) (by show Bs < _; omega)).trans qs0_13
          clear qs0_13
          have qx00_14 := (hw14.cell (p := ⟨w6.heap.size, 0, Option.none⟩) (by show w6.heap.size < _; omega)).trans qx00_13
          clear qx00_13
          have qx10_14 := (hw14.cell (p := ⟨w8.heap.size, 0, Option.none⟩) (by show w8.heap.size < _; omega)).trans qx10_13
          clear qx10_13
          have qx11_14 := (hw14.cell (p := ⟨w8.heap.size, 1, Option.none⟩) (by show w8.heap.size < _; omega)).trans qx11_13
          clear qx11_13
          have qg0_14 := (hw14.cell (p := ⟨w10.heap.size, 0, Option.none⟩) (by show w10.heap.size < _; omega)).trans qg0_13
          clear qg0_13)
        | (
          go_at_call 11
          refine (eqBook_sameB _ _ _ _ _ _ fx0_14.rd fy0_14.rd).mono ?_
          rintro e w15 ⟨rfl, hb15⟩
          have hw15 : Below w14.heap.size w14 w15 := hb15
          have hs15 : w14.heap.size ≤ w15.heap.size := hw15.size
          have hB15 : Below w.heap.size w w15 := hB14.trans (hw15.mono (by omega))
          have H0_15 : RdB w15 w.heap.size (.agg #[.slice A0 xs0.length c0]) xs0 := H0_14.below hw15 (by omega)
          clear H0_14
          have H1_15 : RdP w15 w.heap.size (.agg #[.string xs1.1, .slice A1 xs1.2.length c1]) xs1 := H1_14.below hw15 (by omega)
          clear H1_14
          have fs_15 : RdB w15 w5.heap.size (.agg #[.slice As (((addO xs0 xs1).getD [])).length cs]) ((addO xs0 xs1).getD []) := fs_14.below hw15 (by omega)
          clear fs_14
          have fx0_15 : OwB w15 w5.heap.size w6.heap.size (.agg #[.slice Ax0 (xs0).length cx0]) xs0 := fx0_14.below hw15 (by omega)
          clear fx0_14
          have fx1_15 : OwP w15 w7.heap.size w8.heap.size (.agg #[.string (xs1).1, .slice Ax1 (xs1).2.length cx1]) xs1 := fx1_14.below hw15 (by omega)
          clear fx1_14
          have fg_15 : OwB w15 w9.heap.size w10.heap.size (.agg #[.slice Ag (((addO xs0 xs1).getD [])).length cg]) ((addO xs0 xs1).getD []) := fg_14.below hw15 (by omega)
          clear fg_14
          have fy0_15 : OwB w15 w12.drew.heap.size w14.heap.size (.agg #[.slice Ay0 (xs0).length cy0]) xs0 := fy0_14.below hw15 (by omega)
          clear fy0_14
          have qa00_15 := (hw15.cell (p := ⟨w.heap.size, 0, Option.none⟩) (by show w.heap.size < _; omega)).trans qa00_14
          clear qa00_14
          have qa10_15 := (hw15.cell (p := ⟨w1.heap.size, 0, Option.none⟩) (by show w1.heap.size < _; omega)).trans qa10_14
          clear qa10_14
          have qa11_15 := (hw15.cell (p := ⟨w1.heap.size, 1, Option.none⟩) (by show w1.heap.size < _; omega)).trans qa11_14
          clear qa11_14
          have qs0_15 := (hw15.cell (p := ⟨Bs, 0, Option.none⟩) (by show Bs < _; omega)).trans qs0_14
          clear qs0_14
          have qx00_15 := (hw15.cell (p := ⟨w6.heap.size, 0, Option.none⟩) (by show w6.heap.size < _; omega)).trans qx00_14
          clear qx00_14
          have qx10_15 := (hw15.cell (p := ⟨w8.heap.size, 0, Option.none⟩) (by show w8.heap.size < _; omega)).trans qx10_14
          clear qx10_14
          have qx11_15 := (hw15.cell (p := ⟨w8.heap.size, 1, Option.none⟩) (by show w8.heap.size < _; omega)).trans qx11_14
          clear qx11_14
          have qg0_15 := (hw15.cell (p := ⟨w10.heap.size, 0, Option.none⟩) (by show w10.heap.size < _; omega)).trans qg0_14
          clear qg0_14))
    go_wp2_with fail
    have hb16 : Below w15.heap.size w15 w15.drew := (Below.refl _ _).drew
    have hw16 : Below w15.heap.size w15 w15.drew := hb16
    have hs16 : w15.heap.size ≤ w15.drew.heap.size := hw16.size
    have hB16 : Below w.heap.size w w15.drew := hB15.trans (hw16.mono (by omega))
    have H0_16 : RdB w15.drew w.heap.size (.agg #[.slice A0 xs0.length c0]) xs0 := H0_15.below hw16 (by omega)
    clear H0_15
    have H1_16 : RdP w15.drew w.heap.size (.agg #[.string xs1.1, .slice A1 xs1.2.length c1]) xs1 := H1_15.below hw16 (by omega)
    clear H1_15
    have fs_16 : RdB w15.drew w5.heap.size (.agg #[.slice As (((addO xs0 xs1).getD [])).length cs]) ((addO xs0 xs1).getD []) := fs_15.below hw16 (by omega)
    clear fs_15
    have fx0_16 : OwB w15.drew w5.heap.size w6.heap.size (.agg #[.slice Ax0 (xs0).length cx0]) xs0 := fx0_15.below hw16 (by omega)
    clear fx0_15
    have fx1_16 : OwP w15.drew w7.heap.size w8.heap.size (.agg #[.string (xs1).1, .slice Ax1 (xs1).2.length cx1]) xs1 := fx1_15.below hw16 (by omega)
    clear fx1_15
    have fg_16 : OwB w15.drew w9.heap.size w10.heap.size (.agg #[.slice Ag (((addO xs0 xs1).getD [])).length cg]) ((addO xs0 xs1).getD []) := fg_15.below hw16 (by omega)
    clear fg_15
    have fy0_16 : OwB w15.drew w12.drew.heap.size w14.heap.size (.agg #[.slice Ay0 (xs0).length cy0]) xs0 := fy0_15.below hw16 (by omega)
    clear fy0_15
    have qa00_16 := (hw16.cell (p := ⟨w.heap.size, 0, Option.none⟩) (by show w.heap.size < _; omega)).trans qa00_15
    clear qa00_15
    have qa10_16 := (hw16.cell (p := ⟨w1.heap.size, 0, Option.none⟩) (by show w1.heap.size < _; omega)).trans qa10_15
    clear qa10_15
    have qa11_16 := (hw16.cell (p := ⟨w1.heap.size, 1, Option.none⟩) (by show w1.heap.size < _; omega)).trans qa11_15
    clear qa11_15
    have qs0_16 := (hw16.cell (p := ⟨Bs, 0, Option.none⟩) (by show Bs < _; omega)).trans qs0_15
    clear qs0_15
    have qx00_16 := (hw16.cell (p := ⟨w6.heap.size, 0, Option.none⟩) (by show w6.heap.size < _; omega)).trans qx00_15
    clear qx00_15
    have qx10_16 := (hw16.cell (p := ⟨w8.heap.size, 0, Option.none⟩) (by show w8.heap.size < _; omega)).trans qx10_15
    clear qx10_15
    have qx11_16 := (hw16.cell (p := ⟨w8.heap.size, 1, Option.none⟩) (by show w8.heap.size < _; omega)).trans qx11_15
    clear qx11_15
    have qg0_16 := (hw16.cell (p := ⟨w10.heap.size, 0, Option.none⟩) (by show w10.heap.size < _; omega)).trans qg0_15
    clear qg0_15
    go_region_held3 (fun w' => w'.cell? ⟨w8.heap.size, 0, Option.none⟩ = some (.string (xs1).1) ∧ w'.cell? ⟨w8.heap.size, 1, Option.none⟩ = some (.slice Ax1 (xs1).2.length cx1) ∧ w'.cell? ⟨w1.heap.size, 0, Option.none⟩ = some (.string xs1.1) ∧ w'.cell? ⟨w1.heap.size, 1, Option.none⟩ = some (.slice A1 xs1.2.length c1)) (first | exact ⟨qx10_18, qx11_18, qa10_18, qa11_18⟩ | exact ⟨qx10_17, qx11_17, qa10_17, qa11_17⟩ | exact ⟨qx10_16, qx11_16, qa10_16, qa11_16⟩)
      (first
        | (
          go_at_call 16
          refine (toPhrase_any xs1 _ w.heap.size _ H1_16 (by omega) hsb1).mono ?_
          rintro e w17 ⟨y1, rfl, fy1, hb17⟩
          obtain ⟨_, rfl, hgy1, hty1⟩ := fy1
          obtain ⟨Ay1, cy1, rfl, _, _⟩ := Rd.form hgy1.rd
          have fy1_17 : OwP w17 w15.drew.heap.size w17.heap.size (.agg #[.string (xs1).1, .slice Ay1 (xs1).2.length cy1]) xs1 := ⟨_, rfl, hgy1, hty1⟩
          clear hgy1 hty1
          have hw17 : Below w15.drew.heap.size w15.drew w17 := hb17
          have hs17 : w15.drew.heap.size ≤ w17.heap.size := hw17.size
          have hB17 : Below w.heap.size w w17 := hB16.trans (hw17.mono (by omega))
          have H0_17 : RdB w17 w.heap.size (.agg #[.slice A0 xs0.length c0]) xs0 := H0_16.below hw17 (by omega)
          clear H0_16
          have H1_17 : RdP w17 w.heap.size (.agg #[.string xs1.1, .slice A1 xs1.2.length c1]) xs1 := H1_16.below hw17 (by omega)
          clear H1_16
          have fs_17 : RdB w17 w5.heap.size (.agg #[.slice As (((addO xs0 xs1).getD [])).length cs]) ((addO xs0 xs1).getD []) := fs_16.below hw17 (by omega)
          clear fs_16
          have fx0_17 : OwB w17 w5.heap.size w6.heap.size (.agg #[.slice Ax0 (xs0).length cx0]) xs0 := fx0_16.below hw17 (by omega)
          clear fx0_16
          have fx1_17 : OwP w17 w7.heap.size w8.heap.size (.agg #[.string (xs1).1, .slice Ax1 (xs1).2.length cx1]) xs1 := fx1_16.below hw17 (by omega)
          clear fx1_16
          have fg_17 : OwB w17 w9.heap.size w10.heap.size (.agg #[.slice Ag (((addO xs0 xs1).getD [])).length cg]) ((addO xs0 xs1).getD []) := fg_16.below hw17 (by omega)
          clear fg_16
          have fy0_17 : OwB w17 w12.drew.heap.size w14.heap.size (.agg #[.slice Ay0 (xs0).length cy0]) xs0 := fy0_16.below hw17 (by omega)
          clear fy0_16
          have qa00_17 := (hw17.cell (p := ⟨w.heap.size, 0, Option.none⟩) (by show w.heap.size < _; omega)).trans qa00_16
          clear qa00_16
          have qa10_17 := (hw17.cell (p := ⟨w1.heap.size, 0, Option.none⟩) (by show w1.heap.size < _; omega)).trans qa10_16
          clear qa10_16
          have qa11_17 := (hw17.cell (p := ⟨w1.heap.size, 1, Option.none⟩) (by show w1.heap.size < _; omega)).trans qa11_16
          clear qa11_16
          have qs0_17 := (hw17.cell (p := ⟨Bs, 0, Option.none⟩) (by show Bs < _; omega)).trans qs0_16
          clear qs0_16
          have qx00_17 := (hw17.cell (p := ⟨w6.heap.size, 0, Option.none⟩) (by show w6.heap.size < _; omega)).trans qx00_16
          clear qx00_16
          have qx10_17 := (hw17.cell (p := ⟨w8.heap.size, 0, Option.none⟩) (by show w8.heap.size < _; omega)).trans qx10_16
          clear qx10_16
          have qx11_17 := (hw17.cell (p := ⟨w8.heap.size, 1, Option.none⟩) (by show w8.heap.size < _; omega)).trans qx11_16
          clear qx11_16
          have qg0_17 := (hw17.cell (p := ⟨w10.heap.size, 0, Option.none⟩) (by show w10.heap.size < _; omega)).trans qg0_16
          clear qg0_16)
        | (
          go_at_call 18
          refine (eqPhrase_sameB _ _ _ _ _ _ fx1_17.rd fy1_17.rd).mono ?_
          rintro e w18 ⟨rfl, hb18⟩
          have hw18 : Below w17.heap.size w17 w18 := hb18
          have hs18 : w17.heap.size ≤ w18.heap.size := hw18.size
          have hB18 : Below w.heap.size w w18 := hB17.trans (hw18.mono (by omega))
          have H0_18 : RdB w18 w.heap.size (.agg #[.slice A0 xs0.length c0]) xs0 := H0_17.below hw18 (by omega)
          clear H0_17
          have H1_18 : RdP w18 w.heap.size (.agg #[.string xs1.1, .slice A1 xs1.2.length c1]) xs1 := H1_17.below hw18 (by omega)
          clear H1_17
          have fs_18 : RdB w18 w5.heap.size (.agg #[.slice As (((addO xs0 xs1).getD [])).length cs]) ((addO xs0 xs1).getD []) := fs_17.below hw18 (by omega)
          clear fs_17
          have fx0_18 : OwB w18 w5.heap.size w6.heap.size (.agg #[.slice Ax0 (xs0).length cx0]) xs0 := fx0_17.below hw18 (by omega)
          clear fx0_17
          have fx1_18 : OwP w18 w7.heap.size w8.heap.size (.agg #[.string (xs1).1, .slice Ax1 (xs1).2.length cx1]) xs1 := fx1_17.below hw18 (by omega)
          clear fx1_17
          have fg_18 : OwB w18 w9.heap.size w10.heap.size (.agg #[.slice Ag (((addO xs0 xs1).getD [])).length cg]) ((addO xs0 xs1).getD []) := fg_17.below hw18 (by omega)
          clear fg_17
          have fy0_18 : OwB w18 w12.drew.heap.size w14.heap.size (.agg #[.slice Ay0 (xs0).length cy0]) xs0 := fy0_17.below hw18 (by omega)
          clear fy0_17
          have fy1_18 : OwP w18 w15.drew.heap.size w17.heap.size (.agg #[.string (xs1).1, .slice Ay1 (xs1).2.length cy1]) xs1 := fy1_17.below hw18 (by omega)
          clear fy1_17
          have qa00_18 := (hw18.cell (p := ⟨w.heap.size, 0, Option.none⟩) (by show w.heap.size < _; omega)).trans qa00_17
          clear qa00_17
          have qa10_18 := (hw18.cell (p := ⟨w1.heap.size, 0, Option.none⟩) (by show w1.heap.size < _; omega)).trans qa10_17
          clear qa10_17
          have qa11_18 := (hw18.cell (p := ⟨w1.heap.size, 1, Option.none⟩) (by show w1.heap.size < _; omega)).trans qa11_17
          clear qa11_17
          have qs0_18 := (hw18.cell (p := ⟨Bs, 0, Option.none⟩) (by show Bs < _; omega)).trans qs0_17
          clear qs0_17
          have qx00_18 := (hw18.cell (p := ⟨w6.heap.size, 0, Option.none⟩) (by show w6.heap.size < _; omega)).trans qx00_17
          clear qx00_17
          have qx10_18 := (hw18.cell (p := ⟨w8.heap.size, 0, Option.none⟩) (by show w8.heap.size < _; omega)).trans qx10_17
          clear qx10_17
          have qx11_18 := (hw18.cell (p := ⟨w8.heap.size, 1, Option.none⟩) (by show w8.heap.size < _; omega)).trans qx11_17
          clear qx11_17
          have qg0_18 := (hw18.cell (p := ⟨w10.heap.size, 0, Option.none⟩) (by show w10.heap.size < _; omega)).trans qg0_17
          clear qg0_17))
    go_wp2_with fail
    refine (markBook_ex _ _ _ _ 1 _ fx0_18 (by omega) (by omega) (by omega) (by omega)).mono ?_
    rintro e w20 ⟨q19, m19, rfl, hq19, hp19, -, hk19, hb20⟩
    have hs19 : m19.heap.size = w18.heap.size := hk19.size
    have hw19 : Below w5.heap.size w18 m19 := hk19.bel
    have hB19 : Below w.heap.size w m19 := hB18.trans (hw19.mono (by omega))
    have H0_19 : RdB m19 w.heap.size (.agg #[.slice A0 xs0.length c0]) xs0 := H0_18.below hw19 (by omega)
    clear H0_18
    have H1_19 : RdP m19 w.heap.size (.agg #[.string xs1.1, .slice A1 xs1.2.length c1]) xs1 := H1_18.below hw19 (by omega)
    clear H1_18
    have fs_19 : RdB m19 w5.heap.size (.agg #[.slice As (((addO xs0 xs1).getD [])).length cs]) ((addO xs0 xs1).getD []) := fs_18.below hw19 (by omega)
    clear fs_18
    have fx1_19 : OwP m19 w7.heap.size w8.heap.size (.agg #[.string (xs1).1, .slice Ax1 (xs1).2.length cx1]) xs1 := fx1_18.keep hk19 (by omega)
    clear fx1_18
    have fg_19 : OwB m19 w9.heap.size w10.heap.size (.agg #[.slice Ag (((addO xs0 xs1).getD [])).length cg]) ((addO xs0 xs1).getD []) := fg_18.keep hk19 (by omega)
    clear fg_18
    have fy0_19 : OwB m19 w12.drew.heap.size w14.heap.size (.agg #[.slice Ay0 (xs0).length cy0]) xs0 := fy0_18.keep hk19 (by omega)
    clear fy0_18
    have fy1_19 : OwP m19 w15.drew.heap.size w17.heap.size (.agg #[.string (xs1).1, .slice Ay1 (xs1).2.length cy1]) xs1 := fy1_18.keep hk19 (by omega)
    clear fy1_18
    have qa00_19 := (hw19.cell (p := ⟨w.heap.size, 0, Option.none⟩) (by show w.heap.size < _; omega)).trans qa00_18
    clear qa00_18
    have qa10_19 := (hw19.cell (p := ⟨w1.heap.size, 0, Option.none⟩) (by show w1.heap.size < _; omega)).trans qa10_18
    clear qa10_18
    have qa11_19 := (hw19.cell (p := ⟨w1.heap.size, 1, Option.none⟩) (by show w1.heap.size < _; omega)).trans qa11_18
    clear qa11_18
    have qs0_19 := (World.cell?_of_block (a := ⟨Bs, 0, Option.none⟩) (hk19.block _ (by first | exact .inl (by show Bs < _; omega) | exact .inr (by show _ ≤ Bs; omega)))).trans qs0_18
    clear qs0_18
    have qx00_19 := (World.cell?_of_block (a := ⟨w6.heap.size, 0, Option.none⟩) (hk19.block _ (by first | exact .inl (by show w6.heap.size < _; omega) | exact .inr (by show _ ≤ w6.heap.size; omega)))).trans qx00_18
    clear qx00_18
    have qx10_19 := (World.cell?_of_block (a := ⟨w8.heap.size, 0, Option.none⟩) (hk19.block _ (by first | exact .inl (by show w8.heap.size < _; omega) | exact .inr (by show _ ≤ w8.heap.size; omega)))).trans qx10_18
    clear qx10_18
    have qx11_19 := (World.cell?_of_block (a := ⟨w8.heap.size, 1, Option.none⟩) (hk19.block _ (by first | exact .inl (by show w8.heap.size < _; omega) | exact .inr (by show _ ≤ w8.heap.size; omega)))).trans qx11_18
    clear qx11_18
    have qg0_19 := (World.cell?_of_block (a := ⟨w10.heap.size, 0, Option.none⟩) (hk19.block _ (by first | exact .inl (by show w10.heap.size < _; omega) | exact .inr (by show _ ≤ w10.heap.size; omega)))).trans qg0_18
    clear qg0_18
    have hw20 : Below m19.heap.size m19 w20 := hb20
    have hs20 : m19.heap.size ≤ w20.heap.size := hw20.size
    have hB20 : Below w.heap.size w w20 := hB19.trans (hw20.mono (by omega))
    have H0_20 : RdB w20 w.heap.size (.agg #[.slice A0 xs0.length c0]) xs0 := H0_19.below hw20 (by omega)
    clear H0_19
    have H1_20 : RdP w20 w.heap.size (.agg #[.string xs1.1, .slice A1 xs1.2.length c1]) xs1 := H1_19.below hw20 (by omega)
    clear H1_19
    have fs_20 : RdB w20 w5.heap.size (.agg #[.slice As (((addO xs0 xs1).getD [])).length cs]) ((addO xs0 xs1).getD []) := fs_19.below hw20 (by omega)
    clear fs_19
    have fx1_20 : OwP w20 w7.heap.size w8.heap.size (.agg #[.string (xs1).1, .slice Ax1 (xs1).2.length cx1]) xs1 := fx1_19.below hw20 (by omega)
    clear fx1_19
    have fg_20 : OwB w20 w9.heap.size w10.heap.size (.agg #[.slice Ag (((addO xs0 xs1).getD [])).length cg]) ((addO xs0 xs1).getD []) := fg_19.below hw20 (by omega)
    clear fg_19
    have fy0_20 : OwB w20 w12.drew.heap.size w14.heap.size (.agg #[.slice Ay0 (xs0).length cy0]) xs0 := fy0_19.below hw20 (by omega)
    clear fy0_19
    have fy1_20 : OwP w20 w15.drew.heap.size w17.heap.size (.agg #[.string (xs1).1, .slice Ay1 (xs1).2.length cy1]) xs1 := fy1_19.below hw20 (by omega)
    clear fy1_19
    have qa00_20 := (hw20.cell (p := ⟨w.heap.size, 0, Option.none⟩) (by show w.heap.size < _; omega)).trans qa00_19
    clear qa00_19
    have qa10_20 := (hw20.cell (p := ⟨w1.heap.size, 0, Option.none⟩) (by show w1.heap.size < _; omega)).trans qa10_19
    clear qa10_19
    have qa11_20 := (hw20.cell (p := ⟨w1.heap.size, 1, Option.none⟩) (by show w1.heap.size < _; omega)).trans qa11_19
    clear qa11_19
    have qs0_20 := (hw20.cell (p := ⟨Bs, 0, Option.none⟩) (by show Bs < _; omega)).trans qs0_19
    clear qs0_19
    have qx00_20 := (hw20.cell (p := ⟨w6.heap.size, 0, Option.none⟩) (by show w6.heap.size < _; omega)).trans qx00_19
    clear qx00_19
    have qx10_20 := (hw20.cell (p := ⟨w8.heap.size, 0, Option.none⟩) (by show w8.heap.size < _; omega)).trans qx10_19
    clear qx10_19
    have qx11_20 := (hw20.cell (p := ⟨w8.heap.size, 1, Option.none⟩) (by show w8.heap.size < _; omega)).trans qx11_19
    clear qx11_19
    have qg0_20 := (hw20.cell (p := ⟨w10.heap.size, 0, Option.none⟩) (by show w10.heap.size < _; omega)).trans qg0_19
    clear qg0_19
    go_wp2_with fail
    refine (markPhrase_ex _ _ _ _ q19 _ fx1_20 (by omega) (by omega) (by omega)).mono ?_
    rintro e w22 ⟨q21, m21, rfl, hq21, hp21, -, hk21, hb22⟩
    have hs21 : m21.heap.size = w20.heap.size := hk21.size
    have hw21 : Below w7.heap.size w20 m21 := hk21.bel
    have hB21 : Below w.heap.size w m21 := hB20.trans (hw21.mono (by omega))
    have H0_21 : RdB m21 w.heap.size (.agg #[.slice A0 xs0.length c0]) xs0 := H0_20.below hw21 (by omega)
    clear H0_20
    have H1_21 : RdP m21 w.heap.size (.agg #[.string xs1.1, .slice A1 xs1.2.length c1]) xs1 := H1_20.below hw21 (by omega)
    clear H1_20
    have fs_21 : RdB m21 w5.heap.size (.agg #[.slice As (((addO xs0 xs1).getD [])).length cs]) ((addO xs0 xs1).getD []) := fs_20.below hw21 (by omega)
    clear fs_20
    have fg_21 : OwB m21 w9.heap.size w10.heap.size (.agg #[.slice Ag (((addO xs0 xs1).getD [])).length cg]) ((addO xs0 xs1).getD []) := fg_20.keep hk21 (by omega)
    clear fg_20
    have fy0_21 : OwB m21 w12.drew.heap.size w14.heap.size (.agg #[.slice Ay0 (xs0).length cy0]) xs0 := fy0_20.keep hk21 (by omega)
    clear fy0_20
    have fy1_21 : OwP m21 w15.drew.heap.size w17.heap.size (.agg #[.string (xs1).1, .slice Ay1 (xs1).2.length cy1]) xs1 := fy1_20.keep hk21 (by omega)
    clear fy1_20
    have qa00_21 := (hw21.cell (p := ⟨w.heap.size, 0, Option.none⟩) (by show w.heap.size < _; omega)).trans qa00_20
    clear qa00_20
    have qa10_21 := (hw21.cell (p := ⟨w1.heap.size, 0, Option.none⟩) (by show w1.heap.size < _; omega)).trans qa10_20
    clear qa10_20
    have qa11_21 := (hw21.cell (p := ⟨w1.heap.size, 1, Option.none⟩) (by show w1.heap.size < _; omega)).trans qa11_20
    clear qa11_20
    have qs0_21 := (World.cell?_of_block (a := ⟨Bs, 0, Option.none⟩) (hk21.block _ (by first | exact .inl (by show Bs < _; omega) | exact .inr (by show _ ≤ Bs; omega)))).trans qs0_20
    clear qs0_20
    have qx00_21 := (World.cell?_of_block (a := ⟨w6.heap.size, 0, Option.none⟩) (hk21.block _ (by first | exact .inl (by show w6.heap.size < _; omega) | exact .inr (by show _ ≤ w6.heap.size; omega)))).trans qx00_20
    clear qx00_20
    have qx10_21 := (World.cell?_of_block (a := ⟨w8.heap.size, 0, Option.none⟩) (hk21.block _ (by first | exact .inl (by show w8.heap.size < _; omega) | exact .inr (by show _ ≤ w8.heap.size; omega)))).trans qx10_20
    clear qx10_20
    have qx11_21 := (World.cell?_of_block (a := ⟨w8.heap.size, 1, Option.none⟩) (hk21.block _ (by first | exact .inl (by show w8.heap.size < _; omega) | exact .inr (by show _ ≤ w8.heap.size; omega)))).trans qx11_20
    clear qx11_20
    have qg0_21 := (World.cell?_of_block (a := ⟨w10.heap.size, 0, Option.none⟩) (hk21.block _ (by first | exact .inl (by show w10.heap.size < _; omega) | exact .inr (by show _ ≤ w10.heap.size; omega)))).trans qg0_20
    clear qg0_20
    have hw22 : Below m21.heap.size m21 w22 := hb22
    have hs22 : m21.heap.size ≤ w22.heap.size := hw22.size
    have hB22 : Below w.heap.size w w22 := hB21.trans (hw22.mono (by omega))
    have H0_22 : RdB w22 w.heap.size (.agg #[.slice A0 xs0.length c0]) xs0 := H0_21.below hw22 (by omega)
    clear H0_21
    have H1_22 : RdP w22 w.heap.size (.agg #[.string xs1.1, .slice A1 xs1.2.length c1]) xs1 := H1_21.below hw22 (by omega)
    clear H1_21
    have fs_22 : RdB w22 w5.heap.size (.agg #[.slice As (((addO xs0 xs1).getD [])).length cs]) ((addO xs0 xs1).getD []) := fs_21.below hw22 (by omega)
    clear fs_21
    have fg_22 : OwB w22 w9.heap.size w10.heap.size (.agg #[.slice Ag (((addO xs0 xs1).getD [])).length cg]) ((addO xs0 xs1).getD []) := fg_21.below hw22 (by omega)
    clear fg_21
    have fy0_22 : OwB w22 w12.drew.heap.size w14.heap.size (.agg #[.slice Ay0 (xs0).length cy0]) xs0 := fy0_21.below hw22 (by omega)
    clear fy0_21
    have fy1_22 : OwP w22 w15.drew.heap.size w17.heap.size (.agg #[.string (xs1).1, .slice Ay1 (xs1).2.length cy1]) xs1 := fy1_21.below hw22 (by omega)
    clear fy1_21
    have qa00_22 := (hw22.cell (p := ⟨w.heap.size, 0, Option.none⟩) (by show w.heap.size < _; omega)).trans qa00_21
    clear qa00_21
    have qa10_22 := (hw22.cell (p := ⟨w1.heap.size, 0, Option.none⟩) (by show w1.heap.size < _; omega)).trans qa10_21
    clear qa10_21
    have qa11_22 := (hw22.cell (p := ⟨w1.heap.size, 1, Option.none⟩) (by show w1.heap.size < _; omega)).trans qa11_21
    clear qa11_21
    have qs0_22 := (hw22.cell (p := ⟨Bs, 0, Option.none⟩) (by show Bs < _; omega)).trans qs0_21
    clear qs0_21
    have qx00_22 := (hw22.cell (p := ⟨w6.heap.size, 0, Option.none⟩) (by show w6.heap.size < _; omega)).trans qx00_21
    clear qx00_21
    have qx10_22 := (hw22.cell (p := ⟨w8.heap.size, 0, Option.none⟩) (by show w8.heap.size < _; omega)).trans qx10_21
    clear qx10_21
    have qx11_22 := (hw22.cell (p := ⟨w8.heap.size, 1, Option.none⟩) (by show w8.heap.size < _; omega)).trans qx11_21
    clear qx11_21
    have qg0_22 := (hw22.cell (p := ⟨w10.heap.size, 0, Option.none⟩) (by show w10.heap.size < _; omega)).trans qg0_21
    clear qg0_21
    go_wp2_with fail
    refine (eqBook_sameB _ _ _ _ _ _ fg_22.rd fs_22).mono ?_
    rintro e w23 ⟨rfl, hb23⟩
    have hw23 : Below w22.heap.size w22 w23 := hb23
    have hs23 : w22.heap.size ≤ w23.heap.size := hw23.size
    have hB23 : Below w.heap.size w w23 := hB22.trans (hw23.mono (by omega))
    have H0_23 : RdB w23 w.heap.size (.agg #[.slice A0 xs0.length c0]) xs0 := H0_22.below hw23 (by omega)
    clear H0_22
    have H1_23 : RdP w23 w.heap.size (.agg #[.string xs1.1, .slice A1 xs1.2.length c1]) xs1 := H1_22.below hw23 (by omega)
    clear H1_22
    have fs_23 : RdB w23 w5.heap.size (.agg #[.slice As (((addO xs0 xs1).getD [])).length cs]) ((addO xs0 xs1).getD []) := fs_22.below hw23 (by omega)
    clear fs_22
    have fg_23 : OwB w23 w9.heap.size w10.heap.size (.agg #[.slice Ag (((addO xs0 xs1).getD [])).length cg]) ((addO xs0 xs1).getD []) := fg_22.below hw23 (by omega)
    clear fg_22
    have fy0_23 : OwB w23 w12.drew.heap.size w14.heap.size (.agg #[.slice Ay0 (xs0).length cy0]) xs0 := fy0_22.below hw23 (by omega)
    clear fy0_22
    have fy1_23 : OwP w23 w15.drew.heap.size w17.heap.size (.agg #[.string (xs1).1, .slice Ay1 (xs1).2.length cy1]) xs1 := fy1_22.below hw23 (by omega)
    clear fy1_22
    have qa00_23 := (hw23.cell (p := ⟨w.heap.size, 0, Option.none⟩) (by show w.heap.size < _; omega)).trans qa00_22
    clear qa00_22
    have qa10_23 := (hw23.cell (p := ⟨w1.heap.size, 0, Option.none⟩) (by show w1.heap.size < _; omega)).trans qa10_22
    clear qa10_22
    have qa11_23 := (hw23.cell (p := ⟨w1.heap.size, 1, Option.none⟩) (by show w1.heap.size < _; omega)).trans qa11_22
    clear qa11_22
    have qs0_23 := (hw23.cell (p := ⟨Bs, 0, Option.none⟩) (by show Bs < _; omega)).trans qs0_22
    clear qs0_22
    have qx00_23 := (hw23.cell (p := ⟨w6.heap.size, 0, Option.none⟩) (by show w6.heap.size < _; omega)).trans qx00_22
    clear qx00_22
    have qx10_23 := (hw23.cell (p := ⟨w8.heap.size, 0, Option.none⟩) (by show w8.heap.size < _; omega)).trans qx10_22
    clear qx10_22
    have qx11_23 := (hw23.cell (p := ⟨w8.heap.size, 1, Option.none⟩) (by show w8.heap.size < _; omega)).trans qx11_22
    clear qx11_22
    have qg0_23 := (hw23.cell (p := ⟨w10.heap.size, 0, Option.none⟩) (by show w10.heap.size < _; omega)).trans qg0_22
    clear qg0_22
    go_wp2_with fail
    refine (markBook_g _ _ _ _ 1 _ fg_23 (by omega) (by omega) (by omega) (by omega)).mono ?_
    rintro e w25 ⟨rfl, fgm25, hkg24⟩
    obtain ⟨m24, hk24, hb25⟩ := hkg24.split
    have hs24 : m24.heap.size = w23.heap.size := hk24.size
    have hw24 : Below w9.heap.size w23 m24 := hk24.bel
    have hB24 : Below w.heap.size w m24 := hB23.trans (hw24.mono (by omega))
    have H0_24 : RdB m24 w.heap.size (.agg #[.slice A0 xs0.length c0]) xs0 := H0_23.below hw24 (by omega)
    clear H0_23
    have H1_24 : RdP m24 w.heap.size (.agg #[.string xs1.1, .slice A1 xs1.2.length c1]) xs1 := H1_23.below hw24 (by omega)
    clear H1_23
    have fs_24 : RdB m24 w5.heap.size (.agg #[.slice As (((addO xs0 xs1).getD [])).length cs]) ((addO xs0 xs1).getD []) := fs_23.below hw24 (by omega)
    clear fs_23
    have fy0_24 : OwB m24 w12.drew.heap.size w14.heap.size (.agg #[.slice Ay0 (xs0).length cy0]) xs0 := fy0_23.keep hk24 (by omega)
    clear fy0_23
    have fy1_24 : OwP m24 w15.drew.heap.size w17.heap.size (.agg #[.string (xs1).1, .slice Ay1 (xs1).2.length cy1]) xs1 := fy1_23.keep hk24 (by omega)
    clear fy1_23
    have qa00_24 := (hw24.cell (p := ⟨w.heap.size, 0, Option.none⟩) (by show w.heap.size < _; omega)).trans qa00_23
    clear qa00_23
    have qa10_24 := (hw24.cell (p := ⟨w1.heap.size, 0, Option.none⟩) (by show w1.heap.size < _; omega)).trans qa10_23
    clear qa10_23
    have qa11_24 := (hw24.cell (p := ⟨w1.heap.size, 1, Option.none⟩) (by show w1.heap.size < _; omega)).trans qa11_23
    clear qa11_23
    have qs0_24 := (World.cell?_of_block (a := ⟨Bs, 0, Option.none⟩) (hk24.block _ (by first | exact .inl (by show Bs < _; omega) | exact .inr (by show _ ≤ Bs; omega)))).trans qs0_23
    clear qs0_23
    have qx00_24 := (World.cell?_of_block (a := ⟨w6.heap.size, 0, Option.none⟩) (hk24.block _ (by first | exact .inl (by show w6.heap.size < _; omega) | exact .inr (by show _ ≤ w6.heap.size; omega)))).trans qx00_23
    clear qx00_23
    have qx10_24 := (World.cell?_of_block (a := ⟨w8.heap.size, 0, Option.none⟩) (hk24.block _ (by first | exact .inl (by show w8.heap.size < _; omega) | exact .inr (by show _ ≤ w8.heap.size; omega)))).trans qx10_23
    clear qx10_23
    have qx11_24 := (World.cell?_of_block (a := ⟨w8.heap.size, 1, Option.none⟩) (hk24.block _ (by first | exact .inl (by show w8.heap.size < _; omega) | exact .inr (by show _ ≤ w8.heap.size; omega)))).trans qx11_23
    clear qx11_23
    have qg0_24 := (World.cell?_of_block (a := ⟨w10.heap.size, 0, Option.none⟩) (hk24.block _ (by first | exact .inl (by show w10.heap.size < _; omega) | exact .inr (by show _ ≤ w10.heap.size; omega)))).trans qg0_23
    clear qg0_23
    have hw25 : Below m24.heap.size m24 w25 := hb25
    have hs25 : m24.heap.size ≤ w25.heap.size := hw25.size
    have hB25 : Below w.heap.size w w25 := hB24.trans (hw25.mono (by omega))
    have H0_25 : RdB w25 w.heap.size (.agg #[.slice A0 xs0.length c0]) xs0 := H0_24.below hw25 (by omega)
    clear H0_24
    have H1_25 : RdP w25 w.heap.size (.agg #[.string xs1.1, .slice A1 xs1.2.length c1]) xs1 := H1_24.below hw25 (by omega)
    clear H1_24
    have fs_25 : RdB w25 w5.heap.size (.agg #[.slice As (((addO xs0 xs1).getD [])).length cs]) ((addO xs0 xs1).getD []) := fs_24.below hw25 (by omega)
    clear fs_24
    have fy0_25 : OwB w25 w12.drew.heap.size w14.heap.size (.agg #[.slice Ay0 (xs0).length cy0]) xs0 := fy0_24.below hw25 (by omega)
    clear fy0_24
    have fy1_25 : OwP w25 w15.drew.heap.size w17.heap.size (.agg #[.string (xs1).1, .slice Ay1 (xs1).2.length cy1]) xs1 := fy1_24.below hw25 (by omega)
    clear fy1_24
    have qa00_25 := (hw25.cell (p := ⟨w.heap.size, 0, Option.none⟩) (by show w.heap.size < _; omega)).trans qa00_24
    clear qa00_24
    have qa10_25 := (hw25.cell (p := ⟨w1.heap.size, 0, Option.none⟩) (by show w1.heap.size < _; omega)).trans qa10_24
    clear qa10_24
    have qa11_25 := (hw25.cell (p := ⟨w1.heap.size, 1, Option.none⟩) (by show w1.heap.size < _; omega)).trans qa11_24
    clear qa11_24
    have qs0_25 := (hw25.cell (p := ⟨Bs, 0, Option.none⟩) (by show Bs < _; omega)).trans qs0_24
    clear qs0_24
    have qx00_25 := (hw25.cell (p := ⟨w6.heap.size, 0, Option.none⟩) (by show w6.heap.size < _; omega)).trans qx00_24
    clear qx00_24
    have qx10_25 := (hw25.cell (p := ⟨w8.heap.size, 0, Option.none⟩) (by show w8.heap.size < _; omega)).trans qx10_24
    clear qx10_24
    have qx11_25 := (hw25.cell (p := ⟨w8.heap.size, 1, Option.none⟩) (by show w8.heap.size < _; omega)).trans qx11_24
    clear qx11_24
    have qg0_25 := (hw25.cell (p := ⟨w10.heap.size, 0, Option.none⟩) (by show w10.heap.size < _; omega)).trans qg0_24
    clear qg0_24
    go_wp2_with fail
    refine (heldBook_any (((addO xs0 xs1).getD [])) _ _ 1 _ fgm25.rd (by omega) (by omega) (by omega) (by omega)).mono ?_
    rintro e w26 ⟨rfl, hb26⟩
    have hw26 : Below w25.heap.size w25 w26 := hb26
    have hs26 : w25.heap.size ≤ w26.heap.size := hw26.size
    have hB26 : Below w.heap.size w w26 := hB25.trans (hw26.mono (by omega))
    have H0_26 : RdB w26 w.heap.size (.agg #[.slice A0 xs0.length c0]) xs0 := H0_25.below hw26 (by omega)
    clear H0_25
    have H1_26 : RdP w26 w.heap.size (.agg #[.string xs1.1, .slice A1 xs1.2.length c1]) xs1 := H1_25.below hw26 (by omega)
    clear H1_25
    have fs_26 : RdB w26 w5.heap.size (.agg #[.slice As (((addO xs0 xs1).getD [])).length cs]) ((addO xs0 xs1).getD []) := fs_25.below hw26 (by omega)
    clear fs_25
    have fg_26 : OwB w26 w9.heap.size w10.heap.size (.agg #[.slice Ag (((addO xs0 xs1).getD [])).length cg]) (marksB 1 (((addO xs0 xs1).getD []))) := fgm25.below hw26 (by omega)
    clear fgm25
    have fy0_26 : OwB w26 w12.drew.heap.size w14.heap.size (.agg #[.slice Ay0 (xs0).length cy0]) xs0 := fy0_25.below hw26 (by omega)
    clear fy0_25
    have fy1_26 : OwP w26 w15.drew.heap.size w17.heap.size (.agg #[.string (xs1).1, .slice Ay1 (xs1).2.length cy1]) xs1 := fy1_25.below hw26 (by omega)
    clear fy1_25
    have qa00_26 := (hw26.cell (p := ⟨w.heap.size, 0, Option.none⟩) (by show w.heap.size < _; omega)).trans qa00_25
    clear qa00_25
    have qa10_26 := (hw26.cell (p := ⟨w1.heap.size, 0, Option.none⟩) (by show w1.heap.size < _; omega)).trans qa10_25
    clear qa10_25
    have qa11_26 := (hw26.cell (p := ⟨w1.heap.size, 1, Option.none⟩) (by show w1.heap.size < _; omega)).trans qa11_25
    clear qa11_25
    have qs0_26 := (hw26.cell (p := ⟨Bs, 0, Option.none⟩) (by show Bs < _; omega)).trans qs0_25
    clear qs0_25
    have qx00_26 := (hw26.cell (p := ⟨w6.heap.size, 0, Option.none⟩) (by show w6.heap.size < _; omega)).trans qx00_25
    clear qx00_25
    have qx10_26 := (hw26.cell (p := ⟨w8.heap.size, 0, Option.none⟩) (by show w8.heap.size < _; omega)).trans qx10_25
    clear qx10_25
    have qx11_26 := (hw26.cell (p := ⟨w8.heap.size, 1, Option.none⟩) (by show w8.heap.size < _; omega)).trans qx11_25
    clear qx11_25
    have qg0_26 := (hw26.cell (p := ⟨w10.heap.size, 0, Option.none⟩) (by show w10.heap.size < _; omega)).trans qg0_25
    clear qg0_25
    go_upto_region 31 with fail
    go_cut [15, 16] (fun p q wx => ∃ (Bt : Nat) (At : Option Addr) (ct : Nat), p = .pointer (some ⟨Bt, 0, Option.none⟩) ∧ q = .bool (addO xs0 xs1).isSome ∧ w26.heap.size ≤ Bt ∧ Bt < wx.heap.size ∧ Hid (wx.cell? ⟨Bt, 0, Option.none⟩ = some (.slice At (((addO xs0 xs1).getD [])).length ct)) ∧ Hid (RdB wx wx.heap.size (.agg #[.slice At (((addO xs0 xs1).getD [])).length ct]) (((addO xs0 xs1).getD []))) ∧ Hid (Below w26.heap.size w26 wx))
    case first =>
      have HD : Hid (Below w26.heap.size w26 w26.drew) := (Below.refl _ _).drew
      have HDN : Hid (Below w26.heap.size w26 (w26.alloc (.cells #[.slice Option.none 0 0] 28)).drew) := ((Below.refl _ _).alloc (Nat.le_refl _) _).drew
      have HXN : Hid (Blk (w26.alloc (.cells #[.slice Option.none 0 0] 28)).drew w26.heap.size 28 [.slice Option.none 0 0] ∧ w26.heap.size ≤ w26.heap.size) := ⟨Blk.new w26 28 #[.slice Option.none 0 0], Nat.le_refl _⟩
      have hwc : w.heap.size ≤ w26.heap.size := by omega
      have HS0 : Hid (∀ W, Below w26.heap.size w26 W → RdB W w.heap.size (.agg #[.slice A0 xs0.length c0]) xs0) := fun W hb => H0_26.below hb hwc
      have HS1 : Hid (∀ W, Below w26.heap.size w26 W → RdP W w.heap.size (.agg #[.string xs1.1, .slice A1 xs1.2.length c1]) xs1) := fun W hb => H1_26.below hb hwc
      have LC : Hid (∀ W, Below w26.heap.size w26 W → W.cell? ⟨w.heap.size, 0, Option.none⟩ = some (.slice A0 xs0.length c0) ∧ W.cell? ⟨w1.heap.size, 0, Option.none⟩ = some (.string xs1.1) ∧ W.cell? ⟨w1.heap.size, 1, Option.none⟩ = some (.slice A1 xs1.2.length c1)) := fun W hb => ⟨(hb.cell (p := ⟨w.heap.size, 0, Option.none⟩) (by show w.heap.size < _; omega)).trans qa00_26, (hb.cell (p := ⟨w1.heap.size, 0, Option.none⟩) (by show w1.heap.size < _; omega)).trans qa10_26, (hb.cell (p := ⟨w1.heap.size, 1, Option.none⟩) (by show w1.heap.size < _; omega)).trans qa11_26⟩
      have d0 := (LC.out _ HD.out).1
      have d1 := (LC.out _ HD.out).2.1
      have d2 := (LC.out _ HD.out).2.2
      have e0 := (LC.out _ HDN.out).1
      have e1 := (LC.out _ HDN.out).2.1
      have e2 := (LC.out _ HDN.out).2.2
      clear H0_26 H1_26 fs_26 fg_26 fy0_26 fy1_26 qa00_26 qa10_26 qa11_26 qs0_26 qx00_26 qx10_26 qx11_26 qg0_26
      go_wp2_with fail
      go_region_law (first
        | ((go_simp; go_at_call 9; (with_reducible refine (toBook_any xs0 _ w.heap.size _ (HS0.out _ (by first | exact HD.out | exact HDN.out)) hsb0 (Nat.le_trans hwc (Below.size (by first | exact HD.out | exact HDN.out)))).mono ?_); rintro e wA ⟨v5, rfl, fu, hbA⟩; obtain ⟨_, rfl, hgu⟩ := fu; obtain ⟨Au, cu, hvu, _, _⟩ := hgu.rd.form; subst hvu; have HBA : Hid (Below w26.heap.size w26 wA) := (by first | exact HD.out.trans (hbA.mono HD.out.size) | exact HDN.out.trans (hbA.mono HDN.out.size)); have FA : Hid (RdB wA wA.heap.size (.agg #[.slice Au xs0.length cu]) xs0) := ⟨_, rfl, hgu.rd⟩; have HNA : Hid (Below w26.heap.size w26 (wA.alloc (.cells #[.slice Option.none 0 0] 28))) := HBA.out.alloc HBA.out.size _; have HMA : Hid (Below wA.heap.size wA (wA.alloc (.cells #[.slice Option.none 0 0] 28))) := (Below.refl _ _).alloc (Nat.le_refl _) _; have a0 := (LC.out _ HBA.out).1; have a1 := (LC.out _ HBA.out).2.1; have a2 := (LC.out _ HBA.out).2.2; have b0 := (LC.out _ HNA.out).1; have b1 := (LC.out _ HNA.out).2.1; have b2 := (LC.out _ HNA.out).2.2; (first | (have HXA := Lib.hid (And.intro (Blk.below HXN.out.1 hbA HXN.out.1.lt) HXN.out.2)) | skip); have HYA : Hid (Blk (wA.alloc (.cells #[.slice Option.none 0 0] 28)) wA.heap.size 28 [.slice Option.none 0 0] ∧ w26.heap.size ≤ wA.heap.size) := ⟨Blk.new wA 28 #[.slice Option.none 0 0], HBA.out.size⟩; clear hgu hbA))
        | ((go_simp; go_at_call 16; (with_reducible refine (toPhrase_any xs1 _ w.heap.size _ (HS1.out _ (by first | exact HD.out | exact HDN.out)) (Nat.le_trans hwc (Below.size (by first | exact HD.out | exact HDN.out))) hsb1).mono ?_); rintro e wB ⟨v5, rfl, fp, hbB⟩; obtain ⟨_, rfl, hgp, htp⟩ := fp; obtain ⟨Ap, cp, hvp, _, _⟩ := Rd.form hgp.rd; subst hvp; have HBB : Hid (Below w26.heap.size w26 wB) := (by first | exact HD.out.trans (hbB.mono HD.out.size) | exact HDN.out.trans (hbB.mono HDN.out.size)); have FB : Hid (RdP wB wB.heap.size (.agg #[.string xs1.1, .slice Ap xs1.2.length cp]) xs1) := ⟨_, rfl, hgp.rd, htp⟩; have HNB : Hid (Below w26.heap.size w26 (wB.alloc (.cells #[.slice Option.none 0 0] 28))) := HBB.out.alloc HBB.out.size _; have HMB : Hid (Below wB.heap.size wB (wB.alloc (.cells #[.slice Option.none 0 0] 28))) := (Below.refl _ _).alloc (Nat.le_refl _) _; have a0 := (LC.out _ HBB.out).1; have a1 := (LC.out _ HBB.out).2.1; have a2 := (LC.out _ HBB.out).2.2; have b0 := (LC.out _ HNB.out).1; have b1 := (LC.out _ HNB.out).2.1; have b2 := (LC.out _ HNB.out).2.2; (first | (have HXB := Lib.hid (And.intro (Blk.below HXN.out.1 hbB HXN.out.1.lt) HXN.out.2)) | skip); have HYB : Hid (Blk (wB.alloc (.cells #[.slice Option.none 0 0] 28)) wB.heap.size 28 [.slice Option.none 0 0] ∧ w26.heap.size ≤ wB.heap.size) := ⟨Blk.new wB 28 #[.slice Option.none 0 0], HBB.out.size⟩; clear hgp htp hbB))
        | ((go_simp; go_at_call 16; (with_reducible refine (toPhrase_any xs1 _ w.heap.size _ (HS1.out _ (by first | exact HBA.out | exact HNA.out)) (Nat.le_trans hwc (Below.size (by first | exact HBA.out | exact HNA.out))) hsb1).mono ?_); rintro e wC ⟨v6, rfl, fp, hbC⟩; obtain ⟨_, rfl, hgp, htp⟩ := fp; obtain ⟨Ap, cp, hvp, _, _⟩ := Rd.form hgp.rd; subst hvp; have HBC : Hid (Below w26.heap.size w26 wC) := (by first | exact HBA.out.trans (hbC.mono HBA.out.size) | exact HNA.out.trans (hbC.mono HNA.out.size)); have HP1 : Hid (RdP wC wC.heap.size (.agg #[.string xs1.1, .slice Ap xs1.2.length cp]) xs1) := ⟨_, rfl, hgp.rd, htp⟩; have HP0 : Hid (RdB wC wC.heap.size (.agg #[.slice Au xs0.length cu]) xs0) := (by first | exact (FA.out.below hbC (Nat.le_refl _)).mono hbC.size | exact ((FA.out.below HMA.out (Nat.le_refl _)).below hbC HMA.out.size).mono (Nat.le_trans HMA.out.size hbC.size)); have HCN : Hid (Below wC.heap.size wC (wC.alloc (.cells #[.slice Option.none 0 0] 28))) := (Below.refl _ _).alloc (Nat.le_refl _) _; have HYC : Hid (Blk (wC.alloc (.cells #[.slice Option.none 0 0] 28)) wC.heap.size 28 [.slice Option.none 0 0] ∧ w26.heap.size ≤ wC.heap.size) := ⟨Blk.new wC 28 #[.slice Option.none 0 0], HBC.out.size⟩; (first | (have HXC := Lib.hid (And.intro (Blk.below HXA.out.1 hbC HXA.out.1.lt) HXA.out.2)) | (have HXC := Lib.hid (And.intro (Blk.below HYA.out.1 hbC HYA.out.1.lt) HYA.out.2)) | skip); clear hgp htp hbC))
        | ((go_simp; go_at_call 9; (with_reducible refine (toBook_any xs0 _ w.heap.size _ (HS0.out _ (by first | exact HBB.out | exact HNB.out)) hsb0 (Nat.le_trans hwc (Below.size (by first | exact HBB.out | exact HNB.out)))).mono ?_); rintro e wC ⟨v6, rfl, fu, hbC⟩; obtain ⟨_, rfl, hgu⟩ := fu; obtain ⟨Au, cu, hvu, _, _⟩ := hgu.rd.form; subst hvu; have HBC : Hid (Below w26.heap.size w26 wC) := (by first | exact HBB.out.trans (hbC.mono HBB.out.size) | exact HNB.out.trans (hbC.mono HNB.out.size)); have HP0 : Hid (RdB wC wC.heap.size (.agg #[.slice Au xs0.length cu]) xs0) := ⟨_, rfl, hgu.rd⟩; have HP1 : Hid (RdP wC wC.heap.size (.agg #[.string xs1.1, .slice Ap xs1.2.length cp]) xs1) := (by first | exact (FB.out.below hbC (Nat.le_refl _)).mono hbC.size | exact ((FB.out.below HMB.out (Nat.le_refl _)).below hbC HMB.out.size).mono (Nat.le_trans HMB.out.size hbC.size)); have HCN : Hid (Below wC.heap.size wC (wC.alloc (.cells #[.slice Option.none 0 0] 28))) := (Below.refl _ _).alloc (Nat.le_refl _) _; have HYC : Hid (Blk (wC.alloc (.cells #[.slice Option.none 0 0] 28)) wC.heap.size 28 [.slice Option.none 0 0] ∧ w26.heap.size ≤ wC.heap.size) := ⟨Blk.new wC 28 #[.slice Option.none 0 0], HBC.out.size⟩; (first | (have HXC := Lib.hid (And.intro (Blk.below HXB.out.1 hbC HXB.out.1.lt) HXB.out.2)) | (have HXC := Lib.hid (And.intro (Blk.below HYB.out.1 hbC HYB.out.1.lt) HYB.out.2)) | skip); clear hgu hbC))
        | ((go_simp; go_at_call 17; (with_reducible refine (addB_any xs0 xs1 _ _ wC.heap.size wC.heap.size _ hxs1 (by first | exact HP0.out | exact HP0.out.below HCN.out (Nat.le_refl _)) (by first | exact HP1.out | exact HP1.out.below HCN.out (Nat.le_refl _)) (by first | exact Nat.le_refl _ | exact HCN.out.size) (by first | exact Nat.le_refl _ | exact HCN.out.size)).mono ?_); rintro e wE ⟨v7, rfl, fe, hbE⟩; obtain ⟨_, rfl, hge⟩ := fe; obtain ⟨AE, cE, hvE, _, _⟩ := hge.rd.form; subst hvE; have HGE : Hid (∃ lo, OwPS wE lo wE.heap.size (.slice AE (((addO xs0 xs1).getD [])).length cE) (((addO xs0 xs1).getD []))) := ⟨_, hge⟩; have HBE : Hid (Below w26.heap.size w26 wE) := (by first | exact HBC.out.trans (hbE.mono HBC.out.size) | exact (HBC.out.alloc HBC.out.size _).trans (hbE.mono (Nat.le_trans HBC.out.size HCN.out.size))); (first | (have HXE := Lib.hid (And.intro (Blk.below HXC.out.1 hbE HXC.out.1.lt) HXC.out.2)) | (have HXE := Lib.hid (And.intro (Blk.below HYC.out.1 hbE HYC.out.1.lt) HYC.out.2)) | skip); (first | (have hxc := HXE.out.1.cell 0; have hxf := HXE.out.1.frozen 0) | skip); clear hge hbE)))
      all_goals
        go_wp2_with fail
        go_meet
        first
          | exact ⟨_, AE, cE, rfl, rfl, HXE.out.2, by have h := HXE.out.1.lt; simpa [World.setCell] using h, (HXE.out.1.set_ 0 _).cell 0, by obtain ⟨lo, hq⟩ := HGE.out; exact ⟨_, rfl, (hq.far HXE.out.1 _).rd.mono (by simp [World.setCell])⟩, HBE.out.setCell HXE.out.2 _⟩
          | exact ⟨wE.heap.size, AE, cE, rfl, rfl, HBE.out.size, by simp, (Blk.new wE 28 #[.slice AE (((addO xs0 xs1).getD [])).length cE]).cell 0, by obtain ⟨lo, hq⟩ := HGE.out; exact ⟨_, rfl, (hq.rd.below ((Below.refl _ _).alloc (Nat.le_refl _) _ : Below wE.heap.size wE (wE.alloc (.cells #[.slice AE (((addO xs0 xs1).getD [])).length cE] 28))) (Nat.le_refl _)).mono (by simp)⟩, HBE.out.alloc HBE.out.size _⟩
    case rest =>
      rename World => w27
      obtain ⟨Bt, At, ct, rfl, rfl, hlet, hltt, HCft, Fft, HBft⟩ := hcut
      have hb27 := HBft.out
      clear HBft
      have ft_27 := Fft.out
      clear Fft
      have qt0_27 := HCft.out
      clear HCft
      have hw27 : Below w26.heap.size w26 w27 := hb27
      have hs27 : w26.heap.size ≤ w27.heap.size := hw27.size
      have hB27 : Below w.heap.size w w27 := hB26.trans (hw27.mono (by omega))
      have H0_27 : RdB w27 w.heap.size (.agg #[.slice A0 xs0.length c0]) xs0 := H0_26.below hw27 (by omega)
      clear H0_26
      have H1_27 : RdP w27 w.heap.size (.agg #[.string xs1.1, .slice A1 xs1.2.length c1]) xs1 := H1_26.below hw27 (by omega)
      clear H1_26
      have fs_27 : RdB w27 w5.heap.size (.agg #[.slice As (((addO xs0 xs1).getD [])).length cs]) ((addO xs0 xs1).getD []) := fs_26.below hw27 (by omega)
      clear fs_26
      have fg_27 : OwB w27 w9.heap.size w10.heap.size (.agg #[.slice Ag (((addO xs0 xs1).getD [])).length cg]) (marksB 1 (((addO xs0 xs1).getD []))) := fg_26.below hw27 (by omega)
      clear fg_26
      have fy0_27 : OwB w27 w12.drew.heap.size w14.heap.size (.agg #[.slice Ay0 (xs0).length cy0]) xs0 := fy0_26.below hw27 (by omega)
      clear fy0_26
      have fy1_27 : OwP w27 w15.drew.heap.size w17.heap.size (.agg #[.string (xs1).1, .slice Ay1 (xs1).2.length cy1]) xs1 := fy1_26.below hw27 (by omega)
      clear fy1_26
      have qa00_27 := (hw27.cell (p := ⟨w.heap.size, 0, Option.none⟩) (by show w.heap.size < _; omega)).trans qa00_26
      clear qa00_26
      have qa10_27 := (hw27.cell (p := ⟨w1.heap.size, 0, Option.none⟩) (by show w1.heap.size < _; omega)).trans qa10_26
      clear qa10_26
      have qa11_27 := (hw27.cell (p := ⟨w1.heap.size, 1, Option.none⟩) (by show w1.heap.size < _; omega)).trans qa11_26
      clear qa11_26
      have qs0_27 := (hw27.cell (p := ⟨Bs, 0, Option.none⟩) (by show Bs < _; omega)).trans qs0_26
      clear qs0_26
      have qx00_27 := (hw27.cell (p := ⟨w6.heap.size, 0, Option.none⟩) (by show w6.heap.size < _; omega)).trans qx00_26
      clear qx00_26
      have qx10_27 := (hw27.cell (p := ⟨w8.heap.size, 0, Option.none⟩) (by show w8.heap.size < _; omega)).trans qx10_26
      clear qx10_26
      have qx11_27 := (hw27.cell (p := ⟨w8.heap.size, 1, Option.none⟩) (by show w8.heap.size < _; omega)).trans qx11_26
      clear qx11_26
      have qg0_27 := (hw27.cell (p := ⟨w10.heap.size, 0, Option.none⟩) (by show w10.heap.size < _; omega)).trans qg0_26
      clear qg0_26
      go_wp2_with fail
      refine (eqBook_sameB _ _ _ _ _ _ ft_27 fs_27).mono ?_
      rintro e w28 ⟨rfl, hb28⟩
      have hw28 : Below w27.heap.size w27 w28 := hb28
      have hs28 : w27.heap.size ≤ w28.heap.size := hw28.size
      have hB28 : Below w.heap.size w w28 := hB27.trans (hw28.mono (by omega))
      have H0_28 : RdB w28 w.heap.size (.agg #[.slice A0 xs0.length c0]) xs0 := H0_27.below hw28 (by omega)
      clear H0_27
      have H1_28 : RdP w28 w.heap.size (.agg #[.string xs1.1, .slice A1 xs1.2.length c1]) xs1 := H1_27.below hw28 (by omega)
      clear H1_27
      have fs_28 : RdB w28 w5.heap.size (.agg #[.slice As (((addO xs0 xs1).getD [])).length cs]) ((addO xs0 xs1).getD []) := fs_27.below hw28 (by omega)
      clear fs_27
      have fg_28 : OwB w28 w9.heap.size w10.heap.size (.agg #[.slice Ag (((addO xs0 xs1).getD [])).length cg]) (marksB 1 (((addO xs0 xs1).getD []))) := fg_27.below hw28 (by omega)
      clear fg_27
      have fy0_28 : OwB w28 w12.drew.heap.size w14.heap.size (.agg #[.slice Ay0 (xs0).length cy0]) xs0 := fy0_27.below hw28 (by omega)
      clear fy0_27
      have fy1_28 : OwP w28 w15.drew.heap.size w17.heap.size (.agg #[.string (xs1).1, .slice Ay1 (xs1).2.length cy1]) xs1 := fy1_27.below hw28 (by omega)
      clear fy1_27
      have ft_28 : RdB w28 w27.heap.size (.agg #[.slice At (((addO xs0 xs1).getD [])).length ct]) ((addO xs0 xs1).getD []) := ft_27.below hw28 (by omega)
      clear ft_27
      have qa00_28 := (hw28.cell (p := ⟨w.heap.size, 0, Option.none⟩) (by show w.heap.size < _; omega)).trans qa00_27
      clear qa00_27
      have qa10_28 := (hw28.cell (p := ⟨w1.heap.size, 0, Option.none⟩) (by show w1.heap.size < _; omega)).trans qa10_27
      clear qa10_27
      have qa11_28 := (hw28.cell (p := ⟨w1.heap.size, 1, Option.none⟩) (by show w1.heap.size < _; omega)).trans qa11_27
      clear qa11_27
      have qs0_28 := (hw28.cell (p := ⟨Bs, 0, Option.none⟩) (by show Bs < _; omega)).trans qs0_27
      clear qs0_27
      have qx00_28 := (hw28.cell (p := ⟨w6.heap.size, 0, Option.none⟩) (by show w6.heap.size < _; omega)).trans qx00_27
      clear qx00_27
      have qx10_28 := (hw28.cell (p := ⟨w8.heap.size, 0, Option.none⟩) (by show w8.heap.size < _; omega)).trans qx10_27
      clear qx10_27
      have qx11_28 := (hw28.cell (p := ⟨w8.heap.size, 1, Option.none⟩) (by show w8.heap.size < _; omega)).trans qx11_27
      clear qx11_27
      have qg0_28 := (hw28.cell (p := ⟨w10.heap.size, 0, Option.none⟩) (by show w10.heap.size < _; omega)).trans qg0_27
      clear qg0_27
      have qt0_28 := (hw28.cell (p := ⟨Bt, 0, Option.none⟩) (by show Bt < _; omega)).trans qt0_27
      clear qt0_27
      go_wp2_with fail
      refine (heldBook_any (((addO xs0 xs1).getD [])) _ _ 1 _ fg_28.rd (by omega) (by omega) (by omega) (by omega)).mono ?_
      rintro e w29 ⟨rfl, hb29⟩
      have hw29 : Below w28.heap.size w28 w29 := hb29
      have hs29 : w28.heap.size ≤ w29.heap.size := hw29.size
      have hB29 : Below w.heap.size w w29 := hB28.trans (hw29.mono (by omega))
      have H0_29 : RdB w29 w.heap.size (.agg #[.slice A0 xs0.length c0]) xs0 := H0_28.below hw29 (by omega)
      clear H0_28
      have H1_29 : RdP w29 w.heap.size (.agg #[.string xs1.1, .slice A1 xs1.2.length c1]) xs1 := H1_28.below hw29 (by omega)
      clear H1_28
      have fs_29 : RdB w29 w5.heap.size (.agg #[.slice As (((addO xs0 xs1).getD [])).length cs]) ((addO xs0 xs1).getD []) := fs_28.below hw29 (by omega)
      clear fs_28
      have fg_29 : OwB w29 w9.heap.size w10.heap.size (.agg #[.slice Ag (((addO xs0 xs1).getD [])).length cg]) (marksB 1 (((addO xs0 xs1).getD []))) := fg_28.below hw29 (by omega)
      clear fg_28
      have fy0_29 : OwB w29 w12.drew.heap.size w14.heap.size (.agg #[.slice Ay0 (xs0).length cy0]) xs0 := fy0_28.below hw29 (by omega)
      clear fy0_28
      have fy1_29 : OwP w29 w15.drew.heap.size w17.heap.size (.agg #[.string (xs1).1, .slice Ay1 (xs1).2.length cy1]) xs1 := fy1_28.below hw29 (by omega)
      clear fy1_28
      have ft_29 : RdB w29 w27.heap.size (.agg #[.slice At (((addO xs0 xs1).getD [])).length ct]) ((addO xs0 xs1).getD []) := ft_28.below hw29 (by omega)
      clear ft_28
      have qa00_29 := (hw29.cell (p := ⟨w.heap.size, 0, Option.none⟩) (by show w.heap.size < _; omega)).trans qa00_28
      clear qa00_28
      have qa10_29 := (hw29.cell (p := ⟨w1.heap.size, 0, Option.none⟩) (by show w1.heap.size < _; omega)).trans qa10_28
      clear qa10_28
      have qa11_29 := (hw29.cell (p := ⟨w1.heap.size, 1, Option.none⟩) (by show w1.heap.size < _; omega)).trans qa11_28
      clear qa11_28
      have qs0_29 := (hw29.cell (p := ⟨Bs, 0, Option.none⟩) (by show Bs < _; omega)).trans qs0_28
      clear qs0_28
      have qx00_29 := (hw29.cell (p := ⟨w6.heap.size, 0, Option.none⟩) (by show w6.heap.size < _; omega)).trans qx00_28
      clear qx00_28
      have qx10_29 := (hw29.cell (p := ⟨w8.heap.size, 0, Option.none⟩) (by show w8.heap.size < _; omega)).trans qx10_28
      clear qx10_28
      have qx11_29 := (hw29.cell (p := ⟨w8.heap.size, 1, Option.none⟩) (by show w8.heap.size < _; omega)).trans qx11_28
      clear qx11_28
      have qg0_29 := (hw29.cell (p := ⟨w10.heap.size, 0, Option.none⟩) (by show w10.heap.size < _; omega)).trans qg0_28
      clear qg0_28
      have qt0_29 := (hw29.cell (p := ⟨Bt, 0, Option.none⟩) (by show Bt < _; omega)).trans qt0_28
      clear qt0_28
      go_wp2_with fail
      go_ret
      exact ⟨rfl, hB29⟩
end Go.Proofs.Ytjnkdjokbamibaa.fnExactAddPhrase
