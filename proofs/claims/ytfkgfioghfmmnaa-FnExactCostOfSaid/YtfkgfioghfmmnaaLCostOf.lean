/- Proved: FnExactCostOf returns true for every two lists of integers.
   Conditions: none; for every input that the row speaks of. -/
import Derived.Test.YtfkgfioghfmmnaaP
import Derived.Test.YtfkgfioghfmmnaaO
import Derived.Test.YtfkgfioghfmmnaaB6
namespace Go.Proofs.Ytfkgfioghfmmnaa.fnExactCostOf
open Go.ChangeShapes Go.WideShapes Go.ChangeAt Go.RowKit
open Go.ChangeMaps (open_string)
set_option linter.unusedVariables false
set_option maxHeartbeats 4000000 in
set_option maxRecDepth 100000 in
theorem walk (v0 : Value) (xs0 : List Int) (v1 : Value) (xs1 : List Int) (w : World) (hr0 : RdI w w.heap.size v0 xs0) (hr1 : RdI w w.heap.size v1 xs1) : Calls Try.prog 9 #[v0, v1] w fun e w' => e = .returned (.bool true) ∧ Below w.heap.size w w' := by
  obtain ⟨A0, c0, rfl, hc0, hm0⟩ := Rd.form hr0
  have H0 := Lib.hid hr0
  clear hr0
  obtain ⟨A1, c1, rfl, hc1, hm1⟩ := Rd.form hr1
  have H1 := Lib.hid hr1
  clear hr1
  by_cases hbig0 : 1048576 < xs0.length
  · go_enter Try.func9, Try.ntmps9
    go_wp2
    go_ret
    exact ⟨rfl, Below.refl _ _⟩
  have hsm0 : xs0.length ≤ 1048576 := by omega
  by_cases hbig1 : 1048576 < xs1.length
  · go_enter Try.func9, Try.ntmps9
    go_wp2
    go_ret
    exact ⟨rfl, Below.refl _ _⟩
  have hsm1 : xs1.length ≤ 1048576 := by omega
  go_enter Try.func9, Try.ntmps9
  go_wp2_with fail
  refine (toIntS_any xs0 _ w.heap.size _ H0.out (by omega) (by omega)).mono ?_
  rintro e w1 ⟨u0, rfl, fu0, hb1⟩
  have fu0_1 : OwI w1 w.heap.size w1.heap.size u0 xs0 := fu0
  have hw1 : Below w.heap.size w w1 := hb1
  have hs1 : w.heap.size ≤ w1.heap.size := hw1.size
  have hB1 : Below w.heap.size w w1 := hw1.mono (by omega)
  have H0_1 : RdI w1 w.heap.size (.slice A0 xs0.length c0) xs0 := H0.out.below hw1 (by omega)
  have H1_1 : RdI w1 w.heap.size (.slice A1 xs1.length c1) xs1 := H1.out.below hw1 (by omega)
  go_wp2_with fail
  refine (toIntS_any xs1 _ w.heap.size _ H1_1 (by omega) (by omega)).mono ?_
  rintro e w2 ⟨u1, rfl, fu1, hb2⟩
  have fu1_2 : OwI w2 w1.heap.size w2.heap.size u1 xs1 := fu1
  have hw2 : Below w1.heap.size w1 w2 := hb2
  have hs2 : w1.heap.size ≤ w2.heap.size := hw2.size
  have hB2 : Below w.heap.size w w2 := hB1.trans (hw2.mono (by omega))
  have H0_2 : RdI w2 w.heap.size (.slice A0 xs0.length c0) xs0 := H0_1.below hw2 (by omega)
  have H1_2 : RdI w2 w.heap.size (.slice A1 xs1.length c1) xs1 := H1_1.below hw2 (by omega)
  have fu0_2 : OwI w2 w.heap.size w1.heap.size u0 xs0 := fu0_1.below hw2 (by omega)
  obtain ⟨p, q, hT⟩ : ∃ p q, costT xs0 xs1 = .tuple #[.int .i64 p, .bool q] := by unfold costT; split <;> exact ⟨_, _, rfl⟩
  have c1 := sCostOf_any xs0 xs1 u0 u1 _ _ w2 fu0_2.rd fu1_2.rd
  rw [hT] at c1
  have C1 := Lib.hid c1
  clear c1
  have HT := Lib.hid hT
  clear hT
  go_wp2_with fail
  refine (C1.out).mono ?_
  rintro e w' ⟨rfl, rfl⟩
  go_wp2_with fail
  refine (toIntS_any xs0 _ w.heap.size _ H0_2 (by omega) (by omega)).mono ?_
  rintro e w3 ⟨x0, rfl, fx0, hb3⟩
  have fx0_3 : OwI w3 w2.heap.size w3.heap.size x0 xs0 := fx0
  have hw3 : Below w2.heap.size w2 w3 := hb3
  have hs3 : w2.heap.size ≤ w3.heap.size := hw3.size
  have hB3 : Below w.heap.size w w3 := hB2.trans (hw3.mono (by omega))
  have H0_3 : RdI w3 w.heap.size (.slice A0 xs0.length c0) xs0 := H0_2.below hw3 (by omega)
  have H1_3 : RdI w3 w.heap.size (.slice A1 xs1.length c1) xs1 := H1_2.below hw3 (by omega)
  have fu0_3 : OwI w3 w.heap.size w1.heap.size u0 xs0 := fu0_2.below hw3 (by omega)
  have fu1_3 : OwI w3 w1.heap.size w2.heap.size u1 xs1 := fu1_2.below hw3 (by omega)
  go_wp2_with fail
  refine (toIntS_any xs1 _ w.heap.size _ H1_3 (by omega) (by omega)).mono ?_
  rintro e w4 ⟨x1, rfl, fx1, hb4⟩
  have fx1_4 : OwI w4 w3.heap.size w4.heap.size x1 xs1 := fx1
  have hw4 : Below w3.heap.size w3 w4 := hb4
  have hs4 : w3.heap.size ≤ w4.heap.size := hw4.size
  have hB4 : Below w.heap.size w w4 := hB3.trans (hw4.mono (by omega))
  have H0_4 : RdI w4 w.heap.size (.slice A0 xs0.length c0) xs0 := H0_3.below hw4 (by omega)
  have H1_4 : RdI w4 w.heap.size (.slice A1 xs1.length c1) xs1 := H1_3.below hw4 (by omega)
  have fu0_4 : OwI w4 w.heap.size w1.heap.size u0 xs0 := fu0_3.below hw4 (by omega)
  have fu1_4 : OwI w4 w1.heap.size w2.heap.size u1 xs1 := fu1_3.below hw4 (by omega)
  have fx0_4 : OwI w4 w2.heap.size w3.heap.size x0 xs0 := fx0_3.below hw4 (by omega)
  have c2 := CostOf_any xs0 xs1 x0 x1 _ _ w4 fx0_4.rd fx1_4.rd
  rw [HT.out] at c2
  have C2 := Lib.hid c2
  clear c2
  go_wp2_with fail
  refine (C2.out).mono ?_
  rintro e w' ⟨rfl, rfl⟩
  go_wp2_with fail
  refine (toIntS_any xs0 _ w.heap.size _ H0_4 (by omega) (by omega)).mono ?_
  rintro e w5 ⟨y0, rfl, fy0, hb5⟩
  have fy0_5 : OwI w5 w4.heap.size w5.heap.size y0 xs0 := fy0
  have hw5 : Below w4.heap.size w4 w5 := hb5
  have hs5 : w4.heap.size ≤ w5.heap.size := hw5.size
  have hB5 : Below w.heap.size w w5 := hB4.trans (hw5.mono (by omega))
  have H0_5 : RdI w5 w.heap.size (.slice A0 xs0.length c0) xs0 := H0_4.below hw5 (by omega)
  have H1_5 : RdI w5 w.heap.size (.slice A1 xs1.length c1) xs1 := H1_4.below hw5 (by omega)
  have fu0_5 : OwI w5 w.heap.size w1.heap.size u0 xs0 := fu0_4.below hw5 (by omega)
  have fu1_5 : OwI w5 w1.heap.size w2.heap.size u1 xs1 := fu1_4.below hw5 (by omega)
  have fx0_5 : OwI w5 w2.heap.size w3.heap.size x0 xs0 := fx0_4.below hw5 (by omega)
  have fx1_5 : OwI w5 w3.heap.size w4.heap.size x1 xs1 := fx1_4.below hw5 (by omega)
  go_wp2_with fail
  refine (eqIntS_sameB _ _ _ _ _ _ fx0_5.rd fy0_5.rd).mono ?_
  rintro e w6 ⟨rfl, hb6⟩
  have hw6 : Below w5.heap.size w5 w6 := hb6
  have hs6 : w5.heap.size ≤ w6.heap.size := hw6.size
  have hB6 : Below w.heap.size w w6 := hB5.trans (hw6.mono (by omega))
  have H0_6 : RdI w6 w.heap.size (.slice A0 xs0.length c0) xs0 := H0_5.below hw6 (by omega)
  have H1_6 : RdI w6 w.heap.size (.slice A1 xs1.length c1) xs1 := H1_5.below hw6 (by omega)
  have fu0_6 : OwI w6 w.heap.size w1.heap.size u0 xs0 := fu0_5.below hw6 (by omega)
  have fu1_6 : OwI w6 w1.heap.size w2.heap.size u1 xs1 := fu1_5.below hw6 (by omega)
  have fx0_6 : OwI w6 w2.heap.size w3.heap.size x0 xs0 := fx0_5.below hw6 (by omega)
  have fx1_6 : OwI w6 w3.heap.size w4.heap.size x1 xs1 := fx1_5.below hw6 (by omega)
  have fy0_6 : OwI w6 w4.heap.size w5.heap.size y0 xs0 := fy0_5.below hw6 (by omega)
  go_wp2_with fail
  refine (toIntS_any xs1 _ w.heap.size _ H1_6 (by omega) (by omega)).mono ?_
  rintro e w7 ⟨y1, rfl, fy1, hb7⟩
  have fy1_7 : OwI w7 w6.heap.size w7.heap.size y1 xs1 := fy1
  have hw7 : Below w6.heap.size w6 w7 := hb7
  have hs7 : w6.heap.size ≤ w7.heap.size := hw7.size
  have hB7 : Below w.heap.size w w7 := hB6.trans (hw7.mono (by omega))
  have H0_7 : RdI w7 w.heap.size (.slice A0 xs0.length c0) xs0 := H0_6.below hw7 (by omega)
  have H1_7 : RdI w7 w.heap.size (.slice A1 xs1.length c1) xs1 := H1_6.below hw7 (by omega)
  have fu0_7 : OwI w7 w.heap.size w1.heap.size u0 xs0 := fu0_6.below hw7 (by omega)
  have fu1_7 : OwI w7 w1.heap.size w2.heap.size u1 xs1 := fu1_6.below hw7 (by omega)
  have fx0_7 : OwI w7 w2.heap.size w3.heap.size x0 xs0 := fx0_6.below hw7 (by omega)
  have fx1_7 : OwI w7 w3.heap.size w4.heap.size x1 xs1 := fx1_6.below hw7 (by omega)
  have fy0_7 : OwI w7 w4.heap.size w5.heap.size y0 xs0 := fy0_6.below hw7 (by omega)
  go_wp2_with fail
  refine (eqIntS_sameB _ _ _ _ _ _ fx1_7.rd fy1_7.rd).mono ?_
  rintro e w8 ⟨rfl, hb8⟩
  have hw8 : Below w7.heap.size w7 w8 := hb8
  have hs8 : w7.heap.size ≤ w8.heap.size := hw8.size
  have hB8 : Below w.heap.size w w8 := hB7.trans (hw8.mono (by omega))
  have H0_8 : RdI w8 w.heap.size (.slice A0 xs0.length c0) xs0 := H0_7.below hw8 (by omega)
  have H1_8 : RdI w8 w.heap.size (.slice A1 xs1.length c1) xs1 := H1_7.below hw8 (by omega)
  have fu0_8 : OwI w8 w.heap.size w1.heap.size u0 xs0 := fu0_7.below hw8 (by omega)
  have fu1_8 : OwI w8 w1.heap.size w2.heap.size u1 xs1 := fu1_7.below hw8 (by omega)
  have fx0_8 : OwI w8 w2.heap.size w3.heap.size x0 xs0 := fx0_7.below hw8 (by omega)
  have fx1_8 : OwI w8 w3.heap.size w4.heap.size x1 xs1 := fx1_7.below hw8 (by omega)
  have fy0_8 : OwI w8 w4.heap.size w5.heap.size y0 xs0 := fy0_7.below hw8 (by omega)
  have fy1_8 : OwI w8 w6.heap.size w7.heap.size y1 xs1 := fy1_7.below hw8 (by omega)
  go_wp2_with fail
  go_ret
  exact ⟨rfl, hB8⟩
set_option maxRecDepth 100000 in
theorem lifted (os : Os) (started : os.Started) (H : Type) (enc : TypeId × Value → H) :
    ReturnsInHanded {} Try.checked os 9 .any (Rows.fnExactCostOfSpec.pre6 enc Try.prog Try.f9 Rows.fnExactCostOfRow.domain false) (Rows.fnExactCostOfSpec.post enc Try.prog Try.f9 false true false false) := by
  refine returnsInHanded_of_change (C := Try.checked) own started (by kernel_rfl) Try.func9
    (ChangeSpec.witness6 (enc := enc) (C := Try.checked) false ⟨#[], #[.slice Option.none 0 0, .slice Option.none 0 0], []⟩ 8 (by kernel_rfl) (by kernel_rfl) (by kernel_rfl) (by kernel_rfl)) ?_
  intro W base args ds gs before hval0 hW _ _
  have hval : ∀ (j : Nat) t v, Try.f9.params[j]? = some t → args[j]? = some v → Value.okWide Try.prog W .any base t v := hval0
  have hW' := hW
  obtain ⟨p, q, hA0, hV, rfl, hfz, hnd⟩ := hW
  have hA : DataW.TrodAll enc Try.prog W 0 (fun _ => true) true Try.f9.params.toList args.toList ds p := hA0
  rw [Try.params9] at hA hval
  obtain ⟨v0, vs0, d0, ds0, p0, q0, hargs, rfl, rfl, h0, r0⟩ := trodAll_cons hA
  obtain ⟨v1, vs1, d1, ds1, p1, q1, rfl, rfl, rfl, h1, r1⟩ := trodAll_cons r0
  obtain ⟨rfl, rfl, rfl⟩ := trodAll_nil r1
  obtain rfl : args = #[v0, v1] := by cases args; simp_all
  obtain ⟨rfl, rfl⟩ := trodVars_none hV
  obtain ⟨f0, g0⟩ := h0
  rw [slice_cells Try.underlying28 (hval 0 28 v0 rfl rfl)] at g0
  obtain ⟨xs0, x0⟩ := open_intS g0
  obtain ⟨f1, g1⟩ := h1
  rw [slice_cells Try.underlying28 (hval 1 28 v1 rfl rfl)] at g1
  obtain ⟨xs1, x1⟩ := open_intS g1
  clear hA0 hval0
  refine (walk v0 xs0 v1 xs1 W x0 x1).mono fun e W' ⟨he, hb⟩ => ?_
  subst he
  exact ⟨_, rfl, law_post hW' rfl rfl (by kernel_rfl) rfl hb⟩
theorem over : Rows.fnExactCostOfRow.holds Try.pinned (OpenSpec.ofChange Rows.fnExactCostOfSpec) :=
  OpenClaim.holds_of_wide 9 Try.f9 rfl rfl rfl rfl rfl rfl rfl ⟨rfl, rfl, rfl, rfl, rfl⟩ rfl rfl rfl rfl rfl (by kernel_rfl) Try.func9 (by kernel_rfl)
    (of_decide_eq_true (by kernel_rfl)) (by unfold Func.isWrapper; first | (rw [if_pos (by decide +kernel)]; kernel_rfl) | (rw [if_neg (by decide +kernel)]; exact ⟨rfl, rfl⟩))
    (fun os started H enc _ => lifted os started H enc)
/-- The statement. -/
theorem proved : Rows.FnExactCostOfSaid :=
  over
#print axioms proved
end Go.Proofs.Ytfkgfioghfmmnaa.fnExactCostOf
