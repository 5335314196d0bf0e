/- Proved: FnExactMovementsOf returns true for every list of integers.
   Conditions: none; for every input that the row speaks of. -/
import Derived.Test.YtfkgfioghfmmnaaP
import Derived.Test.YtfkgfioghfmmnaaO
import Derived.Test.YtfkgfioghfmmnaaB5
namespace Go.Proofs.Ytfkgfioghfmmnaa.fnExactMovementsOf
open Go.ChangeShapes Go.WideShapes Go.ChangeAt Go.RowKit
open Go.ChangeMaps (open_string)
set_option linter.unusedVariables false
set_option maxHeartbeats 1600000 in
theorem walk (v0 : Value) (xs0 : List Int) (w : World) (hr0 : RdI w w.heap.size v0 xs0) : Calls Try.prog 10 #[v0] w fun e w' => e = .returned (.bool true) ∧ Below w.heap.size w w' := by
  obtain ⟨A, c, hv0, hc, hm⟩ := Rd.form hr0
  have H := Lib.hid hr0
  clear hr0
  by_cases hbig : 1048576 < xs0.length
  · subst hv0
    go_enter Try.func10, Try.ntmps10
    go_wp2
    go_ret
    exact ⟨rfl, Below.refl _ _⟩
  · have hbig' : xs0.length ≤ 1048576 := by omega
    obtain rfl : v0 = .slice A xs0.length c := hv0
    go_enter Try.func10, Try.ntmps10
    go_wp2_with fail
    refine (toIntS_any xs0 _ w.heap.size _ H.out (by omega) (Nat.le_refl _)).mono ?_
    rintro e w1 ⟨u, rfl, fu, hb1⟩
    have fu_1 : OwI w1 w.heap.size w1.heap.size u xs0 := fu
    have hw1 : Below w.heap.size w w1 := hb1
    have hs1 : w.heap.size ≤ w1.heap.size := hw1.size
    have hB1 : Below w.heap.size w w1 := hw1.mono (by omega)
    have H0_1 : RdI w1 w.heap.size (.slice A xs0.length c) xs0 := H.out.below hw1 (by omega)
    obtain ⟨p, q, hT⟩ : ∃ p q, movesT xs0 = .tuple #[.int .i64 p, .bool q] := by unfold movesT; split <;> exact ⟨_, _, rfl⟩
    have c1 := sMovementsOf_any xs0 u w1.heap.size w1 fu_1.rd (Nat.le_refl _)
    have c2 := fun x hi w h => MovementsOf_any xs0 x hi w h
    rw [hT] at c1
    simp only [hT] at c2
    have C1 := Lib.hid c1
    have C2 := Lib.hid c2
    clear c1 c2 hT
    go_wp2_with fail
    refine (C1.out).mono ?_
    rintro e w2 ⟨rfl, hb2⟩
    have hw2 : Below w1.heap.size w1 w2 := hb2
    have hs2 : w1.heap.size ≤ w2.heap.size := hw2.size
    have hB2 : Below w.heap.size w w2 := hB1.trans (hw2.mono (by omega))
    have H0_2 : RdI w2 w.heap.size (.slice A xs0.length c) xs0 := H0_1.below hw2 (by omega)
    have fu_2 : OwI w2 w.heap.size w1.heap.size u xs0 := fu_1.below hw2 (by omega)
    go_wp2_with fail
    refine (toIntS_any xs0 _ w.heap.size _ H0_2 (by omega) (by omega)).mono ?_
    rintro e w3 ⟨x, rfl, fx, hb3⟩
    have fx_3 : OwI w3 w2.heap.size w3.heap.size x xs0 := fx
    have hw3 : Below w2.heap.size w2 w3 := hb3
    have hs3 : w2.heap.size ≤ w3.heap.size := hw3.size
    have hB3 : Below w.heap.size w w3 := hB2.trans (hw3.mono (by omega))
    have H0_3 : RdI w3 w.heap.size (.slice A xs0.length c) xs0 := H0_2.below hw3 (by omega)
    have fu_3 : OwI w3 w.heap.size w1.heap.size u xs0 := fu_2.below hw3 (by omega)
    go_wp2_with fail
    refine (C2.out x w3.heap.size _ fx_3.rd).mono ?_
    rintro e w' ⟨rfl, rfl⟩
    go_wp2_with fail
    refine (toIntS_any xs0 _ w.heap.size _ H0_3 (by omega) (by omega)).mono ?_
    rintro e w4 ⟨y, rfl, fy, hb4⟩
    have fy_4 : OwI w4 w3.heap.size w4.heap.size y xs0 := fy
    have hw4 : Below w3.heap.size w3 w4 := hb4
    have hs4 : w3.heap.size ≤ w4.heap.size := hw4.size
    have hB4 : Below w.heap.size w w4 := hB3.trans (hw4.mono (by omega))
    have H0_4 : RdI w4 w.heap.size (.slice A xs0.length c) xs0 := H0_3.below hw4 (by omega)
    have fu_4 : OwI w4 w.heap.size w1.heap.size u xs0 := fu_3.below hw4 (by omega)
    have fx_4 : OwI w4 w2.heap.size w3.heap.size x xs0 := fx_3.below hw4 (by omega)
    go_wp2_with fail
    refine (eqIntS_sameB _ _ _ _ _ _ fx_4.rd fy_4.rd).mono ?_
    rintro e w5 ⟨rfl, hb5⟩
    have hw5 : Below w4.heap.size w4 w5 := hb5
    have hs5 : w4.heap.size ≤ w5.heap.size := hw5.size
    have hB5 : Below w.heap.size w w5 := hB4.trans (hw5.mono (by omega))
    have H0_5 : RdI w5 w.heap.size (.slice A xs0.length c) xs0 := H0_4.below hw5 (by omega)
    have fu_5 : OwI w5 w.heap.size w1.heap.size u xs0 := fu_4.below hw5 (by omega)
    have fx_5 : OwI w5 w2.heap.size w3.heap.size x xs0 := fx_4.below hw5 (by omega)
    have fy_5 : OwI w5 w3.heap.size w4.heap.size y xs0 := fy_4.below hw5 (by omega)
    go_wp2_with fail
    go_ret
    exact ⟨rfl, hB5⟩
set_option maxRecDepth 100000 in
theorem lifted (os : Os) (started : os.Started) (H : Type) (enc : TypeId × Value → H) :
    ReturnsInHanded {} Try.checked os 10 .any (Rows.fnExactMovementsOfSpec.pre6 enc Try.prog Try.f10 Rows.fnExactMovementsOfRow.domain false) (Rows.fnExactMovementsOfSpec.post enc Try.prog Try.f10 false true false false) := by
  refine returnsInHanded_of_change (C := Try.checked) own started (by kernel_rfl) Try.func10
    (ChangeSpec.witness6 (enc := enc) (C := Try.checked) false ⟨#[], #[.slice Option.none 0 0], []⟩ 8 (by kernel_rfl) (by kernel_rfl) (by kernel_rfl) (by kernel_rfl)) ?_
  intro W base args ds gs before hval0 hW _ _
  have hval : ∀ (j : Nat) t v, Try.f10.params[j]? = some t → args[j]? = some v → Value.okWide Try.prog W .any base t v := hval0
  have hW' := hW
  obtain ⟨p, q, hA0, hV, rfl, hfz, hnd⟩ := hW
  have hA : DataW.TrodAll enc Try.prog W 0 (fun _ => true) true Try.f10.params.toList args.toList ds p := hA0
  rw [Try.params10] at hA hval
  obtain ⟨v0, vs0, d0, ds0, p0, q0, hargs, rfl, rfl, h0, r0⟩ := trodAll_cons hA
  obtain ⟨rfl, rfl, rfl⟩ := trodAll_nil r0
  obtain rfl : args = #[v0] := by cases args; simp_all
  obtain ⟨rfl, rfl⟩ := trodVars_none hV
  obtain ⟨f0, g0⟩ := h0
  rw [slice_cells Try.underlying28 (hval 0 28 v0 rfl rfl)] at g0
  obtain ⟨xs0, x0⟩ := open_intS g0
  clear hA0 hval0
  refine (walk v0 xs0 W x0).mono fun e W' ⟨he, hb⟩ => ?_
  subst he
  exact ⟨_, rfl, law_post hW' rfl rfl (by kernel_rfl) rfl hb⟩
theorem over : Rows.fnExactMovementsOfRow.holds Try.pinned (OpenSpec.ofChange Rows.fnExactMovementsOfSpec) :=
  OpenClaim.holds_of_wide 10 Try.f10 rfl rfl rfl rfl rfl rfl rfl ⟨rfl, rfl, rfl, rfl, rfl⟩ rfl rfl rfl rfl rfl (by kernel_rfl) Try.func10 (by kernel_rfl)
    (of_decide_eq_true (by kernel_rfl)) (by unfold Func.isWrapper; first | (rw [if_pos (by decide +kernel)]; kernel_rfl) | (rw [if_neg (by decide +kernel)]; exact ⟨rfl, rfl⟩))
    (fun os started H enc _ => lifted os started H enc)
/-- The statement. -/
theorem proved : Rows.FnExactMovementsOfSaid :=
  over
#print axioms proved
end Go.Proofs.Ytfkgfioghfmmnaa.fnExactMovementsOf
