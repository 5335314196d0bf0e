/- Proved: FnExactSumHolds returns true for every list of integers.
   Conditions: none; for every input that the row speaks of. -/
import Derived.Test.YtfkgfioghfmmnaaP
import Derived.Test.YtfkgfioghfmmnaaO
import Derived.Test.YtfkgfioghfmmnaaB3
namespace Go.Proofs.Ytfkgfioghfmmnaa.fnExactSumHolds
open Go.ChangeShapes Go.WideShapes Go.ChangeAt Go.RowKit
open Go.ChangeMaps (open_string)
set_option linter.unusedVariables false
set_option maxHeartbeats 800000 in
theorem walk (v0 : Value) (xs0 : List Int) (w : World) (hr0 : RdI w w.heap.size v0 xs0) : Calls Try.prog 7 #[v0] w fun e w' => e = .returned (.bool true) ∧ Below w.heap.size w w' := by
  obtain ⟨A, c, rfl, hc, hm⟩ := Rd.form hr0
  have H := Lib.hid hr0
  clear hr0
  by_cases hbig : 1048576 < xs0.length
  · go_enter Try.func7, Try.ntmps7
    go_wp2
    go_ret
    exact ⟨rfl, Below.refl _ _⟩
  · go_enter Try.func7, Try.ntmps7
    go_wp2_with fail
    refine (toIntS_any xs0 _ w.heap.size w H.out (by omega) (Nat.le_refl _)).mono ?_
    rintro e w1 ⟨u, rfl, hu, hb1⟩
    have hs1 := hb1.size
    go_wp2_with fail
    obtain ⟨p, q, hT⟩ : ∃ p q, sumHoldsT xs0 = .tuple #[.bool p, .bool q] := by unfold sumHoldsT; split <;> exact ⟨_, _, rfl⟩
    have c1 := sSumHolds_any xs0 u w1.heap.size w1 hu.rd
    have c2 := fun x hi w h => SumHolds_any xs0 x hi w h
    rw [hT] at c1
    simp only [hT] at c2
    have C2 := Lib.hid c2
    clear c2 hT
    refine c1.mono ?_
    rintro e w' ⟨rfl, rfl⟩
    clear c1
    go_wp2_with fail
    refine (toIntS_any xs0 _ w.heap.size w1 (Rd.below H.out hb1 (Nat.le_refl _)) (by omega) hs1).mono ?_
    rintro e w2 ⟨x, rfl, hx, hb2⟩
    have hs2 := hb2.size
    go_wp2_with fail
    refine (C2.out x w2.heap.size w2 hx.rd).mono ?_
    rintro e w' ⟨rfl, rfl⟩
    go_wp2_with fail
    have hb02 := hb1.trans (hb2.mono hs1)
    refine (toIntS_any xs0 _ w.heap.size w2 (Rd.below H.out hb02 (Nat.le_refl _)) (by omega) (by omega)).mono ?_
    rintro e w3 ⟨y, rfl, hy, hb3⟩
    go_wp2_with fail
    refine (eqIntS_same _ _ _ _ _ _ (hx.rd.below hb3 (Nat.le_refl _)) hy.rd).mono ?_
    rintro e w4 ⟨rfl, n4, rfl⟩
    go_wp2_with fail
    go_ret
    exact ⟨rfl, (hb02.trans (hb3.mono (by omega))).trans (bel_drewN _ w3 n4)⟩
set_option maxRecDepth 100000 in
theorem lifted (os : Os) (started : os.Started) (H : Type) (enc : TypeId × Value → H) :
    ReturnsInHanded {} Try.checked os 7 .any (Rows.fnExactSumHoldsSpec.pre6 enc Try.prog Try.f7 Rows.fnExactSumHoldsRow.domain false) (Rows.fnExactSumHoldsSpec.post enc Try.prog Try.f7 false true false false) := by
  refine returnsInHanded_of_change (C := Try.checked) own started (by kernel_rfl) Try.func7
    (ChangeSpec.witness6 (enc := enc) (C := Try.checked) false ⟨#[], #[.slice Option.none 0 0], []⟩ 8 (by kernel_rfl) (by kernel_rfl) (by kernel_rfl) (by kernel_rfl)) ?_
  intro W base args ds gs before hval0 hW _ _
  have hval : ∀ (j : Nat) t v, Try.f7.params[j]? = some t → args[j]? = some v → Value.okWide Try.prog W .any base t v := hval0
  have hW' := hW
  obtain ⟨p, q, hA0, hV, rfl, hfz, hnd⟩ := hW
  have hA : DataW.TrodAll enc Try.prog W 0 (fun _ => true) true Try.f7.params.toList args.toList ds p := hA0
  rw [Try.params7] at hA hval
  obtain ⟨v0, vs0, d0, ds0, p0, q0, hargs, rfl, rfl, h0, r0⟩ := trodAll_cons hA
  obtain ⟨rfl, rfl, rfl⟩ := trodAll_nil r0
  obtain rfl : args = #[v0] := by cases args; simp_all
  obtain ⟨rfl, rfl⟩ := trodVars_none hV
  obtain ⟨f0, g0⟩ := h0
  rw [slice_cells Try.underlying28 (hval 0 28 v0 rfl rfl)] at g0
  obtain ⟨xs0, x0⟩ := open_intS g0
  clear hA0 hval0
  refine (walk v0 xs0 W x0).mono fun e W' ⟨he, hb⟩ => ?_
  subst he
  exact ⟨_, rfl, law_post hW' rfl rfl (by kernel_rfl) rfl hb⟩
theorem over : Rows.fnExactSumHoldsRow.holds Try.pinned (OpenSpec.ofChange Rows.fnExactSumHoldsSpec) :=
  OpenClaim.holds_of_wide 7 Try.f7 rfl rfl rfl rfl rfl rfl rfl ⟨rfl, rfl, rfl, rfl, rfl⟩ rfl rfl rfl rfl rfl (by kernel_rfl) Try.func7 (by kernel_rfl)
    (of_decide_eq_true (by kernel_rfl)) (by unfold Func.isWrapper; first | (rw [if_pos (by decide +kernel)]; kernel_rfl) | (rw [if_neg (by decide +kernel)]; exact ⟨rfl, rfl⟩))
    (fun os started H enc _ => lifted os started H enc)
/-- The statement. -/
theorem proved : Rows.FnExactSumHoldsSaid :=
  over
#print axioms proved
end Go.Proofs.Ytfkgfioghfmmnaa.fnExactSumHolds
