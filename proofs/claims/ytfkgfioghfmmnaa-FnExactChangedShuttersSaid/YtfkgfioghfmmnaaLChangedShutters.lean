/- Proved: FnExactChangedShutters returns true for every two integers.
   Conditions: none; for every input that the row speaks of. -/
import Derived.Test.YtfkgfioghfmmnaaP
import Derived.Test.YtfkgfioghfmmnaaB2
namespace Go.Proofs.Ytfkgfioghfmmnaa.fnExactChangedShutters
open Go.ChangeShapes Go.WideShapes Go.ChangeAt Go.RowKit
open Go.ChangeMaps (open_string)
set_option linter.unusedVariables false
set_option maxHeartbeats 800000 in
theorem walk (a0 : Int) (w0 : (Lit.int .i64 a0).wf = true) (a1 : Int) (w1 : (Lit.int .i64 a1).wf = true) (w : World) : Calls Try.prog 5 #[.int .i64 a0, .int .i64 a1] w fun e w' => e = .returned (.bool true) ∧ Below w.heap.size w w' := by
  have hlen := changedL_len a0 a1
  go_enter Try.func5, Try.ntmps5
  go_wp2_with fail
  refine (sChangedShutters_any a0 a1 _).mono ?_
  rintro e w1 ⟨u, rfl, hu, hb1⟩
  go_wp2_with fail
  refine (ChangedShutters_any a0 a1 _).mono ?_
  rintro e w2 ⟨v, rfl, hv, hb2⟩
  have hs1 := hb1.size
  have hs2 := hb2.size
  go_wp2_with fail
  refine (eqIntS_same _ _ _ _ _ _ hv.rd (hu.rd.below hb2 (Nat.le_refl _))).mono ?_
  rintro e w3 ⟨rfl, n3, rfl⟩
  go_wp2_with fail
  refine (markIntS_any _ v w1.heap.size w2.heap.size 1 (w2.drewN n3) hv (by omega) (by omega)).mono ?_
  rintro e w4 ⟨rfl, hv4, hk4⟩
  go_wp2_with fail
  refine (heldIntS_any _ v w2.heap.size 1 w4 hv4.rd (by omega) (by omega)).mono ?_
  rintro e w5 ⟨rfl, rfl⟩
  have hs4 : w4.heap.size = w2.heap.size := hk4.size
  go_wp2_with fail
  refine (ChangedShutters_any a0 a1 _).mono ?_
  rintro e w6 ⟨t, rfl, ht, hb6⟩
  have hs24 : w2.heap.size ≤ w4.heap.size := by omega
  have hb4 : Below w1.heap.size w2 w4 := (bel_drewN _ w2 n3).trans hk4.bel
  go_wp2_with fail
  refine (eqIntS_same _ _ _ _ _ _ ht.rd (((hu.rd.below hb2 (Nat.le_refl _)).below hb4 (Nat.le_refl _)).below hb6 (by omega))).mono ?_
  rintro e w7 ⟨rfl, n7, rfl⟩
  go_wp2_with fail
  have hv6 := hv4.rd.below hb6 hs24
  refine (heldIntS_any _ v w2.heap.size 1 (w6.drewN n7) hv6 (by omega) (by omega)).mono ?_
  rintro e w8 ⟨rfl, rfl⟩
  go_wp2_with fail
  go_ret
  refine ⟨rfl, ?_⟩
  have hs : w.heap.size ≤ w4.heap.size := by omega
  exact (((hb1.trans (hb2.mono hs1)).trans (hb4.mono hs1)).trans (hb6.mono hs)).trans (bel_drewN _ w6 n7)
set_option maxRecDepth 100000 in
theorem lifted (os : Os) (started : os.Started) (H : Type) (enc : TypeId × Value → H) :
    ReturnsInHanded {} Try.checked os 5 .any (Rows.fnExactChangedShuttersSpec.pre6 enc Try.prog Try.f5 Rows.fnExactChangedShuttersRow.domain false) (Rows.fnExactChangedShuttersSpec.post enc Try.prog Try.f5 false true false false) := by
  refine returnsInHanded_of_change (C := Try.checked) own started (by kernel_rfl) Try.func5
    (ChangeSpec.witness6 (enc := enc) (C := Try.checked) false ⟨#[], #[.int .i64 0, .int .i64 0], []⟩ 8 (by kernel_rfl) (by kernel_rfl) (by kernel_rfl) (by kernel_rfl)) ?_
  intro W base args ds gs before hval0 hW _ _
  have hval : ∀ (j : Nat) t v, Try.f5.params[j]? = some t → args[j]? = some v → Value.okWide Try.prog W .any base t v := hval0
  have hW' := hW
  obtain ⟨p, q, hA0, hV, rfl, hfz, hnd⟩ := hW
  have hA : DataW.TrodAll enc Try.prog W 0 (fun _ => true) true Try.f5.params.toList args.toList ds p := hA0
  rw [Try.params5] at hA hval
  obtain ⟨v0, vs0, d0, ds0, p0, q0, hargs, rfl, rfl, h0, r0⟩ := trodAll_cons hA
  obtain ⟨v1, vs1, d1, ds1, p1, q1, rfl, rfl, rfl, h1, r1⟩ := trodAll_cons r0
  obtain ⟨rfl, rfl, rfl⟩ := trodAll_nil r1
  obtain rfl : args = #[v0, v1] := by cases args; simp_all
  obtain ⟨rfl, rfl⟩ := trodVars_none hV
  obtain ⟨a0, rfl, rfl, rfl, w0⟩ := open_int Try.underlying3 (hval 0 3 v0 rfl rfl) h0
  obtain ⟨a1, rfl, rfl, rfl, w1⟩ := open_int Try.underlying3 (hval 1 3 v1 rfl rfl) h1
  clear hA0 hval0
  refine (walk a0 w0 a1 w1 W).mono fun e W' ⟨he, hb⟩ => ?_
  subst he
  exact ⟨_, rfl, law_post hW' rfl rfl (by kernel_rfl) rfl hb⟩
theorem over : Rows.fnExactChangedShuttersRow.holds Try.pinned (OpenSpec.ofChange Rows.fnExactChangedShuttersSpec) :=
  OpenClaim.holds_of_wide 5 Try.f5 rfl rfl rfl rfl rfl rfl rfl ⟨rfl, rfl, rfl, rfl, rfl⟩ rfl rfl rfl rfl rfl (by kernel_rfl) Try.func5 (by kernel_rfl)
    (of_decide_eq_true (by kernel_rfl)) (by unfold Func.isWrapper; first | (rw [if_pos (by decide +kernel)]; kernel_rfl) | (rw [if_neg (by decide +kernel)]; exact ⟨rfl, rfl⟩))
    (fun os started H enc _ => lifted os started H enc)
/-- The statement. -/
theorem proved : Rows.FnExactChangedShuttersSaid :=
  over
#print axioms proved
end Go.Proofs.Ytfkgfioghfmmnaa.fnExactChangedShutters
