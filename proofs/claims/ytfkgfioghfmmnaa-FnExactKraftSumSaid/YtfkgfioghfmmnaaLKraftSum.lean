/- Proved: FnExactKraftSum returns true for every list of integers and every integer.
   Conditions: none; for every input that the row speaks of. -/
import Derived.Test.YtfkgfioghfmmnaaP
import Derived.Test.YtfkgfioghfmmnaaO
import Derived.Test.YtfkgfioghfmmnaaB6
namespace Go.Proofs.Ytfkgfioghfmmnaa.fnExactKraftSum
open Go.ChangeShapes Go.WideShapes Go.ChangeAt Go.RowKit
open Go.ChangeMaps (open_string)
set_option linter.unusedVariables false
set_option maxHeartbeats 4000000 in
set_option maxRecDepth 100000 in
theorem walk (v0 : Value) (xs0 : List Int) (a1 : Int) (w01 : (Lit.int .i64 a1).wf = true) (w : World) (hr0 : RdI w w.heap.size v0 xs0) : Calls Try.prog 11 #[v0, .int .i64 a1] w fun e w' => e = .returned (.bool true) ∧ Below w.heap.size w w' := by
  obtain ⟨A0, c0, rfl, hc0, hm0⟩ := Rd.form hr0
  have H0 := Lib.hid hr0
  clear hr0
  by_cases hbig0 : 1048576 < xs0.length
  · go_enter Try.func11, Try.ntmps11
    go_wp2
    go_ret
    exact ⟨rfl, Below.refl _ _⟩
  have hsm0 : xs0.length ≤ 1048576 := by omega
  go_enter Try.func11, Try.ntmps11
  go_wp2_with fail
  refine (toIntS_any xs0 _ w.heap.size _ H0.out (by omega) (by omega)).mono ?_
  rintro e w1 ⟨u0, rfl, fu0, hb1⟩
  have fu0_1 : OwI w1 w.heap.size w1.heap.size u0 xs0 := fu0
  have hw1 : Below w.heap.size w w1 := hb1
  have hs1 : w.heap.size ≤ w1.heap.size := hw1.size
  have hB1 : Below w.heap.size w w1 := hw1.mono (by omega)
  have H0_1 : RdI w1 w.heap.size (.slice A0 xs0.length c0) xs0 := H0.out.below hw1 (by omega)
  obtain ⟨p, q, r, hT⟩ : ∃ p q r, kraftT xs0 a1 = .tuple #[.int .i64 p, .int .i64 q, .bool r] := by unfold kraftT; split <;> exact ⟨_, _, _, rfl⟩
  have c1 := sKraftSum_any xs0 a1 u0 _ w1 fu0_1.rd
  rw [hT] at c1
  have C1 := Lib.hid c1
  clear c1
  have HT := Lib.hid hT
  clear hT
  go_wp2_with fail
  refine (C1.out).mono ?_
  rintro e w' ⟨rfl, rfl⟩
  go_wp2_with fail
  refine (toIntS_any xs0 _ w.heap.size _ H0_1 (by omega) (by omega)).mono ?_
  rintro e w2 ⟨x0, rfl, fx0, hb2⟩
  have fx0_2 : OwI w2 w1.heap.size w2.heap.size x0 xs0 := fx0
  have hw2 : Below w1.heap.size w1 w2 := hb2
  have hs2 : w1.heap.size ≤ w2.heap.size := hw2.size
  have hB2 : Below w.heap.size w w2 := hB1.trans (hw2.mono (by omega))
  have H0_2 : RdI w2 w.heap.size (.slice A0 xs0.length c0) xs0 := H0_1.below hw2 (by omega)
  have fu0_2 : OwI w2 w.heap.size w1.heap.size u0 xs0 := fu0_1.below hw2 (by omega)
  have c2 := KraftSum_any xs0 a1 x0 _ w2 fx0_2.rd
  rw [HT.out] at c2
  have C2 := Lib.hid c2
  clear c2
  go_wp2_with fail
  refine (C2.out).mono ?_
  rintro e w' ⟨rfl, rfl⟩
  go_wp2_with fail
  refine (toIntS_any xs0 _ w.heap.size _ H0_2 (by omega) (by omega)).mono ?_
  rintro e w3 ⟨y0, rfl, fy0, hb3⟩
  have fy0_3 : OwI w3 w2.heap.size w3.heap.size y0 xs0 := fy0
  have hw3 : Below w2.heap.size w2 w3 := hb3
  have hs3 : w2.heap.size ≤ w3.heap.size := hw3.size
  have hB3 : Below w.heap.size w w3 := hB2.trans (hw3.mono (by omega))
  have H0_3 : RdI w3 w.heap.size (.slice A0 xs0.length c0) xs0 := H0_2.below hw3 (by omega)
  have fu0_3 : OwI w3 w.heap.size w1.heap.size u0 xs0 := fu0_2.below hw3 (by omega)
  have fx0_3 : OwI w3 w1.heap.size w2.heap.size x0 xs0 := fx0_2.below hw3 (by omega)
  go_wp2_with fail
  refine (eqIntS_sameB _ _ _ _ _ _ fx0_3.rd fy0_3.rd).mono ?_
  rintro e w4 ⟨rfl, hb4⟩
  have hw4 : Below w3.heap.size w3 w4 := hb4
  have hs4 : w3.heap.size ≤ w4.heap.size := hw4.size
  have hB4 : Below w.heap.size w w4 := hB3.trans (hw4.mono (by omega))
  have H0_4 : RdI w4 w.heap.size (.slice A0 xs0.length c0) xs0 := H0_3.below hw4 (by omega)
  have fu0_4 : OwI w4 w.heap.size w1.heap.size u0 xs0 := fu0_3.below hw4 (by omega)
  have fx0_4 : OwI w4 w1.heap.size w2.heap.size x0 xs0 := fx0_3.below hw4 (by omega)
  have fy0_4 : OwI w4 w2.heap.size w3.heap.size y0 xs0 := fy0_3.below hw4 (by omega)
  go_wp2_with fail
  go_ret
  exact ⟨rfl, hB4⟩
set_option maxRecDepth 100000 in
theorem lifted (os : Os) (started : os.Started) (H : Type) (enc : TypeId × Value → H) :
    ReturnsInHanded {} Try.checked os 11 .any (Rows.fnExactKraftSumSpec.pre6 enc Try.prog Try.f11 Rows.fnExactKraftSumRow.domain false) (Rows.fnExactKraftSumSpec.post enc Try.prog Try.f11 false true false false) := by
  refine returnsInHanded_of_change (C := Try.checked) own started (by kernel_rfl) Try.func11
    (ChangeSpec.witness6 (enc := enc) (C := Try.checked) false ⟨#[], #[.slice Option.none 0 0, .int .i64 0], []⟩ 8 (by kernel_rfl) (by kernel_rfl) (by kernel_rfl) (by kernel_rfl)) ?_
  intro W base args ds gs before hval0 hW _ _
  have hval : ∀ (j : Nat) t v, Try.f11.params[j]? = some t → args[j]? = some v → Value.okWide Try.prog W .any base t v := hval0
  have hW' := hW
  obtain ⟨p, q, hA0, hV, rfl, hfz, hnd⟩ := hW
  have hA : DataW.TrodAll enc Try.prog W 0 (fun _ => true) true Try.f11.params.toList args.toList ds p := hA0
  rw [Try.params11] at hA hval
  obtain ⟨v0, vs0, d0, ds0, p0, q0, hargs, rfl, rfl, h0, r0⟩ := trodAll_cons hA
  obtain ⟨v1, vs1, d1, ds1, p1, q1, rfl, rfl, rfl, h1, r1⟩ := trodAll_cons r0
  obtain ⟨rfl, rfl, rfl⟩ := trodAll_nil r1
  obtain rfl : args = #[v0, v1] := by cases args; simp_all
  obtain ⟨rfl, rfl⟩ := trodVars_none hV
  obtain ⟨f0, g0⟩ := h0
  rw [slice_cells Try.underlying28 (hval 0 28 v0 rfl rfl)] at g0
  obtain ⟨xs0, x0⟩ := open_intS g0
  obtain ⟨a1, rfl, rfl, rfl, w1⟩ := open_int Try.underlying3 (hval 1 3 v1 rfl rfl) h1
  clear hA0 hval0
  refine (walk v0 xs0 a1 w1 W x0).mono fun e W' ⟨he, hb⟩ => ?_
  subst he
  exact ⟨_, rfl, law_post hW' rfl rfl (by kernel_rfl) rfl hb⟩
theorem over : Rows.fnExactKraftSumRow.holds Try.pinned (OpenSpec.ofChange Rows.fnExactKraftSumSpec) :=
  OpenClaim.holds_of_wide 11 Try.f11 rfl rfl rfl rfl rfl rfl rfl ⟨rfl, rfl, rfl, rfl, rfl⟩ rfl rfl rfl rfl rfl (by kernel_rfl) Try.func11 (by kernel_rfl)
    (of_decide_eq_true (by kernel_rfl)) (by unfold Func.isWrapper; first | (rw [if_pos (by decide +kernel)]; kernel_rfl) | (rw [if_neg (by decide +kernel)]; exact ⟨rfl, rfl⟩))
    (fun os started H enc _ => lifted os started H enc)
/-- The statement. -/
theorem proved : Rows.FnExactKraftSumSaid :=
  over
#print axioms proved
end Go.Proofs.Ytfkgfioghfmmnaa.fnExactKraftSum
