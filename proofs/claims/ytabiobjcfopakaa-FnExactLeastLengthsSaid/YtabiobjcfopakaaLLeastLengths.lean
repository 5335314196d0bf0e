/- Proved: FnExactLeastLengths returns true for all integers.
   Conditions: none; for every input that the row speaks of. -/
import Derived.Test.YtabiobjcfopakaaP
import Derived.Test.YtabiobjcfopakaaO
import Derived.Test.YtabiobjcfopakaaR19
import Derived.Deep.RegionHeld3
namespace Go.Proofs.Ytabiobjcfopakaa.fnExactLeastLengths
open Go.ChangeShapes Go.WideShapes Go.ChangeAt Go.RowKit
open Go.ChangeMaps (open_string)
set_option linter.unusedVariables false
set_option maxHeartbeats 4000000 in
set_option maxRecDepth 100000 in
theorem walk (v0 : Value) (xs0 : List Int) (a1 : Int) (w01 : (Lit.int .i64 a1).wf = true) (a2 : Int) (w02 : (Lit.int .i64 a2).wf = true) (w : World) (hr0 : RdI w w.heap.size v0 xs0) : Calls Try.prog 8 #[v0, .int .i64 a1, .int .i64 a2] w fun e w' => e = .returned (.bool true) ∧ Below w.heap.size w w' := by
  obtain ⟨A0, c0, rfl, hc0, hm0⟩ := Rd.form hr0
  have H0 := Lib.hid hr0
  clear hr0
  by_cases hbig0 : 1048576 < xs0.length
  · go_enter Try.func8, Try.ntmps8
    go_wp2_with fail
    go_ret
    exact ⟨rfl, Below.refl _ _⟩
  have hsm0 : xs0.length ≤ 1048576 := by omega
  have hlen := leastL_len xs0 a1 a2
  go_enter Try.func8, Try.ntmps8
  go_wp2_with fail
  refine (toIntS_any xs0 _ w.heap.size _ H0.out (by omega) (by omega)).mono ?_
  rintro e w1 ⟨u0, rfl, fu0, hb1⟩
  have fu0_1 : OwI w1 w.heap.size w1.heap.size u0 xs0 := fu0
  have hw1 : Below w.heap.size w w1 := hb1
  have hs1 : w.heap.size ≤ w1.heap.size := hw1.size
  have hB1 : Below w.heap.size w w1 := hw1.mono (by omega)
  have H0_1 : RdI w1 w.heap.size (.slice A0 xs0.length c0) xs0 := H0.out.below hw1 (by omega)
  go_wp2_with fail
  refine (sLeastLengths_any xs0 a1 a2 u0 _ _ fu0_1.rd (by omega)).mono ?_
  rintro e w2 ⟨s, rfl, fs, hb2⟩
  have fs_2 : OwI w2 w1.heap.size w2.heap.size s (leastL xs0 a1 a2) := fs
  have hw2 : Below w1.heap.size w1 w2 := hb2
  have hs2 : w1.heap.size ≤ w2.heap.size := hw2.size
  have hB2 : Below w.heap.size w w2 := hB1.trans (hw2.mono (by omega))
  have H0_2 : RdI w2 w.heap.size (.slice A0 xs0.length c0) xs0 := H0_1.below hw2 (by omega)
  clear H0_1
  have fu0_2 : OwI w2 w.heap.size w1.heap.size u0 xs0 := fu0_1.below hw2 (by omega)
  clear fu0_1
  go_wp2_with fail
  refine (toIntS_any xs0 _ w.heap.size _ H0_2 (by omega) (by omega)).mono ?_
  rintro e w3 ⟨x0, rfl, fx0, hb3⟩
  have fx0_3 : OwI w3 w2.heap.size w3.heap.size x0 xs0 := fx0
  have hw3 : Below w2.heap.size w2 w3 := hb3
  have hs3 : w2.heap.size ≤ w3.heap.size := hw3.size
  have hB3 : Below w.heap.size w w3 := hB2.trans (hw3.mono (by omega))
  have H0_3 : RdI w3 w.heap.size (.slice A0 xs0.length c0) xs0 := H0_2.below hw3 (by omega)
  clear H0_2
  have fu0_3 : OwI w3 w.heap.size w1.heap.size u0 xs0 := fu0_2.below hw3 (by omega)
  clear fu0_2
  have fs_3 : OwI w3 w1.heap.size w2.heap.size s (leastL xs0 a1 a2) := fs_2.below hw3 (by omega)
  clear fs_2
  go_wp2_with fail
  refine (LeastLengths_any xs0 a1 a2 x0 _ _ fx0_3.rd (by omega)).mono ?_
  rintro e w4 ⟨g, rfl, fg, hb4⟩
  have fg_4 : OwI w4 w3.heap.size w4.heap.size g (leastL xs0 a1 a2) := fg
  have hw4 : Below w3.heap.size w3 w4 := hb4
  have hs4 : w3.heap.size ≤ w4.heap.size := hw4.size
  have hB4 : Below w.heap.size w w4 := hB3.trans (hw4.mono (by omega))
  have H0_4 : RdI w4 w.heap.size (.slice A0 xs0.length c0) xs0 := H0_3.below hw4 (by omega)
  clear H0_3
  have fu0_4 : OwI w4 w.heap.size w1.heap.size u0 xs0 := fu0_3.below hw4 (by omega)
  clear fu0_3
  have fs_4 : OwI w4 w1.heap.size w2.heap.size s (leastL xs0 a1 a2) := fs_3.below hw4 (by omega)
  clear fs_3
  have fx0_4 : OwI w4 w2.heap.size w3.heap.size x0 xs0 := fx0_3.below hw4 (by omega)
  clear fx0_3
  go_wp2_with fail
  refine (eqIntS_sameB _ _ _ _ _ _ fg_4.rd fs_4.rd).mono ?_
  rintro e w5 ⟨rfl, hb5⟩
  have hw5 : Below w4.heap.size w4 w5 := hb5
  have hs5 : w4.heap.size ≤ w5.heap.size := hw5.size
  have hB5 : Below w.heap.size w w5 := hB4.trans (hw5.mono (by omega))
  have H0_5 : RdI w5 w.heap.size (.slice A0 xs0.length c0) xs0 := H0_4.below hw5 (by omega)
  clear H0_4
  have fu0_5 : OwI w5 w.heap.size w1.heap.size u0 xs0 := fu0_4.below hw5 (by omega)
  clear fu0_4
  have fs_5 : OwI w5 w1.heap.size w2.heap.size s (leastL xs0 a1 a2) := fs_4.below hw5 (by omega)
  clear fs_4
  have fx0_5 : OwI w5 w2.heap.size w3.heap.size x0 xs0 := fx0_4.below hw5 (by omega)
  clear fx0_4
  have fg_5 : OwI w5 w3.heap.size w4.heap.size g (leastL xs0 a1 a2) := fg_4.below hw5 (by omega)
  clear fg_4
  go_wp2_with fail
  refine (toIntS_any xs0 _ w.heap.size _ H0_5 (by omega) (by omega)).mono ?_
  rintro e w6 ⟨y0, rfl, fy0, hb6⟩
  have fy0_6 : OwI w6 w5.heap.size w6.heap.size y0 xs0 := fy0
  have hw6 : Below w5.heap.size w5 w6 := hb6
  have hs6 : w5.heap.size ≤ w6.heap.size := hw6.size
  have hB6 : Below w.heap.size w w6 := hB5.trans (hw6.mono (by omega))
  have H0_6 : RdI w6 w.heap.size (.slice A0 xs0.length c0) xs0 := H0_5.below hw6 (by omega)
  clear H0_5
  have fu0_6 : OwI w6 w.heap.size w1.heap.size u0 xs0 := fu0_5.below hw6 (by omega)
  clear fu0_5
  have fs_6 : OwI w6 w1.heap.size w2.heap.size s (leastL xs0 a1 a2) := fs_5.below hw6 (by omega)
  clear fs_5
  have fx0_6 : OwI w6 w2.heap.size w3.heap.size x0 xs0 := fx0_5.below hw6 (by omega)
  clear fx0_5
  have fg_6 : OwI w6 w3.heap.size w4.heap.size g (leastL xs0 a1 a2) := fg_5.below hw6 (by omega)
  clear fg_5
  go_wp2_with fail
  refine (eqIntS_sameB _ _ _ _ _ _ fx0_6.rd fy0_6.rd).mono ?_
  rintro e w7 ⟨rfl, hb7⟩
  have hw7 : Below w6.heap.size w6 w7 := hb7
  have hs7 : w6.heap.size ≤ w7.heap.size := hw7.size
  have hB7 : Below w.heap.size w w7 := hB6.trans (hw7.mono (by omega))
  have H0_7 : RdI w7 w.heap.size (.slice A0 xs0.length c0) xs0 := H0_6.below hw7 (by omega)
  clear H0_6
  have fu0_7 : OwI w7 w.heap.size w1.heap.size u0 xs0 := fu0_6.below hw7 (by omega)
  clear fu0_6
  have fs_7 : OwI w7 w1.heap.size w2.heap.size s (leastL xs0 a1 a2) := fs_6.below hw7 (by omega)
  clear fs_6
  have fx0_7 : OwI w7 w2.heap.size w3.heap.size x0 xs0 := fx0_6.below hw7 (by omega)
  clear fx0_6
  have fg_7 : OwI w7 w3.heap.size w4.heap.size g (leastL xs0 a1 a2) := fg_6.below hw7 (by omega)
  clear fg_6
  have fy0_7 : OwI w7 w5.heap.size w6.heap.size y0 xs0 := fy0_6.below hw7 (by omega)
  clear fy0_6
  go_wp2_with fail
  refine (markIntS_ex _ x0 _ _ 1 _ fx0_7 (by omega) (by omega)).mono ?_
  rintro e w8 ⟨q8, rfl, hq8, fx0m8, hk8⟩
  have hs8 : w8.heap.size = w7.heap.size := hk8.size
  have hw8 : Below w2.heap.size w7 w8 := hk8.bel
  have hB8 : Below w.heap.size w w8 := hB7.trans (hw8.mono (by omega))
  have H0_8 : RdI w8 w.heap.size (.slice A0 xs0.length c0) xs0 := H0_7.below hw8 (by omega)
  clear H0_7
  have fu0_8 : OwI w8 w.heap.size w1.heap.size u0 xs0 := fu0_7.keep hk8 (by omega)
  clear fu0_7
  have fs_8 : OwI w8 w1.heap.size w2.heap.size s (leastL xs0 a1 a2) := fs_7.keep hk8 (by omega)
  clear fs_7
  have fg_8 : OwI w8 w3.heap.size w4.heap.size g (leastL xs0 a1 a2) := fg_7.keep hk8 (by omega)
  clear fg_7
  have fy0_8 : OwI w8 w5.heap.size w6.heap.size y0 xs0 := fy0_7.keep hk8 (by omega)
  clear fy0_7
  go_wp2_with fail
  refine (eqIntS_sameB _ _ _ _ _ _ fg_8.rd fs_8.rd).mono ?_
  rintro e w9 ⟨rfl, hb9⟩
  have hw9 : Below w8.heap.size w8 w9 := hb9
  have hs9 : w8.heap.size ≤ w9.heap.size := hw9.size
  have hB9 : Below w.heap.size w w9 := hB8.trans (hw9.mono (by omega))
  have H0_9 : RdI w9 w.heap.size (.slice A0 xs0.length c0) xs0 := H0_8.below hw9 (by omega)
  clear H0_8
  have fu0_9 : OwI w9 w.heap.size w1.heap.size u0 xs0 := fu0_8.below hw9 (by omega)
  clear fu0_8
  have fs_9 : OwI w9 w1.heap.size w2.heap.size s (leastL xs0 a1 a2) := fs_8.below hw9 (by omega)
  clear fs_8
  have fx0_9 : OwI w9 w2.heap.size w3.heap.size x0 (marks 1 xs0.length) := fx0m8.below hw9 (by omega)
  clear fx0m8
  have fg_9 : OwI w9 w3.heap.size w4.heap.size g (leastL xs0 a1 a2) := fg_8.below hw9 (by omega)
  clear fg_8
  have fy0_9 : OwI w9 w5.heap.size w6.heap.size y0 xs0 := fy0_8.below hw9 (by omega)
  clear fy0_8
  go_wp2_with fail
  refine (markIntS_any _ g _ _ 1 _ fg_9 (by omega) (by omega)).mono ?_
  rintro e w10 ⟨rfl, fgm10, hk10⟩
  have hs10 : w10.heap.size = w9.heap.size := hk10.size
  have hw10 : Below w3.heap.size w9 w10 := hk10.bel
  have hB10 : Below w.heap.size w w10 := hB9.trans (hw10.mono (by omega))
  have H0_10 : RdI w10 w.heap.size (.slice A0 xs0.length c0) xs0 := H0_9.below hw10 (by omega)
  clear H0_9
  have fu0_10 : OwI w10 w.heap.size w1.heap.size u0 xs0 := fu0_9.keep hk10 (by omega)
  clear fu0_9
  have fs_10 : OwI w10 w1.heap.size w2.heap.size s (leastL xs0 a1 a2) := fs_9.keep hk10 (by omega)
  clear fs_9
  have fx0_10 : OwI w10 w2.heap.size w3.heap.size x0 (marks 1 xs0.length) := fx0_9.keep hk10 (by omega)
  clear fx0_9
  have fy0_10 : OwI w10 w5.heap.size w6.heap.size y0 xs0 := fy0_9.keep hk10 (by omega)
  clear fy0_9
  go_wp2_with fail
  refine (heldIntS_any (((leastL xs0 a1 a2)).length) g _ 1 _ fgm10.rd (by omega) (by omega)).mono ?_
  rintro e w' ⟨rfl, rfl⟩
  go_wp2_with fail
  refine (toIntS_any xs0 _ w.heap.size _ H0_10 (by omega) (by omega)).mono ?_
  rintro e w11 ⟨z0, rfl, fz0, hb11⟩
  have fz0_11 : OwI w11 w10.heap.size w11.heap.size z0 xs0 := fz0
  have hw11 : Below w10.heap.size w10 w11 := hb11
  have hs11 : w10.heap.size ≤ w11.heap.size := hw11.size
  have hB11 : Below w.heap.size w w11 := hB10.trans (hw11.mono (by omega))
  have H0_11 : RdI w11 w.heap.size (.slice A0 xs0.length c0) xs0 := H0_10.below hw11 (by omega)
  clear H0_10
  have fu0_11 : OwI w11 w.heap.size w1.heap.size u0 xs0 := fu0_10.below hw11 (by omega)
  clear fu0_10
  have fs_11 : OwI w11 w1.heap.size w2.heap.size s (leastL xs0 a1 a2) := fs_10.below hw11 (by omega)
  clear fs_10
  have fx0_11 : OwI w11 w2.heap.size w3.heap.size x0 (marks 1 xs0.length) := fx0_10.below hw11 (by omega)
  clear fx0_10
  have fg_11 : OwI w11 w3.heap.size w4.heap.size g (marks 1 ((leastL xs0 a1 a2)).length) := fgm10.below hw11 (by omega)
  clear fgm10
  have fy0_11 : OwI w11 w5.heap.size w6.heap.size y0 xs0 := fy0_10.below hw11 (by omega)
  clear fy0_10
  go_wp2_with fail
  refine (LeastLengths_any xs0 a1 a2 z0 _ _ fz0_11.rd (by omega)).mono ?_
  rintro e w12 ⟨t, rfl, ft, hb12⟩
  have ft_12 : OwI w12 w11.heap.size w12.heap.size t (leastL xs0 a1 a2) := ft
  have hw12 : Below w11.heap.size w11 w12 := hb12
  have hs12 : w11.heap.size ≤ w12.heap.size := hw12.size
  have hB12 : Below w.heap.size w w12 := hB11.trans (hw12.mono (by omega))
  have H0_12 : RdI w12 w.heap.size (.slice A0 xs0.length c0) xs0 := H0_11.below hw12 (by omega)
  clear H0_11
  have fu0_12 : OwI w12 w.heap.size w1.heap.size u0 xs0 := fu0_11.below hw12 (by omega)
  clear fu0_11
  have fs_12 : OwI w12 w1.heap.size w2.heap.size s (leastL xs0 a1 a2) := fs_11.below hw12 (by omega)
  clear fs_11
  have fx0_12 : OwI w12 w2.heap.size w3.heap.size x0 (marks 1 xs0.length) := fx0_11.below hw12 (by omega)
  clear fx0_11
  have fg_12 : OwI w12 w3.heap.size w4.heap.size g (marks 1 ((leastL xs0 a1 a2)).length) := fg_11.below hw12 (by omega)
  clear fg_11
  have fy0_12 : OwI w12 w5.heap.size w6.heap.size y0 xs0 := fy0_11.below hw12 (by omega)
  clear fy0_11
  have fz0_12 : OwI w12 w10.heap.size w11.heap.size z0 xs0 := fz0_11.below hw12 (by omega)
  clear fz0_11
  go_wp2_with fail
  refine (eqIntS_sameB _ _ _ _ _ _ ft_12.rd fs_12.rd).mono ?_
  rintro e w13 ⟨rfl, hb13⟩
  have hw13 : Below w12.heap.size w12 w13 := hb13
  have hs13 : w12.heap.size ≤ w13.heap.size := hw13.size
  have hB13 : Below w.heap.size w w13 := hB12.trans (hw13.mono (by omega))
  have H0_13 : RdI w13 w.heap.size (.slice A0 xs0.length c0) xs0 := H0_12.below hw13 (by omega)
  clear H0_12
  have fu0_13 : OwI w13 w.heap.size w1.heap.size u0 xs0 := fu0_12.below hw13 (by omega)
  clear fu0_12
  have fs_13 : OwI w13 w1.heap.size w2.heap.size s (leastL xs0 a1 a2) := fs_12.below hw13 (by omega)
  clear fs_12
  have fx0_13 : OwI w13 w2.heap.size w3.heap.size x0 (marks 1 xs0.length) := fx0_12.below hw13 (by omega)
  clear fx0_12
  have fg_13 : OwI w13 w3.heap.size w4.heap.size g (marks 1 ((leastL xs0 a1 a2)).length) := fg_12.below hw13 (by omega)
  clear fg_12
  have fy0_13 : OwI w13 w5.heap.size w6.heap.size y0 xs0 := fy0_12.below hw13 (by omega)
  clear fy0_12
  have fz0_13 : OwI w13 w10.heap.size w11.heap.size z0 xs0 := fz0_12.below hw13 (by omega)
  clear fz0_12
  have ft_13 : OwI w13 w11.heap.size w12.heap.size t (leastL xs0 a1 a2) := ft_12.below hw13 (by omega)
  clear ft_12
  go_wp2_with fail
  refine (heldIntS_any (((leastL xs0 a1 a2)).length) g _ 1 _ fg_13.rd (by omega) (by omega)).mono ?_
  rintro e w' ⟨rfl, rfl⟩
  go_wp2_with fail
  go_ret
  exact ⟨rfl, hB13⟩
set_option maxRecDepth 100000 in
theorem lifted (os : Os) (started : os.Started) (H : Type) (enc : TypeId × Value → H) :
    ReturnsInHanded {} Try.checked os 8 .any (Rows.fnExactLeastLengthsSpec.pre6 enc Try.prog Try.f8 Rows.fnExactLeastLengthsRow.domain false) (Rows.fnExactLeastLengthsSpec.post enc Try.prog Try.f8 false true false false) := by
  refine returnsInHanded_of_change (C := Try.checked) own started (by kernel_rfl) Try.func8
    (ChangeSpec.witness6 (enc := enc) (C := Try.checked) false ⟨#[], #[.slice Option.none 0 0, .int .i64 0, .int .i64 0], []⟩ 8 (by kernel_rfl) (by kernel_rfl) (by kernel_rfl) (by kernel_rfl)) ?_
  intro W base args ds gs before hval0 hW _ _
  have hval : ∀ (j : Nat) t v, Try.f8.params[j]? = some t → args[j]? = some v → Value.okWide Try.prog W .any base t v := hval0
  have hW' := hW
  obtain ⟨p, q, hA0, hV, rfl, hfz, hnd⟩ := hW
  have hA : DataW.TrodAll enc Try.prog W 0 (fun _ => true) true Try.f8.params.toList args.toList ds p := hA0
  rw [Try.params8] at hA hval
  obtain ⟨v0, vs0, d0, ds0, p0, q0, hargs, rfl, rfl, h0, r0⟩ := trodAll_cons hA
  obtain ⟨v1, vs1, d1, ds1, p1, q1, rfl, rfl, rfl, h1, r1⟩ := trodAll_cons r0
  obtain ⟨v2, vs2, d2, ds2, p2, q2, rfl, rfl, rfl, h2, r2⟩ := trodAll_cons r1
  obtain ⟨rfl, rfl, rfl⟩ := trodAll_nil r2
  obtain rfl : args = #[v0, v1, v2] := by cases args; simp_all
  obtain ⟨rfl, rfl⟩ := trodVars_none hV
  obtain ⟨f0, g0⟩ := h0
  rw [slice_cells Try.underlying29 (hval 0 29 v0 rfl rfl)] at g0
  obtain ⟨xs0, x0⟩ := open_intS g0
  obtain ⟨a1, rfl, rfl, rfl, w1⟩ := open_int Try.underlying3 (hval 1 3 v1 rfl rfl) h1
  obtain ⟨a2, rfl, rfl, rfl, w2⟩ := open_int Try.underlying3 (hval 2 3 v2 rfl rfl) h2
  clear hA0 hval0
  refine (walk v0 xs0 a1 w1 a2 w2 W x0).mono fun e W' ⟨he, hb⟩ => ?_
  subst he
  exact ⟨_, rfl, law_post hW' rfl rfl (by kernel_rfl) rfl hb⟩
theorem over : Rows.fnExactLeastLengthsRow.holds Try.pinned (OpenSpec.ofChange Rows.fnExactLeastLengthsSpec) :=
  OpenClaim.holds_of_wide 8 Try.f8 rfl rfl rfl rfl rfl rfl rfl ⟨rfl, rfl, rfl, rfl, rfl⟩ rfl rfl rfl rfl rfl (by kernel_rfl) Try.func8 (by kernel_rfl)
    (of_decide_eq_true (by kernel_rfl)) (by unfold Func.isWrapper; first | (rw [if_pos (by decide +kernel)]; kernel_rfl) | (rw [if_neg (by decide +kernel)]; exact ⟨rfl, rfl⟩))
    (fun os started H enc _ => lifted os started H enc)
/-- The statement. -/
theorem proved : Rows.FnExactLeastLengthsSaid :=
  over
#print axioms proved
end Go.Proofs.Ytabiobjcfopakaa.fnExactLeastLengths
