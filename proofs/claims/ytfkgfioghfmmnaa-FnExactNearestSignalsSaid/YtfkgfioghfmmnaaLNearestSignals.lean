/- Proved: FnExactNearestSignals returns true for every integer and every list of integers.
   Conditions: none; for every input that the row speaks of. -/
import Derived.Test.YtfkgfioghfmmnaaP
import Derived.Test.YtfkgfioghfmmnaaO
import Derived.Test.YtfkgfioghfmmnaaB5
namespace Go.Proofs.Ytfkgfioghfmmnaa.fnExactNearestSignals
open Go.ChangeShapes Go.WideShapes Go.ChangeAt Go.RowKit
open Go.ChangeMaps (open_string)
set_option linter.unusedVariables false
set_option maxHeartbeats 1600000 in
theorem walk (a0 : Int) (w0 : (Lit.int .i64 a0).wf = true) (v0 : Value) (xs0 : List Int) (w : World) (hr0 : RdI w w.heap.size v0 xs0) : Calls Try.prog 13 #[.int .i64 a0, v0] w fun e w' => e = .returned (.bool true) ∧ Below w.heap.size w w' := by
  obtain ⟨A, c, hv0, hc, hm⟩ := Rd.form hr0
  have H := Lib.hid hr0
  clear hr0
  by_cases hbig : 1048576 < xs0.length
  · subst hv0
    go_enter Try.func13, Try.ntmps13
    go_wp2
    go_ret
    exact ⟨rfl, Below.refl _ _⟩
  · have hbig' : xs0.length ≤ 1048576 := by omega
    obtain rfl : v0 = .slice A xs0.length c := hv0
    go_enter Try.func13, Try.ntmps13
    have hlen := nearL_len a0 xs0
    go_wp2_with fail
    refine (toIntS_any xs0 _ w.heap.size _ H.out (by omega) (by omega)).mono ?_
    rintro e w1 ⟨u, rfl, fu, hb1⟩
    have fu_1 : OwI w1 w.heap.size w1.heap.size u xs0 := fu
    have hw1 : Below w.heap.size w w1 := hb1
    have hs1 : w.heap.size ≤ w1.heap.size := hw1.size
    have hB1 : Below w.heap.size w w1 := hw1.mono (by omega)
    have H0_1 : RdI w1 w.heap.size (.slice A xs0.length c) xs0 := H.out.below hw1 (by omega)
    go_wp2_with fail
    refine (sNearestSignals_any a0 xs0 u w1.heap.size w1 fu_1.rd (Nat.le_refl _)).mono ?_
    rintro e w2 ⟨s, rfl, fs, hb2⟩
    have fs_2 : OwI w2 w1.heap.size w2.heap.size s (nearL a0 xs0) := fs
    have hw2 : Below w1.heap.size w1 w2 := hb2
    have hs2 : w1.heap.size ≤ w2.heap.size := hw2.size
    have hB2 : Below w.heap.size w w2 := hB1.trans (hw2.mono (by omega))
    have H0_2 : RdI w2 w.heap.size (.slice A xs0.length c) xs0 := H0_1.below hw2 (by omega)
    have fu_2 : OwI w2 w.heap.size w1.heap.size u xs0 := fu_1.below hw2 (by omega)
    go_wp2_with fail
    refine (toIntS_any xs0 _ w.heap.size _ H0_2 (by omega) (by omega)).mono ?_
    rintro e w3 ⟨x, rfl, fx, hb3⟩
    have fx_3 : OwI w3 w2.heap.size w3.heap.size x xs0 := fx
    have hw3 : Below w2.heap.size w2 w3 := hb3
    have hs3 : w2.heap.size ≤ w3.heap.size := hw3.size
    have hB3 : Below w.heap.size w w3 := hB2.trans (hw3.mono (by omega))
    have H0_3 : RdI w3 w.heap.size (.slice A xs0.length c) xs0 := H0_2.below hw3 (by omega)
    have fu_3 : OwI w3 w.heap.size w1.heap.size u xs0 := fu_2.below hw3 (by omega)
    have fs_3 : OwI w3 w1.heap.size w2.heap.size s (nearL a0 xs0) := fs_2.below hw3 (by omega)
    go_wp2_with fail
    refine (NearestSignals_any a0 xs0 x w3.heap.size w3 fx_3.rd (Nat.le_refl _)).mono ?_
    rintro e w4 ⟨g, rfl, fg, hb4⟩
    have fg_4 : OwI w4 w3.heap.size w4.heap.size g (nearL a0 xs0) := fg
    have hw4 : Below w3.heap.size w3 w4 := hb4
    have hs4 : w3.heap.size ≤ w4.heap.size := hw4.size
    have hB4 : Below w.heap.size w w4 := hB3.trans (hw4.mono (by omega))
    have H0_4 : RdI w4 w.heap.size (.slice A xs0.length c) xs0 := H0_3.below hw4 (by omega)
    have fu_4 : OwI w4 w.heap.size w1.heap.size u xs0 := fu_3.below hw4 (by omega)
    have fs_4 : OwI w4 w1.heap.size w2.heap.size s (nearL a0 xs0) := fs_3.below hw4 (by omega)
    have fx_4 : OwI w4 w2.heap.size w3.heap.size x xs0 := fx_3.below hw4 (by omega)
    go_wp2_with fail
    refine (eqIntS_sameB _ _ _ _ _ _ fg_4.rd fs_4.rd).mono ?_
    rintro e w5 ⟨rfl, hb5⟩
    have hw5 : Below w4.heap.size w4 w5 := hb5
    have hs5 : w4.heap.size ≤ w5.heap.size := hw5.size
    have hB5 : Below w.heap.size w w5 := hB4.trans (hw5.mono (by omega))
    have H0_5 : RdI w5 w.heap.size (.slice A xs0.length c) xs0 := H0_4.below hw5 (by omega)
    have fu_5 : OwI w5 w.heap.size w1.heap.size u xs0 := fu_4.below hw5 (by omega)
    have fs_5 : OwI w5 w1.heap.size w2.heap.size s (nearL a0 xs0) := fs_4.below hw5 (by omega)
    have fx_5 : OwI w5 w2.heap.size w3.heap.size x xs0 := fx_4.below hw5 (by omega)
    have fg_5 : OwI w5 w3.heap.size w4.heap.size g (nearL a0 xs0) := fg_4.below hw5 (by omega)
    go_wp2_with fail
    refine (toIntS_any xs0 _ w.heap.size _ H0_5 (by omega) (by omega)).mono ?_
    rintro e w6 ⟨y, rfl, fy, hb6⟩
    have fy_6 : OwI w6 w5.heap.size w6.heap.size y xs0 := fy
    have hw6 : Below w5.heap.size w5 w6 := hb6
    have hs6 : w5.heap.size ≤ w6.heap.size := hw6.size
    have hB6 : Below w.heap.size w w6 := hB5.trans (hw6.mono (by omega))
    have H0_6 : RdI w6 w.heap.size (.slice A xs0.length c) xs0 := H0_5.below hw6 (by omega)
    have fu_6 : OwI w6 w.heap.size w1.heap.size u xs0 := fu_5.below hw6 (by omega)
    have fs_6 : OwI w6 w1.heap.size w2.heap.size s (nearL a0 xs0) := fs_5.below hw6 (by omega)
    have fx_6 : OwI w6 w2.heap.size w3.heap.size x xs0 := fx_5.below hw6 (by omega)
    have fg_6 : OwI w6 w3.heap.size w4.heap.size g (nearL a0 xs0) := fg_5.below hw6 (by omega)
    go_wp2_with fail
    refine (eqIntS_sameB _ _ _ _ _ _ fx_6.rd fy_6.rd).mono ?_
    rintro e w7 ⟨rfl, hb7⟩
    have hw7 : Below w6.heap.size w6 w7 := hb7
    have hs7 : w6.heap.size ≤ w7.heap.size := hw7.size
    have hB7 : Below w.heap.size w w7 := hB6.trans (hw7.mono (by omega))
    have H0_7 : RdI w7 w.heap.size (.slice A xs0.length c) xs0 := H0_6.below hw7 (by omega)
    have fu_7 : OwI w7 w.heap.size w1.heap.size u xs0 := fu_6.below hw7 (by omega)
    have fs_7 : OwI w7 w1.heap.size w2.heap.size s (nearL a0 xs0) := fs_6.below hw7 (by omega)
    have fx_7 : OwI w7 w2.heap.size w3.heap.size x xs0 := fx_6.below hw7 (by omega)
    have fg_7 : OwI w7 w3.heap.size w4.heap.size g (nearL a0 xs0) := fg_6.below hw7 (by omega)
    have fy_7 : OwI w7 w5.heap.size w6.heap.size y xs0 := fy_6.below hw7 (by omega)
    go_wp2_with fail
    refine (markIntS_any _ x _ _ 1 _ fx_7 (by omega) (by omega)).mono ?_
    rintro e w8 ⟨rfl, fxm8, hk8⟩
    have hs8 : w8.heap.size = w7.heap.size := hk8.size
    have hw8 : Below w2.heap.size w7 w8 := hk8.bel
    have hB8 : Below w.heap.size w w8 := hB7.trans (hw8.mono (by omega))
    have H0_8 : RdI w8 w.heap.size (.slice A xs0.length c) xs0 := H0_7.below hw8 (by omega)
    have fu_8 : OwI w8 w.heap.size w1.heap.size u xs0 := fu_7.keep hk8 (by omega)
    have fs_8 : OwI w8 w1.heap.size w2.heap.size s (nearL a0 xs0) := fs_7.keep hk8 (by omega)
    have fg_8 : OwI w8 w3.heap.size w4.heap.size g (nearL a0 xs0) := fg_7.keep hk8 (by omega)
    have fy_8 : OwI w8 w5.heap.size w6.heap.size y xs0 := fy_7.keep hk8 (by omega)
    go_wp2_with fail
    refine (eqIntS_sameB _ _ _ _ _ _ fg_8.rd fs_8.rd).mono ?_
    rintro e w9 ⟨rfl, hb9⟩
    have hw9 : Below w8.heap.size w8 w9 := hb9
    have hs9 : w8.heap.size ≤ w9.heap.size := hw9.size
    have hB9 : Below w.heap.size w w9 := hB8.trans (hw9.mono (by omega))
    have H0_9 : RdI w9 w.heap.size (.slice A xs0.length c) xs0 := H0_8.below hw9 (by omega)
    have fu_9 : OwI w9 w.heap.size w1.heap.size u xs0 := fu_8.below hw9 (by omega)
    have fs_9 : OwI w9 w1.heap.size w2.heap.size s (nearL a0 xs0) := fs_8.below hw9 (by omega)
    have fx_9 : OwI w9 w2.heap.size w3.heap.size x (marks 1 xs0.length) := fxm8.below hw9 (by omega)
    have fg_9 : OwI w9 w3.heap.size w4.heap.size g (nearL a0 xs0) := fg_8.below hw9 (by omega)
    have fy_9 : OwI w9 w5.heap.size w6.heap.size y xs0 := fy_8.below hw9 (by omega)
    go_wp2_with fail
    refine (markIntS_any _ g _ _ 1 _ fg_9 (by omega) (by omega)).mono ?_
    rintro e w10 ⟨rfl, fgm10, hk10⟩
    have hs10 : w10.heap.size = w9.heap.size := hk10.size
    have hw10 : Below w3.heap.size w9 w10 := hk10.bel
    have hB10 : Below w.heap.size w w10 := hB9.trans (hw10.mono (by omega))
    have H0_10 : RdI w10 w.heap.size (.slice A xs0.length c) xs0 := H0_9.below hw10 (by omega)
    have fu_10 : OwI w10 w.heap.size w1.heap.size u xs0 := fu_9.keep hk10 (by omega)
    have fs_10 : OwI w10 w1.heap.size w2.heap.size s (nearL a0 xs0) := fs_9.keep hk10 (by omega)
    have fx_10 : OwI w10 w2.heap.size w3.heap.size x (marks 1 xs0.length) := fx_9.keep hk10 (by omega)
    have fy_10 : OwI w10 w5.heap.size w6.heap.size y xs0 := fy_9.keep hk10 (by omega)
    go_wp2_with fail
    refine (heldIntS_any (nearL a0 xs0).length g _ 1 _ fgm10.rd (by omega) (by omega)).mono ?_
    rintro e w' ⟨rfl, rfl⟩
    go_wp2_with fail
    refine (toIntS_any xs0 _ w.heap.size _ H0_10 (by omega) (by omega)).mono ?_
    rintro e w11 ⟨z, rfl, fz, hb11⟩
    have fz_11 : OwI w11 w10.heap.size w11.heap.size z xs0 := fz
    have hw11 : Below w10.heap.size w10 w11 := hb11
    have hs11 : w10.heap.size ≤ w11.heap.size := hw11.size
    have hB11 : Below w.heap.size w w11 := hB10.trans (hw11.mono (by omega))
    have H0_11 : RdI w11 w.heap.size (.slice A xs0.length c) xs0 := H0_10.below hw11 (by omega)
    have fu_11 : OwI w11 w.heap.size w1.heap.size u xs0 := fu_10.below hw11 (by omega)
    have fs_11 : OwI w11 w1.heap.size w2.heap.size s (nearL a0 xs0) := fs_10.below hw11 (by omega)
    have fx_11 : OwI w11 w2.heap.size w3.heap.size x (marks 1 xs0.length) := fx_10.below hw11 (by omega)
    have fg_11 : OwI w11 w3.heap.size w4.heap.size g (marks 1 (nearL a0 xs0).length) := fgm10.below hw11 (by omega)
    have fy_11 : OwI w11 w5.heap.size w6.heap.size y xs0 := fy_10.below hw11 (by omega)
    go_wp2_with fail
    refine (NearestSignals_any a0 xs0 z w11.heap.size w11 fz_11.rd (Nat.le_refl _)).mono ?_
    rintro e w12 ⟨t, rfl, ft, hb12⟩
    have ft_12 : OwI w12 w11.heap.size w12.heap.size t (nearL a0 xs0) := ft
    have hw12 : Below w11.heap.size w11 w12 := hb12
    have hs12 : w11.heap.size ≤ w12.heap.size := hw12.size
    have hB12 : Below w.heap.size w w12 := hB11.trans (hw12.mono (by omega))
    have H0_12 : RdI w12 w.heap.size (.slice A xs0.length c) xs0 := H0_11.below hw12 (by omega)
    have fu_12 : OwI w12 w.heap.size w1.heap.size u xs0 := fu_11.below hw12 (by omega)
    have fs_12 : OwI w12 w1.heap.size w2.heap.size s (nearL a0 xs0) := fs_11.below hw12 (by omega)
    have fx_12 : OwI w12 w2.heap.size w3.heap.size x (marks 1 xs0.length) := fx_11.below hw12 (by omega)
    have fg_12 : OwI w12 w3.heap.size w4.heap.size g (marks 1 (nearL a0 xs0).length) := fg_11.below hw12 (by omega)
    have fy_12 : OwI w12 w5.heap.size w6.heap.size y xs0 := fy_11.below hw12 (by omega)
    have fz_12 : OwI w12 w10.heap.size w11.heap.size z xs0 := fz_11.below hw12 (by omega)
    go_wp2_with fail
    refine (eqIntS_sameB _ _ _ _ _ _ ft_12.rd fs_12.rd).mono ?_
    rintro e w13 ⟨rfl, hb13⟩
    have hw13 : Below w12.heap.size w12 w13 := hb13
    have hs13 : w12.heap.size ≤ w13.heap.size := hw13.size
    have hB13 : Below w.heap.size w w13 := hB12.trans (hw13.mono (by omega))
    have H0_13 : RdI w13 w.heap.size (.slice A xs0.length c) xs0 := H0_12.below hw13 (by omega)
    have fu_13 : OwI w13 w.heap.size w1.heap.size u xs0 := fu_12.below hw13 (by omega)
    have fs_13 : OwI w13 w1.heap.size w2.heap.size s (nearL a0 xs0) := fs_12.below hw13 (by omega)
    have fx_13 : OwI w13 w2.heap.size w3.heap.size x (marks 1 xs0.length) := fx_12.below hw13 (by omega)
    have fg_13 : OwI w13 w3.heap.size w4.heap.size g (marks 1 (nearL a0 xs0).length) := fg_12.below hw13 (by omega)
    have fy_13 : OwI w13 w5.heap.size w6.heap.size y xs0 := fy_12.below hw13 (by omega)
    have fz_13 : OwI w13 w10.heap.size w11.heap.size z xs0 := fz_12.below hw13 (by omega)
    have ft_13 : OwI w13 w11.heap.size w12.heap.size t (nearL a0 xs0) := ft_12.below hw13 (by omega)
    go_wp2_with fail
    refine (heldIntS_any (nearL a0 xs0).length g _ 1 _ fg_13.rd (by omega) (by omega)).mono ?_
    rintro e w' ⟨rfl, rfl⟩
    go_wp2_with fail
    go_ret
    exact ⟨rfl, hB13⟩
set_option maxRecDepth 100000 in
theorem lifted (os : Os) (started : os.Started) (H : Type) (enc : TypeId × Value → H) :
    ReturnsInHanded {} Try.checked os 13 .any (Rows.fnExactNearestSignalsSpec.pre6 enc Try.prog Try.f13 Rows.fnExactNearestSignalsRow.domain false) (Rows.fnExactNearestSignalsSpec.post enc Try.prog Try.f13 false true false false) := by
  refine returnsInHanded_of_change (C := Try.checked) own started (by kernel_rfl) Try.func13
    (ChangeSpec.witness6 (enc := enc) (C := Try.checked) false ⟨#[], #[.int .i64 0, .slice Option.none 0 0], []⟩ 8 (by kernel_rfl) (by kernel_rfl) (by kernel_rfl) (by kernel_rfl)) ?_
  intro W base args ds gs before hval0 hW _ _
  have hval : ∀ (j : Nat) t v, Try.f13.params[j]? = some t → args[j]? = some v → Value.okWide Try.prog W .any base t v := hval0
  have hW' := hW
  obtain ⟨p, q, hA0, hV, rfl, hfz, hnd⟩ := hW
  have hA : DataW.TrodAll enc Try.prog W 0 (fun _ => true) true Try.f13.params.toList args.toList ds p := hA0
  rw [Try.params13] at hA hval
  obtain ⟨v0, vs0, d0, ds0, p0, q0, hargs, rfl, rfl, h0, r0⟩ := trodAll_cons hA
  obtain ⟨v1, vs1, d1, ds1, p1, q1, rfl, rfl, rfl, h1, r1⟩ := trodAll_cons r0
  obtain ⟨rfl, rfl, rfl⟩ := trodAll_nil r1
  obtain rfl : args = #[v0, v1] := by cases args; simp_all
  obtain ⟨rfl, rfl⟩ := trodVars_none hV
  obtain ⟨a0, rfl, rfl, rfl, w0⟩ := open_int Try.underlying3 (hval 0 3 v0 rfl rfl) h0
  obtain ⟨f1, g1⟩ := h1
  rw [slice_cells Try.underlying28 (hval 1 28 v1 rfl rfl)] at g1
  obtain ⟨xs1, x1⟩ := open_intS g1
  clear hA0 hval0
  refine (walk a0 w0 v1 xs1 W x1).mono fun e W' ⟨he, hb⟩ => ?_
  subst he
  exact ⟨_, rfl, law_post hW' rfl rfl (by kernel_rfl) rfl hb⟩
theorem over : Rows.fnExactNearestSignalsRow.holds Try.pinned (OpenSpec.ofChange Rows.fnExactNearestSignalsSpec) :=
  OpenClaim.holds_of_wide 13 Try.f13 rfl rfl rfl rfl rfl rfl rfl ⟨rfl, rfl, rfl, rfl, rfl⟩ rfl rfl rfl rfl rfl (by kernel_rfl) Try.func13 (by kernel_rfl)
    (of_decide_eq_true (by kernel_rfl)) (by unfold Func.isWrapper; first | (rw [if_pos (by decide +kernel)]; kernel_rfl) | (rw [if_neg (by decide +kernel)]; exact ⟨rfl, rfl⟩))
    (fun os started H enc _ => lifted os started H enc)
/-- The statement. -/
theorem proved : Rows.FnExactNearestSignalsSaid :=
  over
#print axioms proved
end Go.Proofs.Ytfkgfioghfmmnaa.fnExactNearestSignals
