/- Proved: FnExactReadWords returns true for all words and digits.
   Conditions: none; for every input that the row speaks of. -/
import Derived.Test.YtfiipjdlleihhaaP
import Derived.Test.YtfiipjdlleihhaaO2
import Derived.Test.YtfiipjdlleihhaaE9
import Derived.Deep.RegionHeld3
namespace Go.Proofs.Ytfiipjdlleihhaa.fnExactReadWords
open Go.ChangeShapes Go.WideShapes Go.ChangeAt Go.RowKit
open Go.ChangeMaps (open_string)
set_option linter.unusedVariables false
set_option maxHeartbeats 4000000 in
set_option maxRecDepth 100000 in
theorem walk (v0 : Value) (xs0 : List (List Int)) (v1 : Value) (xs1 : List Int) (w : World) (hr0 : RdII w w.heap.size v0 xs0) (hr1 : RdI w w.heap.size v1 xs1) : Calls Try.prog 3 #[v0, v1] w fun e w' => e = .returned (.bool true) ∧ Below w.heap.size w w' := by
  have H0 := Lib.hid hr0
  clear hr0
  obtain ⟨A1, c1, rfl, hc1, hm1⟩ := Rd.form hr1
  have H1 := Lib.hid hr1
  clear hr1
  by_cases hbig1 : 1048576 < xs1.length
  · go_enter Try.func3, Try.ntmps3
    go_wp2_with fail
    go_ret
    exact ⟨rfl, Below.refl _ _⟩
  have hsm1 : xs1.length ≤ 1048576 := by omega
  obtain ⟨z0, hz0⟩ : ∃ z : Int, z = szIntSSM xs0 1048576 := ⟨_, rfl⟩
  have HZ0 := Lib.hid hz0
  clear hz0
  by_cases hneg0 : z0 < 0
  · go_enter Try.func3, Try.ntmps3
    go_wp2_with fail
    refine (szIntSS_any xs0 v0 1048576 _ _ H0.out (by omega) (by omega)).mono ?_
    rw [← HZ0.out]
    rintro e w' ⟨rfl, rfl⟩
    go_wp2_with fail
    go_ret
    exact ⟨rfl, Below.refl _ _⟩
  have hsb0 := szIntSS_bd HZ0.out hneg0
  have hlen := readRes_len xs0 xs1
  go_enter Try.func3, Try.ntmps3
  go_wp2_with fail
  refine (szIntSS_any xs0 v0 1048576 _ _ H0.out (by omega) (by omega)).mono ?_
  rw [← HZ0.out]
  rintro e w' ⟨rfl, rfl⟩
  go_wp2_with fail
  refine (toIntSS_any xs0 _ w.heap.size _ H0.out hsb0 (by omega)).mono ?_
  rintro e w1 ⟨u0, rfl, fu0, hb1⟩
  have fu0_1 : OwII w1 w.heap.size w1.heap.size u0 xs0 := fu0
  have hw1 : Below w.heap.size w w1 := hb1
  have hs1 : w.heap.size ≤ w1.heap.size := hw1.size
  have hB1 : Below w.heap.size w w1 := hw1.mono (by omega)
  have H0_1 : RdII w1 w.heap.size v0 xs0 := H0.out.below hw1 (by omega)
  have H1_1 : RdI w1 w.heap.size (.slice A1 xs1.length c1) xs1 := H1.out.below hw1 (by omega)
  go_wp2_with fail
  refine (toIntS_any xs1 _ w.heap.size _ H1_1 (by omega) (by omega)).mono ?_
  rintro e w2 ⟨u1, rfl, fu1, hb2⟩
  have fu1_2 : OwI w2 w1.heap.size w2.heap.size u1 xs1 := fu1
  have hw2 : Below w1.heap.size w1 w2 := hb2
  have hs2 : w1.heap.size ≤ w2.heap.size := hw2.size
  have hB2 : Below w.heap.size w w2 := hB1.trans (hw2.mono (by omega))
  have H0_2 : RdII w2 w.heap.size v0 xs0 := H0_1.below hw2 (by omega)
  clear H0_1
  have H1_2 : RdI w2 w.heap.size (.slice A1 xs1.length c1) xs1 := H1_1.below hw2 (by omega)
  clear H1_1
  have fu0_2 : OwII w2 w.heap.size w1.heap.size u0 xs0 := fu0_1.below hw2 (by omega)
  clear fu0_1
  go_wp2_with fail
  refine (sReadWords_any xs0 xs1 u0 u1 _ _ _ fu0_2.rd fu1_2.rd (by omega) (by omega)).mono ?_
  rintro e w3 ⟨s, rfl, fs, hb3⟩
  have fs_3 : OwI w3 w2.heap.size w3.heap.size s (readRes xs0 xs1).1 := fs
  have hw3 : Below w2.heap.size w2 w3 := hb3
  have hs3 : w2.heap.size ≤ w3.heap.size := hw3.size
  have hB3 : Below w.heap.size w w3 := hB2.trans (hw3.mono (by omega))
  have H0_3 : RdII w3 w.heap.size v0 xs0 := H0_2.below hw3 (by omega)
  clear H0_2
  have H1_3 : RdI w3 w.heap.size (.slice A1 xs1.length c1) xs1 := H1_2.below hw3 (by omega)
  clear H1_2
  have fu0_3 : OwII w3 w.heap.size w1.heap.size u0 xs0 := fu0_2.below hw3 (by omega)
  clear fu0_2
  have fu1_3 : OwI w3 w1.heap.size w2.heap.size u1 xs1 := fu1_2.below hw3 (by omega)
  clear fu1_2
  go_wp2_with fail
  refine (toIntSS_any xs0 _ w.heap.size _ H0_3 hsb0 (by omega)).mono ?_
  rintro e w4 ⟨x0, rfl, fx0, hb4⟩
  have fx0_4 : OwII w4 w3.heap.size w4.heap.size x0 xs0 := fx0
  have hw4 : Below w3.heap.size w3 w4 := hb4
  have hs4 : w3.heap.size ≤ w4.heap.size := hw4.size
  have hB4 : Below w.heap.size w w4 := hB3.trans (hw4.mono (by omega))
  have H0_4 : RdII w4 w.heap.size v0 xs0 := H0_3.below hw4 (by omega)
  clear H0_3
  have H1_4 : RdI w4 w.heap.size (.slice A1 xs1.length c1) xs1 := H1_3.below hw4 (by omega)
  clear H1_3
  have fu0_4 : OwII w4 w.heap.size w1.heap.size u0 xs0 := fu0_3.below hw4 (by omega)
  clear fu0_3
  have fu1_4 : OwI w4 w1.heap.size w2.heap.size u1 xs1 := fu1_3.below hw4 (by omega)
  clear fu1_3
  have fs_4 : OwI w4 w2.heap.size w3.heap.size s (readRes xs0 xs1).1 := fs_3.below hw4 (by omega)
  clear fs_3
  go_wp2_with fail
  refine (toIntS_any xs1 _ w.heap.size _ H1_4 (by omega) (by omega)).mono ?_
  rintro e w5 ⟨x1, rfl, fx1, hb5⟩
  have fx1_5 : OwI w5 w4.heap.size w5.heap.size x1 xs1 := fx1
  have hw5 : Below w4.heap.size w4 w5 := hb5
  have hs5 : w4.heap.size ≤ w5.heap.size := hw5.size
  have hB5 : Below w.heap.size w w5 := hB4.trans (hw5.mono (by omega))
  have H0_5 : RdII w5 w.heap.size v0 xs0 := H0_4.below hw5 (by omega)
  clear H0_4
  have H1_5 : RdI w5 w.heap.size (.slice A1 xs1.length c1) xs1 := H1_4.below hw5 (by omega)
  clear H1_4
  have fu0_5 : OwII w5 w.heap.size w1.heap.size u0 xs0 := fu0_4.below hw5 (by omega)
  clear fu0_4
  have fu1_5 : OwI w5 w1.heap.size w2.heap.size u1 xs1 := fu1_4.below hw5 (by omega)
  clear fu1_4
  have fs_5 : OwI w5 w2.heap.size w3.heap.size s (readRes xs0 xs1).1 := fs_4.below hw5 (by omega)
  clear fs_4
  have fx0_5 : OwII w5 w3.heap.size w4.heap.size x0 xs0 := fx0_4.below hw5 (by omega)
  clear fx0_4
  go_wp2_with fail
  refine (ReadWords_any xs0 xs1 x0 x1 _ _ _ fx0_5.rd fx1_5.rd (by omega) (by omega)).mono ?_
  rintro e w6 ⟨g, rfl, fg, hb6⟩
  have fg_6 : OwI w6 w5.heap.size w6.heap.size g (readRes xs0 xs1).1 := fg
  have hw6 : Below w5.heap.size w5 w6 := hb6
  have hs6 : w5.heap.size ≤ w6.heap.size := hw6.size
  have hB6 : Below w.heap.size w w6 := hB5.trans (hw6.mono (by omega))
  have H0_6 : RdII w6 w.heap.size v0 xs0 := H0_5.below hw6 (by omega)
  clear H0_5
  have H1_6 : RdI w6 w.heap.size (.slice A1 xs1.length c1) xs1 := H1_5.below hw6 (by omega)
  clear H1_5
  have fu0_6 : OwII w6 w.heap.size w1.heap.size u0 xs0 := fu0_5.below hw6 (by omega)
  clear fu0_5
  have fu1_6 : OwI w6 w1.heap.size w2.heap.size u1 xs1 := fu1_5.below hw6 (by omega)
  clear fu1_5
  have fs_6 : OwI w6 w2.heap.size w3.heap.size s (readRes xs0 xs1).1 := fs_5.below hw6 (by omega)
  clear fs_5
  have fx0_6 : OwII w6 w3.heap.size w4.heap.size x0 xs0 := fx0_5.below hw6 (by omega)
  clear fx0_5
  have fx1_6 : OwI w6 w4.heap.size w5.heap.size x1 xs1 := fx1_5.below hw6 (by omega)
  clear fx1_5
  go_wp2_with fail
  refine (eqIntS_sameB _ _ _ _ _ _ fg_6.rd fs_6.rd).mono ?_
  rintro e w7 ⟨rfl, hb7⟩
  have hw7 : Below w6.heap.size w6 w7 := hb7
  have hs7 : w6.heap.size ≤ w7.heap.size := hw7.size
  have hB7 : Below w.heap.size w w7 := hB6.trans (hw7.mono (by omega))
  have H0_7 : RdII w7 w.heap.size v0 xs0 := H0_6.below hw7 (by omega)
  clear H0_6
  have H1_7 : RdI w7 w.heap.size (.slice A1 xs1.length c1) xs1 := H1_6.below hw7 (by omega)
  clear H1_6
  have fu0_7 : OwII w7 w.heap.size w1.heap.size u0 xs0 := fu0_6.below hw7 (by omega)
  clear fu0_6
  have fu1_7 : OwI w7 w1.heap.size w2.heap.size u1 xs1 := fu1_6.below hw7 (by omega)
  clear fu1_6
  have fs_7 : OwI w7 w2.heap.size w3.heap.size s (readRes xs0 xs1).1 := fs_6.below hw7 (by omega)
  clear fs_6
  have fx0_7 : OwII w7 w3.heap.size w4.heap.size x0 xs0 := fx0_6.below hw7 (by omega)
  clear fx0_6
  have fx1_7 : OwI w7 w4.heap.size w5.heap.size x1 xs1 := fx1_6.below hw7 (by omega)
  clear fx1_6
  have fg_7 : OwI w7 w5.heap.size w6.heap.size g (readRes xs0 xs1).1 := fg_6.below hw7 (by omega)
  clear fg_6
  go_wp2_with fail
  refine (toIntSS_any xs0 _ w.heap.size _ H0_7 hsb0 (by omega)).mono ?_
  rintro e w8 ⟨y0, rfl, fy0, hb8⟩
  have fy0_8 : OwII w8 w7.heap.size w8.heap.size y0 xs0 := fy0
  have hw8 : Below w7.heap.size w7 w8 := hb8
  have hs8 : w7.heap.size ≤ w8.heap.size := hw8.size
  have hB8 : Below w.heap.size w w8 := hB7.trans (hw8.mono (by omega))
  have H0_8 : RdII w8 w.heap.size v0 xs0 := H0_7.below hw8 (by omega)
  clear H0_7
  have H1_8 : RdI w8 w.heap.size (.slice A1 xs1.length c1) xs1 := H1_7.below hw8 (by omega)
  clear H1_7
  have fu0_8 : OwII w8 w.heap.size w1.heap.size u0 xs0 := fu0_7.below hw8 (by omega)
  clear fu0_7
  have fu1_8 : OwI w8 w1.heap.size w2.heap.size u1 xs1 := fu1_7.below hw8 (by omega)
  clear fu1_7
  have fs_8 : OwI w8 w2.heap.size w3.heap.size s (readRes xs0 xs1).1 := fs_7.below hw8 (by omega)
  clear fs_7
  have fx0_8 : OwII w8 w3.heap.size w4.heap.size x0 xs0 := fx0_7.below hw8 (by omega)
  clear fx0_7
  have fx1_8 : OwI w8 w4.heap.size w5.heap.size x1 xs1 := fx1_7.below hw8 (by omega)
  clear fx1_7
  have fg_8 : OwI w8 w5.heap.size w6.heap.size g (readRes xs0 xs1).1 := fg_7.below hw8 (by omega)
  clear fg_7
  go_wp2_with fail
  refine (eqIntSS_sameB _ _ _ _ _ _ fx0_8.rd fy0_8.rd).mono ?_
  rintro e w9 ⟨rfl, hb9⟩
  have hw9 : Below w8.heap.size w8 w9 := hb9
  have hs9 : w8.heap.size ≤ w9.heap.size := hw9.size
  have hB9 : Below w.heap.size w w9 := hB8.trans (hw9.mono (by omega))
  have H0_9 : RdII w9 w.heap.size v0 xs0 := H0_8.below hw9 (by omega)
  clear H0_8
  have H1_9 : RdI w9 w.heap.size (.slice A1 xs1.length c1) xs1 := H1_8.below hw9 (by omega)
  clear H1_8
  have fu0_9 : OwII w9 w.heap.size w1.heap.size u0 xs0 := fu0_8.below hw9 (by omega)
  clear fu0_8
  have fu1_9 : OwI w9 w1.heap.size w2.heap.size u1 xs1 := fu1_8.below hw9 (by omega)
  clear fu1_8
  have fs_9 : OwI w9 w2.heap.size w3.heap.size s (readRes xs0 xs1).1 := fs_8.below hw9 (by omega)
  clear fs_8
  have fx0_9 : OwII w9 w3.heap.size w4.heap.size x0 xs0 := fx0_8.below hw9 (by omega)
  clear fx0_8
  have fx1_9 : OwI w9 w4.heap.size w5.heap.size x1 xs1 := fx1_8.below hw9 (by omega)
  clear fx1_8
  have fg_9 : OwI w9 w5.heap.size w6.heap.size g (readRes xs0 xs1).1 := fg_8.below hw9 (by omega)
  clear fg_8
  have fy0_9 : OwII w9 w7.heap.size w8.heap.size y0 xs0 := fy0_8.below hw9 (by omega)
  clear fy0_8
  go_wp2_with fail
  refine (toIntS_any xs1 _ w.heap.size _ H1_9 (by omega) (by omega)).mono ?_
  rintro e w10 ⟨y1, rfl, fy1, hb10⟩
  have fy1_10 : OwI w10 w9.heap.size w10.heap.size y1 xs1 := fy1
  have hw10 : Below w9.heap.size w9 w10 := hb10
  have hs10 : w9.heap.size ≤ w10.heap.size := hw10.size
  have hB10 : Below w.heap.size w w10 := hB9.trans (hw10.mono (by omega))
  have H0_10 : RdII w10 w.heap.size v0 xs0 := H0_9.below hw10 (by omega)
  clear H0_9
  have H1_10 : RdI w10 w.heap.size (.slice A1 xs1.length c1) xs1 := H1_9.below hw10 (by omega)
  clear H1_9
  have fu0_10 : OwII w10 w.heap.size w1.heap.size u0 xs0 := fu0_9.below hw10 (by omega)
  clear fu0_9
  have fu1_10 : OwI w10 w1.heap.size w2.heap.size u1 xs1 := fu1_9.below hw10 (by omega)
  clear fu1_9
  have fs_10 : OwI w10 w2.heap.size w3.heap.size s (readRes xs0 xs1).1 := fs_9.below hw10 (by omega)
  clear fs_9
  have fx0_10 : OwII w10 w3.heap.size w4.heap.size x0 xs0 := fx0_9.below hw10 (by omega)
  clear fx0_9
  have fx1_10 : OwI w10 w4.heap.size w5.heap.size x1 xs1 := fx1_9.below hw10 (by omega)
  clear fx1_9
  have fg_10 : OwI w10 w5.heap.size w6.heap.size g (readRes xs0 xs1).1 := fg_9.below hw10 (by omega)
  clear fg_9
  have fy0_10 : OwII w10 w7.heap.size w8.heap.size y0 xs0 := fy0_9.below hw10 (by omega)
  clear fy0_9
  go_wp2_with fail
  refine (eqIntS_sameB _ _ _ _ _ _ fx1_10.rd fy1_10.rd).mono ?_
  rintro e w11 ⟨rfl, hb11⟩
  have hw11 : Below w10.heap.size w10 w11 := hb11
  have hs11 : w10.heap.size ≤ w11.heap.size := hw11.size
  have hB11 : Below w.heap.size w w11 := hB10.trans (hw11.mono (by omega))
  have H0_11 : RdII w11 w.heap.size v0 xs0 := H0_10.below hw11 (by omega)
  clear H0_10
  have H1_11 : RdI w11 w.heap.size (.slice A1 xs1.length c1) xs1 := H1_10.below hw11 (by omega)
  clear H1_10
  have fu0_11 : OwII w11 w.heap.size w1.heap.size u0 xs0 := fu0_10.below hw11 (by omega)
  clear fu0_10
  have fu1_11 : OwI w11 w1.heap.size w2.heap.size u1 xs1 := fu1_10.below hw11 (by omega)
  clear fu1_10
  have fs_11 : OwI w11 w2.heap.size w3.heap.size s (readRes xs0 xs1).1 := fs_10.below hw11 (by omega)
  clear fs_10
  have fx0_11 : OwII w11 w3.heap.size w4.heap.size x0 xs0 := fx0_10.below hw11 (by omega)
  clear fx0_10
  have fx1_11 : OwI w11 w4.heap.size w5.heap.size x1 xs1 := fx1_10.below hw11 (by omega)
  clear fx1_10
  have fg_11 : OwI w11 w5.heap.size w6.heap.size g (readRes xs0 xs1).1 := fg_10.below hw11 (by omega)
  clear fg_10
  have fy0_11 : OwII w11 w7.heap.size w8.heap.size y0 xs0 := fy0_10.below hw11 (by omega)
  clear fy0_10
  have fy1_11 : OwI w11 w9.heap.size w10.heap.size y1 xs1 := fy1_10.below hw11 (by omega)
  clear fy1_10
  go_wp2_with fail
  refine (markIntSS_ex _ x0 _ _ 1 _ fx0_11 (by omega) (by omega)).mono ?_
  rintro e w12 ⟨q12, rfl, hq12, fx0m12, hk12⟩
  have hs12 : w12.heap.size = w11.heap.size := hk12.size
  have hw12 : Below w3.heap.size w11 w12 := hk12.bel
  have hB12 : Below w.heap.size w w12 := hB11.trans (hw12.mono (by omega))
  have H0_12 : RdII w12 w.heap.size v0 xs0 := H0_11.below hw12 (by omega)
  clear H0_11
  have H1_12 : RdI w12 w.heap.size (.slice A1 xs1.length c1) xs1 := H1_11.below hw12 (by omega)
  clear H1_11
  have fu0_12 : OwII w12 w.heap.size w1.heap.size u0 xs0 := fu0_11.keep hk12 (by omega)
  clear fu0_11
  have fu1_12 : OwI w12 w1.heap.size w2.heap.size u1 xs1 := fu1_11.keep hk12 (by omega)
  clear fu1_11
  have fs_12 : OwI w12 w2.heap.size w3.heap.size s (readRes xs0 xs1).1 := fs_11.keep hk12 (by omega)
  clear fs_11
  have fx1_12 : OwI w12 w4.heap.size w5.heap.size x1 xs1 := fx1_11.keep hk12 (by omega)
  clear fx1_11
  have fg_12 : OwI w12 w5.heap.size w6.heap.size g (readRes xs0 xs1).1 := fg_11.keep hk12 (by omega)
  clear fg_11
  have fy0_12 : OwII w12 w7.heap.size w8.heap.size y0 xs0 := fy0_11.keep hk12 (by omega)
  clear fy0_11
  have fy1_12 : OwI w12 w9.heap.size w10.heap.size y1 xs1 := fy1_11.keep hk12 (by omega)
  clear fy1_11
  go_wp2_with fail
  refine (markIntS_ex _ x1 _ _ q12 _ fx1_12 (by omega) (by omega)).mono ?_
  rintro e w13 ⟨q13, rfl, hq13, fx1m13, hk13⟩
  have hs13 : w13.heap.size = w12.heap.size := hk13.size
  have hw13 : Below w4.heap.size w12 w13 := hk13.bel
  have hB13 : Below w.heap.size w w13 := hB12.trans (hw13.mono (by omega))
  have H0_13 : RdII w13 w.heap.size v0 xs0 := H0_12.below hw13 (by omega)
  clear H0_12
  have H1_13 : RdI w13 w.heap.size (.slice A1 xs1.length c1) xs1 := H1_12.below hw13 (by omega)
  clear H1_12
  have fu0_13 : OwII w13 w.heap.size w1.heap.size u0 xs0 := fu0_12.keep hk13 (by omega)
  clear fu0_12
  have fu1_13 : OwI w13 w1.heap.size w2.heap.size u1 xs1 := fu1_12.keep hk13 (by omega)
  clear fu1_12
  have fs_13 : OwI w13 w2.heap.size w3.heap.size s (readRes xs0 xs1).1 := fs_12.keep hk13 (by omega)
  clear fs_12
  have fx0_13 : OwII w13 w3.heap.size w4.heap.size x0 (marksII 1 xs0) := fx0m12.keep hk13 (by omega)
  clear fx0m12
  have fg_13 : OwI w13 w5.heap.size w6.heap.size g (readRes xs0 xs1).1 := fg_12.keep hk13 (by omega)
  clear fg_12
  have fy0_13 : OwII w13 w7.heap.size w8.heap.size y0 xs0 := fy0_12.keep hk13 (by omega)
  clear fy0_12
  have fy1_13 : OwI w13 w9.heap.size w10.heap.size y1 xs1 := fy1_12.keep hk13 (by omega)
  clear fy1_12
  go_wp2_with fail
  refine (eqIntS_sameB _ _ _ _ _ _ fg_13.rd fs_13.rd).mono ?_
  rintro e w14 ⟨rfl, hb14⟩
  have hw14 : Below w13.heap.size w13 w14 := hb14
  have hs14 : w13.heap.size ≤ w14.heap.size := hw14.size
  have hB14 : Below w.heap.size w w14 := hB13.trans (hw14.mono (by omega))
  have H0_14 : RdII w14 w.heap.size v0 xs0 := H0_13.below hw14 (by omega)
  clear H0_13
  have H1_14 : RdI w14 w.heap.size (.slice A1 xs1.length c1) xs1 := H1_13.below hw14 (by omega)
  clear H1_13
  have fu0_14 : OwII w14 w.heap.size w1.heap.size u0 xs0 := fu0_13.below hw14 (by omega)
  clear fu0_13
  have fu1_14 : OwI w14 w1.heap.size w2.heap.size u1 xs1 := fu1_13.below hw14 (by omega)
  clear fu1_13
  have fs_14 : OwI w14 w2.heap.size w3.heap.size s (readRes xs0 xs1).1 := fs_13.below hw14 (by omega)
  clear fs_13
  have fx0_14 : OwII w14 w3.heap.size w4.heap.size x0 (marksII 1 xs0) := fx0_13.below hw14 (by omega)
  clear fx0_13
  have fx1_14 : OwI w14 w4.heap.size w5.heap.size x1 (marks q12 xs1.length) := fx1m13.below hw14 (by omega)
  clear fx1m13
  have fg_14 : OwI w14 w5.heap.size w6.heap.size g (readRes xs0 xs1).1 := fg_13.below hw14 (by omega)
  clear fg_13
  have fy0_14 : OwII w14 w7.heap.size w8.heap.size y0 xs0 := fy0_13.below hw14 (by omega)
  clear fy0_13
  have fy1_14 : OwI w14 w9.heap.size w10.heap.size y1 xs1 := fy1_13.below hw14 (by omega)
  clear fy1_13
  go_wp2_with fail
  refine (markIntS_any _ g _ _ 1 _ fg_14 (by omega) (by omega)).mono ?_
  rintro e w15 ⟨rfl, fgm15, hk15⟩
  have hs15 : w15.heap.size = w14.heap.size := hk15.size
  have hw15 : Below w5.heap.size w14 w15 := hk15.bel
  have hB15 : Below w.heap.size w w15 := hB14.trans (hw15.mono (by omega))
  have H0_15 : RdII w15 w.heap.size v0 xs0 := H0_14.below hw15 (by omega)
  clear H0_14
  have H1_15 : RdI w15 w.heap.size (.slice A1 xs1.length c1) xs1 := H1_14.below hw15 (by omega)
  clear H1_14
  have fu0_15 : OwII w15 w.heap.size w1.heap.size u0 xs0 := fu0_14.keep hk15 (by omega)
  clear fu0_14
  have fu1_15 : OwI w15 w1.heap.size w2.heap.size u1 xs1 := fu1_14.keep hk15 (by omega)
  clear fu1_14
  have fs_15 : OwI w15 w2.heap.size w3.heap.size s (readRes xs0 xs1).1 := fs_14.keep hk15 (by omega)
  clear fs_14
  have fx0_15 : OwII w15 w3.heap.size w4.heap.size x0 (marksII 1 xs0) := fx0_14.keep hk15 (by omega)
  clear fx0_14
  have fx1_15 : OwI w15 w4.heap.size w5.heap.size x1 (marks q12 xs1.length) := fx1_14.keep hk15 (by omega)
  clear fx1_14
  have fy0_15 : OwII w15 w7.heap.size w8.heap.size y0 xs0 := fy0_14.keep hk15 (by omega)
  clear fy0_14
  have fy1_15 : OwI w15 w9.heap.size w10.heap.size y1 xs1 := fy1_14.keep hk15 (by omega)
  clear fy1_14
  go_wp2_with fail
  refine (heldIntS_any (((readRes xs0 xs1).1).length) g _ 1 _ fgm15.rd (by omega) (by omega)).mono ?_
  rintro e w' ⟨rfl, rfl⟩
  go_wp2_with fail
  refine (toIntSS_any xs0 _ w.heap.size _ H0_15 hsb0 (by omega)).mono ?_
  rintro e w16 ⟨z0, rfl, fz0, hb16⟩
  have fz0_16 : OwII w16 w15.heap.size w16.heap.size z0 xs0 := fz0
  have hw16 : Below w15.heap.size w15 w16 := hb16
  have hs16 : w15.heap.size ≤ w16.heap.size := hw16.size
  have hB16 : Below w.heap.size w w16 := hB15.trans (hw16.mono (by omega))
  have H0_16 : RdII w16 w.heap.size v0 xs0 := H0_15.below hw16 (by omega)
  clear H0_15
  have H1_16 : RdI w16 w.heap.size (.slice A1 xs1.length c1) xs1 := H1_15.below hw16 (by omega)
  clear H1_15
  have fu0_16 : OwII w16 w.heap.size w1.heap.size u0 xs0 := fu0_15.below hw16 (by omega)
  clear fu0_15
  have fu1_16 : OwI w16 w1.heap.size w2.heap.size u1 xs1 := fu1_15.below hw16 (by omega)
  clear fu1_15
  have fs_16 : OwI w16 w2.heap.size w3.heap.size s (readRes xs0 xs1).1 := fs_15.below hw16 (by omega)
  clear fs_15
  have fx0_16 : OwII w16 w3.heap.size w4.heap.size x0 (marksII 1 xs0) := fx0_15.below hw16 (by omega)
  clear fx0_15
  have fx1_16 : OwI w16 w4.heap.size w5.heap.size x1 (marks q12 xs1.length) := fx1_15.below hw16 (by omega)
  clear fx1_15
  have fg_16 : OwI w16 w5.heap.size w6.heap.size g (marks 1 ((readRes xs0 xs1).1).length) := fgm15.below hw16 (by omega)
  clear fgm15
  have fy0_16 : OwII w16 w7.heap.size w8.heap.size y0 xs0 := fy0_15.below hw16 (by omega)
  clear fy0_15
  have fy1_16 : OwI w16 w9.heap.size w10.heap.size y1 xs1 := fy1_15.below hw16 (by omega)
  clear fy1_15
  go_wp2_with fail
  refine (toIntS_any xs1 _ w.heap.size _ H1_16 (by omega) (by omega)).mono ?_
  rintro e w17 ⟨z1, rfl, fz1, hb17⟩
  have fz1_17 : OwI w17 w16.heap.size w17.heap.size z1 xs1 := fz1
  have hw17 : Below w16.heap.size w16 w17 := hb17
  have hs17 : w16.heap.size ≤ w17.heap.size := hw17.size
  have hB17 : Below w.heap.size w w17 := hB16.trans (hw17.mono (by omega))
  have H0_17 : RdII w17 w.heap.size v0 xs0 := H0_16.below hw17 (by omega)
  clear H0_16
  have H1_17 : RdI w17 w.heap.size (.slice A1 xs1.length c1) xs1 := H1_16.below hw17 (by omega)
  clear H1_16
  have fu0_17 : OwII w17 w.heap.size w1.heap.size u0 xs0 := fu0_16.below hw17 (by omega)
  clear fu0_16
  have fu1_17 : OwI w17 w1.heap.size w2.heap.size u1 xs1 := fu1_16.below hw17 (by omega)
  clear fu1_16
  have fs_17 : OwI w17 w2.heap.size w3.heap.size s (readRes xs0 xs1).1 := fs_16.below hw17 (by omega)
  clear fs_16
  have fx0_17 : OwII w17 w3.heap.size w4.heap.size x0 (marksII 1 xs0) := fx0_16.below hw17 (by omega)
  clear fx0_16
  have fx1_17 : OwI w17 w4.heap.size w5.heap.size x1 (marks q12 xs1.length) := fx1_16.below hw17 (by omega)
  clear fx1_16
  have fg_17 : OwI w17 w5.heap.size w6.heap.size g (marks 1 ((readRes xs0 xs1).1).length) := fg_16.below hw17 (by omega)
  clear fg_16
  have fy0_17 : OwII w17 w7.heap.size w8.heap.size y0 xs0 := fy0_16.below hw17 (by omega)
  clear fy0_16
  have fy1_17 : OwI w17 w9.heap.size w10.heap.size y1 xs1 := fy1_16.below hw17 (by omega)
  clear fy1_16
  have fz0_17 : OwII w17 w15.heap.size w16.heap.size z0 xs0 := fz0_16.below hw17 (by omega)
  clear fz0_16
  go_wp2_with fail
  refine (ReadWords_any xs0 xs1 z0 z1 _ _ _ fz0_17.rd fz1_17.rd (by omega) (by omega)).mono ?_
  rintro e w18 ⟨t, rfl, ft, hb18⟩
  have ft_18 : OwI w18 w17.heap.size w18.heap.size t (readRes xs0 xs1).1 := ft
  have hw18 : Below w17.heap.size w17 w18 := hb18
  have hs18 : w17.heap.size ≤ w18.heap.size := hw18.size
  have hB18 : Below w.heap.size w w18 := hB17.trans (hw18.mono (by omega))
  have H0_18 : RdII w18 w.heap.size v0 xs0 := H0_17.below hw18 (by omega)
  clear H0_17
  have H1_18 : RdI w18 w.heap.size (.slice A1 xs1.length c1) xs1 := H1_17.below hw18 (by omega)
  clear H1_17
  have fu0_18 : OwII w18 w.heap.size w1.heap.size u0 xs0 := fu0_17.below hw18 (by omega)
  clear fu0_17
  have fu1_18 : OwI w18 w1.heap.size w2.heap.size u1 xs1 := fu1_17.below hw18 (by omega)
  clear fu1_17
  have fs_18 : OwI w18 w2.heap.size w3.heap.size s (readRes xs0 xs1).1 := fs_17.below hw18 (by omega)
  clear fs_17
  have fx0_18 : OwII w18 w3.heap.size w4.heap.size x0 (marksII 1 xs0) := fx0_17.below hw18 (by omega)
  clear fx0_17
  have fx1_18 : OwI w18 w4.heap.size w5.heap.size x1 (marks q12 xs1.length) := fx1_17.below hw18 (by omega)
  clear fx1_17
  have fg_18 : OwI w18 w5.heap.size w6.heap.size g (marks 1 ((readRes xs0 xs1).1).length) := fg_17.below hw18 (by omega)
  clear fg_17
  have fy0_18 : OwII w18 w7.heap.size w8.heap.size y0 xs0 := fy0_17.below hw18 (by omega)
  clear fy0_17
  have fy1_18 : OwI w18 w9.heap.size w10.heap.size y1 xs1 := fy1_17.below hw18 (by omega)
  clear fy1_17
  have fz0_18 : OwII w18 w15.heap.size w16.heap.size z0 xs0 := fz0_17.below hw18 (by omega)
  clear fz0_17
  have fz1_18 : OwI w18 w16.heap.size w17.heap.size z1 xs1 := fz1_17.below hw18 (by omega)
  clear fz1_17
  go_wp2_with fail
  refine (eqIntS_sameB _ _ _ _ _ _ ft_18.rd fs_18.rd).mono ?_
  rintro e w19 ⟨rfl, hb19⟩
  have hw19 : Below w18.heap.size w18 w19 := hb19
  have hs19 : w18.heap.size ≤ w19.heap.size := hw19.size
  have hB19 : Below w.heap.size w w19 := hB18.trans (hw19.mono (by omega))
  have H0_19 : RdII w19 w.heap.size v0 xs0 := H0_18.below hw19 (by omega)
  clear H0_18
  have H1_19 : RdI w19 w.heap.size (.slice A1 xs1.length c1) xs1 := H1_18.below hw19 (by omega)
  clear H1_18
  have fu0_19 : OwII w19 w.heap.size w1.heap.size u0 xs0 := fu0_18.below hw19 (by omega)
  clear fu0_18
  have fu1_19 : OwI w19 w1.heap.size w2.heap.size u1 xs1 := fu1_18.below hw19 (by omega)
  clear fu1_18
  have fs_19 : OwI w19 w2.heap.size w3.heap.size s (readRes xs0 xs1).1 := fs_18.below hw19 (by omega)
  clear fs_18
  have fx0_19 : OwII w19 w3.heap.size w4.heap.size x0 (marksII 1 xs0) := fx0_18.below hw19 (by omega)
  clear fx0_18
  have fx1_19 : OwI w19 w4.heap.size w5.heap.size x1 (marks q12 xs1.length) := fx1_18.below hw19 (by omega)
  clear fx1_18
  have fg_19 : OwI w19 w5.heap.size w6.heap.size g (marks 1 ((readRes xs0 xs1).1).length) := fg_18.below hw19 (by omega)
  clear fg_18
  have fy0_19 : OwII w19 w7.heap.size w8.heap.size y0 xs0 := fy0_18.below hw19 (by omega)
  clear fy0_18
  have fy1_19 : OwI w19 w9.heap.size w10.heap.size y1 xs1 := fy1_18.below hw19 (by omega)
  clear fy1_18
  have fz0_19 : OwII w19 w15.heap.size w16.heap.size z0 xs0 := fz0_18.below hw19 (by omega)
  clear fz0_18
  have fz1_19 : OwI w19 w16.heap.size w17.heap.size z1 xs1 := fz1_18.below hw19 (by omega)
  clear fz1_18
  have ft_19 : OwI w19 w17.heap.size w18.heap.size t (readRes xs0 xs1).1 := ft_18.below hw19 (by omega)
  clear ft_18
  go_wp2_with fail
  refine (heldIntS_any (((readRes xs0 xs1).1).length) g _ 1 _ fg_19.rd (by omega) (by omega)).mono ?_
  rintro e w' ⟨rfl, rfl⟩
  go_wp2_with fail
  go_ret
  exact ⟨rfl, hB19⟩
set_option maxRecDepth 100000 in
theorem lifted (os : Os) (started : os.Started) (H : Type) (enc : TypeId × Value → H) :
    ReturnsInHanded {} Try.checked os 3 .any (Rows.fnExactReadWordsSpec.pre6 enc Try.prog Try.f3 Rows.fnExactReadWordsRow.domain false) (Rows.fnExactReadWordsSpec.post enc Try.prog Try.f3 false true false false) := by
  refine returnsInHanded_of_change (C := Try.checked) own started (by kernel_rfl) Try.func3
    (ChangeSpec.witness6 (enc := enc) (C := Try.checked) false ⟨#[], #[.slice Option.none 0 0, .slice Option.none 0 0], []⟩ 8 (by kernel_rfl) (by kernel_rfl) (by kernel_rfl) (by kernel_rfl)) ?_
  intro W base args ds gs before hval0 hW _ _
  have hval : ∀ (j : Nat) t v, Try.f3.params[j]? = some t → args[j]? = some v → Value.okWide Try.prog W .any base t v := hval0
  have hW' := hW
  obtain ⟨p, q, hA0, hV, rfl, hfz, hnd⟩ := hW
  have hA : DataW.TrodAll enc Try.prog W 0 (fun _ => true) true Try.f3.params.toList args.toList ds p := hA0
  rw [Try.params3] at hA hval
  obtain ⟨v0, vs0, d0, ds0, p0, q0, hargs, rfl, rfl, h0, r0⟩ := trodAll_cons hA
  obtain ⟨v1, vs1, d1, ds1, p1, q1, rfl, rfl, rfl, h1, r1⟩ := trodAll_cons r0
  obtain ⟨rfl, rfl, rfl⟩ := trodAll_nil r1
  obtain rfl : args = #[v0, v1] := by cases args; simp_all
  obtain ⟨rfl, rfl⟩ := trodVars_none hV
  obtain ⟨f0, g0⟩ := h0
  rw [slice_cells Try.underlying22 (hval 0 22 v0 rfl rfl)] at g0
  obtain ⟨xs0, x0⟩ := open_intSS g0
  obtain ⟨f1, g1⟩ := h1
  rw [slice_cells Try.underlying23 (hval 1 23 v1 rfl rfl)] at g1
  obtain ⟨xs1, x1⟩ := open_intS g1
  clear hA0 hval0
  refine (walk v0 xs0 v1 xs1 W x0 x1).mono fun e W' ⟨he, hb⟩ => ?_
  subst he
  exact ⟨_, rfl, law_post hW' rfl rfl (by kernel_rfl) rfl hb⟩
theorem over : Rows.fnExactReadWordsRow.holds Try.pinned (OpenSpec.ofChange Rows.fnExactReadWordsSpec) :=
  OpenClaim.holds_of_wide 3 Try.f3 rfl rfl rfl rfl rfl rfl rfl ⟨rfl, rfl, rfl, rfl, rfl⟩ rfl rfl rfl rfl rfl (by kernel_rfl) Try.func3 (by kernel_rfl)
    (of_decide_eq_true (by kernel_rfl)) (by unfold Func.isWrapper; first | (rw [if_pos (by decide +kernel)]; kernel_rfl) | (rw [if_neg (by decide +kernel)]; exact ⟨rfl, rfl⟩))
    (fun os started H enc _ => lifted os started H enc)
/-- The statement. -/
theorem proved : Rows.FnExactReadWordsSaid :=
  over
#print axioms proved
end Go.Proofs.Ytfiipjdlleihhaa.fnExactReadWords
