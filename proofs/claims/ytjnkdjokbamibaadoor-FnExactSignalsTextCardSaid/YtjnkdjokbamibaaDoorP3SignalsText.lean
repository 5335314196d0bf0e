/- Texts of one claim, joined: VSignalsText. -/
import Derived.Deep.RegionHeld3
import Derived.Test.YtjnkdjokbamibaaDoorP2SignalsText
/- The walk of the law FnExactSignalsText. -/
namespace Go.Proofs.YtjnkdjokbamibaaDoor.fnExactSignalsText
open Go.ChangeShapes Go.WideShapes Go.ChangeAt Go.RowKit
open Go.ChangeMaps (open_string)
set_option linter.unusedVariables false
set_option maxHeartbeats 4000000 in
set_option maxRecDepth 100000 in
theorem walk (v0 : Value) (xs0 : List Int) (w : World) (hr0 : RdI w w.heap.size v0 xs0) : Calls Tryd.prog 4 #[v0] w fun e w' => e = .returned (.bool true) ∧ Below w.heap.size w w' := by
  obtain ⟨A0, c0, rfl, hc0, hm0⟩ := Rd.form hr0
  have H0 := Lib.hid hr0
  clear hr0
  by_cases hbig0 : 1048576 < xs0.length
  · go_enter Tryd.func4, Tryd.ntmps4
    go_wp2_with fail
    go_ret
    exact ⟨rfl, Below.refl _ _⟩
  have hsm0 : xs0.length ≤ 1048576 := by omega
  go_enter Tryd.func4, Tryd.ntmps4
  go_wp2_with fail
  refine (toIntS_any xs0 _ w.heap.size _ H0.out (by omega) (by omega)).mono ?_
  rintro e w1 ⟨u0, rfl, fu0, hb1⟩
  have fu0_1 : OwI w1 w.heap.size w1.heap.size u0 xs0 := fu0
  have hw1 : Below w.heap.size w w1 := hb1
  have hs1 : w.heap.size ≤ w1.heap.size := hw1.size
  have hB1 : Below w.heap.size w w1 := hw1.mono (by omega)
  have H0_1 : RdI w1 w.heap.size (.slice A0 xs0.length c0) xs0 := H0.out.below hw1 (by omega)
  obtain ⟨p0, q0, hT⟩ : ∃ p0 q0, lineV xs0 = .tuple #[.string p0, .bool q0] := lineV_form _
  have c1 := sSignalsText_any xs0 u0 _ _ fu0_1.rd (by omega)
  rw [hT] at c1
  have C1 := Lib.hid c1
  clear c1
  have HT := Lib.hid hT
  clear hT
  go_wp2_with fail
  refine (C1.out).mono ?_
  rintro e w2 ⟨rfl, hb2⟩
  have hw2 : Below w1.heap.size w1 w2 := hb2
  have hs2 : w1.heap.size ≤ w2.heap.size := hw2.size
  have hB2 : Below w.heap.size w w2 := hB1.trans (hw2.mono (by omega))
  have H0_2 : RdI w2 w.heap.size (.slice A0 xs0.length c0) xs0 := H0_1.below hw2 (by omega)
  clear H0_1
  have fu0_2 : OwI w2 w.heap.size w1.heap.size u0 xs0 := fu0_1.below hw2 (by omega)
  clear fu0_1
  go_wp2_with fail
  refine (toIntS_any xs0 _ w.heap.size _ H0_2 (by omega) (by omega)).mono ?_
  rintro e w3 ⟨x0, rfl, fx0, hb3⟩
  have fx0_3 : OwI w3 w2.heap.size w3.heap.size x0 xs0 := fx0
  have hw3 : Below w2.heap.size w2 w3 := hb3
  have hs3 : w2.heap.size ≤ w3.heap.size := hw3.size
  have hB3 : Below w.heap.size w w3 := hB2.trans (hw3.mono (by omega))
  have H0_3 : RdI w3 w.heap.size (.slice A0 xs0.length c0) xs0 := H0_2.below hw3 (by omega)
  clear H0_2
  have fu0_3 : OwI w3 w.heap.size w1.heap.size u0 xs0 := fu0_2.below hw3 (by omega)
  clear fu0_2
  have c2 := SignalsText_any xs0 x0 _ _ fx0_3.rd (by omega)
  rw [HT.out] at c2
  have C2 := Lib.hid c2
  clear c2
  go_wp2_with fail
  refine (C2.out).mono ?_
  rintro e w4 ⟨rfl, hb4⟩
  have hw4 : Below w3.heap.size w3 w4 := hb4
  have hs4 : w3.heap.size ≤ w4.heap.size := hw4.size
  have hB4 : Below w.heap.size w w4 := hB3.trans (hw4.mono (by omega))
  have H0_4 : RdI w4 w.heap.size (.slice A0 xs0.length c0) xs0 := H0_3.below hw4 (by omega)
  clear H0_3
  have fu0_4 : OwI w4 w.heap.size w1.heap.size u0 xs0 := fu0_3.below hw4 (by omega)
  clear fu0_3
  have fx0_4 : OwI w4 w2.heap.size w3.heap.size x0 xs0 := fx0_3.below hw4 (by omega)
  clear fx0_3
  go_wp2_with fail
  refine (toIntS_any xs0 _ w.heap.size _ H0_4 (by omega) (by omega)).mono ?_
  rintro e w5 ⟨y0, rfl, fy0, hb5⟩
  have fy0_5 : OwI w5 w4.heap.size w5.heap.size y0 xs0 := fy0
  have hw5 : Below w4.heap.size w4 w5 := hb5
  have hs5 : w4.heap.size ≤ w5.heap.size := hw5.size
  have hB5 : Below w.heap.size w w5 := hB4.trans (hw5.mono (by omega))
  have H0_5 : RdI w5 w.heap.size (.slice A0 xs0.length c0) xs0 := H0_4.below hw5 (by omega)
  clear H0_4
  have fu0_5 : OwI w5 w.heap.size w1.heap.size u0 xs0 := fu0_4.below hw5 (by omega)
  clear fu0_4
  have fx0_5 : OwI w5 w2.heap.size w3.heap.size x0 xs0 := fx0_4.below hw5 (by omega)
  clear fx0_4
  go_wp2_with fail
  refine (eqIntS_sameB _ _ _ _ _ _ fx0_5.rd fy0_5.rd).mono ?_
  rintro e w6 ⟨rfl, hb6⟩
  have hw6 : Below w5.heap.size w5 w6 := hb6
  have hs6 : w5.heap.size ≤ w6.heap.size := hw6.size
  have hB6 : Below w.heap.size w w6 := hB5.trans (hw6.mono (by omega))
  have H0_6 : RdI w6 w.heap.size (.slice A0 xs0.length c0) xs0 := H0_5.below hw6 (by omega)
  clear H0_5
  have fu0_6 : OwI w6 w.heap.size w1.heap.size u0 xs0 := fu0_5.below hw6 (by omega)
  clear fu0_5
  have fx0_6 : OwI w6 w2.heap.size w3.heap.size x0 xs0 := fx0_5.below hw6 (by omega)
  clear fx0_5
  have fy0_6 : OwI w6 w4.heap.size w5.heap.size y0 xs0 := fy0_5.below hw6 (by omega)
  clear fy0_5
  go_wp2_with fail
  go_ret
  exact ⟨rfl, hB6⟩
end Go.Proofs.YtjnkdjokbamibaaDoor.fnExactSignalsText
