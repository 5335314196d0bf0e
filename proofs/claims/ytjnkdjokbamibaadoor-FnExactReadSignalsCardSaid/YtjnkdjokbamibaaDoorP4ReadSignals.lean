/- Texts of one claim, joined: VReadSignals. -/
import Derived.Deep.RegionHeld3
import Derived.Test.YtjnkdjokbamibaaDoorP3ReadSignals
/- The walk of the law FnExactReadSignals. -/
namespace Go.Proofs.YtjnkdjokbamibaaDoor.fnExactReadSignals
open Go.ChangeShapes Go.WideShapes Go.ChangeAt Go.RowKit
open Go.ChangeMaps (open_string)
set_option linter.unusedVariables false
set_option maxHeartbeats 4000000 in
set_option maxRecDepth 100000 in
theorem walk (a0 : ByteArray) (w00 : a0.size ≤ maxLen) (w : World) (hLW0 : LW w)  : Calls Tryd.prog 6 #[.string a0] w fun e w' => e = .returned (.bool true) ∧ Below w.heap.size w w' := by
  have HLW := Lib.hid hLW0
  clear hLW0
  by_cases hbig0 : 1048576 < a0.size
  · go_enter Tryd.func6, Tryd.ntmps6
    go_wp2_with fail
    go_ret
    exact ⟨rfl, Below.refl _ _⟩
  have hsm0 : a0.size ≤ 1048576 := by omega
  have hlen := readO_len a0.data.toList; obtain ⟨rx, hrx⟩ : ∃ x, x = (readO a0.data.toList).getD [] := ⟨_, rfl⟩; obtain ⟨rb, hrb⟩ : ∃ x, x = (readO a0.data.toList).isSome := ⟨_, rfl⟩; rw [← hrx] at hlen; have HRX := Lib.hid hrx; have HRB := Lib.hid hrb; clear hrx hrb
  go_enter Tryd.func6, Tryd.ntmps6
  go_wp2_with fail
  refine ((show Calls Tryd.prog 20 #[.string a0] w (RetOwT rx rb w) from by rw [HRX.out, HRB.out]; exact sReadSignals_any a0 (by omega) w)).mono ?_
  rintro e w1 ⟨s, rfl, fs, hb1⟩
  have fs_1 : OwI w1 w.heap.size w1.heap.size s rx := fs
  have hw1 : Below w.heap.size w w1 := hb1
  have hs1 : w.heap.size ≤ w1.heap.size := hw1.size
  have hB1 : Below w.heap.size w w1 := hw1.mono (by omega)
  go_wp2_with fail
  refine ((show Calls Tryd.prog 21 #[.string a0] w1 (RetOwT rx rb w1) from by rw [HRX.out, HRB.out]; exact ReadSignals_any a0 (by omega) w1 (HLW.out.below hB1))).mono ?_
  rintro e w2 ⟨g, rfl, fg, hb2⟩
  have fg_2 : OwI w2 w1.heap.size w2.heap.size g rx := fg
  have hw2 : Below w1.heap.size w1 w2 := hb2
  have hs2 : w1.heap.size ≤ w2.heap.size := hw2.size
  have hB2 : Below w.heap.size w w2 := hB1.trans (hw2.mono (by omega))
  have fs_2 : OwI w2 w.heap.size w1.heap.size s rx := fs_1.below hw2 (by omega)
  clear fs_1
  go_wp2_with fail
  refine (eqIntS_sameB _ _ _ _ _ _ fg_2.rd fs_2.rd).mono ?_
  rintro e w3 ⟨rfl, hb3⟩
  have hw3 : Below w2.heap.size w2 w3 := hb3
  have hs3 : w2.heap.size ≤ w3.heap.size := hw3.size
  have hB3 : Below w.heap.size w w3 := hB2.trans (hw3.mono (by omega))
  have fs_3 : OwI w3 w.heap.size w1.heap.size s rx := fs_2.below hw3 (by omega)
  clear fs_2
  have fg_3 : OwI w3 w1.heap.size w2.heap.size g rx := fg_2.below hw3 (by omega)
  clear fg_2
  go_wp2_with fail
  refine (markIntS_any _ g _ _ 1 _ fg_3 (by omega) (by omega)).mono ?_
  rintro e w4 ⟨rfl, fgm4, hk4⟩
  have hs4 : w4.heap.size = w3.heap.size := hk4.size
  have hw4 : Below w1.heap.size w3 w4 := hk4.bel
  have hB4 : Below w.heap.size w w4 := hB3.trans (hw4.mono (by omega))
  have fs_4 : OwI w4 w.heap.size w1.heap.size s rx := fs_3.keep hk4 (by omega)
  clear fs_3
  go_wp2_with fail
  refine (heldIntS_any ((rx).length) g _ 1 _ fgm4.rd (by omega) (by omega)).mono ?_
  rintro e w' ⟨rfl, rfl⟩
  go_wp2_with fail
  refine ((show Calls Tryd.prog 21 #[.string a0] w4 (RetOwT rx rb w4) from by rw [HRX.out, HRB.out]; exact ReadSignals_any a0 (by omega) w4 (HLW.out.below hB4))).mono ?_
  rintro e w5 ⟨t, rfl, ft, hb5⟩
  have ft_5 : OwI w5 w4.heap.size w5.heap.size t rx := ft
  have hw5 : Below w4.heap.size w4 w5 := hb5
  have hs5 : w4.heap.size ≤ w5.heap.size := hw5.size
  have hB5 : Below w.heap.size w w5 := hB4.trans (hw5.mono (by omega))
  have fs_5 : OwI w5 w.heap.size w1.heap.size s rx := fs_4.below hw5 (by omega)
  clear fs_4
  have fg_5 : OwI w5 w1.heap.size w2.heap.size g (marks 1 (rx).length) := fgm4.below hw5 (by omega)
  clear fgm4
  go_wp2_with fail
  refine (eqIntS_sameB _ _ _ _ _ _ ft_5.rd fs_5.rd).mono ?_
  rintro e w6 ⟨rfl, hb6⟩
  have hw6 : Below w5.heap.size w5 w6 := hb6
  have hs6 : w5.heap.size ≤ w6.heap.size := hw6.size
  have hB6 : Below w.heap.size w w6 := hB5.trans (hw6.mono (by omega))
  have fs_6 : OwI w6 w.heap.size w1.heap.size s rx := fs_5.below hw6 (by omega)
  clear fs_5
  have fg_6 : OwI w6 w1.heap.size w2.heap.size g (marks 1 (rx).length) := fg_5.below hw6 (by omega)
  clear fg_5
  have ft_6 : OwI w6 w4.heap.size w5.heap.size t rx := ft_5.below hw6 (by omega)
  clear ft_5
  go_wp2_with fail
  refine (heldIntS_any ((rx).length) g _ 1 _ fg_6.rd (by omega) (by omega)).mono ?_
  rintro e w' ⟨rfl, rfl⟩
  go_wp2_with fail
  go_ret
  exact ⟨rfl, hB6⟩
end Go.Proofs.YtjnkdjokbamibaaDoor.fnExactReadSignals
