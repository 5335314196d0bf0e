/- Texts of one claim, joined: VParseBook. -/
import Derived.Deep.RegionHeld3
import Derived.Test.YtjnkdjokbamibaaDoorP7ParseBook
/- The walk of the law FnExactParseBook. -/
namespace Go.Proofs.YtjnkdjokbamibaaDoor.fnExactParseBook
open Go.ChangeShapes Go.WideShapes Go.ChangeAt Go.RowKit
open Go.ChangeMaps (open_string)
set_option linter.unusedVariables false
set_option maxHeartbeats 4000000 in
set_option maxRecDepth 100000 in
theorem walk (a0 : ByteArray) (w00 : a0.size ≤ maxLen) (w : World) (hLW0 : LW w)  : Calls Tryd.prog 3 #[.string a0] w fun e w' => e = .returned (.bool true) ∧ Below w.heap.size w w' := by
  have HLW := Lib.hid hLW0
  clear hLW0
  by_cases hbig0 : 1048576 < a0.size
  · go_enter Tryd.func3, Tryd.ntmps3
    go_wp2_with fail
    go_ret
    exact ⟨rfl, Below.refl _ _⟩
  have hsm0 : a0.size ≤ 1048576 := by omega
  have hcnt := parse_cnt a0.data.toList; obtain ⟨rx, hrx⟩ : ∃ x, x = (bookO a0.data.toList).getD [] := ⟨_, rfl⟩; obtain ⟨rb, hrb⟩ : ∃ x, x = (bookO a0.data.toList).isSome := ⟨_, rfl⟩; rw [← hrx] at hcnt; have HRX := Lib.hid hrx; have HRB := Lib.hid hrb; clear hrx hrb
  go_enter Tryd.func3, Tryd.ntmps3
  go_wp2_with fail
  refine ((show Calls Tryd.prog 7 #[.string a0] w (RetPB rx rb w) from by rw [HRX.out, HRB.out]; exact sParseB_any a0 (by omega) w)).mono ?_
  rintro e w1 ⟨s, rfl, fs, hb1⟩
  obtain ⟨_, rfl, hgs⟩ := fs
  obtain ⟨As, cs, rfl, _, _⟩ := hgs.rd.form
  have fs_1 : OwB w1 w.heap.size w1.heap.size (.agg #[.slice As (rx).length cs]) rx := ⟨_, rfl, hgs⟩
  clear hgs
  have hw1 : Below w.heap.size w w1 := hb1
  have hs1 : w.heap.size ≤ w1.heap.size := hw1.size
  have hB1 : Below w.heap.size w w1 := hw1.mono (by omega)
  have hb2 : Below w1.heap.size w1 (w1.alloc (.cells #[.slice As (rx).length cs] 24)) := (Below.refl _ _).alloc (Nat.le_refl _) _
  have hz2 : (w1.alloc (.cells #[.slice As (rx).length cs] 24)).heap.size = w1.heap.size + 1 := by simp
  have qs0_2 : (w1.alloc (.cells #[.slice As (rx).length cs] 24)).cell? ⟨w1.heap.size, 0, Option.none⟩ = some (.slice As (rx).length cs) := (Blk.new w1 24 #[.slice As (rx).length cs]).cell 0
  go_wp2_with fail
  generalize w1.alloc (.cells #[.slice As (rx).length cs] 24) = w2 at hb2 hz2 qs0_2 ⊢
  have hy2 : w1.heap.size + 1 ≤ w2.heap.size := by omega
  clear hz2
  have hw2 : Below w1.heap.size w1 w2 := hb2
  have hs2 : w1.heap.size ≤ w2.heap.size := hw2.size
  have hB2 : Below w.heap.size w w2 := hB1.trans (hw2.mono (by omega))
  have fs_2 : OwB w2 w.heap.size w1.heap.size (.agg #[.slice As (rx).length cs]) rx := fs_1.below hw2 (by omega)
  clear fs_1
  go_wp2_with fail
  refine ((show Calls Tryd.prog 8 #[.string a0] w2 (RetPB rx rb w2) from by rw [HRX.out, HRB.out]; exact parseB_any a0 (by omega) w2 (HLW.out.below hB2))).mono ?_
  rintro e w3 ⟨g, rfl, fg, hb3⟩
  obtain ⟨_, rfl, hgg⟩ := fg
  obtain ⟨Ag, cg, rfl, _, _⟩ := hgg.rd.form
  have fg_3 : OwB w3 w2.heap.size w3.heap.size (.agg #[.slice Ag (rx).length cg]) rx := ⟨_, rfl, hgg⟩
  clear hgg
  have hw3 : Below w2.heap.size w2 w3 := hb3
  have hs3 : w2.heap.size ≤ w3.heap.size := hw3.size
  have hB3 : Below w.heap.size w w3 := hB2.trans (hw3.mono (by omega))
  have fs_3 : OwB w3 w.heap.size w1.heap.size (.agg #[.slice As (rx).length cs]) rx := fs_2.below hw3 (by omega)
  clear fs_2
  have qs0_3 := (hw3.cell (p := ⟨w1.heap.size, 0, Option.none⟩) (by show w1.heap.size < _; omega)).trans qs0_2
  clear qs0_2
  have hb4 : Below w3.heap.size w3 (w3.alloc (.cells #[.slice Ag (rx).length cg] 24)) := (Below.refl _ _).alloc (Nat.le_refl _) _
  have hz4 : (w3.alloc (.cells #[.slice Ag (rx).length cg] 24)).heap.size = w3.heap.size + 1 := by simp
  have qg0_4 : (w3.alloc (.cells #[.slice Ag (rx).length cg] 24)).cell? ⟨w3.heap.size, 0, Option.none⟩ = some (.slice Ag (rx).length cg) := (Blk.new w3 24 #[.slice Ag (rx).length cg]).cell 0
  have qs0_4 := (hb4.cell (p := ⟨w1.heap.size, 0, Option.none⟩) (by show w1.heap.size < _; omega)).trans qs0_3
  go_wp2_with fail
  generalize w3.alloc (.cells #[.slice Ag (rx).length cg] 24) = w4 at hb4 hz4 qg0_4 qs0_4 ⊢
  clear qs0_3
  have hy4 : w3.heap.size + 1 ≤ w4.heap.size := by omega
  clear hz4
  have hw4 : Below w3.heap.size w3 w4 := hb4
  have hs4 : w3.heap.size ≤ w4.heap.size := hw4.size
  have hB4 : Below w.heap.size w w4 := hB3.trans (hw4.mono (by omega))
  have fs_4 : OwB w4 w.heap.size w1.heap.size (.agg #[.slice As (rx).length cs]) rx := fs_3.below hw4 (by omega)
  clear fs_3
  have fg_4 : OwB w4 w2.heap.size w3.heap.size (.agg #[.slice Ag (rx).length cg]) rx := fg_3.below hw4 (by omega)
  clear fg_3
  go_wp2_with fail
  refine (eqBook_sameB _ _ _ _ _ _ fg_4.rd fs_4.rd).mono ?_
  rintro e w5 ⟨rfl, hb5⟩
  have hw5 : Below w4.heap.size w4 w5 := hb5
  have hs5 : w4.heap.size ≤ w5.heap.size := hw5.size
  have hB5 : Below w.heap.size w w5 := hB4.trans (hw5.mono (by omega))
  have fs_5 : OwB w5 w.heap.size w1.heap.size (.agg #[.slice As (rx).length cs]) rx := fs_4.below hw5 (by omega)
  clear fs_4
  have fg_5 : OwB w5 w2.heap.size w3.heap.size (.agg #[.slice Ag (rx).length cg]) rx := fg_4.below hw5 (by omega)
  clear fg_4
  have qs0_5 := (hw5.cell (p := ⟨w1.heap.size, 0, Option.none⟩) (by show w1.heap.size < _; omega)).trans qs0_4
  clear qs0_4
  have qg0_5 := (hw5.cell (p := ⟨w3.heap.size, 0, Option.none⟩) (by show w3.heap.size < _; omega)).trans qg0_4
  clear qg0_4
  go_wp2_with fail
  refine (markBook_g _ _ _ _ 1 _ fg_5 (by omega) (by omega) (by omega) (by omega)).mono ?_
  rintro e w7 ⟨rfl, fgm7, hkg6⟩
  obtain ⟨m6, hk6, hb7⟩ := hkg6.split
  have hs6 : m6.heap.size = w5.heap.size := hk6.size
  have hw6 : Below w2.heap.size w5 m6 := hk6.bel
  have hB6 : Below w.heap.size w m6 := hB5.trans (hw6.mono (by omega))
  have fs_6 : OwB m6 w.heap.size w1.heap.size (.agg #[.slice As (rx).length cs]) rx := fs_5.keep hk6 (by omega)
  clear fs_5
  have qs0_6 := (World.cell?_of_block (a := ⟨w1.heap.size, 0, Option.none⟩) (hk6.block _ (by first | exact .inl (by show w1.heap.size < _; omega) | exact .inr (by show _ ≤ w1.heap.size; omega)))).trans qs0_5
  clear qs0_5
  have qg0_6 := (World.cell?_of_block (a := ⟨w3.heap.size, 0, Option.none⟩) (hk6.block _ (by first | exact .inl (by show w3.heap.size < _; omega) | exact .inr (by show _ ≤ w3.heap.size; omega)))).trans qg0_5
  clear qg0_5
  have hw7 : Below m6.heap.size m6 w7 := hb7
  have hs7 : m6.heap.size ≤ w7.heap.size := hw7.size
  have hB7 : Below w.heap.size w w7 := hB6.trans (hw7.mono (by omega))
  have fs_7 : OwB w7 w.heap.size w1.heap.size (.agg #[.slice As (rx).length cs]) rx := fs_6.below hw7 (by omega)
  clear fs_6
  have qs0_7 := (hw7.cell (p := ⟨w1.heap.size, 0, Option.none⟩) (by show w1.heap.size < _; omega)).trans qs0_6
  clear qs0_6
  have qg0_7 := (hw7.cell (p := ⟨w3.heap.size, 0, Option.none⟩) (by show w3.heap.size < _; omega)).trans qg0_6
  clear qg0_6
  go_wp2_with fail
  refine (heldBook_any (rx) _ _ 1 _ fgm7.rd (by omega) (by omega) (by omega) (by omega)).mono ?_
  rintro e w8 ⟨rfl, hb8⟩
  have hw8 : Below w7.heap.size w7 w8 := hb8
  have hs8 : w7.heap.size ≤ w8.heap.size := hw8.size
  have hB8 : Below w.heap.size w w8 := hB7.trans (hw8.mono (by omega))
  have fs_8 : OwB w8 w.heap.size w1.heap.size (.agg #[.slice As (rx).length cs]) rx := fs_7.below hw8 (by omega)
  clear fs_7
  have fg_8 : OwB w8 w2.heap.size w3.heap.size (.agg #[.slice Ag (rx).length cg]) (marksB 1 (rx)) := fgm7.below hw8 (by omega)
  clear fgm7
  have qs0_8 := (hw8.cell (p := ⟨w1.heap.size, 0, Option.none⟩) (by show w1.heap.size < _; omega)).trans qs0_7
  clear qs0_7
  have qg0_8 := (hw8.cell (p := ⟨w3.heap.size, 0, Option.none⟩) (by show w3.heap.size < _; omega)).trans qg0_7
  clear qg0_7
  go_wp2_with fail
  refine ((show Calls Tryd.prog 8 #[.string a0] w8 (RetPB rx rb w8) from by rw [HRX.out, HRB.out]; exact parseB_any a0 (by omega) w8 (HLW.out.below hB8))).mono ?_
  rintro e w9 ⟨t, rfl, ft, hb9⟩
  obtain ⟨_, rfl, hgt⟩ := ft
  obtain ⟨At, ct, rfl, _, _⟩ := hgt.rd.form
  have ft_9 : OwB w9 w8.heap.size w9.heap.size (.agg #[.slice At (rx).length ct]) rx := ⟨_, rfl, hgt⟩
  clear hgt
  have hw9 : Below w8.heap.size w8 w9 := hb9
  have hs9 : w8.heap.size ≤ w9.heap.size := hw9.size
  have hB9 : Below w.heap.size w w9 := hB8.trans (hw9.mono (by omega))
  have fs_9 : OwB w9 w.heap.size w1.heap.size (.agg #[.slice As (rx).length cs]) rx := fs_8.below hw9 (by omega)
  clear fs_8
  have fg_9 : OwB w9 w2.heap.size w3.heap.size (.agg #[.slice Ag (rx).length cg]) (marksB 1 (rx)) := fg_8.below hw9 (by omega)
  clear fg_8
  have qs0_9 := (hw9.cell (p := ⟨w1.heap.size, 0, Option.none⟩) (by show w1.heap.size < _; omega)).trans qs0_8
  clear qs0_8
  have qg0_9 := (hw9.cell (p := ⟨w3.heap.size, 0, Option.none⟩) (by show w3.heap.size < _; omega)).trans qg0_8
  clear qg0_8
  have hb10 : Below w9.heap.size w9 (w9.alloc (.cells #[.slice At (rx).length ct] 24)) := (Below.refl _ _).alloc (Nat.le_refl _) _
  have hz10 : (w9.alloc (.cells #[.slice At (rx).length ct] 24)).heap.size = w9.heap.size + 1 := by simp
  have qt0_10 : (w9.alloc (.cells #[.slice At (rx).length ct] 24)).cell? ⟨w9.heap.size, 0, Option.none⟩ = some (.slice At (rx).length ct) := (Blk.new w9 24 #[.slice At (rx).length ct]).cell 0
  have qs0_10 := (hb10.cell (p := ⟨w1.heap.size, 0, Option.none⟩) (by show w1.heap.size < _; omega)).trans qs0_9
  have qg0_10 := (hb10.cell (p := ⟨w3.heap.size, 0, Option.none⟩) (by show w3.heap.size < _; omega)).trans qg0_9
  go_wp2_with fail
  generalize w9.alloc (.cells #[.slice At (rx).length ct] 24) = w10 at hb10 hz10 qt0_10 qs0_10 qg0_10 ⊢
  clear qs0_9
  clear qg0_9
  have hy10 : w9.heap.size + 1 ≤ w10.heap.size := by omega
  clear hz10
  have hw10 : Below w9.heap.size w9 w10 := hb10
  have hs10 : w9.heap.size ≤ w10.heap.size := hw10.size
  have hB10 : Below w.heap.size w w10 := hB9.trans (hw10.mono (by omega))
  have fs_10 : OwB w10 w.heap.size w1.heap.size (.agg #[.slice As (rx).length cs]) rx := fs_9.below hw10 (by omega)
  clear fs_9
  have fg_10 : OwB w10 w2.heap.size w3.heap.size (.agg #[.slice Ag (rx).length cg]) (marksB 1 (rx)) := fg_9.below hw10 (by omega)
  clear fg_9
  have ft_10 : OwB w10 w8.heap.size w9.heap.size (.agg #[.slice At (rx).length ct]) rx := ft_9.below hw10 (by omega)
  clear ft_9
  go_wp2_with fail
  refine (eqBook_sameB _ _ _ _ _ _ ft_10.rd fs_10.rd).mono ?_
  rintro e w11 ⟨rfl, hb11⟩
  have hw11 : Below w10.heap.size w10 w11 := hb11
  have hs11 : w10.heap.size ≤ w11.heap.size := hw11.size
  have hB11 : Below w.heap.size w w11 := hB10.trans (hw11.mono (by omega))
  have fs_11 : OwB w11 w.heap.size w1.heap.size (.agg #[.slice As (rx).length cs]) rx := fs_10.below hw11 (by omega)
  clear fs_10
  have fg_11 : OwB w11 w2.heap.size w3.heap.size (.agg #[.slice Ag (rx).length cg]) (marksB 1 (rx)) := fg_10.below hw11 (by omega)
  clear fg_10
  have ft_11 : OwB w11 w8.heap.size w9.heap.size (.agg #[.slice At (rx).length ct]) rx := ft_10.below hw11 (by omega)
  clear ft_10
  have qs0_11 := (hw11.cell (p := ⟨w1.heap.size, 0, Option.none⟩) (by show w1.heap.size < _; omega)).trans qs0_10
  clear qs0_10
  have qg0_11 := (hw11.cell (p := ⟨w3.heap.size, 0, Option.none⟩) (by show w3.heap.size < _; omega)).trans qg0_10
  clear qg0_10
  have qt0_11 := (hw11.cell (p := ⟨w9.heap.size, 0, Option.none⟩) (by show w9.heap.size < _; omega)).trans qt0_10
  clear qt0_10
  go_wp2_with fail
  refine (heldBook_any (rx) _ _ 1 _ fg_11.rd (by omega) (by omega) (by omega) (by omega)).mono ?_
  rintro e w12 ⟨rfl, hb12⟩
  have hw12 : Below w11.heap.size w11 w12 := hb12
  have hs12 : w11.heap.size ≤ w12.heap.size := hw12.size
  have hB12 : Below w.heap.size w w12 := hB11.trans (hw12.mono (by omega))
  have fs_12 : OwB w12 w.heap.size w1.heap.size (.agg #[.slice As (rx).length cs]) rx := fs_11.below hw12 (by omega)
  clear fs_11
  have fg_12 : OwB w12 w2.heap.size w3.heap.size (.agg #[.slice Ag (rx).length cg]) (marksB 1 (rx)) := fg_11.below hw12 (by omega)
  clear fg_11
  have ft_12 : OwB w12 w8.heap.size w9.heap.size (.agg #[.slice At (rx).length ct]) rx := ft_11.below hw12 (by omega)
  clear ft_11
  have qs0_12 := (hw12.cell (p := ⟨w1.heap.size, 0, Option.none⟩) (by show w1.heap.size < _; omega)).trans qs0_11
  clear qs0_11
  have qg0_12 := (hw12.cell (p := ⟨w3.heap.size, 0, Option.none⟩) (by show w3.heap.size < _; omega)).trans qg0_11
  clear qg0_11
  have qt0_12 := (hw12.cell (p := ⟨w9.heap.size, 0, Option.none⟩) (by show w9.heap.size < _; omega)).trans qt0_11
  clear qt0_11
  go_wp2_with fail
  go_ret
  exact ⟨rfl, hB12⟩
end Go.Proofs.YtjnkdjokbamibaaDoor.fnExactParseBook
