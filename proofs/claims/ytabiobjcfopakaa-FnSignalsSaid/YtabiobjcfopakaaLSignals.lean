/- Proved: FnSignals returns true for all bytes.
   Conditions: none; for every input that the row speaks of. -/
import Derived.Test.YtabiobjcfopakaaP
import Derived.Test.YtabiobjcfopakaaJ4
namespace Go.Proofs.Ytabiobjcfopakaa.fnSignals
open Go.ChangeShapes Go.WideShapes Go.ChangeAt Go.RowKit
open Go.ChangeMaps (open_string)
set_option linter.unusedVariables false
set_option linter.unusedVariables false
theorem mir_dist {i j d : Nat} (hi : i < 64) (hj : j < 64) (hd : d = distM i j) : sigDT ((i : Int) / 8 + (i : Int) % 8 * 8) ((j : Int) / 8 + (j : Int) % 8 * 8) = .tuple #[.int .i64 ((d : Nat) : Int), .bool true] := by
  have e1 : ((i : Int) / 8 + (i : Int) % 8 * 8) = ((i / 8 + i % 8 * 8 : Nat) : Int) := by omega
  have e2 : ((j : Int) / 8 + (j : Int) % 8 * 8) = ((j / 8 + j % 8 * 8 : Nat) : Int) := by omega
  have h1 := mir_lt i hi
  have h2 := mir_lt j hj
  rw [e1, e2]
  unfold sigDT
  rw [show inB ((i / 8 + i % 8 * 8 : Nat) : Int) 0 63 = true by unfold inB; simp; omega, show inB ((j / 8 + j % 8 * 8 : Nat) : Int) 0 63 = true by unfold inB; simp; omega]
  simp only [Bool.and_self, if_true, Int.toNat_natCast]
  rw [dist_mir i hi j hj, hd]
set_option maxHeartbeats 20000000 in
set_option maxRecDepth 100000 in
theorem walk (v0 : Value) (xs0 : List UInt8) (v1 : Value) (xs1 : List UInt8) (w : World) (hr0 : RdU w w.heap.size v0 xs0) (hr1 : RdU w w.heap.size v1 xs1) : Calls Try.prog 3 #[v0, v1] w fun e w' => e = .returned (.bool true) ∧ Below w.heap.size w w' := by
  obtain ⟨A0, c0, rfl, hc0, hm0⟩ := Rd.form hr0
  obtain ⟨A1, c1, rfl, hc1, hm1⟩ := Rd.form hr1
  have cb := big_any xs0 xs1 _ _ _ _ w hr0 hr1
  have hr0 := Lib.hid hr0
  have hr1 := Lib.hid hr1
  cases hbig : (decide (1048576 < xs0.length) || decide (1048576 - (xs0.length : Int) < xs1.length))
  · rw [hbig] at cb
    have CB := Lib.hid cb
    clear cb hbig
    go_enter Try.func3, Try.ntmps3
    go_wp2_with fail
    refine CB.out.mono ?_
    rintro e _ ⟨rfl, rfl⟩
    clear CB
    have CC := Lib.hid (DrawSignalText_any xs0 _ w.heap.size w hr0.out (Nat.le_refl _))
    go_wp2_with fail
    refine CC.out.mono ?_
    rintro e w4_1 ⟨n, rfl, hb⟩
    clear CC
    have HB1 := Lib.hid hb
    clear hb
    cases hn : inB n 0 63
    · have hS : Hid (sigTT n = .tuple #[.string ⟨#[]⟩, .bool false]) := by show _ = _; unfold sigTT; rw [hn]; rfl
      have hM : Hid (mirM n = 0) := by show _ = _; unfold mirM; rw [hn]; rfl
      have hU : Hid (turnM n = 0) := by show _ = _; unfold turnM; rw [hn]; rfl
      have hC : Hid (closedL n = []) := by show _ = _; unfold closedL; rw [hn]; rfl
      have CC := Lib.hid ((by have h := SignalText_any n w4_1; rw [hS.out] at h; exact h : Calls Try.prog 17 #[.int .i64 n] w4_1 fun e w' => e = .returned (.tuple #[.string ⟨#[]⟩, .bool false]) ∧ Below w4_1.heap.size w4_1 w'))
      go_wp2_with fail
      refine CC.out.mono ?_
      rintro e w6_2 ⟨rfl, hb⟩
      clear CC
      have HB2 := Lib.hid (HB1.out.trans (hb.mono (by have := HB1.out.size; omega)))
      clear hb
      have CC := Lib.hid ((by have h := sSignalText_any n w6_2; rw [hS.out] at h; exact h : Calls Try.prog 18 #[.int .i64 n] w6_2 fun e w' => e = .returned (.tuple #[.string ⟨#[]⟩, .bool false]) ∧ w6_2 = w'))
      go_wp2_with fail
      refine CC.out.mono ?_
      rintro e _ ⟨rfl, rfl⟩
      clear CC
      have CC := Lib.hid ((by have h := Mirror_any n w6_2; rw [hM.out, hn] at h; exact h : Calls Try.prog 19 #[.int .i64 n] w6_2 fun e w' => e = .returned (.tuple #[.int .i64 (0), .bool false]) ∧ w6_2 = w'))
      go_wp2_with fail
      refine CC.out.mono ?_
      rintro e _ ⟨rfl, rfl⟩
      clear CC
      have CC := Lib.hid ((by have h := sMirror_any n w6_2; rw [hM.out, hn] at h; exact h : Calls Try.prog 20 #[.int .i64 n] w6_2 fun e w' => e = .returned (.tuple #[.int .i64 (0), .bool false]) ∧ w6_2 = w'))
      go_wp2_with fail
      refine CC.out.mono ?_
      rintro e _ ⟨rfl, rfl⟩
      clear CC
      have CC := Lib.hid ((by have h := Turn_any n w6_2; rw [hU.out, hn] at h; exact h : Calls Try.prog 21 #[.int .i64 n] w6_2 fun e w' => e = .returned (.tuple #[.int .i64 (0), .bool false]) ∧ w6_2 = w'))
      go_wp2_with fail
      refine CC.out.mono ?_
      rintro e _ ⟨rfl, rfl⟩
      clear CC
      have CC := Lib.hid ((by have h := sTurn_any n w6_2; rw [hU.out, hn] at h; exact h : Calls Try.prog 22 #[.int .i64 n] w6_2 fun e w' => e = .returned (.tuple #[.int .i64 (0), .bool false]) ∧ w6_2 = w'))
      go_wp2_with fail
      refine CC.out.mono ?_
      rintro e _ ⟨rfl, rfl⟩
      clear CC
      have CC := Lib.hid ((by have h := ClosedShutters_any n w6_2; rw [hn, hC.out] at h; exact h : Calls Try.prog 23 #[.int .i64 n] w6_2 (RetOwT ([]) false w6_2)))
      go_wp2_with fail
      refine CC.out.mono ?_
      rintro e w6_3 ⟨c, rfl, hc, hb⟩
      clear CC
      obtain ⟨Ac, cc, rfl, _⟩ := hc.form
      have Hc := Lib.hid hc.rd
      clear hc
      have HB3 := Lib.hid (HB2.out.trans (hb.mono (by have := HB2.out.size; omega)))
      clear hb
      have CC := Lib.hid ((by have h := sClosedShutters_any n w6_3; rw [hn, hC.out] at h; exact h : Calls Try.prog 24 #[.int .i64 n] w6_3 (RetOwT ([]) false w6_3)))
      go_wp2_with fail
      refine CC.out.mono ?_
      rintro e w6_4 ⟨d, rfl, hd, hb⟩
      clear CC
      obtain ⟨Ad, cd, rfl, _⟩ := hd.form
      have Hd := Lib.hid hd.rd
      have Hc2 := Lib.hid (Hc.out.below hb (Nat.le_refl _))
      clear hd Hc
      have HB4 := Lib.hid (HB3.out.trans (hb.mono (by have := HB3.out.size; omega)))
      clear hb
      have CC := Lib.hid (sameInts_same _ _ _ _ _ w6_4 Hc2.out Hd.out)
      go_wp2_with fail
      refine CC.out.mono ?_
      rintro e _ ⟨rfl, nd, rfl⟩
      clear CC
      have hb := bel_drewN w6_4.heap.size w6_4 nd
      have HB5 := Lib.hid (HB4.out.trans (hb.mono (by have := HB4.out.size; omega)))
      clear hb
      generalize (w6_4.drewN nd) = w6_6 at HB5 ⊢
      have CC := Lib.hid (IsContent_any n w6_6)
      go_wp2_with fail
      refine CC.out.mono ?_
      rintro e _ ⟨rfl, rfl⟩
      clear CC
      have CC := Lib.hid (sIsContent_any n w6_6)
      go_wp2_with fail
      refine CC.out.mono ?_
      rintro e _ ⟨rfl, rfl⟩
      clear CC
      have CC := Lib.hid (DrawSignalDistance_any xs1 _ w.heap.size w6_6 (hr1.out.below HB5.out (Nat.le_refl _)) (by have := HB5.out.size; omega))
      go_wp2_with fail
      refine CC.out.mono ?_
      rintro e w6_6 ⟨a, b, rfl, hb⟩
      clear CC
      have HB6 := Lib.hid (HB5.out.trans (hb.mono (by have := HB5.out.size; omega)))
      clear hb
      cases hab : (inB a 0 63 && inB b 0 63)
      · have hT : Hid (sigDT a b = .tuple #[.int .i64 (0), .bool false]) := by show _ = _; unfold sigDT; rw [hab]; rfl
        have hC : Hid (changedL a b = []) := by show _ = _; unfold changedL; rw [hab]; rfl
        have CC := Lib.hid ((by have h := SignalDistance_any a b w6_6; rw [hT.out] at h; exact h : Calls Try.prog 30 #[.int .i64 a, .int .i64 b] w6_6 fun e w' => e = .returned (.tuple #[.int .i64 (0), .bool false]) ∧ w6_6 = w'))
        go_wp2_with fail
        refine CC.out.mono ?_
        rintro e _ ⟨rfl, rfl⟩
        clear CC
        have CC := Lib.hid ((by have h := sSignalDistance_any a b w6_6; rw [hT.out] at h; exact h : Calls Try.prog 31 #[.int .i64 a, .int .i64 b] w6_6 fun e w' => e = .returned (.tuple #[.int .i64 (0), .bool false]) ∧ Below w6_6.heap.size w6_6 w'))
        go_wp2_with fail
        refine CC.out.mono ?_
        rintro e w8_7 ⟨rfl, hb⟩
        clear CC
        have HB7 := Lib.hid (HB6.out.trans (hb.mono (by have := HB6.out.size; omega)))
        clear hb
        have CC := Lib.hid ((by have h := ChangedShutters_any a b w8_7; rw [hab, hC.out] at h; exact h : Calls Try.prog 32 #[.int .i64 a, .int .i64 b] w8_7 (RetOwT ([]) false w8_7)))
        go_wp2_with fail
        refine CC.out.mono ?_
        rintro e w8_8 ⟨l, rfl, hl, hb⟩
        clear CC
        obtain ⟨Al, cl, rfl, _⟩ := hl.form
        have Hl := Lib.hid hl.rd
        clear hl
        have HB8 := Lib.hid (HB7.out.trans (hb.mono (by have := HB7.out.size; omega)))
        clear hb
        have CC := Lib.hid ((by have h := sChangedShutters_any a b w8_8; rw [hab, hC.out] at h; exact h : Calls Try.prog 33 #[.int .i64 a, .int .i64 b] w8_8 (RetOwT ([]) false w8_8)))
        go_wp2_with fail
        refine CC.out.mono ?_
        rintro e w8_9 ⟨m, rfl, hm, hb⟩
        clear CC
        obtain ⟨Am, cm, rfl, _⟩ := hm.form
        have Hm := Lib.hid hm.rd
        have Hl2 := Lib.hid (Hl.out.below hb (Nat.le_refl _))
        clear hm Hl
        have HB9 := Lib.hid (HB8.out.trans (hb.mono (by have := HB8.out.size; omega)))
        clear hb
        have CC := Lib.hid (sameInts_same _ _ _ _ _ w8_9 Hl2.out Hm.out)
        go_wp2_with fail
        refine CC.out.mono ?_
        rintro e _ ⟨rfl, nd, rfl⟩
        clear CC
        have hb := bel_drewN w8_9.heap.size w8_9 nd
        have HB10 := Lib.hid (HB9.out.trans (hb.mono (by have := HB9.out.size; omega)))
        clear hb
        generalize (w8_9.drewN nd) = w8_11 at HB10 ⊢
        have CC := Lib.hid (DrawReadSignal_any xs1 _ w.heap.size w8_11 (hr1.out.below HB10.out (Nat.le_refl _)) (by have := HB10.out.size; omega))
        go_wp2_with fail
        refine CC.out.mono ?_
        rintro e w8_11 ⟨t4, rfl, ht4, hb⟩
        clear CC
        have HB11 := Lib.hid (HB10.out.trans (hb.mono (by have := HB10.out.size; omega)))
        clear hb
        obtain ⟨p4, q4, hT4⟩ : ∃ p q, readT t4.data.toList = .tuple #[.int .i64 p, .bool q] := ⟨_, _, rfl⟩
        have CC := Lib.hid ((by rw [← hT4]; exact impl_ReadSignal_any t4 w8_11 : Calls Try.prog 28 #[.string t4] w8_11 fun e w' => e = .returned (.tuple #[.int .i64 p4, .bool q4]) ∧ w8_11 = w'))
        go_wp2_with fail
        refine CC.out.mono ?_
        rintro e _ ⟨rfl, rfl⟩
        clear CC
        have CC := Lib.hid ((by rw [← hT4]; exact sReadSignal_any t4 w8_11 : Calls Try.prog 35 #[.string t4] w8_11 fun e w' => e = .returned (.tuple #[.int .i64 p4, .bool q4]) ∧ w8_11 = w'))
        go_wp2_with fail
        refine CC.out.mono ?_
        rintro e _ ⟨rfl, rfl⟩
        clear CC
        clear hT4
        cases q4 <;>
          (go_wp2_with fail; go_ret; exact ⟨ret_bool (by simp), HB11.out⟩)
      · obtain ⟨ha, hbb⟩ : inB a 0 63 = true ∧ inB b 0 63 = true := by simpa using hab
        obtain ⟨i, rfl, hi⟩ : ∃ i : Nat, a = (i : Int) ∧ i < 64 := by unfold inB at ha; simp at ha; exact ⟨a.toNat, by omega, by omega⟩
        obtain ⟨j, rfl, hj⟩ : ∃ j : Nat, b = (j : Int) ∧ j < 64 := by unfold inB at hbb; simp at hbb; exact ⟨b.toNat, by omega, by omega⟩
        obtain ⟨d, hd⟩ : ∃ d, d = distM i j := ⟨_, rfl⟩
        have hT : Hid (sigDT (i : Int) (j : Int) = .tuple #[.int .i64 ((d : Nat)), .bool true]) := by show _ = _; unfold sigDT; rw [hab, hd]; simp
        have hC : Hid (changedL (i : Int) (j : Int) = shutM (i ^^^ j) 6) := by show _ = _; unfold changedL; rw [hab]; simp
        have hln : (shutM (i ^^^ j) 6).length = d := by rw [hd]; rfl
        have CC := Lib.hid ((by have h := SignalDistance_any (i : Int) (j : Int) w6_6; rw [hT.out] at h; exact h : Calls Try.prog 30 #[.int .i64 (i : Int), .int .i64 (j : Int)] w6_6 fun e w' => e = .returned (.tuple #[.int .i64 ((d : Nat)), .bool true]) ∧ w6_6 = w'))
        go_wp2_with fail
        refine CC.out.mono ?_
        rintro e _ ⟨rfl, rfl⟩
        clear CC
        have CC := Lib.hid ((by have h := sSignalDistance_any (i : Int) (j : Int) w6_6; rw [hT.out] at h; exact h : Calls Try.prog 31 #[.int .i64 (i : Int), .int .i64 (j : Int)] w6_6 fun e w' => e = .returned (.tuple #[.int .i64 ((d : Nat)), .bool true]) ∧ Below w6_6.heap.size w6_6 w'))
        go_wp2_with fail
        refine CC.out.mono ?_
        rintro e w8_7 ⟨rfl, hb⟩
        clear CC
        have HB7 := Lib.hid (HB6.out.trans (hb.mono (by have := HB6.out.size; omega)))
        clear hb
        have CC := Lib.hid ((by have h := ChangedShutters_any (i : Int) (j : Int) w8_7; rw [hab, hC.out] at h; exact h : Calls Try.prog 32 #[.int .i64 (i : Int), .int .i64 (j : Int)] w8_7 (RetOwT (shutM (i ^^^ j) 6) true w8_7)))
        go_wp2_with fail
        refine CC.out.mono ?_
        rintro e w8_8 ⟨l, rfl, hl, hb⟩
        clear CC
        obtain ⟨Al, cl, rfl, _⟩ := hl.form
        have Hl := Lib.hid hl.rd
        clear hl
        have HB8 := Lib.hid (HB7.out.trans (hb.mono (by have := HB7.out.size; omega)))
        clear hb
        have CC := Lib.hid ((by have h := sChangedShutters_any (i : Int) (j : Int) w8_8; rw [hab, hC.out] at h; exact h : Calls Try.prog 33 #[.int .i64 (i : Int), .int .i64 (j : Int)] w8_8 (RetOwT (shutM (i ^^^ j) 6) true w8_8)))
        go_wp2_with fail
        refine CC.out.mono ?_
        rintro e w8_9 ⟨m, rfl, hm, hb⟩
        clear CC
        obtain ⟨Am, cm, rfl, _⟩ := hm.form
        have Hm := Lib.hid hm.rd
        have Hl2 := Lib.hid (Hl.out.below hb (Nat.le_refl _))
        clear hm Hl
        have HB9 := Lib.hid (HB8.out.trans (hb.mono (by have := HB8.out.size; omega)))
        clear hb
        have hd6 := distM_le i j
        rw [← hd] at hd6
        have CC := Lib.hid (sameInts_same _ _ _ _ _ w8_9 Hl2.out Hm.out)
        go_wp2_with fail
        refine CC.out.mono ?_
        rintro e _ ⟨rfl, nd, rfl⟩
        clear CC
        have hb := bel_drewN w8_9.heap.size w8_9 nd
        have HB10 := Lib.hid (HB9.out.trans (hb.mono (by have := HB9.out.size; omega)))
        clear hb
        generalize (w8_9.drewN nd) = w8_11 at HB10 ⊢
        have CC := Lib.hid ((by have h := SignalDistance_any (j : Int) (i : Int) w8_11; rw [show sigDT (j : Int) (i : Int) = .tuple #[.int .i64 ((d : Nat)), .bool true] by unfold sigDT; rw [ha, hbb]; simp; rw [dist_sym i hi j hj, hd]] at h; exact h : Calls Try.prog 30 #[.int .i64 (j : Int), .int .i64 (i : Int)] w8_11 fun e w' => e = .returned (.tuple #[.int .i64 ((d : Nat)), .bool true]) ∧ w8_11 = w'))
        go_wp2_with fail
        refine CC.out.mono ?_
        rintro e _ ⟨rfl, rfl⟩
        clear CC
        have CC := Lib.hid ((by have h := Mirror_any (i : Int) w8_11; rw [show mirM (i : Int) = (i : Int) / 8 + (i : Int) % 8 * 8 by unfold mirM; rw [ha]; rfl, ha] at h; exact h : Calls Try.prog 19 #[.int .i64 (i : Int)] w8_11 fun e w' => e = .returned (.tuple #[.int .i64 ((i : Int) / 8 + (i : Int) % 8 * 8), .bool true]) ∧ w8_11 = w'))
        go_wp2_with fail
        refine CC.out.mono ?_
        rintro e _ ⟨rfl, rfl⟩
        clear CC
        have CC := Lib.hid ((by have h := Mirror_any (j : Int) w8_11; rw [show mirM (j : Int) = (j : Int) / 8 + (j : Int) % 8 * 8 by unfold mirM; rw [hbb]; rfl, hbb] at h; exact h : Calls Try.prog 19 #[.int .i64 (j : Int)] w8_11 fun e w' => e = .returned (.tuple #[.int .i64 ((j : Int) / 8 + (j : Int) % 8 * 8), .bool true]) ∧ w8_11 = w'))
        go_wp2_with fail
        refine CC.out.mono ?_
        rintro e _ ⟨rfl, rfl⟩
        clear CC
        have CC := Lib.hid ((by have h := SignalDistance_any ((i : Int) / 8 + (i : Int) % 8 * 8) ((j : Int) / 8 + (j : Int) % 8 * 8) w8_11; rw [show sigDT ((i : Int) / 8 + (i : Int) % 8 * 8) ((j : Int) / 8 + (j : Int) % 8 * 8) = .tuple #[.int .i64 ((d : Nat)), .bool true] by exact mir_dist hi hj hd] at h; exact h : Calls Try.prog 30 #[.int .i64 ((i : Int) / 8 + (i : Int) % 8 * 8), .int .i64 ((j : Int) / 8 + (j : Int) % 8 * 8)] w8_11 fun e w' => e = .returned (.tuple #[.int .i64 ((d : Nat)), .bool true]) ∧ w8_11 = w'))
        go_wp2_with fail
        refine CC.out.mono ?_
        rintro e _ ⟨rfl, rfl⟩
        clear CC
        have CC := Lib.hid (DrawReadSignal_any xs1 _ w.heap.size w8_11 (hr1.out.below HB10.out (Nat.le_refl _)) (by have := HB10.out.size; omega))
        go_wp2_with fail
        refine CC.out.mono ?_
        rintro e w8_11 ⟨t4, rfl, ht4, hb⟩
        clear CC
        have HB11 := Lib.hid (HB10.out.trans (hb.mono (by have := HB10.out.size; omega)))
        clear hb
        obtain ⟨p4, q4, hT4⟩ : ∃ p q, readT t4.data.toList = .tuple #[.int .i64 p, .bool q] := ⟨_, _, rfl⟩
        have CC := Lib.hid ((by rw [← hT4]; exact impl_ReadSignal_any t4 w8_11 : Calls Try.prog 28 #[.string t4] w8_11 fun e w' => e = .returned (.tuple #[.int .i64 p4, .bool q4]) ∧ w8_11 = w'))
        go_wp2_with fail
        refine CC.out.mono ?_
        rintro e _ ⟨rfl, rfl⟩
        clear CC
        have CC := Lib.hid ((by rw [← hT4]; exact sReadSignal_any t4 w8_11 : Calls Try.prog 35 #[.string t4] w8_11 fun e w' => e = .returned (.tuple #[.int .i64 p4, .bool q4]) ∧ w8_11 = w'))
        go_wp2_with fail
        refine CC.out.mono ?_
        rintro e _ ⟨rfl, rfl⟩
        clear CC
        clear hT4
        cases q4 <;>
          (go_wp2_with fail; go_ret; exact ⟨ret_bool (by simp), HB11.out⟩)
    · obtain ⟨k, rfl, hk⟩ : ∃ i : Nat, n = (i : Int) ∧ i < 64 := by unfold inB at hn; simp at hn; exact ⟨n.toNat, by omega, by omega⟩
      obtain ⟨st, hst⟩ : ∃ st : ByteArray, st = ⟨(sgT k 6).toArray⟩ := ⟨_, rfl⟩
      have hS : Hid (sigTT (k : Int) = .tuple #[.string st, .bool true]) := by show _ = _; unfold sigTT; rw [hn, hst]; simp
      have hM : Hid (mirM (k : Int) = (k : Int) / 8 + (k : Int) % 8 * 8) := by show _ = _; unfold mirM; rw [hn]; rfl
      have hU : Hid (turnM (k : Int) = 63 - (k : Int)) := by show _ = _; unfold turnM; rw [hn]; rfl
      have HST := Lib.hid hst
      clear hst
      have hC : Hid (closedL (k : Int) = shutM k 6) := by show _ = _; unfold closedL; rw [hn]; simp
      have CC := Lib.hid ((by have h := SignalText_any (k : Int) w4_1; rw [hS.out] at h; exact h : Calls Try.prog 17 #[.int .i64 (k : Int)] w4_1 fun e w' => e = .returned (.tuple #[.string st, .bool true]) ∧ Below w4_1.heap.size w4_1 w'))
      go_wp2_with fail
      refine CC.out.mono ?_
      rintro e w6_2 ⟨rfl, hb⟩
      clear CC
      have HB2 := Lib.hid (HB1.out.trans (hb.mono (by have := HB1.out.size; omega)))
      clear hb
      have CC := Lib.hid ((by have h := sSignalText_any (k : Int) w6_2; rw [hS.out] at h; exact h : Calls Try.prog 18 #[.int .i64 (k : Int)] w6_2 fun e w' => e = .returned (.tuple #[.string st, .bool true]) ∧ w6_2 = w'))
      go_wp2_with fail
      refine CC.out.mono ?_
      rintro e _ ⟨rfl, rfl⟩
      clear CC
      have CC := Lib.hid ((by have h := Mirror_any (k : Int) w6_2; rw [hM.out, hn] at h; exact h : Calls Try.prog 19 #[.int .i64 (k : Int)] w6_2 fun e w' => e = .returned (.tuple #[.int .i64 ((k : Int) / 8 + (k : Int) % 8 * 8), .bool true]) ∧ w6_2 = w'))
      go_wp2_with fail
      refine CC.out.mono ?_
      rintro e _ ⟨rfl, rfl⟩
      clear CC
      have CC := Lib.hid ((by have h := sMirror_any (k : Int) w6_2; rw [hM.out, hn] at h; exact h : Calls Try.prog 20 #[.int .i64 (k : Int)] w6_2 fun e w' => e = .returned (.tuple #[.int .i64 ((k : Int) / 8 + (k : Int) % 8 * 8), .bool true]) ∧ w6_2 = w'))
      go_wp2_with fail
      refine CC.out.mono ?_
      rintro e _ ⟨rfl, rfl⟩
      clear CC
      have CC := Lib.hid ((by have h := Turn_any (k : Int) w6_2; rw [hU.out, hn] at h; exact h : Calls Try.prog 21 #[.int .i64 (k : Int)] w6_2 fun e w' => e = .returned (.tuple #[.int .i64 (63 - (k : Int)), .bool true]) ∧ w6_2 = w'))
      go_wp2_with fail
      refine CC.out.mono ?_
      rintro e _ ⟨rfl, rfl⟩
      clear CC
      have CC := Lib.hid ((by have h := sTurn_any (k : Int) w6_2; rw [hU.out, hn] at h; exact h : Calls Try.prog 22 #[.int .i64 (k : Int)] w6_2 fun e w' => e = .returned (.tuple #[.int .i64 (63 - (k : Int)), .bool true]) ∧ w6_2 = w'))
      go_wp2_with fail
      refine CC.out.mono ?_
      rintro e _ ⟨rfl, rfl⟩
      clear CC
      have CC := Lib.hid ((by have h := ClosedShutters_any (k : Int) w6_2; rw [hn, hC.out] at h; exact h : Calls Try.prog 23 #[.int .i64 (k : Int)] w6_2 (RetOwT (shutM k 6) true w6_2)))
      go_wp2_with fail
      refine CC.out.mono ?_
      rintro e w6_3 ⟨c, rfl, hc, hb⟩
      clear CC
      obtain ⟨Ac, cc, rfl, _⟩ := hc.form
      have Hc := Lib.hid hc.rd
      clear hc
      have HB3 := Lib.hid (HB2.out.trans (hb.mono (by have := HB2.out.size; omega)))
      clear hb
      have CC := Lib.hid ((by have h := sClosedShutters_any (k : Int) w6_3; rw [hn, hC.out] at h; exact h : Calls Try.prog 24 #[.int .i64 (k : Int)] w6_3 (RetOwT (shutM k 6) true w6_3)))
      go_wp2_with fail
      refine CC.out.mono ?_
      rintro e w6_4 ⟨d, rfl, hd, hb⟩
      clear CC
      obtain ⟨Ad, cd, rfl, _⟩ := hd.form
      have Hd := Lib.hid hd.rd
      have Hc2 := Lib.hid (Hc.out.below hb (Nat.le_refl _))
      clear hd Hc
      have HB4 := Lib.hid (HB3.out.trans (hb.mono (by have := HB3.out.size; omega)))
      clear hb
      have CC := Lib.hid (sameInts_same _ _ _ _ _ w6_4 Hc2.out Hd.out)
      go_wp2_with fail
      refine CC.out.mono ?_
      rintro e _ ⟨rfl, nd, rfl⟩
      clear CC
      have hb := bel_drewN w6_4.heap.size w6_4 nd
      have HB5 := Lib.hid (HB4.out.trans (hb.mono (by have := HB4.out.size; omega)))
      clear hb
      generalize (w6_4.drewN nd) = w6_6 at HB5 ⊢
      have CC := Lib.hid (IsContent_any (k : Int) w6_6)
      go_wp2_with fail
      refine CC.out.mono ?_
      rintro e _ ⟨rfl, rfl⟩
      clear CC
      have CC := Lib.hid (sIsContent_any (k : Int) w6_6)
      go_wp2_with fail
      refine CC.out.mono ?_
      rintro e _ ⟨rfl, rfl⟩
      clear CC
      have CC := Lib.hid ((by have h := impl_ReadSignal_any st w6_6; rw [show readT st.data.toList = .tuple #[.int .i64 ((k : Int)), .bool true] by unfold readT; rw [HST.out]; dsimp only; rw [read_text k hk]; rfl] at h; exact h : Calls Try.prog 28 #[.string st] w6_6 fun e w' => e = .returned (.tuple #[.int .i64 ((k : Int)), .bool true]) ∧ w6_6 = w'))
      go_wp2_with fail
      refine CC.out.mono ?_
      rintro e _ ⟨rfl, rfl⟩
      clear CC
      have hmi : inB ((k : Int) / 8 + (k : Int) % 8 * 8) 0 63 = true := by have := mir_lt k hk; unfold inB; simp; omega
      have CC := Lib.hid ((by have h := Mirror_any ((k : Int) / 8 + (k : Int) % 8 * 8) w6_6; rw [hmi, show mirM ((k : Int) / 8 + (k : Int) % 8 * 8) = (k : Int) by unfold mirM; rw [hmi]; have := mir_mir k hk; simp only [if_true]; omega] at h; exact h : Calls Try.prog 19 #[.int .i64 ((k : Int) / 8 + (k : Int) % 8 * 8)] w6_6 fun e w' => e = .returned (.tuple #[.int .i64 ((k : Int)), .bool true]) ∧ w6_6 = w'))
      go_wp2_with fail
      refine CC.out.mono ?_
      rintro e _ ⟨rfl, rfl⟩
      clear CC
      have hui : inB (63 - (k : Int)) 0 63 = true := by unfold inB; simp; omega
      have CC := Lib.hid ((by have h := Turn_any (63 - (k : Int)) w6_6; rw [hui, show turnM (63 - (k : Int)) = (k : Int) by unfold turnM; rw [hui]; simp only [if_true]; omega] at h; exact h : Calls Try.prog 21 #[.int .i64 (63 - (k : Int))] w6_6 fun e w' => e = .returned (.tuple #[.int .i64 ((k : Int)), .bool true]) ∧ w6_6 = w'))
      go_wp2_with fail
      refine CC.out.mono ?_
      rintro e _ ⟨rfl, rfl⟩
      clear CC
      have hC2 : Hid (closedL (63 - (k : Int)) = shutM (63 - k) 6) := by show _ = _; unfold closedL; rw [hui]; simp only [if_true]; rw [show (63 - (k : Int)).toNat = 63 - k by omega]
      have CC := Lib.hid ((by have h := ClosedShutters_any (63 - (k : Int)) w6_6; rw [hui, hC2.out] at h; exact h : Calls Try.prog 23 #[.int .i64 (63 - (k : Int))] w6_6 (RetOwT (shutM (63 - k) 6) true w6_6)))
      go_wp2_with fail
      refine CC.out.mono ?_
      rintro e w6_6 ⟨r, rfl, hr, hb⟩
      clear CC
      obtain ⟨Ar, cr, rfl, _⟩ := hr.form
      have Hr := Lib.hid hr.rd
      clear hr
      have HB6 := Lib.hid (HB5.out.trans (hb.mono (by have := HB5.out.size; omega)))
      clear hb
      have CC := Lib.hid ((by have h := sClosedShutters_any (63 - (k : Int)) w6_6; rw [hui, hC2.out] at h; exact h : Calls Try.prog 24 #[.int .i64 (63 - (k : Int))] w6_6 (RetOwT (shutM (63 - k) 6) true w6_6)))
      go_wp2_with fail
      refine CC.out.mono ?_
      rintro e w6_7 ⟨q, rfl, hq, hb⟩
      clear CC
      obtain ⟨Aq, cq, rfl, _⟩ := hq.form
      have Hq := Lib.hid hq.rd
      have Hr2 := Lib.hid (Hr.out.below hb (Nat.le_refl _))
      clear hq Hr
      have HB7 := Lib.hid (HB6.out.trans (hb.mono (by have := HB6.out.size; omega)))
      clear hb
      have hoc := open_closed k hk
      have CC := Lib.hid (sameInts_same _ _ _ _ _ w6_7 Hr2.out Hq.out)
      go_wp2_with fail
      refine CC.out.mono ?_
      rintro e _ ⟨rfl, nd, rfl⟩
      clear CC
      have hb := bel_drewN w6_7.heap.size w6_7 nd
      have HB8 := Lib.hid (HB7.out.trans (hb.mono (by have := HB7.out.size; omega)))
      clear hb
      generalize (w6_7.drewN nd) = w6_9 at HB8 ⊢
      have CC := Lib.hid (DrawSignalDistance_any xs1 _ w.heap.size w6_9 (hr1.out.below HB8.out (Nat.le_refl _)) (by have := HB8.out.size; omega))
      go_wp2_with fail
      refine CC.out.mono ?_
      rintro e w6_9 ⟨a, b, rfl, hb⟩
      clear CC
      have HB9 := Lib.hid (HB8.out.trans (hb.mono (by have := HB8.out.size; omega)))
      clear hb
      cases hab : (inB a 0 63 && inB b 0 63)
      · have hT : Hid (sigDT a b = .tuple #[.int .i64 (0), .bool false]) := by show _ = _; unfold sigDT; rw [hab]; rfl
        have hC : Hid (changedL a b = []) := by show _ = _; unfold changedL; rw [hab]; rfl
        have CC := Lib.hid ((by have h := SignalDistance_any a b w6_9; rw [hT.out] at h; exact h : Calls Try.prog 30 #[.int .i64 a, .int .i64 b] w6_9 fun e w' => e = .returned (.tuple #[.int .i64 (0), .bool false]) ∧ w6_9 = w'))
        go_wp2_with fail
        refine CC.out.mono ?_
        rintro e _ ⟨rfl, rfl⟩
        clear CC
        have CC := Lib.hid ((by have h := sSignalDistance_any a b w6_9; rw [hT.out] at h; exact h : Calls Try.prog 31 #[.int .i64 a, .int .i64 b] w6_9 fun e w' => e = .returned (.tuple #[.int .i64 (0), .bool false]) ∧ Below w6_9.heap.size w6_9 w'))
        go_wp2_with fail
        refine CC.out.mono ?_
        rintro e w8_10 ⟨rfl, hb⟩
        clear CC
        have HB10 := Lib.hid (HB9.out.trans (hb.mono (by have := HB9.out.size; omega)))
        clear hb
        have CC := Lib.hid ((by have h := ChangedShutters_any a b w8_10; rw [hab, hC.out] at h; exact h : Calls Try.prog 32 #[.int .i64 a, .int .i64 b] w8_10 (RetOwT ([]) false w8_10)))
        go_wp2_with fail
        refine CC.out.mono ?_
        rintro e w8_11 ⟨l, rfl, hl, hb⟩
        clear CC
        obtain ⟨Al, cl, rfl, _⟩ := hl.form
        have Hl := Lib.hid hl.rd
        clear hl
        have HB11 := Lib.hid (HB10.out.trans (hb.mono (by have := HB10.out.size; omega)))
        clear hb
        have CC := Lib.hid ((by have h := sChangedShutters_any a b w8_11; rw [hab, hC.out] at h; exact h : Calls Try.prog 33 #[.int .i64 a, .int .i64 b] w8_11 (RetOwT ([]) false w8_11)))
        go_wp2_with fail
        refine CC.out.mono ?_
        rintro e w8_12 ⟨m, rfl, hm, hb⟩
        clear CC
        obtain ⟨Am, cm, rfl, _⟩ := hm.form
        have Hm := Lib.hid hm.rd
        have Hl2 := Lib.hid (Hl.out.below hb (Nat.le_refl _))
        clear hm Hl
        have HB12 := Lib.hid (HB11.out.trans (hb.mono (by have := HB11.out.size; omega)))
        clear hb
        have CC := Lib.hid (sameInts_same _ _ _ _ _ w8_12 Hl2.out Hm.out)
        go_wp2_with fail
        refine CC.out.mono ?_
        rintro e _ ⟨rfl, nd, rfl⟩
        clear CC
        have hb := bel_drewN w8_12.heap.size w8_12 nd
        have HB13 := Lib.hid (HB12.out.trans (hb.mono (by have := HB12.out.size; omega)))
        clear hb
        generalize (w8_12.drewN nd) = w8_14 at HB13 ⊢
        have CC := Lib.hid (DrawReadSignal_any xs1 _ w.heap.size w8_14 (hr1.out.below HB13.out (Nat.le_refl _)) (by have := HB13.out.size; omega))
        go_wp2_with fail
        refine CC.out.mono ?_
        rintro e w8_14 ⟨t4, rfl, ht4, hb⟩
        clear CC
        have HB14 := Lib.hid (HB13.out.trans (hb.mono (by have := HB13.out.size; omega)))
        clear hb
        obtain ⟨p4, q4, hT4⟩ : ∃ p q, readT t4.data.toList = .tuple #[.int .i64 p, .bool q] := ⟨_, _, rfl⟩
        have CC := Lib.hid ((by rw [← hT4]; exact impl_ReadSignal_any t4 w8_14 : Calls Try.prog 28 #[.string t4] w8_14 fun e w' => e = .returned (.tuple #[.int .i64 p4, .bool q4]) ∧ w8_14 = w'))
        go_wp2_with fail
        refine CC.out.mono ?_
        rintro e _ ⟨rfl, rfl⟩
        clear CC
        have CC := Lib.hid ((by rw [← hT4]; exact sReadSignal_any t4 w8_14 : Calls Try.prog 35 #[.string t4] w8_14 fun e w' => e = .returned (.tuple #[.int .i64 p4, .bool q4]) ∧ w8_14 = w'))
        go_wp2_with fail
        refine CC.out.mono ?_
        rintro e _ ⟨rfl, rfl⟩
        clear CC
        clear hT4
        cases q4 <;>
          (go_wp2_with fail; go_ret; exact ⟨ret_bool (by simp), HB14.out⟩)
      · obtain ⟨ha, hbb⟩ : inB a 0 63 = true ∧ inB b 0 63 = true := by simpa using hab
        obtain ⟨i, rfl, hi⟩ : ∃ i : Nat, a = (i : Int) ∧ i < 64 := by unfold inB at ha; simp at ha; exact ⟨a.toNat, by omega, by omega⟩
        obtain ⟨j, rfl, hj⟩ : ∃ j : Nat, b = (j : Int) ∧ j < 64 := by unfold inB at hbb; simp at hbb; exact ⟨b.toNat, by omega, by omega⟩
        obtain ⟨d, hd⟩ : ∃ d, d = distM i j := ⟨_, rfl⟩
        have hT : Hid (sigDT (i : Int) (j : Int) = .tuple #[.int .i64 ((d : Nat)), .bool true]) := by show _ = _; unfold sigDT; rw [hab, hd]; simp
        have hC : Hid (changedL (i : Int) (j : Int) = shutM (i ^^^ j) 6) := by show _ = _; unfold changedL; rw [hab]; simp
        have hln : (shutM (i ^^^ j) 6).length = d := by rw [hd]; rfl
        have CC := Lib.hid ((by have h := SignalDistance_any (i : Int) (j : Int) w6_9; rw [hT.out] at h; exact h : Calls Try.prog 30 #[.int .i64 (i : Int), .int .i64 (j : Int)] w6_9 fun e w' => e = .returned (.tuple #[.int .i64 ((d : Nat)), .bool true]) ∧ w6_9 = w'))
        go_wp2_with fail
        refine CC.out.mono ?_
        rintro e _ ⟨rfl, rfl⟩
        clear CC
        have CC := Lib.hid ((by have h := sSignalDistance_any (i : Int) (j : Int) w6_9; rw [hT.out] at h; exact h : Calls Try.prog 31 #[.int .i64 (i : Int), .int .i64 (j : Int)] w6_9 fun e w' => e = .returned (.tuple #[.int .i64 ((d : Nat)), .bool true]) ∧ Below w6_9.heap.size w6_9 w'))
        go_wp2_with fail
        refine CC.out.mono ?_
        rintro e w8_10 ⟨rfl, hb⟩
        clear CC
        have HB10 := Lib.hid (HB9.out.trans (hb.mono (by have := HB9.out.size; omega)))
        clear hb
        have CC := Lib.hid ((by have h := ChangedShutters_any (i : Int) (j : Int) w8_10; rw [hab, hC.out] at h; exact h : Calls Try.prog 32 #[.int .i64 (i : Int), .int .i64 (j : Int)] w8_10 (RetOwT (shutM (i ^^^ j) 6) true w8_10)))
        go_wp2_with fail
        refine CC.out.mono ?_
        rintro e w8_11 ⟨l, rfl, hl, hb⟩
        clear CC
        obtain ⟨Al, cl, rfl, _⟩ := hl.form
        have Hl := Lib.hid hl.rd
        clear hl
        have HB11 := Lib.hid (HB10.out.trans (hb.mono (by have := HB10.out.size; omega)))
        clear hb
        have CC := Lib.hid ((by have h := sChangedShutters_any (i : Int) (j : Int) w8_11; rw [hab, hC.out] at h; exact h : Calls Try.prog 33 #[.int .i64 (i : Int), .int .i64 (j : Int)] w8_11 (RetOwT (shutM (i ^^^ j) 6) true w8_11)))
        go_wp2_with fail
        refine CC.out.mono ?_
        rintro e w8_12 ⟨m, rfl, hm, hb⟩
        clear CC
        obtain ⟨Am, cm, rfl, _⟩ := hm.form
        have Hm := Lib.hid hm.rd
        have Hl2 := Lib.hid (Hl.out.below hb (Nat.le_refl _))
        clear hm Hl
        have HB12 := Lib.hid (HB11.out.trans (hb.mono (by have := HB11.out.size; omega)))
        clear hb
        have hd6 := distM_le i j
        rw [← hd] at hd6
        have CC := Lib.hid (sameInts_same _ _ _ _ _ w8_12 Hl2.out Hm.out)
        go_wp2_with fail
        refine CC.out.mono ?_
        rintro e _ ⟨rfl, nd, rfl⟩
        clear CC
        have hb := bel_drewN w8_12.heap.size w8_12 nd
        have HB13 := Lib.hid (HB12.out.trans (hb.mono (by have := HB12.out.size; omega)))
        clear hb
        generalize (w8_12.drewN nd) = w8_14 at HB13 ⊢
        have CC := Lib.hid ((by have h := SignalDistance_any (j : Int) (i : Int) w8_14; rw [show sigDT (j : Int) (i : Int) = .tuple #[.int .i64 ((d : Nat)), .bool true] by unfold sigDT; rw [ha, hbb]; simp; rw [dist_sym i hi j hj, hd]] at h; exact h : Calls Try.prog 30 #[.int .i64 (j : Int), .int .i64 (i : Int)] w8_14 fun e w' => e = .returned (.tuple #[.int .i64 ((d : Nat)), .bool true]) ∧ w8_14 = w'))
        go_wp2_with fail
        refine CC.out.mono ?_
        rintro e _ ⟨rfl, rfl⟩
        clear CC
        have CC := Lib.hid ((by have h := Mirror_any (i : Int) w8_14; rw [show mirM (i : Int) = (i : Int) / 8 + (i : Int) % 8 * 8 by unfold mirM; rw [ha]; rfl, ha] at h; exact h : Calls Try.prog 19 #[.int .i64 (i : Int)] w8_14 fun e w' => e = .returned (.tuple #[.int .i64 ((i : Int) / 8 + (i : Int) % 8 * 8), .bool true]) ∧ w8_14 = w'))
        go_wp2_with fail
        refine CC.out.mono ?_
        rintro e _ ⟨rfl, rfl⟩
        clear CC
        have CC := Lib.hid ((by have h := Mirror_any (j : Int) w8_14; rw [show mirM (j : Int) = (j : Int) / 8 + (j : Int) % 8 * 8 by unfold mirM; rw [hbb]; rfl, hbb] at h; exact h : Calls Try.prog 19 #[.int .i64 (j : Int)] w8_14 fun e w' => e = .returned (.tuple #[.int .i64 ((j : Int) / 8 + (j : Int) % 8 * 8), .bool true]) ∧ w8_14 = w'))
        go_wp2_with fail
        refine CC.out.mono ?_
        rintro e _ ⟨rfl, rfl⟩
        clear CC
        have CC := Lib.hid ((by have h := SignalDistance_any ((i : Int) / 8 + (i : Int) % 8 * 8) ((j : Int) / 8 + (j : Int) % 8 * 8) w8_14; rw [show sigDT ((i : Int) / 8 + (i : Int) % 8 * 8) ((j : Int) / 8 + (j : Int) % 8 * 8) = .tuple #[.int .i64 ((d : Nat)), .bool true] by exact mir_dist hi hj hd] at h; exact h : Calls Try.prog 30 #[.int .i64 ((i : Int) / 8 + (i : Int) % 8 * 8), .int .i64 ((j : Int) / 8 + (j : Int) % 8 * 8)] w8_14 fun e w' => e = .returned (.tuple #[.int .i64 ((d : Nat)), .bool true]) ∧ w8_14 = w'))
        go_wp2_with fail
        refine CC.out.mono ?_
        rintro e _ ⟨rfl, rfl⟩
        clear CC
        have CC := Lib.hid (DrawReadSignal_any xs1 _ w.heap.size w8_14 (hr1.out.below HB13.out (Nat.le_refl _)) (by have := HB13.out.size; omega))
        go_wp2_with fail
        refine CC.out.mono ?_
        rintro e w8_14 ⟨t4, rfl, ht4, hb⟩
        clear CC
        have HB14 := Lib.hid (HB13.out.trans (hb.mono (by have := HB13.out.size; omega)))
        clear hb
        obtain ⟨p4, q4, hT4⟩ : ∃ p q, readT t4.data.toList = .tuple #[.int .i64 p, .bool q] := ⟨_, _, rfl⟩
        have CC := Lib.hid ((by rw [← hT4]; exact impl_ReadSignal_any t4 w8_14 : Calls Try.prog 28 #[.string t4] w8_14 fun e w' => e = .returned (.tuple #[.int .i64 p4, .bool q4]) ∧ w8_14 = w'))
        go_wp2_with fail
        refine CC.out.mono ?_
        rintro e _ ⟨rfl, rfl⟩
        clear CC
        have CC := Lib.hid ((by rw [← hT4]; exact sReadSignal_any t4 w8_14 : Calls Try.prog 35 #[.string t4] w8_14 fun e w' => e = .returned (.tuple #[.int .i64 p4, .bool q4]) ∧ w8_14 = w'))
        go_wp2_with fail
        refine CC.out.mono ?_
        rintro e _ ⟨rfl, rfl⟩
        clear CC
        clear hT4
        cases q4 <;>
          (go_wp2_with fail; go_ret; exact ⟨ret_bool (by simp), HB14.out⟩)
  · rw [hbig] at cb
    have CB := Lib.hid cb
    clear cb hbig
    go_enter Try.func3, Try.ntmps3
    go_wp2_with fail
    refine CB.out.mono ?_
    rintro e _ ⟨rfl, rfl⟩
    go_wp2_with fail
    go_ret
    exact ⟨rfl, Below.refl _ _⟩
set_option maxRecDepth 100000 in
theorem lifted (os : Os) (started : os.Started) (H : Type) (enc : TypeId × Value → H) :
    ReturnsInHanded {} Try.checked os 3 .any (Rows.fnSignalsSpec.pre6 enc Try.prog Try.f3 Rows.fnSignalsRow.domain false) (Rows.fnSignalsSpec.post enc Try.prog Try.f3 false true false false) := by
  refine returnsInHanded_of_change (C := Try.checked) own started (by kernel_rfl) Try.func3
    (ChangeSpec.witness6 (enc := enc) (C := Try.checked) false ⟨#[], #[.slice Option.none 0 0, .slice Option.none 0 0], []⟩ 8 (by kernel_rfl) (by kernel_rfl) (by kernel_rfl) (by kernel_rfl)) ?_
  intro W base args ds gs before hval0 hW _ _
  have hval : ∀ (j : Nat) t v, Try.f3.params[j]? = some t → args[j]? = some v → Value.okWide Try.prog W .any base t v := hval0
  have hW' := hW
  obtain ⟨p, q, hA0, hV, rfl, hfz, hnd⟩ := hW
  have hA : DataW.TrodAll enc Try.prog W 0 (fun _ => true) true Try.f3.params.toList args.toList ds p := hA0
  rw [Try.params3] at hA hval
  obtain ⟨v0, vs0, d0, ds0, p0, q0, hargs, rfl, rfl, h0, r0⟩ := trodAll_cons hA
  obtain ⟨v1, vs1, d1, ds1, p1, q1, rfl, rfl, rfl, h1, r1⟩ := trodAll_cons r0
  obtain ⟨rfl, rfl, rfl⟩ := trodAll_nil r1
  obtain rfl : args = #[v0, v1] := by cases args; simp_all
  obtain ⟨rfl, rfl⟩ := trodVars_none hV
  obtain ⟨f0, g0⟩ := h0
  rw [slice_cells Try.underlying22 (hval 0 22 v0 rfl rfl)] at g0
  obtain ⟨xs0, x0⟩ := open_byteS g0
  obtain ⟨f1, g1⟩ := h1
  rw [slice_cells Try.underlying22 (hval 1 22 v1 rfl rfl)] at g1
  obtain ⟨xs1, x1⟩ := open_byteS g1
  clear hA0 hval0
  refine (walk v0 xs0 v1 xs1 W x0 x1).mono fun e W' ⟨he, hb⟩ => ?_
  subst he
  exact ⟨_, rfl, law_post hW' rfl rfl (by kernel_rfl) rfl hb⟩
theorem over : Rows.fnSignalsRow.holds Try.pinned (OpenSpec.ofChange Rows.fnSignalsSpec) :=
  OpenClaim.holds_of_wide 3 Try.f3 rfl rfl rfl rfl rfl rfl rfl ⟨rfl, rfl, rfl, rfl, rfl⟩ rfl rfl rfl rfl rfl (by kernel_rfl) Try.func3 (by kernel_rfl)
    (of_decide_eq_true (by kernel_rfl)) (by unfold Func.isWrapper; first | (rw [if_pos (by decide +kernel)]; kernel_rfl) | (rw [if_neg (by decide +kernel)]; exact ⟨rfl, rfl⟩))
    (fun os started H enc _ => lifted os started H enc)
/-- The statement. -/
theorem proved : Rows.FnSignalsSaid :=
  over
#print axioms proved
end Go.Proofs.Ytabiobjcfopakaa.fnSignals
