/- Contracts of the functions that gather the closed shutters of a signal, and of the distances. -/
import Derived.Test.YtabiobjcfopakaaM1
import Derived.Test.YtabiobjcfopakaaShelf
namespace Go.Proofs.Ytabiobjcfopakaa
open Go.RowKit
/-- The closed ones of the first k shutters. -/
def shutM (n k : Nat) : List Int := ((List.range k).filter fun i => bitB n i).map fun i : Nat => (i : Int)
theorem shutM_len (n k : Nat) : (shutM n k).length ≤ k := by
  unfold shutM; rw [List.length_map]; have := List.length_filter_le (fun i => bitB n i) (List.range k); simpa using this
theorem shutM_yes {n k : Nat} (h : bitB n k = true) : shutM n (k + 1) = shutM n k ++ [(k : Int)] := by simp [shutM, List.range_succ, h]
theorem shutM_no {n k : Nat} (h : bitB n k = false) : shutM n (k + 1) = shutM n k := by simp [shutM, List.range_succ, h]
/-- A result that is a row of ints of the call's own. -/
def RetOwI (xs : List Int) (w : World) (e : Ending) (w' : World) : Prop := ∃ v, e = .returned v ∧ OwI w' w.heap.size w'.heap.size v xs ∧ Below w.heap.size w w'
theorem retOwI {w wr : World} {v : Value} {xs : List Int} (h : GrowI w w.heap.size wr v xs) : RetOwI xs w (.returned v) wr := ⟨v, rfl, h.own, h.bel⟩
set_option maxHeartbeats 400000 in
theorem sgShutters_any (n : Nat) (h1 : n ≤ 63) (w : World) : Calls Try.prog 124 #[.int .i64 (n : Int)] w (RetOwI (shutM n 6) w) := by
  go_enter Try.func124, Try.ntmps124
  go_wp2
  go_loopw [3, 4] (fun v i wr => ∃ k : Nat, k ≤ 6 ∧ i = .int .i64 k ∧ GrowI w w.heap.size wr v (shutM n k)) (fun _ i _ => 6 - (intOf i).toNat)
  case atStart => exact ⟨0, by omega, rfl, GrowI.start w⟩
  case round =>
    obtain ⟨k, hk, rfl, hG⟩ := hrel
    have hl := shutM_len n k
    by_cases hlt : k < 6
    · cases hb : bitB n k
      · have HB := Lib.hid hb
        go_wp2_with (go_at_call 210; refine (sgClosed_any _ _ h1 (by omega) _).mono ?_; rintro e w' ⟨rfl, rfl⟩)
        go_roundw
        case rel => exact ⟨k + 1, by omega, by go_num, by rw [shutM_no HB.out]; exact hG⟩
        case measure => simp [intOf]; omega
      · have HB := Lib.hid hb
        go_wp2_with (first | (go_at_call 210; refine (sgClosed_any _ _ h1 (by omega) _).mono ?_; rintro e w' ⟨rfl, rfl⟩) | (at_builtin; refine GrowI.app rfl (.tmp 12) (.tmp 14) rfl hG (by omega) rfl rfl ?_; intro v' w1 hG'))
        go_roundw
        case rel => exact ⟨k + 1, by omega, by go_num, by rw [shutM_yes HB.out]; exact hG'⟩
        case measure => simp [intOf]; omega
    · obtain rfl : k = 6 := by omega
      go_wp2
      go_ret
      exact retOwI hG
def distM (a b : Nat) : Nat := (shutM (a ^^^ b) 6).length
theorem xor_lt {a b : Nat} (ha : a ≤ 63) (hb : b ≤ 63) : a ^^^ b ≤ 63 := by
  have := Nat.xor_lt_two_pow (x := a) (y := b) (n := 6) (by omega) (by omega); omega
theorem distM_le (a b : Nat) : distM a b ≤ 6 := shutM_len _ 6
theorem ones_shut (m : Nat) (h : m ≤ 63) : Lib.onesCount m = (shutM m 6).length := by
  have : ∀ m : Fin 64, Lib.onesCount m.val = (shutM m.val 6).length := by decide +kernel
  exact this ⟨m, by omega⟩
theorem distanceOf_any (a b : Nat) (ha : a ≤ 63) (hb : b ≤ 63) (w : World) : Calls Try.prog 128 #[.int .i64 (a : Int), .int .i64 (b : Int)] w fun e w' => e = .returned (.int .i64 (distM a b : Nat)) ∧ w = w' := by
  have hx := i64_xor a b (by omega) (by omega)
  have hl := xor_lt ha hb
  go_enter Try.func128, Try.ntmps128
  go_wp2_with fail
  refine (Try.bits_OnesCount8 _ _ (by omega) (by omega)).mono ?_
  rintro e w' ⟨rfl, rfl⟩
  go_wp2
  go_ret
  refine ⟨ret_int ?_, rfl⟩
  rw [ones_shut _ hl]; rfl
theorem sgDistance_any (a b : Nat) (ha : a ≤ 63) (hb : b ≤ 63) (w : World) : Calls Try.prog 129 #[.int .i64 (a : Int), .int .i64 (b : Int)] w fun e w' => e = .returned (.int .i64 (distM a b : Nat)) ∧ Below w.heap.size w w' := by
  have hx := i64_xor a b (by omega) (by omega)
  have hl := xor_lt ha hb
  go_enter Try.func129, Try.ntmps129
  go_wp2_with fail
  refine (sgShutters_any _ hl _).mono ?_
  rintro e w' ⟨v, rfl, hown, hbel⟩
  obtain ⟨_, A, c, rfl, _⟩ := hown.rd
  go_wp2
  go_ret
  exact ⟨rfl, hbel⟩
def sigDT (a b : Int) : Value := if inB a 0 63 && inB b 0 63 then .tuple #[.int .i64 (distM a.toNat b.toNat : Nat), .bool true] else .tuple #[.int .i64 0, .bool false]
theorem SignalDistance_any (a b : Int) (w : World) : Calls Try.prog 30 #[.int .i64 a, .int .i64 b] w fun e w' => e = .returned (sigDT a b) ∧ w = w' := by
  cases ha : inB a 0 63
  · go_enter Try.func30, Try.ntmps30
    go_wp2_with (go_at_call 119; refine (isSignal_any _ _).mono ?_; rintro e w' ⟨rfl, rfl⟩)
    go_ret2
    exact ⟨ret_val (by simp [sigDT, ha]), rfl⟩
  · cases hb : inB b 0 63
    · go_enter Try.func30, Try.ntmps30
      go_wp2_with (go_at_call 119; refine (isSignal_any _ _).mono ?_; rintro e w' ⟨rfl, rfl⟩)
      go_ret2
      exact ⟨ret_val (by simp [sigDT, hb]), rfl⟩
    · obtain ⟨ha0, ha1⟩ := inB_iff.1 ha
      obtain ⟨hb0, hb1⟩ := inB_iff.1 hb
      obtain ⟨a, rfl⟩ := Int.eq_ofNat_of_zero_le ha0
      obtain ⟨b, rfl⟩ := Int.eq_ofNat_of_zero_le hb0
      go_enter Try.func30, Try.ntmps30
      go_wp2_with (first | (go_at_call 119; refine (isSignal_any _ _).mono ?_; rintro e w' ⟨rfl, rfl⟩) | (go_at_call 128; refine (distanceOf_any _ _ (by omega) (by omega) _).mono ?_; rintro e w' ⟨rfl, rfl⟩))
      go_ret2
      exact ⟨ret_val (by simp [sigDT, ha, hb]), rfl⟩
theorem sSignalDistance_any (a b : Int) (w : World) : Calls Try.prog 31 #[.int .i64 a, .int .i64 b] w fun e w' => e = .returned (sigDT a b) ∧ Below w.heap.size w w' := by
  cases ha : inB a 0 63
  · go_enter Try.func31, Try.ntmps31
    go_wp2_with (go_at_call 121; refine (sgGood_any _ _).mono ?_; rintro e w' ⟨rfl, rfl⟩)
    go_ret2
    exact ⟨ret_val (by simp [sigDT, ha]), Below.refl _ _⟩
  · cases hb : inB b 0 63
    · go_enter Try.func31, Try.ntmps31
      go_wp2_with (go_at_call 121; refine (sgGood_any _ _).mono ?_; rintro e w' ⟨rfl, rfl⟩)
      go_ret2
      exact ⟨ret_val (by simp [sigDT, hb]), Below.refl _ _⟩
    · obtain ⟨ha0, ha1⟩ := inB_iff.1 ha
      obtain ⟨hb0, hb1⟩ := inB_iff.1 hb
      obtain ⟨a, rfl⟩ := Int.eq_ofNat_of_zero_le ha0
      obtain ⟨b, rfl⟩ := Int.eq_ofNat_of_zero_le hb0
      go_enter Try.func31, Try.ntmps31
      go_wp2_with (first | (go_at_call 121; refine (sgGood_any _ _).mono ?_; rintro e w' ⟨rfl, rfl⟩) | (go_at_call 129; refine (sgDistance_any _ _ (by omega) (by omega) _).mono ?_; rintro e w1 ⟨rfl, hb1⟩))
      go_ret2
      exact ⟨ret_val (by simp [sigDT, ha, hb]), hb1⟩
end Go.Proofs.Ytabiobjcfopakaa
