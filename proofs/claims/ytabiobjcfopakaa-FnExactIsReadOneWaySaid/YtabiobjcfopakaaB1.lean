/- Contracts of the powers, of FlatLength and of the closed shutters of the program. -/
import Derived.Test.YtabiobjcfopakaaM1
import Derived.Test.YtabiobjcfopakaaM2
namespace Go.Proofs.Ytabiobjcfopakaa
open Go.RowKit
theorem wrap_id {n : Int} (h : -9223372036854775808 ≤ n) (h2 : n ≤ 9223372036854775807) : wrap64 n = n := IntWalk.wrap64_in n ⟨by omega, by omega⟩
theorem pow_le {r n : Nat} (hr : r ≤ 60) (hn : n ≤ 6) : r ^ n ≤ 46656000000 := by
  have h1 : r ^ n ≤ 60 ^ n := Nat.pow_le_pow_left hr n
  have h2 : 60 ^ n ≤ 60 ^ 6 := Nat.pow_le_pow_right (by omega) hn
  exact Nat.le_trans h1 (Nat.le_trans h2 (by decide))
theorem pow_step {r k n : Nat} (hr : r ≤ 60) (hn : n ≤ 6) (hk : k < n) : wrap64 (((r ^ k : Nat) : Int) * (r : Int)) = ((r ^ (k + 1) : Nat) : Int) := by
  have h := pow_le hr (show k + 1 ≤ 6 by omega)
  have e : ((r ^ k : Nat) : Int) * (r : Int) = ((r ^ (k + 1) : Nat) : Int) := by rw [Nat.pow_succ, Int.natCast_mul]
  rw [e]
  exact wrap_id (by omega) (by omega)
theorem cmPower_any (r n : Nat) (hr : r ≤ 60) (hn : n ≤ 6) (w : World) : Calls Try.prog 154 #[.int .i64 (r : Int), .int .i64 (n : Int)] w fun e w' => e = .returned (.int .i64 (r ^ n : Nat)) ∧ w = w' := by
  go_enter Try.func154, Try.ntmps154
  go_wp2
  go_loop [1, 5] (fun i p => ∃ j k : Nat, k ≤ n ∧ Hid (j + k = n) ∧ i = .int .i64 (j : Int) ∧ j ≤ n ∧ p = .int .i64 (r ^ k : Nat)) (fun i _ => (intOf i).toNat)
  case atStart => exact ⟨n, 0, by omega, by show _ = _; omega, rfl, by omega, rfl⟩
  case round =>
    obtain ⟨j, k, hk, hjk, rfl, hj, rfl⟩ := hrel
    by_cases hlt : 0 < j
    · go_wp2
      go_round
      case rel => exact ⟨j - 1, k + 1, by have := hjk.out; omega, by have := hjk.out; show _ = _; omega, by congr 1; omega, by omega, int_val (pow_step hr hn (by have := hjk.out; omega))⟩
      case measure => simp [intOf]; omega
    · obtain rfl : j = 0 := by omega
      have hkk : k = n := by have := hjk.out; omega
      subst hkk
      go_wp2
      go_ret
      exact ⟨rfl, rfl⟩
theorem powerOf_any (r n : Nat) (hr : r ≤ 60) (hn : n ≤ 6) (w : World) : Calls Try.prog 162 #[.int .i64 (r : Int), .int .i64 (n : Int)] w fun e w' => e = .returned (.int .i64 (r ^ n : Nat)) ∧ w = w' := by
  go_enter Try.func162, Try.ntmps162
  go_wp2
  go_loop [5, 7] (fun p i => ∃ k : Nat, k ≤ n ∧ i = .int .i64 (k : Int) ∧ p = .int .i64 (r ^ k : Nat)) (fun _ i => n - (intOf i).toNat)
  case atStart => exact ⟨0, by omega, rfl, rfl⟩
  case round =>
    obtain ⟨k, hk, rfl, rfl⟩ := hrel
    by_cases hlt : k < n
    · go_wp2
      go_round
      case rel => exact ⟨k + 1, by omega, by go_num, int_val (pow_step hr hn hlt)⟩
      case measure => simp [intOf]; omega
    · obtain rfl : k = n := by omega
      go_wp2
      go_ret
      exact ⟨rfl, rfl⟩
theorem cmBase_any (n : Int) (w : World) : Calls Try.prog 152 #[.int .i64 n] w fun e w' => e = .returned (.bool (inB n 2 60)) ∧ w = w' := by
  go_enter Try.func152, Try.ntmps152
  go_wp2_with (go_at_call 191; refine (l1In_any _ _ _ _).mono ?_; rintro e w' ⟨rfl, rfl⟩)
  go_ret
  exact ⟨rfl, rfl⟩
theorem isRadix_any (n : Int) (w : World) : Calls Try.prog 157 #[.int .i64 n] w fun e w' => e = .returned (.bool (inB n 2 60)) ∧ w = w' := by
  go_enter Try.func157, Try.ntmps157
  go_wp2_with (go_at_call 125; refine (within_any _ _ _ _).mono ?_; rintro e w' ⟨rfl, rfl⟩)
  go_ret
  exact ⟨rfl, rfl⟩
/-- The least length with which n words can all have it. -/
def flatM (n r : Nat) : Nat := if n ≤ r ^ 1 then 1 else if n ≤ r ^ 2 then 2 else if n ≤ r ^ 3 then 3 else if n ≤ r ^ 4 then 4 else 5
theorem flatM_le (n r : Nat) : 1 ≤ flatM n r ∧ flatM n r ≤ 5 := by unfold flatM; repeat (first | split | omega)
theorem pow_mono (r : Nat) (hr : 2 ≤ r) {a b : Nat} (h : a ≤ b) : r ^ a ≤ r ^ b := Nat.pow_le_pow_right (by omega) h
theorem flatM_up {n r L : Nat} (hr : 2 ≤ r) (hn : n ≤ 20) (h1 : 1 ≤ L) (hL : L ≤ flatM n r) (hlt : r ^ L < n) : L + 1 ≤ flatM n r := by
  have h5 := (flatM_le n r).2
  have m2 := pow_mono r hr (show 1 ≤ 2 by omega)
  have m3 := pow_mono r hr (show 2 ≤ 3 by omega)
  have m4 := pow_mono r hr (show 3 ≤ 4 by omega)
  have m5 := pow_mono r hr (show 4 ≤ 5 by omega)
  have b5 : 2 ^ 5 ≤ r ^ 5 := Nat.pow_le_pow_left hr 5
  rcases (show L = 1 ∨ L = 2 ∨ L = 3 ∨ L = 4 ∨ L = 5 by omega) with rfl | rfl | rfl | rfl | rfl
  all_goals (first | omega | (unfold flatM at *; repeat (first | split at * | omega)))
theorem flatM_at {n r L : Nat} (h1 : 1 ≤ L) (hL : L ≤ flatM n r) (hge : ¬ r ^ L < n) : flatM n r = L := by
  have h5 := (flatM_le n r).2
  rcases (show L = 1 ∨ L = 2 ∨ L = 3 ∨ L = 4 ∨ L = 5 by omega) with rfl | rfl | rfl | rfl | rfl
  all_goals (first | omega | (unfold flatM at *; repeat (first | split at * | omega)))
def flatT (n r : Int) : Value := if inB n 1 20 && inB r 2 60 then .tuple #[.int .i64 (flatM n.toNat r.toNat : Nat), .bool true] else .tuple #[.int .i64 0, .bool false]
theorem FlatLength_any (n r : Int) (w : World) : Calls Try.prog 87 #[.int .i64 n, .int .i64 r] w fun e w' => e = .returned (flatT n r) ∧ w = w' := by
  cases ha : inB n 1 20
  · go_enter Try.func87, Try.ntmps87
    go_wp2_with (first | (go_at_call 125; refine (within_any _ _ _ _).mono ?_; rintro e w' ⟨rfl, rfl⟩) | (go_at_call 157; refine (isRadix_any _ _).mono ?_; rintro e w' ⟨rfl, rfl⟩))
    go_ret2
    exact ⟨ret_val (by simp [flatT, ha]), rfl⟩
  · cases hb : inB r 2 60
    · go_enter Try.func87, Try.ntmps87
      go_wp2_with (first | (go_at_call 125; refine (within_any _ _ _ _).mono ?_; rintro e w' ⟨rfl, rfl⟩) | (go_at_call 157; refine (isRadix_any _ _).mono ?_; rintro e w' ⟨rfl, rfl⟩))
      go_ret2
      exact ⟨ret_val (by simp [flatT, hb]), rfl⟩
    · obtain ⟨ha0, ha1⟩ := inB_iff.1 ha
      obtain ⟨hb0, hb1⟩ := inB_iff.1 hb
      obtain ⟨n, rfl⟩ := Int.eq_ofNat_of_zero_le (show 0 ≤ n by omega)
      obtain ⟨r, rfl⟩ := Int.eq_ofNat_of_zero_le (show 0 ≤ r by omega)
      have hf := flatM_le n r
      go_enter Try.func87, Try.ntmps87
      go_wp2_with (first | (go_at_call 125; refine (within_any _ _ _ _).mono ?_; rintro e w' ⟨rfl, rfl⟩) | (go_at_call 157; refine (isRadix_any _ _).mono ?_; rintro e w' ⟨rfl, rfl⟩))
      go_loop [6] (fun i => ∃ L : Nat, 1 ≤ L ∧ L ≤ flatM n r ∧ i = .int .i64 (L : Int)) (fun i => 6 - (intOf i).toNat)
      case atStart => exact ⟨1, by omega, by omega, rfl⟩
      case round =>
        obtain ⟨L, h1, hL, rfl⟩ := hrel
        have hp := pow_le (show r ≤ 60 by omega) (show L ≤ 6 by omega)
        by_cases hlt : r ^ L < n
        · have hlt' : (r : Int) ^ L < (n : Int) := by exact_mod_cast hlt
          go_wp2_with (go_at_call 162; refine (powerOf_any _ _ (by omega) (by omega) _).mono ?_; rintro e w' ⟨rfl, rfl⟩)
          go_round
          case rel => exact ⟨L + 1, by omega, flatM_up (by omega) (by omega) h1 hL hlt, by go_num⟩
          case measure => simp [intOf]; omega
        · have hlt' : ¬ (r : Int) ^ L < (n : Int) := by exact_mod_cast hlt
          go_wp2_with (go_at_call 162; refine (powerOf_any _ _ (by omega) (by omega) _).mono ?_; rintro e w' ⟨rfl, rfl⟩)
          go_ret2
          exact ⟨ret_val (by simp [flatT, ha, hb, flatM_at h1 hL hlt]), rfl⟩
theorem sFlatLength_any (n r : Int) (w : World) : Calls Try.prog 88 #[.int .i64 n, .int .i64 r] w fun e w' => e = .returned (flatT n r) ∧ w = w' := by
  cases ha : inB n 1 20
  · go_enter Try.func88, Try.ntmps88
    go_wp2_with (first | (go_at_call 191; refine (l1In_any _ _ _ _).mono ?_; rintro e w' ⟨rfl, rfl⟩) | (go_at_call 152; refine (cmBase_any _ _).mono ?_; rintro e w' ⟨rfl, rfl⟩))
    go_ret2
    exact ⟨ret_val (by simp [flatT, ha]), rfl⟩
  · cases hb : inB r 2 60
    · go_enter Try.func88, Try.ntmps88
      go_wp2_with (first | (go_at_call 191; refine (l1In_any _ _ _ _).mono ?_; rintro e w' ⟨rfl, rfl⟩) | (go_at_call 152; refine (cmBase_any _ _).mono ?_; rintro e w' ⟨rfl, rfl⟩))
      go_ret2
      exact ⟨ret_val (by simp [flatT, hb]), rfl⟩
    · obtain ⟨ha0, ha1⟩ := inB_iff.1 ha
      obtain ⟨hb0, hb1⟩ := inB_iff.1 hb
      obtain ⟨n, rfl⟩ := Int.eq_ofNat_of_zero_le (show 0 ≤ n by omega)
      obtain ⟨r, rfl⟩ := Int.eq_ofNat_of_zero_le (show 0 ≤ r by omega)
      have hf := flatM_le n r
      go_enter Try.func88, Try.ntmps88
      go_wp2_with (first | (go_at_call 191; refine (l1In_any _ _ _ _).mono ?_; rintro e w' ⟨rfl, rfl⟩) | (go_at_call 152; refine (cmBase_any _ _).mono ?_; rintro e w' ⟨rfl, rfl⟩))
      go_loop [6] (fun i => ∃ L : Nat, 1 ≤ L ∧ L ≤ flatM n r ∧ i = .int .i64 (L : Int)) (fun i => 6 - (intOf i).toNat)
      case atStart => exact ⟨1, by omega, by omega, rfl⟩
      case round =>
        obtain ⟨L, h1, hL, rfl⟩ := hrel
        have hp := pow_le (show r ≤ 60 by omega) (show L ≤ 6 by omega)
        by_cases hlt : r ^ L < n
        · have hlt' : (r : Int) ^ L < (n : Int) := by exact_mod_cast hlt
          go_wp2_with (go_at_call 154; refine (cmPower_any _ _ (by omega) (by omega) _).mono ?_; rintro e w' ⟨rfl, rfl⟩)
          go_round
          case rel => exact ⟨L + 1, by omega, flatM_up (by omega) (by omega) h1 hL hlt, by go_num⟩
          case measure => simp [intOf]; omega
        · have hlt' : ¬ (r : Int) ^ L < (n : Int) := by exact_mod_cast hlt
          go_wp2_with (go_at_call 154; refine (cmPower_any _ _ (by omega) (by omega) _).mono ?_; rintro e w' ⟨rfl, rfl⟩)
          go_ret2
          exact ⟨ret_val (by simp [flatT, ha, hb, flatM_at h1 hL hlt]), rfl⟩
set_option maxHeartbeats 400000 in
theorem closedOf_any (n : Nat) (h1 : n ≤ 63) (w : World) : Calls Try.prog 120 #[.int .i64 (n : Int)] w (RetOwI (shutM n 6) w) := by
  go_enter Try.func120, Try.ntmps120
  go_wp2
  go_loopw [3, 5] (fun v i wr => ∃ k : Nat, k ≤ 6 ∧ i = .int .i64 k ∧ GrowI w w.heap.size wr v (shutM n k)) (fun _ i _ => 6 - (intOf i).toNat)
  case atStart => exact ⟨0, by omega, rfl, GrowI.start w⟩
  case round =>
    obtain ⟨k, hk, rfl, hG⟩ := hrel
    have hl := shutM_len n k
    by_cases hlt : k < 6
    · have hbb := bit_and n k (by omega)
      cases hb : bitB n k
      · have HB := Lib.hid hb
        rw [hb] at hbb
        go_wp2
        go_roundw
        case rel => exact ⟨k + 1, by omega, by go_num, by rw [shutM_no HB.out]; exact hG⟩
        case measure => simp [intOf]; omega
      · have HB := Lib.hid hb
        rw [hb] at hbb
        go_wp2_with (at_builtin; refine GrowI.app rfl (.tmp 13) (.tmp 15) rfl hG (by omega) rfl rfl ?_; intro v' w1 hG')
        go_roundw
        case rel => exact ⟨k + 1, by omega, by go_num, by rw [shutM_yes HB.out]; exact hG'⟩
        case measure => simp [intOf]; omega
    · obtain rfl : k = 6 := by omega
      go_wp2
      go_ret
      exact retOwI hG
end Go.Proofs.Ytabiobjcfopakaa
