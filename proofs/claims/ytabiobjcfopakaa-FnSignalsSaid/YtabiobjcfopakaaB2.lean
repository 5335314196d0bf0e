/- Contracts of ClosedShutters and ChangedShutters; a law's comparison of two equal lists. -/
import Derived.Test.YtabiobjcfopakaaB1
import Derived.Test.YtabiobjcfopakaaM3
namespace Go.Proofs.Ytabiobjcfopakaa
open Go.RowKit
def closedL (n : Int) : List Int := if inB n 0 63 then shutM n.toNat 6 else []
def changedL (a b : Int) : List Int := if inB a 0 63 && inB b 0 63 then shutM (a.toNat ^^^ b.toNat) 6 else []
theorem closedL_len (n : Int) : (closedL n).length ≤ 6 := by unfold closedL; split; exact shutM_len _ _; simp
theorem changedL_len (a b : Int) : (changedL a b).length ≤ 6 := by unfold changedL; split; exact shutM_len _ _; simp
theorem ClosedShutters_any (n : Int) (w : World) : Calls Try.prog 23 #[.int .i64 n] w (RetOwT (closedL n) (inB n 0 63) w) := by
  cases ha : inB n 0 63
  · have e : closedL n = [] := by simp [closedL, ha]
    rw [e]
    go_enter Try.func23, Try.ntmps23
    go_wp2_with (go_at_call 119; refine (isSignal_any _ _).mono ?_; rintro e w' ⟨rfl, rfl⟩)
    go_ret2
    exact retOwT_nil w false
  · have e : closedL n = shutM n.toNat 6 := by simp [closedL, ha]
    rw [e]
    obtain ⟨h0, h1⟩ := inB_iff.1 ha
    obtain ⟨n, rfl⟩ := Int.eq_ofNat_of_zero_le h0
    clear e
    go_enter Try.func23, Try.ntmps23
    go_wp2_with (first | (go_at_call 119; refine (isSignal_any _ _).mono ?_; rintro e w' ⟨rfl, rfl⟩) | (go_at_call 120; refine (closedOf_any _ (by omega) _).mono ?_; rintro e w1 ⟨v, rfl, hv, hb1⟩))
    go_ret2
    exact ⟨v, rfl, hv, hb1⟩
theorem sClosedShutters_any (n : Int) (w : World) : Calls Try.prog 24 #[.int .i64 n] w (RetOwT (closedL n) (inB n 0 63) w) := by
  cases ha : inB n 0 63
  · have e : closedL n = [] := by simp [closedL, ha]
    rw [e]
    go_enter Try.func24, Try.ntmps24
    go_wp2_with (go_at_call 121; refine (sgGood_any _ _).mono ?_; rintro e w' ⟨rfl, rfl⟩)
    go_ret2
    exact retOwT_nil w false
  · have e : closedL n = shutM n.toNat 6 := by simp [closedL, ha]
    rw [e]
    obtain ⟨h0, h1⟩ := inB_iff.1 ha
    obtain ⟨n, rfl⟩ := Int.eq_ofNat_of_zero_le h0
    clear e
    go_enter Try.func24, Try.ntmps24
    go_wp2_with (first | (go_at_call 121; refine (sgGood_any _ _).mono ?_; rintro e w' ⟨rfl, rfl⟩) | (go_at_call 124; refine (sgShutters_any _ (by omega) _).mono ?_; rintro e w1 ⟨v, rfl, hv, hb1⟩))
    go_ret2
    exact ⟨v, rfl, hv, hb1⟩
theorem ChangedShutters_any (a b : Int) (w : World) : Calls Try.prog 32 #[.int .i64 a, .int .i64 b] w (RetOwT (changedL a b) (inB a 0 63 && inB b 0 63) w) := by
  cases ha : inB a 0 63
  · have e : changedL a b = [] := by simp [changedL, ha]
    rw [e]
    go_enter Try.func32, Try.ntmps32
    go_wp2_with (go_at_call 119; refine (isSignal_any _ _).mono ?_; rintro e w' ⟨rfl, rfl⟩)
    go_ret2
    exact retOwT_nil w false
  · cases hb : inB b 0 63
    · have e : changedL a b = [] := by simp [changedL, hb]
      rw [e]
      go_enter Try.func32, Try.ntmps32
      go_wp2_with (go_at_call 119; refine (isSignal_any _ _).mono ?_; rintro e w' ⟨rfl, rfl⟩)
      go_ret2
      exact retOwT_nil w false
    · have e : changedL a b = shutM (a.toNat ^^^ b.toNat) 6 := by simp [changedL, ha, hb]
      rw [e]
      obtain ⟨ha0, ha1⟩ := inB_iff.1 ha
      obtain ⟨hb0, hb1⟩ := inB_iff.1 hb
      obtain ⟨a, rfl⟩ := Int.eq_ofNat_of_zero_le ha0
      obtain ⟨b, rfl⟩ := Int.eq_ofNat_of_zero_le hb0
      have hx := i64_xor a b (by omega) (by omega)
      have hl := xor_lt (a := a) (b := b) (by omega) (by omega)
      clear e
      go_enter Try.func32, Try.ntmps32
      go_wp2_with (first | (go_at_call 119; refine (isSignal_any _ _).mono ?_; rintro e w' ⟨rfl, rfl⟩) | (go_at_call 120; refine (closedOf_any _ hl _).mono ?_; rintro e w1 ⟨v, rfl, hv, hb1⟩))
      go_ret2
      exact ⟨v, rfl, hv, hb1⟩
theorem sChangedShutters_any (a b : Int) (w : World) : Calls Try.prog 33 #[.int .i64 a, .int .i64 b] w (RetOwT (changedL a b) (inB a 0 63 && inB b 0 63) w) := by
  cases ha : inB a 0 63
  · have e : changedL a b = [] := by simp [changedL, ha]
    rw [e]
    go_enter Try.func33, Try.ntmps33
    go_wp2_with (go_at_call 121; refine (sgGood_any _ _).mono ?_; rintro e w' ⟨rfl, rfl⟩)
    go_ret2
    exact retOwT_nil w false
  · cases hb : inB b 0 63
    · have e : changedL a b = [] := by simp [changedL, hb]
      rw [e]
      go_enter Try.func33, Try.ntmps33
      go_wp2_with (go_at_call 121; refine (sgGood_any _ _).mono ?_; rintro e w' ⟨rfl, rfl⟩)
      go_ret2
      exact retOwT_nil w false
    · have e : changedL a b = shutM (a.toNat ^^^ b.toNat) 6 := by simp [changedL, ha, hb]
      rw [e]
      obtain ⟨ha0, ha1⟩ := inB_iff.1 ha
      obtain ⟨hb0, hb1⟩ := inB_iff.1 hb
      obtain ⟨a, rfl⟩ := Int.eq_ofNat_of_zero_le ha0
      obtain ⟨b, rfl⟩ := Int.eq_ofNat_of_zero_le hb0
      have hx := i64_xor a b (by omega) (by omega)
      have hl := xor_lt (a := a) (b := b) (by omega) (by omega)
      clear e
      go_enter Try.func33, Try.ntmps33
      go_wp2_with (first | (go_at_call 121; refine (sgGood_any _ _).mono ?_; rintro e w' ⟨rfl, rfl⟩) | (go_at_call 124; refine (sgShutters_any _ hl _).mono ?_; rintro e w1 ⟨v, rfl, hv, hb1⟩))
      go_ret2
      exact ⟨v, rfl, hv, hb1⟩
end Go.Proofs.Ytabiobjcfopakaa
