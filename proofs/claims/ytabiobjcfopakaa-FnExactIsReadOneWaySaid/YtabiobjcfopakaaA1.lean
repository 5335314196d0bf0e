/- Contracts of the small functions on signals: each computes what the plain Lean function beside it says and leaves the world alone. -/
import Derived.Test.YtabiobjcfopakaaRows
import Derived.WalkKit
import Derived.ProofKit
import Derived.WalkLawsBesides
import Derived.WalkSpells
namespace Go.Proofs.Ytabiobjcfopakaa
open Go.RowKit
def inB (n a b : Int) : Bool := decide (a ≤ n) && decide (n ≤ b)
theorem inB_iff {n a b : Int} : inB n a b = true ↔ a ≤ n ∧ n ≤ b := by simp [inB]
theorem inB_false {n a b : Int} (h : ¬ (a ≤ n ∧ n ≤ b)) : inB n a b = false := by
  rcases hb : inB n a b
  · rfl
  · exact absurd (inB_iff.1 hb) h
theorem within_any (n a b : Int) (w : World) : Calls Try.prog 125 #[.int .i64 n, .int .i64 a, .int .i64 b] w fun e w' => e = .returned (.bool (inB n a b)) ∧ w = w' := by
  go_enter Try.func125, Try.ntmps125
  go_wp2
  all_goals go_ret
  all_goals refine ⟨?_, rfl⟩
  all_goals simp [inB]; omega
theorem l1In_any (n a b : Int) (w : World) : Calls Try.prog 191 #[.int .i64 n, .int .i64 a, .int .i64 b] w fun e w' => e = .returned (.bool (inB n a b)) ∧ w = w' := by
  go_enter Try.func191, Try.ntmps191
  go_wp2
  all_goals go_ret
  all_goals refine ⟨?_, rfl⟩
  all_goals simp [inB]; omega
theorem isSignal_any (n : Int) (w : World) : Calls Try.prog 119 #[.int .i64 n] w fun e w' => e = .returned (.bool (inB n 0 63)) ∧ w = w' := by
  go_enter Try.func119, Try.ntmps119
  go_wp2_with (go_at_call 125; refine (within_any _ _ _ _).mono ?_; rintro e w' ⟨rfl, rfl⟩)
  go_ret
  exact ⟨rfl, rfl⟩
theorem sgGood_any (n : Int) (w : World) : Calls Try.prog 121 #[.int .i64 n] w fun e w' => e = .returned (.bool (inB n 0 63)) ∧ w = w' := by
  go_enter Try.func121, Try.ntmps121
  go_wp2_with (go_at_call 191; refine (l1In_any _ _ _ _).mono ?_; rintro e w' ⟨rfl, rfl⟩)
  go_ret
  exact ⟨rfl, rfl⟩
theorem IsContent_any (n : Int) (w : World) : Calls Try.prog 26 #[.int .i64 n] w fun e w' => e = .returned (.bool (inB n 1 60)) ∧ w = w' := by
  go_enter Try.func26, Try.ntmps26
  go_wp2_with (go_at_call 125; refine (within_any _ _ _ _).mono ?_; rintro e w' ⟨rfl, rfl⟩)
  go_ret
  exact ⟨rfl, rfl⟩
theorem sgContent_any (n : Int) (w : World) : Calls Try.prog 126 #[.int .i64 n] w fun e w' => e = .returned (.bool (inB n 1 60)) ∧ w = w' := by
  go_enter Try.func126, Try.ntmps126
  go_wp2_with (go_at_call 191; refine (l1In_any _ _ _ _).mono ?_; rintro e w' ⟨rfl, rfl⟩)
  go_ret
  exact ⟨rfl, rfl⟩
theorem sIsContent_any (n : Int) (w : World) : Calls Try.prog 27 #[.int .i64 n] w fun e w' => e = .returned (.bool (inB n 1 60)) ∧ w = w' := by
  go_enter Try.func27, Try.ntmps27
  go_wp2_with (go_at_call 126; refine (sgContent_any _ _).mono ?_; rintro e w' ⟨rfl, rfl⟩)
  go_ret
  exact ⟨rfl, rfl⟩
/-- The signal turned, or 0. -/
def turnM (n : Int) : Int := if inB n 0 63 then 63 - n else 0
def mirM (n : Int) : Int := if inB n 0 63 then n / 8 + n % 8 * 8 else 0
theorem turn_bits (n : Nat) (h : n < 64) : bits .xor .i64 63 (n : Int) = 63 - (n : Int) := by
  have : ∀ m : Fin 64, bits .xor .i64 63 (m.val : Int) = 63 - (m.val : Int) := by decide +kernel
  exact this ⟨n, h⟩
theorem mir_bits (n : Nat) (h : n < 64) : bits .or .i64 (wrap64 (bits .and .i64 (n : Int) 7 * 8)) ((n : Int) / 8) = (n : Int) / 8 + (n : Int) % 8 * 8 := by
  have : ∀ m : Fin 64, bits .or .i64 (wrap64 (bits .and .i64 (m.val : Int) 7 * 8)) ((m.val : Int) / 8) = (m.val : Int) / 8 + (m.val : Int) % 8 * 8 := by decide +kernel
  exact this ⟨n, h⟩
theorem Turn_any (n : Int) (w : World) : Calls Try.prog 21 #[.int .i64 n] w fun e w' => e = .returned (.tuple #[.int .i64 (turnM n), .bool (inB n 0 63)]) ∧ w = w' := by
  by_cases h : 0 ≤ n ∧ n ≤ 63
  · have hb : inB n 0 63 = true := inB_iff.2 h
    go_enter Try.func21, Try.ntmps21
    go_wp2_with (go_at_call 119; refine (isSignal_any _ _).mono ?_; rintro e w' ⟨rfl, rfl⟩)
    go_ret2
    refine ⟨?_, rfl⟩
    obtain ⟨m, rfl⟩ := Int.eq_ofNat_of_zero_le h.1
    simp only [turnM, hb, if_true, turn_bits m (by omega)]; rfl
  · have hb : inB n 0 63 = false := inB_false h
    go_enter Try.func21, Try.ntmps21
    go_wp2_with (go_at_call 119; refine (isSignal_any _ _).mono ?_; rintro e w' ⟨rfl, rfl⟩)
    go_ret2
    exact ⟨by simp [turnM, hb], rfl⟩
theorem sTurn_any (n : Int) (w : World) : Calls Try.prog 22 #[.int .i64 n] w fun e w' => e = .returned (.tuple #[.int .i64 (turnM n), .bool (inB n 0 63)]) ∧ w = w' := by
  by_cases h : 0 ≤ n ∧ n ≤ 63
  · have hb : inB n 0 63 = true := inB_iff.2 h
    obtain ⟨h0, h1⟩ := h
    go_enter Try.func22, Try.ntmps22
    go_wp2_with (go_at_call 121; refine (sgGood_any _ _).mono ?_; rintro e w' ⟨rfl, rfl⟩)
    go_ret2
    exact ⟨by simp [turnM, hb], rfl⟩
  · have hb : inB n 0 63 = false := inB_false h
    go_enter Try.func22, Try.ntmps22
    go_wp2_with (go_at_call 121; refine (sgGood_any _ _).mono ?_; rintro e w' ⟨rfl, rfl⟩)
    go_ret2
    exact ⟨by simp [turnM, hb], rfl⟩
theorem Mirror_any (n : Int) (w : World) : Calls Try.prog 19 #[.int .i64 n] w fun e w' => e = .returned (.tuple #[.int .i64 (mirM n), .bool (inB n 0 63)]) ∧ w = w' := by
  by_cases h : 0 ≤ n ∧ n ≤ 63
  · have hb : inB n 0 63 = true := inB_iff.2 h
    obtain ⟨h0, h1⟩ := h
    go_enter Try.func19, Try.ntmps19
    go_wp2_with (go_at_call 119; refine (isSignal_any _ _).mono ?_; rintro e w' ⟨rfl, rfl⟩)
    go_ret2
    refine ⟨?_, rfl⟩
    obtain ⟨m, rfl⟩ := Int.eq_ofNat_of_zero_le h0
    simp only [mirM, hb, if_true, ← mir_bits m (by omega)]; rfl
  · have hb : inB n 0 63 = false := inB_false h
    go_enter Try.func19, Try.ntmps19
    go_wp2_with (go_at_call 119; refine (isSignal_any _ _).mono ?_; rintro e w' ⟨rfl, rfl⟩)
    go_ret2
    exact ⟨by simp [mirM, hb], rfl⟩
theorem sgMirror_any (n : Int) (h0 : 0 ≤ n) (h1 : n ≤ 63) (w : World) : Calls Try.prog 123 #[.int .i64 n] w fun e w' => e = .returned (.int .i64 (n / 8 + n % 8 * 8)) ∧ w = w' := by
  go_enter Try.func123, Try.ntmps123
  go_wp2
  go_ret
  exact ⟨rfl, rfl⟩
theorem sMirror_any (n : Int) (w : World) : Calls Try.prog 20 #[.int .i64 n] w fun e w' => e = .returned (.tuple #[.int .i64 (mirM n), .bool (inB n 0 63)]) ∧ w = w' := by
  by_cases h : 0 ≤ n ∧ n ≤ 63
  · have hb : inB n 0 63 = true := inB_iff.2 h
    obtain ⟨h0, h1⟩ := h
    go_enter Try.func20, Try.ntmps20
    go_wp2_with (first | (go_at_call 121; refine (sgGood_any _ _).mono ?_; rintro e w' ⟨rfl, rfl⟩) | (go_at_call 123; refine (sgMirror_any _ h0 h1 _).mono ?_; rintro e w' ⟨rfl, rfl⟩))
    go_ret2
    exact ⟨by simp [mirM, hb], rfl⟩
  · have hb : inB n 0 63 = false := inB_false h
    go_enter Try.func20, Try.ntmps20
    go_wp2_with (go_at_call 121; refine (sgGood_any _ _).mono ?_; rintro e w' ⟨rfl, rfl⟩)
    go_ret2
    exact ⟨by simp [mirM, hb], rfl⟩
end Go.Proofs.Ytabiobjcfopakaa
