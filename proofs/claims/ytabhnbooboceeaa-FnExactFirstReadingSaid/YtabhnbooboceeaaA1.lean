/- Contracts of the small functions on signals: each computes what the plain Lean function beside it says and leaves the world alone. -/
import Derived.Test.YtabhnbooboceeaaRows
import Derived.WalkKit
import Derived.ProofKit
import Derived.WalkLawsBesides
import Derived.WalkSpells
namespace Go.Proofs.Ytabhnbooboceeaa
open Go.RowKit
def inB (n a b : Int) : Bool := decide (a ≤ n) && decide (n ≤ b)
theorem inB_iff {n a b : Int} : inB n a b = true ↔ a ≤ n ∧ n ≤ b := by simp [inB]
theorem inB_false {n a b : Int} (h : ¬ (a ≤ n ∧ n ≤ b)) : inB n a b = false := by
  rcases hb : inB n a b
  · rfl
  · exact absurd (inB_iff.1 hb) h
theorem within_any (n a b : Int) (w : World) : Calls Try.prog 94 #[.int .i64 n, .int .i64 a, .int .i64 b] w fun e w' => e = .returned (.bool (inB n a b)) ∧ w = w' := by
  go_enter Try.func94, Try.ntmps94
  go_wp2
  all_goals go_ret
  all_goals refine ⟨?_, rfl⟩
  all_goals simp [inB]; omega
theorem l1In_any (n a b : Int) (w : World) : Calls Try.prog 91 #[.int .i64 n, .int .i64 a, .int .i64 b] w fun e w' => e = .returned (.bool (inB n a b)) ∧ w = w' := by
  go_enter Try.func91, Try.ntmps91
  go_wp2
  all_goals go_ret
  all_goals refine ⟨?_, rfl⟩
  all_goals simp [inB]; omega
/-- The signal turned, or 0. -/
def turnM (n : Int) : Int := if inB n 0 63 then 63 - n else 0
def mirM (n : Int) : Int := if inB n 0 63 then n / 8 + n % 8 * 8 else 0
theorem turn_bits (n : Nat) (h : n < 64) : bits .xor .i64 63 (n : Int) = 63 - (n : Int) := by
  have : ∀ m : Fin 64, bits .xor .i64 63 (m.val : Int) = 63 - (m.val : Int) := by decide +kernel
  exact this ⟨n, h⟩
theorem mir_bits (n : Nat) (h : n < 64) : bits .or .i64 (wrap64 (bits .and .i64 (n : Int) 7 * 8)) ((n : Int) / 8) = (n : Int) / 8 + (n : Int) % 8 * 8 := by
  have : ∀ m : Fin 64, bits .or .i64 (wrap64 (bits .and .i64 (m.val : Int) 7 * 8)) ((m.val : Int) / 8) = (m.val : Int) / 8 + (m.val : Int) % 8 * 8 := by decide +kernel
  exact this ⟨n, h⟩
end Go.Proofs.Ytabhnbooboceeaa
