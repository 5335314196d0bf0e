/- Contracts of the powers, of FlatLength and of the closed shutters of the program. -/
import Derived.Test.YtabhnbooboceeaaM1
import Derived.Test.YtabhnbooboceeaaM2
namespace Go.Proofs.Ytabhnbooboceeaa
open Go.RowKit
theorem wrap_id {n : Int} (h : -9223372036854775808 ≤ n) (h2 : n ≤ 9223372036854775807) : wrap64 n = n := IntWalk.wrap64_in n ⟨by omega, by omega⟩
theorem pow_le {r n : Nat} (hr : r ≤ 60) (hn : n ≤ 6) : r ^ n ≤ 46656000000 := by
  have h1 : r ^ n ≤ 60 ^ n := Nat.pow_le_pow_left hr n
  have h2 : 60 ^ n ≤ 60 ^ 6 := Nat.pow_le_pow_right (by omega) hn
  exact Nat.le_trans h1 (Nat.le_trans h2 (by decide))
theorem pow_step {r k n : Nat} (hr : r ≤ 60) (hn : n ≤ 6) (hk : k < n) : wrap64 (((r ^ k : Nat) : Int) * (r : Int)) = ((r ^ (k + 1) : Nat) : Int) := by
  have h := pow_le hr (show k + 1 ≤ 6 by omega)
  have e : ((r ^ k : Nat) : Int) * (r : Int) = ((r ^ (k + 1) : Nat) : Int) := by rw [Nat.pow_succ, Int.natCast_mul]
  rw [e]
  exact wrap_id (by omega) (by omega)
/-- The least length with which n words can all have it. -/
def flatM (n r : Nat) : Nat := if n ≤ r ^ 1 then 1 else if n ≤ r ^ 2 then 2 else if n ≤ r ^ 3 then 3 else if n ≤ r ^ 4 then 4 else 5
theorem flatM_le (n r : Nat) : 1 ≤ flatM n r ∧ flatM n r ≤ 5 := by unfold flatM; repeat (first | split | omega)
theorem pow_mono (r : Nat) (hr : 2 ≤ r) {a b : Nat} (h : a ≤ b) : r ^ a ≤ r ^ b := Nat.pow_le_pow_right (by omega) h
theorem flatM_up {n r L : Nat} (hr : 2 ≤ r) (hn : n ≤ 20) (h1 : 1 ≤ L) (hL : L ≤ flatM n r) (hlt : r ^ L < n) : L + 1 ≤ flatM n r := by
  have h5 := (flatM_le n r).2
  have m2 := pow_mono r hr (show 1 ≤ 2 by omega)
  have m3 := pow_mono r hr (show 2 ≤ 3 by omega)
  have m4 := pow_mono r hr (show 3 ≤ 4 by omega)
  have m5 := pow_mono r hr (show 4 ≤ 5 by omega)
  have b5 : 2 ^ 5 ≤ r ^ 5 := Nat.pow_le_pow_left hr 5
  rcases (show L = 1 ∨ L = 2 ∨ L = 3 ∨ L = 4 ∨ L = 5 by omega) with rfl | rfl | rfl | rfl | rfl
  all_goals (first | omega | (unfold flatM at *; repeat (first | split at * | omega)))
theorem flatM_at {n r L : Nat} (h1 : 1 ≤ L) (hL : L ≤ flatM n r) (hge : ¬ r ^ L < n) : flatM n r = L := by
  have h5 := (flatM_le n r).2
  rcases (show L = 1 ∨ L = 2 ∨ L = 3 ∨ L = 4 ∨ L = 5 by omega) with rfl | rfl | rfl | rfl | rfl
  all_goals (first | omega | (unfold flatM at *; repeat (first | split at * | omega)))
def flatT (n r : Int) : Value := if inB n 1 20 && inB r 2 60 then .tuple #[.int .i64 (flatM n.toNat r.toNat : Nat), .bool true] else .tuple #[.int .i64 0, .bool false]
end Go.Proofs.Ytabhnbooboceeaa
