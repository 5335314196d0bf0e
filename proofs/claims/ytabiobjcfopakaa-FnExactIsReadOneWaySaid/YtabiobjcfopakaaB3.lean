/- Contracts of the sums of a word, of the cost of lengths and of their bounds. -/
import Derived.Test.YtabiobjcfopakaaB1
import Derived.Test.YtabiobjcfopakaaM3
namespace Go.Proofs.Ytabiobjcfopakaa
open Go.RowKit
theorem allB_mem {xs : List Int} {k : Nat} {y a b : Int} (h : xs[k]? = some y) (hb : allB xs a b = true) : a ≤ y ∧ y ≤ b := by
  unfold allB at hb; rw [List.all_eq_true] at hb
  exact inB_iff.1 (hb y (List.mem_of_getElem? h))
theorem allB_takeT {xs : List Int} {a b : Int} (hb : allB xs a b = true) (k : Nat) : allB (xs.take k) a b = true := by
  unfold allB at *; rw [List.all_eq_true] at *
  intro x hx; exact hb x (List.mem_of_mem_take hx)
theorem sum_bd (xs : List Int) (b : Int) (hb : allB xs 0 b = true) : 0 ≤ xs.sum ∧ xs.sum ≤ b * xs.length := by
  induction xs with
  | nil => simp
  | cons x r ih =>
    unfold allB at hb ih
    simp only [List.all_cons, Bool.and_eq_true] at hb
    have h1 := inB_iff.1 hb.1
    have h2 := ih hb.2
    simp only [List.sum_cons, List.length_cons]
    have e : b * ((r.length + 1 : Nat) : Int) = b * r.length + b := by rw [Int.natCast_add, Int.mul_add]; simp
    rw [e]; omega
theorem allB_mono {xs : List Int} {a b a' b' : Int} (h : allB xs a b = true) (h1 : a' ≤ a) (h2 : b ≤ b') : allB xs a' b' = true := by
  unfold allB at *; rw [List.all_eq_true] at *
  intro x hx; have := inB_iff.1 (h x hx); exact inB_iff.2 ⟨by omega, by omega⟩
/-- The sum of the numbers, each times its place, from place i + 1 on. -/
def wsumI : Nat → List Int → Int
  | _, [] => 0
  | i, x :: r => ((i : Int) + 1) * x + wsumI (i + 1) r
theorem wsumI_snoc (i : Nat) (l : List Int) (y : Int) : wsumI i (l ++ [y]) = wsumI i l + ((i : Int) + l.length + 1) * y := by
  induction l generalizing i with
  | nil => simp [wsumI]
  | cons x r ih =>
    simp only [List.cons_append, wsumI, ih, List.length_cons]
    have e : ((i + 1 : Nat) : Int) + r.length + 1 = (i : Int) + ((r.length + 1 : Nat) : Int) + 1 := by omega
    rw [e]; omega
theorem wsum_bd (k : Nat) (xs : List Int) (hb : allB xs 1 61 = true) (hk : k ≤ xs.length) (hl : xs.length ≤ 50) : 0 ≤ wsumI 0 (xs.take k) ∧ wsumI 0 (xs.take k) ≤ 3050 * k := by
  induction k with
  | zero => simp [wsumI]
  | succ k ih =>
    have ih := ih (by omega)
    have hy : xs[k]? = some xs[k] := by simp [show k < xs.length by omega]
    rw [take_snocI hy, wsumI_snoc]
    have hm := allB_mem hy hb
    have hlen : (xs.take k).length = k := by simp; omega
    rw [hlen]
    have h0 : 0 ≤ ((0 : Nat) : Int) + k + 1 := by omega
    have h1 : (((0 : Nat) : Int) + k + 1) * xs[k] ≤ 50 * 61 := Int.mul_le_mul (by omega) hm.2 (by omega) (by omega)
    have h2 : 0 ≤ (((0 : Nat) : Int) + k + 1) * xs[k] := Int.mul_nonneg h0 (by omega)
    omega
theorem w_step {k : Nat} {xs : List Int} {y : Int} (h : xs[k]? = some y) (hb : allB xs 1 61 = true) (hl : xs.length ≤ 50) :
    wrap64 ((k + 1 : Int) * y) = (k + 1 : Int) * y ∧ wsumI 0 (xs.take k) + (k + 1 : Int) * y = wsumI 0 (xs.take (k + 1)) ∧ 0 ≤ (k + 1 : Int) * y ∧ (k + 1 : Int) * y ≤ 3050 := by
  have hk : k < xs.length := (List.getElem?_eq_some_iff.1 h).1
  have hm := allB_mem h hb
  have h1 : ((k : Int) + 1) * y ≤ 50 * 61 := Int.mul_le_mul (by omega) hm.2 (by omega) (by omega)
  have h2 : 0 ≤ ((k : Int) + 1) * y := Int.mul_nonneg (by omega) (by omega)
  refine ⟨wrap_id (by omega) (by omega), ?_, h2, by omega⟩
  have hlen : (xs.take k).length = k := by simp; omega
  rw [take_snocI h, wsumI_snoc, hlen]; simp
theorem sum_takeI {xs : List Int} {k : Nat} {y : Int} (h : xs[k]? = some y) : (xs.take (k + 1)).sum = (xs.take k).sum + y := by rw [take_snocI h, List.sum_append]; simp

def lenB (xs : List Int) (n : Nat) : Bool := decide (xs.length ≤ n)
def wordB (xs : List Int) : Bool := lenB xs 50 && allB xs 1 61
theorem wordB_iff {xs : List Int} : wordB xs = true ↔ xs.length ≤ 50 ∧ allB xs 1 61 = true := by simp [wordB, lenB]
def sumHoldsT (xs : List Int) : Value := if wordB xs then .tuple #[.bool (xs.sum % 61 == 0), .bool true] else .tuple #[.bool false, .bool false]
def synOfT (xs : List Int) : Value := if wordB xs then .tuple #[.int .i64 (xs.sum % 61), .int .i64 (wsumI 0 xs % 61), .bool true] else .tuple #[.int .i64 0, .int .i64 0, .bool false]
end Go.Proofs.Ytabiobjcfopakaa
