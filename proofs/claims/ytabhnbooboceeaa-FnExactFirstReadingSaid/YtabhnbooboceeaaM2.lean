/- Contracts of the functions that gather the closed shutters of a signal, and of the distances. -/
import Derived.Test.YtabhnbooboceeaaM1
import Derived.Test.YtabhnbooboceeaaShelf
namespace Go.Proofs.Ytabhnbooboceeaa
open Go.RowKit
/-- The closed ones of the first k shutters. -/
def shutM (n k : Nat) : List Int := ((List.range k).filter fun i => bitB n i).map fun i : Nat => (i : Int)
theorem shutM_len (n k : Nat) : (shutM n k).length ≤ k := by
  unfold shutM; rw [List.length_map]; have := List.length_filter_le (fun i => bitB n i) (List.range k); simpa using this
theorem shutM_yes {n k : Nat} (h : bitB n k = true) : shutM n (k + 1) = shutM n k ++ [(k : Int)] := by simp [shutM, List.range_succ, h]
theorem shutM_no {n k : Nat} (h : bitB n k = false) : shutM n (k + 1) = shutM n k := by simp [shutM, List.range_succ, h]
/-- A result that is a row of ints of the call's own. -/
def RetOwI (xs : List Int) (w : World) (e : Ending) (w' : World) : Prop := ∃ v, e = .returned v ∧ OwI w' w.heap.size w'.heap.size v xs ∧ Below w.heap.size w w'
theorem retOwI {w wr : World} {v : Value} {xs : List Int} (h : GrowI w w.heap.size wr v xs) : RetOwI xs w (.returned v) wr := ⟨v, rfl, h.own, h.bel⟩
def distM (a b : Nat) : Nat := (shutM (a ^^^ b) 6).length
theorem xor_lt {a b : Nat} (ha : a ≤ 63) (hb : b ≤ 63) : a ^^^ b ≤ 63 := by
  have := Nat.xor_lt_two_pow (x := a) (y := b) (n := 6) (by omega) (by omega); omega
theorem distM_le (a b : Nat) : distM a b ≤ 6 := shutM_len _ 6
def sigDT (a b : Int) : Value := if inB a 0 63 && inB b 0 63 then .tuple #[.int .i64 (distM a.toNat b.toNat : Nat), .bool true] else .tuple #[.int .i64 0, .bool false]
end Go.Proofs.Ytabhnbooboceeaa
