/- Contracts: the phrases whose texts begin with a string; of the program and of the reference. -/
import Derived.Test.YtabiobjcfopakaaD10
import Derived.Test.YtabiobjcfopakaaM4
namespace Go.Proofs.Ytabiobjcfopakaa
open Go.RowKit
def lettS (s : ByteArray) : Bool := smallB s.data.toList && decide (s.size ≤ 12)
def begAt (ps : List Phr) (s : ByteArray) (i : Nat) : Bool := match ps[i]? with
  | some p => Lib.hasPrefix p.1.data.toList s.data.toList
  | Option.none => false
/-- Of the first k phrases those whose texts begin so. -/
def begK (ps : List Phr) (s : ByteArray) (k : Nat) : List Int := ((List.range k).filter fun i => begAt ps s i).map fun i : Nat => (i : Int)
theorem begK_len (ps : List Phr) (s : ByteArray) (k : Nat) : (begK ps s k).length ≤ k := by
  unfold begK; rw [List.length_map]; have := List.length_filter_le (fun i => begAt ps s i) (List.range k); simpa using this
theorem begK_yes {ps : List Phr} {s : ByteArray} {k : Nat} {p : Phr} (hp : ps[k]? = some p) (h : Lib.hasPrefix p.1.data.toList s.data.toList = true) : begK ps s (k + 1) = begK ps s k ++ [(k : Int)] := by
  have : begAt ps s k = true := by unfold begAt; rw [hp]; exact h
  simp [begK, List.range_succ, this]
theorem begK_no {ps : List Phr} {s : ByteArray} {k : Nat} {p : Phr} (hp : ps[k]? = some p) (h : Lib.hasPrefix p.1.data.toList s.data.toList = false) : begK ps s (k + 1) = begK ps s k := by
  have : begAt ps s k = false := by unfold begAt; rw [hp]; exact h
  simp [begK, List.range_succ, this]
/-- The phrases whose texts begin so, if all is asked rightly. -/
def begL (ps : List Phr) (s : ByteArray) : List Int := if bookB ps && lettS s then begK ps s ps.length else []
theorem begL_len (ps : List Phr) (s : ByteArray) : (begL ps s).length ≤ 40 := by
  unfold begL
  split
  · rename_i h
    rw [Bool.and_eq_true] at h
    have := bookB_len h.1
    have := begK_len ps s ps.length
    omega
  · simp
theorem pre_no {s t : ByteArray} (h : ¬ s.size ≤ t.size) : Lib.hasPrefix t.data.toList s.data.toList = false := by rw [← Lib.hasPrefix_raw, decide_eq_false h]; rfl
theorem pre_eq {s t : ByteArray} {b : Bool} (h : s.size ≤ t.size) (hb : ((t.extract 0 s.size).toList == s.toList) = b) : Lib.hasPrefix t.data.toList s.data.toList = b := by rw [← Lib.hasPrefix_raw, decide_eq_true h, hb]; rfl
theorem GrowI.appH {w wr : World} {B : Nat} {v : Value} {xs : List Int} {ops : Array Oper} {rest : List Oper} {o : Oper} {a : Act} {Q : Exit → Act → World → Prop} {y : Int} (H : Nat) (hH : wr.heap.size = H) (hgd : o.guard = Option.none) (s x : Operand)
    (ho : o.op = .call { callee := .builtin .append, args := #[s, x], argTypes := #[29, 29] }) (hG : GrowI w B wr v xs) (hlen : xs.length < 1099511627776)
    (hs : a.eval s = v) (hx : a.eval x = .slice (some ⟨H, 0, Option.none⟩) 1 1)
    (h : ∀ v' w', GrowI w B w' v' (xs ++ [y]) → wpList Try.prog ops Q rest (a.put o.dst v') w') : wpList Try.prog ops Q (o :: rest) a (wr.alloc (.cells #[.int .i64 y] 3)) := by
  subst hH
  exact GrowI.app hgd s x ho hG hlen hs hx h
theorem still_flip {P : Program} {f : FuncId} {args : Array Value} {w : World} {v : Value} (h : Calls P f args w fun e w' => e = .returned v ∧ w' = w) : Calls P f args w fun e w' => e = .returned v ∧ w = w' :=
  h.mono fun _ _ ⟨he, hw⟩ => ⟨he, hw.symm⟩
end Go.Proofs.Ytabiobjcfopakaa
