/- Plain laws: the phrases that spell letters, as numbers; their signals. -/
import Derived.Test.YtabhnbooboceeaaF4
namespace Go.Proofs.Ytabhnbooboceeaa
open Go.RowKit
/-- The phrases of the least length, as numbers, if letters can be asked for and spelled. -/
def spellN (ps : List Phr) (s : ByteArray) : List Nat := match leastO ps s with
  | some _ => pathT ps s
  | Option.none => []
theorem spellN_no {ps : List Phr} {s : ByteArray} (h : leastO ps s = Option.none) : spellN ps s = [] := by unfold spellN; rw [h]
theorem spellN_yes {ps : List Phr} {s : ByteArray} {n : Nat} (h : leastO ps s = some n) : spellN ps s = pathT ps s := by unfold spellN; rw [h]
theorem leastO_ask {ps : List Phr} {s : ByteArray} {n : Nat} (h : leastO ps s = some n) : (bookB ps && lettB s) = true := by
  cases hb : (bookB ps && lettB s)
  · rw [leastO_no hb] at h; cases h
  · rfl
theorem spellL_N {ps : List Phr} {s : ByteArray} (h : (bookB ps && lettB s) = true) : spellL ps s = waysI (spellN ps s) := by
  unfold spellL spellN
  rw [leastO_yes h]
  cases (tblT ps s).getD 0 Option.none <;> rfl
theorem spellQ_O {ps : List Phr} {s : ByteArray} (h : (bookB ps && lettB s) = true) : spellQ ps s = (leastO ps s).isSome := by
  unfold spellQ; rw [leastO_yes h]
theorem lettB_len {s : ByteArray} (h : lettB s = true) : s.size ≤ 40 := by
  unfold lettB at h; rw [Bool.and_eq_true, decide_eq_true_eq] at h; exact h.2
theorem fstAt_lt {val : Phr → Option Nat} {ps : List Phr} {cur : Option Nat} {i : Nat} (h : fstAt val ps cur = some i) : i < ps.length := by
  unfold fstAt at h
  split at h
  · cases h
  · rw [List.findIdx?_eq_some_iff_getElem] at h
    obtain ⟨hi, _⟩ := h
    exact hi
theorem spellN_lt (ps : List Phr) (s : ByteArray) : ∀ i ∈ spellN ps s, i < ps.length := by
  unfold spellN
  split
  · intro i hi
    exact path_mem (P := fun i => i < ps.length) (fun m i h => fstAt_lt h) _ _ i hi
  · intro i hi; cases hi
theorem spellN_len (ps : List Phr) (s : ByteArray) : (spellN ps s).length ≤ 40 := by
  cases h : leastO ps s with
  | none => rw [spellN_no h]; simp
  | some n =>
    have hb := leastO_ask h
    rw [Bool.and_eq_true] at hb
    rw [spellN_yes h]
    exact Nat.le_trans (pathF_len _ _) (lettB_len hb.2)
/-- The signals of what spells letters are as many as told. -/
theorem enc_len {ps : List Phr} {s : ByteArray} {n : Nat} (h : leastO ps s = some n) : (sigsOf ps (spellN ps s)).length = n := by
  have hb := leastO_ask h
  rw [leastO_yes hb] at h
  rw [Bool.and_eq_true] at hb
  rw [spellN_yes (by rw [leastO_yes (by rw [hb.1, hb.2]; rfl)]; exact h), sigsOf_len]
  exact path_cost (fun m p hp hf => fit_hyp hb.1 s m p hp hf) _ _ _ (by omega) h
theorem enc_none {ps : List Phr} {s : ByteArray} (h : leastO ps s = Option.none) : sigsOf ps (spellN ps s) = [] := by rw [spellN_no h]; rfl
theorem sigsOf_bd {ps : List Phr} (h : bookB ps = true) : ∀ l : List Nat, (sigsOf ps l).length ≤ 3 * l.length
  | [] => by simp [sigsOf]
  | i :: l => by
    have ih := sigsOf_bd h l
    unfold sigsOf at ih ⊢
    rw [List.flatMap_cons, List.length_append, List.length_cons]
    cases e : ps[i]? with
    | none => simp only [Option.map_none, Option.getD_none, List.length_nil]; omega
    | some p =>
      have := (phrOk_sig (bookB_phr h (List.mem_of_getElem? e))).2.1
      simp only [Option.map_some, Option.getD_some]; omega
theorem waysI_at {l : List Nat} {k i : Nat} (h : l[k]? = some i) : (waysI l)[k]? = some (i : Int) := by unfold waysI; rw [List.getElem?_map, h]; rfl
theorem retOwT_pass {w w1 w2 : World} {v : Value} {xs : List Int} {b : Bool} (h : OwI w2 w1.heap.size w2.heap.size v xs) (hb1 : Below w.heap.size w w1) (hb2 : Below w1.heap.size w1 w2) : RetOwT xs b w (.returned (.tuple #[v, .bool b])) w2 :=
  ⟨v, rfl, h.mono hb1.size (Nat.le_refl _), hb1.trans (hb2.mono hb1.size)⟩
end Go.Proofs.Ytabhnbooboceeaa
