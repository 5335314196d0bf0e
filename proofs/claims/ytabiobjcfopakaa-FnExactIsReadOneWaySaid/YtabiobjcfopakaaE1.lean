/- Plain laws: the tables of how many ways there are from each place on; their bounds. -/
import Derived.Test.YtabiobjcfopakaaD3
namespace Go.Proofs.Ytabiobjcfopakaa
theorem sum_perm {a b : List Nat} (h : a.Perm b) : a.sum = b.sum := by
  induction h with
  | nil => rfl
  | cons x _ ih => simp [ih]
  | swap x y l => simp; omega
  | trans _ _ h1 h2 => exact h1.trans h2
theorem sum_pow_lt : ∀ (r : Nat) (L : List Nat), L.Nodup → (∀ e ∈ L, e < r) → (L.map fun e => 2 ^ e).sum < 2 ^ r
  | 0, L, _, h => by
    cases L with
    | nil => simp
    | cons a l => have := h a (by simp); omega
  | r + 1, L, hn, h => by
    by_cases hr : r ∈ L
    · have hp := List.perm_cons_erase hr
      have h1 := sum_perm (hp.map fun e => 2 ^ e)
      have h2 := sum_pow_lt r (L.erase r) (hn.erase r) (fun e he => by
        have h3 := h e (List.mem_of_mem_erase he)
        have h4 : e ≠ r := by rintro rfl; exact (hn.mem_erase_iff.1 he).1 rfl
        omega)
      rw [h1, List.map_cons, List.sum_cons, Nat.pow_succ]
      omega
    · have h2 := sum_pow_lt r L hn (fun e he => by
        have h3 := h e he
        have h4 : e ≠ r := by rintro rfl; exact hr he
        omega)
      rw [Nat.pow_succ]
      omega
/-- The ways at a place: of each phrase that fits there the ways behind it. -/
def wayAt (fit : Phr → Bool) (len : Phr → Nat) (ps : List Phr) (tb : List Nat) : Nat := (ps.map fun p => if fit p then tb.getD (len p - 1) 0 else 0).sum
/-- The ways from the last k places on. -/
def dpW (fit : Nat → Phr → Bool) (len : Phr → Nat) (ps : List Phr) (n : Nat) : Nat → List Nat
  | 0 => [1]
  | k + 1 => wayAt (fit (n - (k + 1))) len ps (dpW fit len ps n k) :: dpW fit len ps n k
theorem dpW_len (fit : Nat → Phr → Bool) (len : Phr → Nat) (ps : List Phr) (n k : Nat) : (dpW fit len ps n k).length = k + 1 := by
  induction k with
  | zero => rfl
  | succ k ih => simp [dpW, ih]
theorem wayAt_snoc {fit : Phr → Bool} {len : Phr → Nat} {ps : List Phr} {tb : List Nat} {j : Nat} {p : Phr} (h : ps[j]? = some p) : wayAt fit len (ps.take (j + 1)) tb = wayAt fit len (ps.take j) tb + if fit p then tb.getD (len p - 1) 0 else 0 := by
  unfold wayAt; rw [take_snocN h, List.map_append, List.sum_append]; simp
theorem wayAt_nil {fit : Phr → Bool} {len : Phr → Nat} {tb : List Nat} : wayAt fit len [] tb = 0 := rfl
/-- Phrases that fit at one place have lengths of their own. -/
def Apart (fit : Phr → Bool) (len : Phr → Nat) (r : Nat) (ps : List Phr) : Prop :=
  ps.Pairwise (fun p q => fit p = true → fit q = true → len p ≠ len q) ∧ ∀ p ∈ ps, fit p = true → 1 ≤ len p ∧ len p ≤ r
theorem Apart.take {fit : Phr → Bool} {len : Phr → Nat} {r : Nat} {ps : List Phr} (h : Apart fit len r ps) (j : Nat) : Apart fit len r (ps.take j) :=
  ⟨h.1.sublist (List.take_sublist j ps), fun p hp => h.2 p (List.mem_of_mem_take hp)⟩
theorem wayAt_lt {fit : Phr → Bool} {len : Phr → Nat} {r : Nat} {ps : List Phr} {tb : List Nat} (h : Apart fit len r ps) (ht : ∀ i m, tb[i]? = some m → m ≤ 2 ^ (r - (i + 1))) : wayAt fit len ps tb < 2 ^ r := by
  have h1 : wayAt fit len ps tb ≤ (((ps.filter fit).map fun p => r - len p).map fun e => 2 ^ e).sum := by
    have h2 := h.2
    clear h
    induction ps with
    | nil => simp [wayAt]
    | cons p l ih =>
      have hi := ih (fun q hq => h2 q (List.mem_cons_of_mem _ hq))
      unfold wayAt at *
      cases hf : fit p
      · simpa [hf] using hi
      · have hl := h2 p (by simp) hf
        have hv : tb.getD (len p - 1) 0 ≤ 2 ^ (r - len p) := by
          rw [List.getD_eq_getElem?_getD]
          cases hg : tb[len p - 1]? with
          | none => simp
          | some m => have := ht _ _ hg; rw [show len p - 1 + 1 = len p by omega] at this; simpa using this
        simp only [List.map_cons, hf, if_true, List.sum_cons, List.filter_cons_of_pos] at hi ⊢
        omega
  refine Nat.lt_of_le_of_lt h1 (sum_pow_lt r _ ?_ ?_)
  · obtain ⟨h1, h2⟩ := h
    rw [List.Nodup, List.pairwise_map, List.pairwise_filter]
    refine h1.imp_of_mem ?_
    intro p q hp hq hne fp fq
    have := hne fp fq
    have := h2 p hp fp
    have := h2 q hq fq
    omega
  · intro e he
    rw [List.mem_map] at he
    obtain ⟨p, hp, rfl⟩ := he
    rw [List.mem_filter] at hp
    have := h.2 p hp.1 hp.2
    omega
theorem dpW_le {fit : Nat → Phr → Bool} {len : Phr → Nat} {ps : List Phr} {n : Nat} (h : ∀ k, k < n → Apart (fit (n - (k + 1))) len (k + 1) ps) :
    ∀ k, k ≤ n → ∀ i m, (dpW fit len ps n k)[i]? = some m → m ≤ 2 ^ (k - i)
  | 0, _, i, m, hi => by
    cases i with
    | zero => simp [dpW] at hi; subst hi; simp
    | succ i => simp [dpW] at hi
  | k + 1, hk, i, m, hi => by
    have ih := dpW_le h k (by omega)
    cases i with
    | zero =>
      simp only [dpW, List.getElem?_cons_zero, Option.some.injEq] at hi
      subst hi
      exact Nat.le_of_lt (wayAt_lt (h k (by omega)) (fun i m hm => by have := ih i m hm; rwa [show k + 1 - 0 - (i + 1) = k - i by omega]))
    | succ i =>
      simp only [dpW, List.getElem?_cons_succ] at hi
      have := ih i m hi
      rwa [show k + 1 - (i + 1) = k - i by omega]
/-- Numbers as cells. -/
abbrev nats (l : List Nat) : List Value := l.map fun m : Nat => Value.int .i64 (m : Int)
/-- The table's cells, j phrases seen at a place: those ahead still empty. -/
def tblC (at_ : Nat) (sofar : Nat) (tb : List Nat) : List Value := List.replicate at_ (Value.int .i64 0) ++ nats (sofar :: tb)
theorem tblC_at {at_ sofar : Nat} {tb : List Nat} : (tblC at_ sofar tb)[at_]? = some (.int .i64 (sofar : Int)) := by
  unfold tblC; rw [List.getElem?_append_right (by simp)]; simp
theorem tblC_on {at_ sofar d : Nat} {tb : List Nat} {m : Nat} (h : tb[d]? = some m) : (tblC at_ sofar tb)[at_ + 1 + d]? = some (.int .i64 (m : Int)) := by
  unfold tblC; rw [List.getElem?_append_right (by simp; omega)]; simp [show at_ + 1 + d - at_ = d + 1 by omega, h]
theorem tblC_set {at_ a b : Nat} {tb : List Nat} : (tblC at_ a tb).set at_ (.int .i64 (b : Int)) = tblC at_ b tb := by
  unfold tblC
  rw [List.set_append_right _ _ (by simp)]; simp
theorem tblC_down {at_ m : Nat} {tb : List Nat} : tblC (at_ + 1) m tb = tblC at_ 0 (m :: tb) := by
  unfold tblC
  rw [List.replicate_succ']; simp
end Go.Proofs.Ytabiobjcfopakaa
