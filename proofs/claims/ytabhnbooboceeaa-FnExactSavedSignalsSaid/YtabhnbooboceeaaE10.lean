/- Plain laws: the tables of the least lengths from each place on; what can be spelled. -/
import Derived.Test.YtabhnbooboceeaaE5
namespace Go.Proofs.Ytabhnbooboceeaa
def lsUpd : Option Nat → Nat → Option Nat
  | Option.none, n => some n
  | some m, n => if n < m then some n else some m
/-- One phrase more at a place. -/
def lsStep (fit : Phr → Bool) (len cost : Phr → Nat) (tb : List (Option Nat)) (cur : Option Nat) (p : Phr) : Option Nat :=
  if fit p then match tb.getD (len p - 1) Option.none with
    | Option.none => cur
    | some m => lsUpd cur (cost p + m)
  else cur
def lsAt (fit : Phr → Bool) (len cost : Phr → Nat) (ps : List Phr) (tb : List (Option Nat)) : Option Nat := ps.foldl (lsStep fit len cost tb) Option.none
/-- The least lengths from the last k places on. -/
def dpL (fit : Nat → Phr → Bool) (len cost : Phr → Nat) (ps : List Phr) (n : Nat) : Nat → List (Option Nat)
  | 0 => [some 0]
  | k + 1 => lsAt (fit (n - (k + 1))) len cost ps (dpL fit len cost ps n k) :: dpL fit len cost ps n k
theorem dpL_len (fit : Nat → Phr → Bool) (len cost : Phr → Nat) (ps : List Phr) (n k : Nat) : (dpL fit len cost ps n k).length = k + 1 := by
  induction k with
  | zero => rfl
  | succ k ih => simp [dpL, ih]
theorem lsAt_snoc {fit : Phr → Bool} {len cost : Phr → Nat} {ps : List Phr} {tb : List (Option Nat)} {j : Nat} {p : Phr} (h : ps[j]? = some p) : lsAt fit len cost (ps.take (j + 1)) tb = lsStep fit len cost tb (lsAt fit len cost (ps.take j) tb) p := by
  unfold lsAt; rw [take_snocN h, List.foldl_append]; rfl
/-- A bound: each phrase costs at most 3 and is at least one place long. -/
theorem lsAt_le {fit : Phr → Bool} {len cost : Phr → Nat} {tb : List (Option Nat)} {r : Nat} : ∀ {ps : List Phr}, (∀ p ∈ ps, fit p = true → 1 ≤ len p ∧ len p ≤ r ∧ cost p ≤ 3) → (∀ i m, tb[i]? = some (some m) → m ≤ 3 * (r - (i + 1))) → ∀ (cur : Option Nat), (∀ m, cur = some m → m ≤ 3 * r) → ∀ m, ps.foldl (lsStep fit len cost tb) cur = some m → m ≤ 3 * r
  | [], _, _, cur, hc, m, h => hc m h
  | p :: ps, hp, ht, cur, hc, m, h => by
    refine lsAt_le (ps := ps) (fun q hq => hp q (List.mem_cons_of_mem _ hq)) ht _ ?_ m h
    intro q hq
    unfold lsStep at hq
    split at hq
    · rename_i hf
      have := hp p (by simp) hf
      split at hq
      · exact hc q hq
      · rename_i a ha
        have hb : a ≤ 3 * (r - len p) := by
          rw [List.getD_eq_getElem?_getD] at ha
          cases e : tb[len p - 1]? with
          | none => rw [e] at ha; cases ha
          | some b =>
            rw [e] at ha
            simp at ha
            subst ha
            have := ht _ _ e
            rwa [show len p - 1 + 1 = len p by omega] at this
        have hn : cost p + a ≤ 3 * r := by omega
        cases cur with
        | none => simp only [lsUpd, Option.some.injEq] at hq; omega
        | some c =>
          simp only [lsUpd] at hq
          split at hq
          · simp at hq; omega
          · exact hc q hq
    · exact hc q hq
theorem dpL_le {fit : Nat → Phr → Bool} {len cost : Phr → Nat} {ps : List Phr} {n : Nat} (h : ∀ k, k < n → ∀ p ∈ ps, fit (n - (k + 1)) p = true → 1 ≤ len p ∧ len p ≤ k + 1 ∧ cost p ≤ 3) :
    ∀ k, k ≤ n → ∀ i m, (dpL fit len cost ps n k)[i]? = some (some m) → m ≤ 3 * (k - i)
  | 0, _, i, m, hi => by
    cases i with
    | zero => simp [dpL] at hi; omega
    | succ i => simp [dpL] at hi
  | k + 1, hk, i, m, hi => by
    have ih := dpL_le h k (by omega)
    cases i with
    | zero =>
      simp only [dpL, List.getElem?_cons_zero, Option.some.injEq] at hi
      exact lsAt_le (h k (by omega)) (fun i m hm => by have := ih i m hm; rwa [show k + 1 - (i + 1) = k - i by omega]) Option.none (fun m hm => by cases hm) m hi
    | succ i =>
      simp only [dpL, List.getElem?_cons_succ] at hi
      have := ih i m hi
      rwa [show k + 1 - (i + 1) = k - i by omega]
def optI : Option Nat → Int
  | some m => (m : Int)
  | Option.none => -1
abbrev opts (l : List (Option Nat)) : List Value := l.map fun m => Value.int .i64 (optI m)
def optZ (m : Nat) (tb : List (Option Nat)) : List Value := List.replicate m (Value.int .i64 0) ++ opts tb
theorem optZ_at {m : Nat} {a : Option Nat} {tb : List (Option Nat)} : (optZ m (a :: tb))[m]? = some (.int .i64 (optI a)) := by
  unfold optZ; rw [List.getElem?_append_right (by simp)]; simp
theorem optZ_on {m d : Nat} {a b : Option Nat} {tb : List (Option Nat)} (h : tb[d]? = some b) : (optZ m (a :: tb))[m + 1 + d]? = some (.int .i64 (optI b)) := by
  unfold optZ; rw [List.getElem?_append_right (by simp; omega)]; simp [show m + 1 + d - m = d + 1 by omega, h]
theorem optZ_set {m : Nat} {a b : Option Nat} {tb : List (Option Nat)} : (optZ m (a :: tb)).set m (.int .i64 (optI b)) = optZ m (b :: tb) := by
  unfold optZ
  rw [List.set_append_right _ _ (by simp)]; simp
theorem optZ_down {m : Nat} {tb : List (Option Nat)} : (optZ (m + 1) tb).set m (.int .i64 (-1)) = optZ m (Option.none :: tb) := by
  unfold optZ
  rw [List.replicate_succ', List.append_assoc, List.set_append_right _ _ (by simp)]; simp [optI]
theorem optZ_below {m : Nat} {tb : List (Option Nat)} : (optZ (m + 1) tb)[m]? = some (.int .i64 0) := by
  unfold optZ; rw [List.getElem?_append_left (by simp)]; simp
theorem optZ_start (n : Nat) : (zeros (n + 1)).toList = optZ n [some 0] := by
  unfold optZ zeros
  simp [optI, List.replicate_succ']
abbrev sigCost (p : Phr) : Nat := p.2.length
/-- The table of letters. -/
def tblT (ps : List Phr) (s : ByteArray) : List (Option Nat) := dpL (fitT s) txtLen sigCost ps s.size s.size
theorem tblT_hyp {ps : List Phr} (h : bookB ps = true) (s : ByteArray) : ∀ k, k < s.size → ∀ p ∈ ps, fitT s (s.size - (k + 1)) p = true → 1 ≤ txtLen p ∧ txtLen p ≤ k + 1 ∧ sigCost p ≤ 3 := by
  intro k hk p hp hf
  have h1 := (apart_txt h s (s.size - (k + 1))).2 p hp hf
  have h2 := phrOk_sig (bookB_phr h hp)
  rw [show s.size - (s.size - (k + 1)) = k + 1 by omega] at h1
  exact ⟨h1.1, h1.2, h2.2.1⟩
theorem dpL_txt {ps : List Phr} (h : bookB ps = true) (s : ByteArray) : ∀ k, k ≤ s.size → ∀ i m, (dpL (fitT s) txtLen sigCost ps s.size k)[i]? = some (some m) → m ≤ 3 * (k - i) := dpL_le (tblT_hyp h s)
end Go.Proofs.Ytabhnbooboceeaa
