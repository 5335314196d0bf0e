/- Plain laws: which first parts of letters can be spelled. -/
import Derived.Test.YtabhnbooboceeaaE10
namespace Go.Proofs.Ytabhnbooboceeaa
/-- A place that phrases reach, one after the other. -/
inductive Rch (ps : List Phr) (s : ByteArray) : Nat → Prop
  | zero : Rch ps s 0
  | step {a : Nat} {p : Phr} : Rch ps s a → p ∈ ps → fitT s a p = true → Rch ps s (a + p.1.size)
/-- A place from which phrases reach the end. -/
inductive Bck (ps : List Phr) (s : ByteArray) : Nat → Prop
  | fin : Bck ps s s.size
  | step {a : Nat} {p : Phr} : Bck ps s (a + p.1.size) → p ∈ ps → fitT s a p = true → Bck ps s a
theorem Bck.rch {ps : List Phr} {s : ByteArray} {a : Nat} (h : Bck ps s a) : Rch ps s a → Rch ps s s.size := by
  induction h with
  | fin => exact id
  | step _ hp hf ih => exact fun hr => ih (hr.step hp hf)
theorem Rch.bck {ps : List Phr} {s : ByteArray} {a : Nat} (h : Rch ps s a) : Bck ps s a → Bck ps s 0 := by
  induction h with
  | zero => exact id
  | step _ hp hf ih => exact fun hb => ih (hb.step hp hf)
theorem bck_rch {ps : List Phr} {s : ByteArray} : Bck ps s 0 ↔ Rch ps s s.size := ⟨fun h => h.rch .zero, fun h => h.bck .fin⟩
theorem ls_some {fit : Phr → Bool} {len cost : Phr → Nat} {tb : List (Option Nat)} : ∀ (ps : List Phr) (cur : Option Nat),
    ((ps.foldl (lsStep fit len cost tb) cur).isSome = true ↔ (cur.isSome = true ∨ ∃ p ∈ ps, fit p = true ∧ (tb.getD (len p - 1) Option.none).isSome = true))
  | [], cur => by simp
  | p :: ps, cur => by
    rw [List.foldl_cons, ls_some ps]
    have e : (lsStep fit len cost tb cur p).isSome = true ↔ (cur.isSome = true ∨ (fit p = true ∧ (tb.getD (len p - 1) Option.none).isSome = true)) := by
      unfold lsStep
      split
      · rename_i hf
        split
        · rename_i ht; rw [ht]; simp
        · rename_i m ht
          simp only [ht, hf, Option.isSome_some, and_true, or_true, iff_true]
          cases cur with
          | none => rfl
          | some c => show (if _ then _ else _ : Option Nat).isSome = true; split <;> rfl
      · rename_i hf; simp [hf]
    rw [e]
    simp only [List.mem_cons, exists_eq_or_imp, or_assoc]
theorem dpL_get (fit : Nat → Phr → Bool) (len cost : Phr → Nat) (ps : List Phr) (n : Nat) : ∀ (k i : Nat), i ≤ k → (dpL fit len cost ps n k)[i]? = (dpL fit len cost ps n (k - i))[0]?
  | k, 0, _ => rfl
  | 0, i + 1, h => by omega
  | k + 1, i + 1, h => by
    rw [show k + 1 - (i + 1) = k - i by omega, ← dpL_get fit len cost ps n k i (by omega)]
    simp [dpL]
theorem fitT_le {s : ByteArray} {a : Nat} {p : Phr} (h : fitT s a p = true) (hp : 1 ≤ p.1.size) : a + p.1.size ≤ s.size := by
  rw [fitT_eq] at h
  have := h.length_le
  rw [List.length_drop] at this
  simp at this
  omega
theorem dpL_head {ps : List Phr} (hbk : bookB ps = true) (s : ByteArray) : ∀ k, k ≤ s.size → (((dpL (fitT s) txtLen sigCost ps s.size k).getD 0 Option.none).isSome = true ↔ Bck ps s (s.size - k)) := by
  intro k
  induction k using Nat.strongRecOn with
  | _ k ih =>
    intro hk
    cases k with
    | zero => simp [dpL]; exact .fin
    | succ k =>
      have e : (dpL (fitT s) txtLen sigCost ps s.size (k + 1)).getD 0 Option.none = lsAt (fitT s (s.size - (k + 1))) txtLen sigCost ps (dpL (fitT s) txtLen sigCost ps s.size k) := by simp [dpL]
      rw [e]
      unfold lsAt
      rw [ls_some]
      simp only [Option.isSome_none, Bool.false_eq_true, false_or]
      constructor
      · rintro ⟨p, hp, hf, ht⟩
        have h1 := tblT_hyp hbk s k (by omega) p hp hf
        rw [List.getD_eq_getElem?_getD, dpL_get _ _ _ _ _ _ _ (by have := h1.2.1; omega), ← List.getD_eq_getElem?_getD, ih (k - (txtLen p - 1)) (by omega) (by omega)] at ht
        have h2 : s.size - (k - (txtLen p - 1)) = s.size - (k + 1) + p.1.size := by have := h1.1; have := h1.2.1; show _ = _ + txtLen p; omega
        rw [h2] at ht
        exact ht.step hp hf
      · intro hb
        generalize ha : s.size - (k + 1) = a at hb
        cases hb with
        | fin => omega
        | @step _ p h2 hp hf =>
          rw [← ha] at hf h2
          have h1 := tblT_hyp hbk s k (by omega) p hp hf
          refine ⟨p, hp, by rw [ha] at hf; exact hf, ?_⟩
          rw [List.getD_eq_getElem?_getD, dpL_get _ _ _ _ _ _ _ (by have := h1.2.1; omega), ← List.getD_eq_getElem?_getD, ih (k - (txtLen p - 1)) (by omega) (by omega)]
          have h3 : s.size - (k - (txtLen p - 1)) = s.size - (k + 1) + p.1.size := by have := h1.1; have := h1.2.1; show _ = _ + txtLen p; omega
          rw [h3]; exact h2
/-- Can the first m letters be spelled? -/
def spellB (ps : List Phr) (s : ByteArray) (m : Nat) : Bool := ((tblT ps (s.extract 0 m)).getD 0 Option.none).isSome
theorem fitT_cut {s : ByteArray} {m a : Nat} {p : Phr} (ha : a ≤ m) : fitT (s.extract 0 m) a p = true ↔ (fitT s a p = true ∧ a + p.1.size ≤ m) := by
  rw [fitT_eq, fitT_eq]
  have e : (s.extract 0 m).data.toList.drop a = (s.data.toList.drop a).take (m - a) := by
    rw [← List.drop_take]; simp
  rw [e, List.prefix_take_iff]
  have : p.1.data.toList.length = p.1.size := by simp
  rw [this]
  constructor
  · rintro ⟨h1, h2⟩; exact ⟨h1, by omega⟩
  · rintro ⟨h1, h2⟩; exact ⟨h1, by omega⟩
theorem rch_cut {ps : List Phr} {s : ByteArray} {m : Nat} {a : Nat} : a ≤ m → (Rch ps (s.extract 0 m) a ↔ Rch ps s a) := by
  intro ha
  constructor
  · intro h
    induction h with
    | zero => exact .zero
    | @step b p _ hp hf ih =>
      have hb : b ≤ m := by omega
      exact (ih hb).step hp ((fitT_cut hb).1 hf).1
  · intro h
    induction h with
    | zero => exact .zero
    | @step b p _ hp hf ih =>
      have hb : b ≤ m := by omega
      exact (ih hb).step hp ((fitT_cut hb).2 ⟨hf, ha⟩)
theorem spellB_iff {ps : List Phr} {s : ByteArray} {m : Nat} (hbk : bookB ps = true) (hm : m ≤ s.size) : spellB ps s m = true ↔ Rch ps s m := by
  have hs : (s.extract 0 m).size = m := by simp; omega
  unfold spellB tblT
  rw [dpL_head hbk (s.extract 0 m) _ (Nat.le_refl _), Nat.sub_self, bck_rch, hs]
  exact rch_cut (Nat.le_refl _)
/-- The greatest number of first letters, k at most, that can be spelled. -/
def partM (ps : List Phr) (s : ByteArray) : Nat → Nat
  | 0 => 0
  | k + 1 => if spellB ps s (k + 1) then k + 1 else partM ps s k
theorem partM_le (ps : List Phr) (s : ByteArray) (k : Nat) : partM ps s k ≤ k := by
  induction k with
  | zero => exact Nat.le_refl _
  | succ k ih => unfold partM; split <;> omega
theorem partM_eq {ps : List Phr} {s : ByteArray} {n m : Nat} (hbk : bookB ps = true) (hn : n ≤ s.size) (h1 : Rch ps s m) (hm : m ≤ n) (h2 : ∀ p, p ≤ n → Rch ps s p → p ≤ m) : partM ps s n = m := by
  induction n with
  | zero => show 0 = m; omega
  | succ n ih =>
    unfold partM
    split
    · rename_i h
      have := h2 (n + 1) (Nat.le_refl _) ((spellB_iff hbk hn).1 h)
      omega
    · rename_i h
      have hne : m ≠ n + 1 := by rintro rfl; exact h ((spellB_iff hbk hn).2 h1)
      exact ih (by omega) (by omega) (fun p hp => h2 p (by omega))
/-- What has been reached: from the places before at_, and from at_ by some phrases. -/
def RchTo (ps : List Phr) (s : ByteArray) (at_ : Nat) (qs : List Phr) (p : Nat) : Prop :=
  p = 0 ∨ (∃ a q, a < at_ ∧ Rch ps s a ∧ q ∈ ps ∧ fitT s a q = true ∧ p = a + q.1.size) ∨ (Rch ps s at_ ∧ ∃ q, q ∈ qs ∧ fitT s at_ q = true ∧ p = at_ + q.1.size)
theorem RchTo.rch {ps qs : List Phr} {s : ByteArray} {at_ p : Nat} (hq : ∀ q ∈ qs, q ∈ ps) (h : RchTo ps s at_ qs p) : Rch ps s p := by
  rcases h with rfl | ⟨a, q, _, h1, h2, h3, rfl⟩ | ⟨h1, q, h2, h3, rfl⟩
  · exact .zero
  · exact h1.step h2 h3
  · exact h1.step (hq q h2) h3
theorem Rch.to {ps : List Phr} {s : ByteArray} {at_ p : Nat} (hbk : bookB ps = true) (h : Rch ps s p) (hp : p ≤ at_) : RchTo ps s at_ [] p := by
  cases h with
  | zero => exact .inl rfl
  | @step a q h1 h2 h3 =>
    have := (phrOk_txt (bookB_phr hbk h2)).1
    exact .inr (.inl ⟨a, q, by omega, h1, h2, h3, rfl⟩)
theorem RchTo.turn {ps : List Phr} {s : ByteArray} {at_ p : Nat} : RchTo ps s at_ ps p ↔ RchTo ps s (at_ + 1) [] p := by
  constructor
  · rintro (h | ⟨a, q, h0, h1⟩ | ⟨h1, q, h2, h3, h4⟩)
    · exact .inl h
    · exact .inr (.inl ⟨a, q, by omega, h1⟩)
    · exact .inr (.inl ⟨at_, q, by omega, h1, h2, h3, h4⟩)
  · rintro (h | ⟨a, q, h0, h1, h2, h3, h4⟩ | ⟨_, q, h2, _⟩)
    · exact .inl h
    · by_cases e : a = at_
      · subst e; exact .inr (.inr ⟨h1, q, h2, h3, h4⟩)
      · exact .inr (.inl ⟨a, q, by omega, h1, h2, h3, h4⟩)
    · cases h2
theorem RchTo.no {ps qs : List Phr} {s : ByteArray} {at_ p : Nat} {q : Phr} (h : ¬ (Rch ps s at_ ∧ fitT s at_ q = true)) : RchTo ps s at_ (qs ++ [q]) p ↔ RchTo ps s at_ qs p := by
  unfold RchTo
  constructor
  · rintro (h1 | h1 | ⟨h1, r, h2, h3, h4⟩)
    · exact .inl h1
    · exact .inr (.inl h1)
    · rw [List.mem_append, List.mem_singleton] at h2
      rcases h2 with h2 | rfl
      · exact .inr (.inr ⟨h1, r, h2, h3, h4⟩)
      · exact absurd ⟨h1, h3⟩ h
  · rintro (h1 | h1 | ⟨h1, r, h2, h3, h4⟩)
    · exact .inl h1
    · exact .inr (.inl h1)
    · exact .inr (.inr ⟨h1, r, List.mem_append_left _ h2, h3, h4⟩)
theorem RchTo.yes {ps qs : List Phr} {s : ByteArray} {at_ p : Nat} {q : Phr} (h1 : Rch ps s at_) (h2 : fitT s at_ q = true) : RchTo ps s at_ (qs ++ [q]) p ↔ (RchTo ps s at_ qs p ∨ p = at_ + q.1.size) := by
  unfold RchTo
  constructor
  · rintro (h | h | ⟨_, r, h4, h5, h6⟩)
    · exact .inl (.inl h)
    · exact .inl (.inr (.inl h))
    · rw [List.mem_append, List.mem_singleton] at h4
      rcases h4 with h4 | rfl
      · exact .inl (.inr (.inr ⟨h1, r, h4, h5, h6⟩))
      · exact .inr h6
  · rintro ((h | h | ⟨_, r, h4, h5, h6⟩) | h)
    · exact .inl h
    · exact .inr (.inl h)
    · exact .inr (.inr ⟨h1, r, List.mem_append_left _ h4, h5, h6⟩)
    · exact .inr (.inr ⟨h1, q, by simp, h2, h⟩)
end Go.Proofs.Ytabhnbooboceeaa
