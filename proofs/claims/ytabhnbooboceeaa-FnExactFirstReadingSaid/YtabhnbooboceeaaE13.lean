/- Contracts: how many first letters can be spelled; of the program and of the reference. -/
import Derived.Test.YtabhnbooboceeaaE12
import Derived.Test.YtabhnbooboceeaaE11
import Derived.Lib.OthersKept
import Derived.StillTailTactics
namespace Go.Proofs.Ytabhnbooboceeaa
open Go.RowKit
theorem small_lt {s : ByteArray} (h : smallB s.data.toList = true) {k : Nat} (hk : k < s.size) : (s[k]'hk).toNat < 128 := by
  unfold smallB at h
  rw [List.all_eq_true] at h
  have := h (s[k]'hk) (List.getElem_mem (l := s.data.toList) (by simpa using hk))
  simp only [Bool.and_eq_true, decide_eq_true_eq] at this
  omega
theorem own_headO {w : World} {lo hi : Nat} {v : Value} {ps : List Phr} {t : ByteArray} (h : OwI w lo hi v ((tblT ps t).map optI)) :
    ∃ b c, v = .slice (some ⟨b, 0, Option.none⟩) (t.size + 1) c ∧ w.cell? ⟨b, 0, Option.none⟩ = some (.int .i64 (optI ((tblT ps t).getD 0 Option.none))) := by
  have hl : ((tblT ps t).map optI).length = t.size + 1 := by simp [tblT, dpL_len]
  obtain ⟨b, off, c, y, hv, _, hy, hc⟩ := Rd.at_ h.rd (k := 0) (by rw [hl]; omega)
  rcases h.1.2 with ⟨rfl, _⟩ | ⟨g, cap, cur, hv2, _⟩
  · cases hv
  · rw [hv] at hv2
    cases hv2
    rw [hl] at hv
    refine ⟨b, c, hv, ?_⟩
    have e : y = optI ((tblT ps t).getD 0 Option.none) := by
      rw [List.getElem?_map] at hy
      rw [List.getD_eq_getElem?_getD]
      cases e : (tblT ps t)[0]? with
      | none => rw [e] at hy; cases hy
      | some m => rw [e] at hy; cases hy; rfl
    rw [e] at hc
    simpa using hc
theorem spellB_head {ps : List Phr} {s : ByteArray} {m : Nat} {o : Option Nat} (h : (tblT ps (s.extract 0 m)).getD 0 Option.none = o) : spellB ps s m = o.isSome := by unfold spellB; rw [h]
theorem partM_yes {ps : List Phr} {s : ByteArray} {k : Nat} (h : spellB ps s (k + 1) = true) : partM ps s (k + 1) = k + 1 := by unfold partM; rw [h]; rfl
theorem partM_no {ps : List Phr} {s : ByteArray} {k : Nat} (h : spellB ps s (k + 1) = false) : partM ps s (k + 1) = partM ps s k := by rw [partM, h]; rfl
def partV (ps : List Phr) (s : ByteArray) : Nat := partM ps s s.size
def boolC (f : Nat → Bool) (n : Nat) : List Value := (List.range (n + 1)).map fun p => Value.bool (f p)
theorem boolC_at {f : Nat → Bool} {n p : Nat} (h : p ≤ n) : (boolC f n)[p]? = some (.bool (f p)) := by simp [boolC, show p < n + 1 by omega]
theorem boolC_set {f : Nat → Bool} {n p : Nat} (h : p ≤ n) : (boolC f n).set p (.bool true) = boolC (fun q => f q || q == p) n := by
  apply List.ext_getElem?
  intro i
  by_cases e : i = p
  · subst e
    rw [List.getElem?_set_self (by simp [boolC]; omega), boolC_at h]; simp
  · rw [List.getElem?_set_ne (fun e2 => e e2.symm)]
    by_cases hi : i ≤ n
    · rw [boolC_at hi, boolC_at hi]; simp [e]
    · rw [List.getElem?_eq_none (by simp [boolC]; omega), List.getElem?_eq_none (by simp [boolC]; omega)]
def falses (n : Nat) : Array Value := (List.replicate n (Value.bool false)).toArray
theorem falses_start (n : Nat) : ((falses (n + 1)).setIfInBounds 0 (.bool true)).toList = boolC (fun p => p == 0) n := by
  have e : (falses (n + 1)).toList = boolC (fun _ => false) n := by
    unfold falses boolC
    apply List.ext_getElem?
    intro i
    by_cases hi : i < n + 1 <;> simp [hi]
  rw [Array.toList_setIfInBounds, e, boolC_set (Nat.zero_le _)]
  simp
theorem info_bool : (Try.prog.info? 4).map (fun i => (i.zero, i.size, i.bytes)) = some (some (.bool false), 1, 1) := by kernel_rfl
def FitsF (ps : List Phr) (s : ByteArray) (f : Nat → Bool) (at_ : Nat) (qs : List Phr) : Prop := ∀ p, p ≤ s.size → (f p = true ↔ RchTo ps s at_ qs p)
def MaxF (ps : List Phr) (s : ByteArray) (m at_ : Nat) (qs : List Phr) : Prop := RchTo ps s at_ qs m ∧ m ≤ s.size ∧ ∀ p, p ≤ s.size → RchTo ps s at_ qs p → p ≤ m
theorem FitsF.no {ps qs : List Phr} {s : ByteArray} {f : Nat → Bool} {at_ : Nat} {q : Phr} (h : FitsF ps s f at_ qs) (hn : ¬ (Rch ps s at_ ∧ fitT s at_ q = true)) : FitsF ps s f at_ (qs ++ [q]) := fun p hp => by rw [RchTo.no hn]; exact h p hp
theorem MaxF.no {ps qs : List Phr} {s : ByteArray} {m at_ : Nat} {q : Phr} (h : MaxF ps s m at_ qs) (hn : ¬ (Rch ps s at_ ∧ fitT s at_ q = true)) : MaxF ps s m at_ (qs ++ [q]) :=
  ⟨(RchTo.no hn).2 h.1, h.2.1, fun p hp hr => h.2.2 p hp ((RchTo.no hn).1 hr)⟩
theorem FitsF.yes {ps qs : List Phr} {s : ByteArray} {f : Nat → Bool} {at_ : Nat} {q : Phr} (h : FitsF ps s f at_ qs) (h1 : Rch ps s at_) (h2 : fitT s at_ q = true) : FitsF ps s (fun p => f p || p == at_ + q.1.size) at_ (qs ++ [q]) := fun p hp => by
  rw [RchTo.yes h1 h2, Bool.or_eq_true, h p hp, beq_iff_eq]
theorem MaxF.yes {ps qs : List Phr} {s : ByteArray} {m at_ : Nat} {q : Phr} (h : MaxF ps s m at_ qs) (h1 : Rch ps s at_) (h2 : fitT s at_ q = true) (hl : at_ + q.1.size ≤ s.size) : MaxF ps s (max m (at_ + q.1.size)) at_ (qs ++ [q]) := by
  refine ⟨(RchTo.yes h1 h2).2 ?_, by have := h.2.1; omega, fun p hp hr => ?_⟩
  · rcases Nat.le_total m (at_ + q.1.size) with e | e
    · rw [Nat.max_eq_right e]; exact .inr rfl
    · rw [Nat.max_eq_left e]; exact .inl h.1
  · rcases (RchTo.yes h1 h2).1 hr with e | e
    · have := h.2.2 p hp e; omega
    · omega
theorem RchTo.at_ {ps qs : List Phr} {s : ByteArray} {k : Nat} (hbk : bookB ps = true) (hq : ∀ q ∈ qs, q ∈ ps) : RchTo ps s k qs k ↔ Rch ps s k := by
  constructor
  · exact fun h => h.rch hq
  · intro h
    rcases h.to hbk (Nat.le_refl k) with e | e | ⟨_, q, e, _⟩
    · exact .inl e
    · exact .inr (.inl e)
    · cases e
theorem FitsF.turn {ps : List Phr} {s : ByteArray} {f : Nat → Bool} {k : Nat} (h : FitsF ps s f k ps) : FitsF ps s f (k + 1) [] := fun p hp => by rw [← RchTo.turn]; exact h p hp
theorem MaxF.turn {ps : List Phr} {s : ByteArray} {m k : Nat} (h : MaxF ps s m k ps) : MaxF ps s m (k + 1) [] := ⟨RchTo.turn.1 h.1, h.2.1, fun p hp hr => h.2.2 p hp (RchTo.turn.2 hr)⟩
theorem MaxF.part {ps : List Phr} {s : ByteArray} {m : Nat} (hbk : bookB ps = true) (h : MaxF ps s m s.size []) : partV ps s = m :=
  partM_eq hbk (Nat.le_refl _) (h.1.rch (fun q hq => by cases hq)) h.2.1 (fun p hp hr => h.2.2 p hp (hr.to hbk hp))
theorem FitsF.start (ps : List Phr) (s : ByteArray) : FitsF ps s (fun p => p == 0) 0 [] := fun p _ => by
  rw [beq_iff_eq]
  constructor
  · exact fun h => .inl h
  · rintro (h | ⟨a, _, h, _⟩ | ⟨_, q, h, _⟩)
    · exact h
    · omega
    · cases h
theorem MaxF.start (ps : List Phr) (s : ByteArray) : MaxF ps s 0 0 [] := ⟨.inl rfl, Nat.zero_le _, fun p hp h => by
  have := (FitsF.start ps s p hp).2 h
  rw [beq_iff_eq] at this; omega⟩
end Go.Proofs.Ytabhnbooboceeaa
