/- Plain laws: letters one by one; the first reading; the rests of phrases. -/
import Derived.Test.YtabhnbooboceeaaG0
import Derived.Test.YtabhnbooboceeaaE7
namespace Go.Proofs.Ytabhnbooboceeaa
open Go.RowKit
/-- The number of the phrase of the k-th letter. -/
def letIx (ps : List Phr) (s : ByteArray) (k : Nat) : Option Nat := txtIx ps (s.extract k (k + 1))
/-- What the first k letters cost, one by one. -/
def savK (ps : List Phr) (s : ByteArray) : Nat → Option Nat
  | 0 => some 0
  | k + 1 => match savK ps s k, letIx ps s k with
    | some a, some i => some (a + lnOf sigCost ps i)
    | _, _ => Option.none
theorem savK_step {ps : List Phr} {s : ByteArray} {k a i : Nat} {p : Phr} (h : savK ps s k = some a) (hi : letIx ps s k = some i) (hp : ps[i]? = some p) : savK ps s (k + 1) = some (a + p.2.length) := by
  rw [savK, h, hi]; show some (a + lnOf sigCost ps i) = _; rw [lnOf_at hp]
theorem savK_stop {ps : List Phr} {s : ByteArray} {k : Nat} (hi : letIx ps s k = Option.none) : savK ps s (k + 1) = Option.none := by
  rw [savK, hi]; cases savK ps s k <;> rfl
theorem savK_none {ps : List Phr} {s : ByteArray} {k : Nat} (h : savK ps s k = Option.none) : ∀ d, savK ps s (k + d) = Option.none
  | 0 => h
  | d + 1 => by rw [← Nat.add_assoc, savK, savK_none h d]
theorem savK_no {ps : List Phr} {s : ByteArray} {k n : Nat} (hi : letIx ps s k = Option.none) (hk : k < n) : savK ps s n = Option.none := by
  have := savK_none (savK_stop hi) (n - (k + 1))
  rwa [show k + 1 + (n - (k + 1)) = n by omega] at this
theorem letIx_at {ps : List Phr} {s : ByteArray} {k i : Nat} (h : letIx ps s k = some i) : ∃ p, ps[i]? = some p ∧ p.1 = s.extract k (k + 1) := by
  unfold letIx txtIx at h
  rw [List.findIdx?_eq_some_iff_getElem] at h
  obtain ⟨hl, h1, _⟩ := h
  exact ⟨ps[i], List.getElem?_eq_getElem hl, str_inj h1⟩
theorem let_fit {s : ByteArray} {k : Nat} {p : Phr} (hk : k < s.size) (h : p.1 = s.extract k (k + 1)) : fitT s k p = true ∧ p.1.size = 1 := by
  have hz : p.1.size = 1 := by rw [h]; simp; omega
  refine ⟨?_, hz⟩
  rw [fitT_eq, h]
  have : (s.extract k (k + 1)).data.toList = (s.data.toList.drop k).take 1 := by
    simp
  rw [this]
  exact List.take_prefix _ _
theorem savK_rch {ps : List Phr} {s : ByteArray} : ∀ k a, k ≤ s.size → savK ps s k = some a → Rch ps s k
  | 0, _, _, _ => .zero
  | k + 1, a, hk, h => by
    rw [savK] at h
    cases h1 : savK ps s k with
    | none => rw [h1] at h; cases h
    | some b =>
      cases h2 : letIx ps s k with
      | none => rw [h1, h2] at h; cases h
      | some i =>
        obtain ⟨p, hp, he⟩ := letIx_at h2
        have hf := let_fit (by omega) he
        have := (savK_rch k b (by omega) h1).step (List.mem_of_getElem? hp) hf.1
        rwa [hf.2] at this
theorem savK_bd {ps : List Phr} {s : ByteArray} (hbk : bookB ps = true) : ∀ k a, savK ps s k = some a → a ≤ 3 * k
  | 0, a, h => by simp [savK] at h; omega
  | k + 1, a, h => by
    rw [savK] at h
    cases h1 : savK ps s k with
    | none => rw [h1] at h; cases h
    | some b =>
      cases h2 : letIx ps s k with
      | none => rw [h1, h2] at h; cases h
      | some i =>
        rw [h1, h2] at h
        obtain ⟨p, hp, _⟩ := letIx_at h2
        have h3 := savK_bd hbk k b h1
        have h4 := (phrOk_sig (bookB_phr hbk (List.mem_of_getElem? hp))).2.1
        have h5 : b + lnOf sigCost ps i = a := by simpa using h
        rw [lnOf_at hp] at h5
        have : sigCost p = p.2.length := rfl
        omega
theorem sav_least {ps : List Phr} {s : ByteArray} {a : Nat} (hb : (bookB ps && lettB s) = true) (h : savK ps s s.size = some a) : ∃ n, leastO ps s = some n := by
  have hr := bck_rch.2 (savK_rch s.size a (Nat.le_refl _) h)
  rw [leastO_yes hb]
  rw [Bool.and_eq_true] at hb
  have h1 := dpL_head hb.1 s s.size (Nat.le_refl _)
  rw [Nat.sub_self] at h1
  have h2 := h1.2 hr
  exact Option.isSome_iff_exists.1 h2
/-- The saved signals. -/
def savedO (ps : List Phr) (s : ByteArray) : Option Int := match leastO ps s, savK ps s s.size with
  | some n, some a => some ((a : Int) - (n : Int))
  | _, _ => Option.none
def savV (o : Option Int) : Value := match o with
  | some z => .tuple #[.int .i64 z, .bool true]
  | Option.none => .tuple #[.int .i64 0, .bool false]
theorem savV_form (o : Option Int) : ∃ p q, savV o = .tuple #[.int .i64 p, .bool q] := by unfold savV; split <;> exact ⟨_, _, rfl⟩
theorem savedO_no {ps : List Phr} {s : ByteArray} (h : leastO ps s = Option.none) : savedO ps s = Option.none := by unfold savedO; rw [h]
theorem savedO_stop {ps : List Phr} {s : ByteArray} (h : savK ps s s.size = Option.none) : savedO ps s = Option.none := by unfold savedO; rw [h]; cases leastO ps s <;> rfl
theorem savedO_yes {ps : List Phr} {s : ByteArray} {n a : Nat} (h : leastO ps s = some n) (h2 : savK ps s s.size = some a) : savedO ps s = some ((a : Int) - (n : Int)) := by unfold savedO; rw [h, h2]
/-- The first reading. -/
def tbS (ps : List Phr) (sig : List Int) : List Nat := dpW (fitS sig) sigLen ps sig.length sig.length
def pathR (ps : List Phr) (sig : List Int) : List Nat := pathF sig.length (nextW (fitS sig) sigLen ps (tbS ps sig)) (lnOf sigLen ps) sig.length 0
def readN (ps : List Phr) (sig : List Int) : List Nat := if 0 < cntS ps sig then pathR ps sig else []
def readQ (ps : List Phr) (sig : List Int) : Bool := decide (0 < cntS ps sig)
abbrev PathR (ps : List Phr) (sig : List Int) (l : List Nat) (m : Nat) : Prop := PathTo sig.length (nextW (fitS sig) sigLen ps (tbS ps sig)) (lnOf sigLen ps) l m
theorem nextW_lt {fit : Nat → Phr → Bool} {len : Phr → Nat} {ps : List Phr} {tb : List Nat} {m i : Nat} (h : nextW fit len ps tb m = some i) : i < ps.length := by
  unfold nextW at h
  rw [List.findIdx?_eq_some_iff_getElem] at h
  obtain ⟨hi, _⟩ := h
  exact hi
theorem readN_lt (ps : List Phr) (sig : List Int) : ∀ i ∈ readN ps sig, i < ps.length := by
  unfold readN
  split
  · intro i hi
    exact path_mem (P := fun i => i < ps.length) (fun m i h => nextW_lt h) _ _ i hi
  · intro i hi; cases hi
theorem readN_len (ps : List Phr) (sig : List Int) : (readN ps sig).length ≤ sig.length := by
  unfold readN
  split
  · exact pathF_len _ _
  · simp
theorem fitS_hyp {ps : List Phr} (h : bookB ps = true) (sig : List Int) (m : Nat) : ∀ p ∈ ps, fitS sig m p = true → 1 ≤ sigLen p := fun _ hp _ => (phrOk_sig (bookB_phr h hp)).1
theorem fitS_le {sig : List Int} {m : Nat} {p : Phr} (h : fitS sig m p = true) (hp : 1 ≤ p.2.length) : m + p.2.length ≤ sig.length := by
  unfold fitS at h
  rw [begB_iff] at h
  have := h.length_le
  rw [List.length_drop] at this
  omega
theorem ixok_of {ps : List Phr} {l : List Nat} (h : ∀ i ∈ l, i < ps.length) : IxOk ps (waysI l) := by
  intro y hy
  unfold waysI at hy
  rw [List.mem_map] at hy
  obtain ⟨i, hi, rfl⟩ := hy
  have := h i hi
  exact ⟨by omega, by omega⟩
end Go.Proofs.Ytabhnbooboceeaa
