/- Plain laws: the first path through a table, place by place; of readings and of spellings. -/
import Derived.Test.YtabhnbooboceeaaE10
namespace Go.Proofs.Ytabhnbooboceeaa
/-- The choices from place m on: nx names the phrase, ln how far it leads. -/
def pathF (n : Nat) (nx : Nat → Option Nat) (ln : Nat → Nat) : Nat → Nat → List Nat
  | 0, _ => []
  | f + 1, m => if m < n then match nx m with
      | Option.none => []
      | some i => i :: pathF n nx ln f (m + ln i)
    else []
theorem pathF_end {n : Nat} {nx : Nat → Option Nat} {ln : Nat → Nat} {f m : Nat} (h : n ≤ m) : pathF n nx ln f m = [] := by
  cases f with
  | zero => rfl
  | succ f => unfold pathF; rw [if_neg (by omega)]
theorem pathF_on {n : Nat} {nx : Nat → Option Nat} {ln : Nat → Nat} {f m i : Nat} (h : m < n) (h2 : nx m = some i) : pathF n nx ln (f + 1) m = i :: pathF n nx ln f (m + ln i) := by
  rw [pathF, if_pos h, h2]
theorem pathF_len {n : Nat} {nx : Nat → Option Nat} {ln : Nat → Nat} : ∀ (f m : Nat), (pathF n nx ln f m).length ≤ f
  | 0, m => by simp [pathF]
  | f + 1, m => by
    unfold pathF
    split
    · split
      · simp
      · rw [List.length_cons]
        exact Nat.succ_le_succ (pathF_len f _)
    · simp
/-- So far the path l was taken, it stands at m. -/
def PathTo (n : Nat) (nx : Nat → Option Nat) (ln : Nat → Nat) (l : List Nat) (m : Nat) : Prop := ∃ f, n - m ≤ f ∧ f + l.length ≤ n ∧ l ++ pathF n nx ln f m = pathF n nx ln n 0
theorem PathTo.start {n : Nat} {nx : Nat → Option Nat} {ln : Nat → Nat} : PathTo n nx ln [] 0 := ⟨n, by omega, by simp, rfl⟩
theorem PathTo.on {n : Nat} {nx : Nat → Option Nat} {ln : Nat → Nat} {l : List Nat} {m i : Nat} (h : PathTo n nx ln l m) (hm : m < n) (hn : nx m = some i) (hl : 1 ≤ ln i) : PathTo n nx ln (l ++ [i]) (m + ln i) := by
  obtain ⟨f, h1, h2, h3⟩ := h
  obtain ⟨f, rfl⟩ : ∃ g, f = g + 1 := ⟨f - 1, by omega⟩
  rw [pathF_on hm hn] at h3
  exact ⟨f, by omega, by rw [List.length_append, List.length_singleton]; omega, by rw [List.append_assoc]; exact h3⟩
theorem PathTo.done {n : Nat} {nx : Nat → Option Nat} {ln : Nat → Nat} {l : List Nat} {m : Nat} (h : PathTo n nx ln l m) (hm : n ≤ m) : l = pathF n nx ln n 0 := by
  obtain ⟨f, _, _, h3⟩ := h
  rw [pathF_end hm, List.append_nil] at h3
  exact h3
theorem PathTo.short {n : Nat} {nx : Nat → Option Nat} {ln : Nat → Nat} {l : List Nat} {m : Nat} (h : PathTo n nx ln l m) : l.length ≤ n := by
  obtain ⟨f, _, h2, _⟩ := h; omega
/-- How far the i-th phrase leads. -/
def lnOf (len : Phr → Nat) (ps : List Phr) (i : Nat) : Nat := (ps[i]?.map len).getD 0
theorem lnOf_at {len : Phr → Nat} {ps : List Phr} {i : Nat} {p : Phr} (h : ps[i]? = some p) : lnOf len ps i = len p := by unfold lnOf; rw [h]; rfl
theorem dpW_drop (fit : Nat → Phr → Bool) (len : Phr → Nat) (ps : List Phr) (n : Nat) : ∀ k j, j ≤ k → (dpW fit len ps n k).drop j = dpW fit len ps n (k - j)
  | 0, j, h => by obtain rfl : j = 0 := by omega
                  rfl
  | k + 1, 0, _ => rfl
  | k + 1, j + 1, h => by rw [dpW, List.drop_succ_cons, dpW_drop fit len ps n k j (by omega), show k + 1 - (j + 1) = k - j by omega]
theorem dpL_drop (fit : Nat → Phr → Bool) (len cost : Phr → Nat) (ps : List Phr) (n : Nat) : ∀ k j, j ≤ k → (dpL fit len cost ps n k).drop j = dpL fit len cost ps n (k - j)
  | 0, j, h => by obtain rfl : j = 0 := by omega
                  rfl
  | k + 1, 0, _ => rfl
  | k + 1, j + 1, h => by rw [dpL, List.drop_succ_cons, dpL_drop fit len cost ps n k j (by omega), show k + 1 - (j + 1) = k - j by omega]
theorem dpW_at {fit : Nat → Phr → Bool} {len : Phr → Nat} {ps : List Phr} {n m : Nat} (h : m < n) : (dpW fit len ps n n)[m]? = some (wayAt (fit m) len ps (dpW fit len ps n (n - (m + 1)))) := by
  have h1 := dpW_drop fit len ps n n m (by omega)
  obtain ⟨k, hk⟩ : ∃ k, n - m = k + 1 := ⟨n - m - 1, by omega⟩
  rw [hk, dpW] at h1
  have h2 : ((dpW fit len ps n n).drop m)[0]? = some (wayAt (fit (n - (k + 1))) len ps (dpW fit len ps n k)) := by rw [h1]; rfl
  rw [List.getElem?_drop, Nat.add_zero] at h2
  rw [h2, show n - (k + 1) = m by omega, show k = n - (m + 1) by omega]
theorem dpW_rest {fit : Nat → Phr → Bool} {len : Phr → Nat} {ps : List Phr} {n m d : Nat} (h : m < n) : (dpW fit len ps n (n - (m + 1)))[d]? = (dpW fit len ps n n)[m + 1 + d]? := by
  rw [← dpW_drop fit len ps n n (m + 1) (by omega), List.getElem?_drop]
theorem dpL_at {fit : Nat → Phr → Bool} {len cost : Phr → Nat} {ps : List Phr} {n m : Nat} (h : m < n) : (dpL fit len cost ps n n)[m]? = some (lsAt (fit m) len cost ps (dpL fit len cost ps n (n - (m + 1)))) := by
  have h1 := dpL_drop fit len cost ps n n m (by omega)
  obtain ⟨k, hk⟩ : ∃ k, n - m = k + 1 := ⟨n - m - 1, by omega⟩
  rw [hk, dpL] at h1
  have h2 : ((dpL fit len cost ps n n).drop m)[0]? = some (lsAt (fit (n - (k + 1))) len cost ps (dpL fit len cost ps n k)) := by rw [h1]; rfl
  rw [List.getElem?_drop, Nat.add_zero] at h2
  rw [h2, show n - (k + 1) = m by omega, show k = n - (m + 1) by omega]
theorem dpL_rest {fit : Nat → Phr → Bool} {len cost : Phr → Nat} {ps : List Phr} {n m d : Nat} (h : m < n) : (dpL fit len cost ps n (n - (m + 1)))[d]? = (dpL fit len cost ps n n)[m + 1 + d]? := by
  rw [← dpL_drop fit len cost ps n n (m + 1) (by omega), List.getElem?_drop]
/-- The first phrase that fits at m and leads on to where there is a way. -/
def okW (fit : Nat → Phr → Bool) (len : Phr → Nat) (tb : List Nat) (m : Nat) (p : Phr) : Bool := fit m p && decide (0 < tb.getD (m + len p) 0)
def nextW (fit : Nat → Phr → Bool) (len : Phr → Nat) (ps : List Phr) (tb : List Nat) (m : Nat) : Option Nat := ps.findIdx? (okW fit len tb m)
theorem wayAt_pos {fit : Phr → Bool} {len : Phr → Nat} {tb : List Nat} : ∀ {ps : List Phr}, 0 < wayAt fit len ps tb → ∃ p ∈ ps, fit p = true ∧ 0 < tb.getD (len p - 1) 0
  | [], h => by simp [wayAt] at h
  | p :: ps, h => by
    have e : wayAt fit len (p :: ps) tb = (if fit p then tb.getD (len p - 1) 0 else 0) + wayAt fit len ps tb := by simp [wayAt]
    rw [e] at h
    by_cases h1 : 0 < wayAt fit len ps tb
    · obtain ⟨q, hq, h2⟩ := wayAt_pos h1
      exact ⟨q, List.mem_cons_of_mem _ hq, h2⟩
    · split at h
      · rename_i hf
        exact ⟨p, by simp, hf, by omega⟩
      · omega
theorem nextW_some {fit : Nat → Phr → Bool} {len : Phr → Nat} {ps : List Phr} {n m : Nat} (hm : m < n) (hl : ∀ p ∈ ps, fit m p = true → 1 ≤ len p) (h : 0 < (dpW fit len ps n n).getD m 0) :
    ∃ i p, nextW fit len ps (dpW fit len ps n n) m = some i ∧ ps[i]? = some p ∧ fit m p = true ∧ 0 < (dpW fit len ps n n).getD (m + len p) 0 := by
  rw [List.getD_eq_getElem?_getD, dpW_at hm] at h
  obtain ⟨q, hq, hf, h2⟩ := wayAt_pos h
  have hq1 := hl q hq hf
  rw [List.getD_eq_getElem?_getD, dpW_rest hm, show m + 1 + (len q - 1) = m + len q by omega] at h2
  cases hn : nextW fit len ps (dpW fit len ps n n) m with
  | none =>
    unfold nextW at hn
    rw [List.findIdx?_eq_none_iff] at hn
    have := hn q hq
    unfold okW at this
    rw [hf, Bool.true_and, decide_eq_false_iff_not, List.getD_eq_getElem?_getD] at this
    exact absurd h2 this
  | some i =>
    have h3 := hn
    unfold nextW at h3
    rw [List.findIdx?_eq_some_iff_getElem] at h3
    obtain ⟨hi, h4, _⟩ := h3
    unfold okW at h4
    rw [Bool.and_eq_true, decide_eq_true_eq] at h4
    exact ⟨i, ps[i], rfl, List.getElem?_eq_getElem hi, h4.1, h4.2⟩
/-- What a phrase would cost at a place. -/
def valP (fit : Phr → Bool) (len cost : Phr → Nat) (tb : List (Option Nat)) (p : Phr) : Option Nat := if fit p then (tb.getD (len p - 1) Option.none).map (cost p + ·) else Option.none
theorem lsStep_val {fit : Phr → Bool} {len cost : Phr → Nat} {tb : List (Option Nat)} {cur : Option Nat} {p : Phr} : lsStep fit len cost tb cur p = match valP fit len cost tb p with
    | Option.none => cur
    | some v => lsUpd cur v := by
  unfold lsStep valP
  split
  · cases tb.getD (len p - 1) Option.none <;> rfl
  · rfl
/-- cur is the least of what the phrases seen cost. -/
structure Least (val : Phr → Option Nat) (ps : List Phr) (cur : Option Nat) : Prop where
  le : ∀ p ∈ ps, ∀ v, val p = some v → ∃ c, cur = some c ∧ c ≤ v
  hit : ∀ c, cur = some c → ∃ p ∈ ps, val p = some c
theorem least_lsAt {fit : Phr → Bool} {len cost : Phr → Nat} {ps : List Phr} {tb : List (Option Nat)} : ∀ j, j ≤ ps.length → Least (valP fit len cost tb) (ps.take j) (lsAt fit len cost (ps.take j) tb)
  | 0, _ => ⟨fun p hp => by simp at hp, fun c hc => by cases hc⟩
  | j + 1, hj => by
    have ih := least_lsAt (ps := ps) (fit := fit) (len := len) (cost := cost) (tb := tb) j (by omega)
    obtain ⟨q, hx⟩ : ∃ q, ps[j]? = some q := ⟨ps[j]'hj, List.getElem?_eq_getElem hj⟩
    rw [lsAt_snoc hx, take_snocN hx, lsStep_val]
    generalize ps.take j = qs at ih ⊢
    generalize lsAt fit len cost qs tb = cur at ih ⊢
    cases hv : valP fit len cost tb q with
    | none =>
      refine ⟨fun p hp v h => ?_, fun c hc => ?_⟩
      · rw [List.mem_append, List.mem_singleton] at hp
        rcases hp with hp | rfl
        · exact ih.le p hp v h
        · rw [hv] at h; cases h
      · obtain ⟨p, hp, h⟩ := ih.hit c hc
        exact ⟨p, List.mem_append_left _ hp, h⟩
    | some v =>
      have key : ∃ c, lsUpd cur v = some c ∧ c ≤ v ∧ (∀ b, cur = some b → c ≤ b) ∧ (c = v ∨ cur = some c) := by
        cases cur with
        | none => exact ⟨v, rfl, Nat.le_refl _, ⟨fun b hb => (by cases hb), Or.inl rfl⟩⟩
        | some b =>
          by_cases hlt : v < b
          · exact ⟨v, by simp only [lsUpd]; rw [if_pos hlt], Nat.le_refl _, ⟨fun b' hb => (by cases hb; omega), Or.inl rfl⟩⟩
          · exact ⟨b, by simp only [lsUpd]; rw [if_neg hlt], by omega, ⟨fun b' hb => (by cases hb; omega), Or.inr rfl⟩⟩
      obtain ⟨c, hc, h1, h2, h3⟩ := key
      dsimp only
      rw [hc]
      refine ⟨fun p hp u h => ?_, fun c' hc' => ?_⟩
      · rw [List.mem_append, List.mem_singleton] at hp
        rcases hp with hp | rfl
        · obtain ⟨b, hb, hbu⟩ := ih.le p hp u h
          exact ⟨c, rfl, Nat.le_trans (h2 b hb) hbu⟩
        · rw [hv] at h; cases h
          exact ⟨c, rfl, h1⟩
      · cases hc'
        rcases h3 with rfl | h3
        · exact ⟨q, by simp, hv⟩
        · obtain ⟨p, hp, h⟩ := ih.hit c h3
          exact ⟨p, List.mem_append_left _ hp, h⟩
/-- The first phrase that costs no more than the least. -/
def fstAt (val : Phr → Option Nat) (ps : List Phr) (cur : Option Nat) : Option Nat := match cur with
  | Option.none => Option.none
  | some c => ps.findIdx? fun p => val p == some c
theorem fstAt_some {val : Phr → Option Nat} {ps : List Phr} {c : Nat} (h : Least val ps (some c)) : ∃ i p, fstAt val ps (some c) = some i ∧ ps[i]? = some p ∧ val p = some c := by
  obtain ⟨p, hp, hv⟩ := h.hit c rfl
  unfold fstAt
  cases e : ps.findIdx? fun p => val p == some c with
  | none =>
    rw [List.findIdx?_eq_none_iff] at e
    have := e p hp
    simp [hv] at this
  | some i =>
    have h3 := e
    rw [List.findIdx?_eq_some_iff_getElem] at h3
    obtain ⟨hi, h4, _⟩ := h3
    exact ⟨i, ps[i], e, List.getElem?_eq_getElem hi, by simpa using h4⟩
/-- One phrase more that does not better the least. -/
theorem fstAt_keep {val : Phr → Option Nat} {ps : List Phr} {cur : Option Nat} {q : Phr} (h : Least val ps cur) : fstAt val (ps ++ [q]) cur = fstAt val ps cur := by
  cases cur with
  | none => rfl
  | some c =>
    obtain ⟨i, p, h1, _⟩ := fstAt_some h
    unfold fstAt at h1 ⊢
    dsimp only at h1 ⊢
    rw [List.findIdx?_append, h1]; rfl
/-- One phrase more that betters it. -/
theorem fstAt_new {val : Phr → Option Nat} {ps : List Phr} {cur : Option Nat} {q : Phr} {v : Nat} (h : Least val ps cur) (hv : val q = some v) (hb : ∀ b, cur = some b → v < b) : fstAt val (ps ++ [q]) (some v) = some ps.length := by
  unfold fstAt
  dsimp only
  rw [List.findIdx?_append]
  have : (ps.findIdx? fun p => val p == some v) = Option.none := by
    rw [List.findIdx?_eq_none_iff]
    intro p hp
    rw [beq_eq_false_iff_ne]
    intro e
    obtain ⟨c, hc, hcv⟩ := h.le p hp v e
    have := hb c hc
    omega
  rw [this]
  simp [hv]
/-- The next phrase of the first list of the least cost. -/
def nextL (fit : Nat → Phr → Bool) (len cost : Phr → Nat) (ps : List Phr) (n m : Nat) : Option Nat :=
  fstAt (valP (fit m) len cost (dpL fit len cost ps n (n - (m + 1)))) ps ((dpL fit len cost ps n n).getD m Option.none)
theorem valP_some {fit : Phr → Bool} {len cost : Phr → Nat} {tb : List (Option Nat)} {p : Phr} {c : Nat} (h : valP fit len cost tb p = some c) : fit p = true ∧ ∃ v, tb.getD (len p - 1) Option.none = some v ∧ cost p + v = c := by
  unfold valP at h
  split at h
  · rename_i hf
    cases e : tb.getD (len p - 1) Option.none with
    | none => rw [e] at h; cases h
    | some v => rw [e] at h; simp at h; exact ⟨hf, v, rfl, h⟩
  · cases h
theorem nextL_some {fit : Nat → Phr → Bool} {len cost : Phr → Nat} {ps : List Phr} {n m c : Nat} (hm : m < n) (hl : ∀ p ∈ ps, fit m p = true → 1 ≤ len p) (h : (dpL fit len cost ps n n).getD m Option.none = some c) :
    ∃ i p v, nextL fit len cost ps n m = some i ∧ ps[i]? = some p ∧ fit m p = true ∧ 1 ≤ len p ∧ (dpL fit len cost ps n n).getD (m + len p) Option.none = some v ∧ cost p + v = c := by
  unfold nextL
  rw [h]
  rw [List.getD_eq_getElem?_getD, dpL_at hm] at h
  have hls := least_lsAt (fit := fit m) (len := len) (cost := cost) (tb := dpL fit len cost ps n (n - (m + 1))) ps.length (Nat.le_refl _)
  rw [List.take_length] at hls
  rw [show lsAt (fit m) len cost ps (dpL fit len cost ps n (n - (m + 1))) = some c from h] at hls
  obtain ⟨i, p, h1, h2, h3⟩ := fstAt_some hls
  obtain ⟨h4, v, h5, h6⟩ := valP_some h3
  have h7 := hl p (List.mem_of_getElem? h2) h4
  rw [List.getD_eq_getElem?_getD, dpL_rest hm, show m + 1 + (len p - 1) = m + len p by omega, ← List.getD_eq_getElem?_getD] at h5
  exact ⟨i, p, v, h1, h2, h4, h7, h5, h6⟩
/-- What a list of phrases costs. -/
def costS (cost : Phr → Nat) (ps : List Phr) (l : List Nat) : Nat := (l.map (lnOf cost ps)).sum
theorem dpL_last (fit : Nat → Phr → Bool) (len cost : Phr → Nat) (ps : List Phr) (n : Nat) : (dpL fit len cost ps n n).getD n Option.none = some 0 := by
  have h1 := dpL_drop fit len cost ps n n n (Nat.le_refl _)
  rw [Nat.sub_self] at h1
  have h2 : ((dpL fit len cost ps n n).drop n)[0]? = some (some 0) := by rw [h1]; rfl
  rw [List.getElem?_drop, Nat.add_zero] at h2
  rw [List.getD_eq_getElem?_getD, h2]; rfl
theorem path_cost {fit : Nat → Phr → Bool} {len cost : Phr → Nat} {ps : List Phr} {n : Nat} (hl : ∀ m, ∀ p ∈ ps, fit m p = true → 1 ≤ len p) :
    ∀ f m c, n - m ≤ f → (dpL fit len cost ps n n).getD m Option.none = some c → costS cost ps (pathF n (nextL fit len cost ps n) (lnOf len ps) f m) = c
  | f, m, c, hf, h => by
    by_cases hm : m < n
    · obtain ⟨f, rfl⟩ : ∃ g, f = g + 1 := ⟨f - 1, by omega⟩
      obtain ⟨i, p, v, h1, h2, _, h4, h5, h6⟩ := nextL_some hm (hl m) h
      rw [pathF_on hm h1, lnOf_at h2]
      have := path_cost hl f (m + len p) v (by omega) h5
      unfold costS at this ⊢
      rw [List.map_cons, List.sum_cons, this, lnOf_at h2, h6]
    · rw [pathF_end (by omega)]
      have hlen := dpL_len fit len cost ps n n
      by_cases e : m = n
      · subst e
        rw [dpL_last] at h
        cases h; rfl
      · rw [List.getD_eq_getElem?_getD, List.getElem?_eq_none (by omega)] at h
        cases h
/-- Each choice on the path is a phrase. -/
theorem path_mem {n : Nat} {nx : Nat → Option Nat} {ln : Nat → Nat} {P : Nat → Prop} (h : ∀ m i, nx m = some i → P i) : ∀ f m, ∀ i ∈ pathF n nx ln f m, P i
  | 0, m, i, hi => by cases hi
  | f + 1, m, i, hi => by
    unfold pathF at hi
    split at hi
    · split at hi
      · cases hi
      · rename_i j hj
        rw [List.mem_cons] at hi
        rcases hi with rfl | hi
        · exact h m i hj
        · exact path_mem h f _ i hi
    · cases hi
/-- The signals of phrases, one after the other. -/
def sigsOf (ps : List Phr) (l : List Nat) : List Int := l.flatMap fun i => (ps[i]?.map (·.2)).getD []
theorem sigsOf_len {ps : List Phr} : ∀ (l : List Nat), (sigsOf ps l).length = costS sigCost ps l
  | [] => rfl
  | i :: l => by
    have := sigsOf_len (ps := ps) l
    unfold sigsOf costS at this ⊢
    rw [List.flatMap_cons, List.length_append, this, List.map_cons, List.sum_cons]
    unfold lnOf
    cases ps[i]? <;> rfl
theorem sigsOf_snoc {ps : List Phr} {l : List Nat} {i : Nat} {p : Phr} (h : ps[i]? = some p) : sigsOf ps (l ++ [i]) = sigsOf ps l ++ p.2 := by
  unfold sigsOf; rw [List.flatMap_append]; simp [h]
end Go.Proofs.Ytabhnbooboceeaa
