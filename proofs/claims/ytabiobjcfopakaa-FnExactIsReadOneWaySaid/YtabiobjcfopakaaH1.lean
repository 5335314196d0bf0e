/- Plain laws: the rests that stick out where two lists of phrases have the same signals so far. -/
import Derived.Test.YtabiobjcfopakaaD9
import Derived.Test.YtabiobjcfopakaaE2
namespace Go.Proofs.Ytabiobjcfopakaa
open Go.RowKit
/-- A rest is put to the others, once. -/
def putR (L : List (List Int)) (r : List Int) : List (List Int) := if r ∈ L then L else L ++ [r]
theorem putR_old {L : List (List Int)} {r : List Int} (h : r ∈ L) : putR L r = L := by unfold putR; rw [if_pos h]
theorem putR_new {L : List (List Int)} {r : List Int} (h : r ∉ L) : putR L r = L ++ [r] := by unfold putR; rw [if_neg h]
theorem putR_mem {L : List (List Int)} {r : List Int} : r ∈ putR L r := by unfold putR; split <;> simp_all
theorem putR_pre {L : List (List Int)} {r : List Int} : L <+: putR L r := by
  unfold putR; split
  · exact List.prefix_refl _
  · exact List.prefix_append _ _
theorem putR_nodup {L : List (List Int)} {r : List Int} (h : L.Nodup) : (putR L r).Nodup := by
  unfold putR; split
  · exact h
  · rename_i hn
    rw [List.nodup_append]
    refine ⟨h, by simp, fun a ha b hb => ?_⟩
    rw [List.mem_singleton] at hb
    rintro rfl
    exact hn (hb ▸ ha)
/-- One pair of phrases. -/
def seed1 (ps : List Phr) (i : Nat) (x : Phr) (L : List (List Int)) (k : Nat) : List (List Int) := match ps[k]? with
  | some y => if i ≠ k ∧ begB x.2 y.2 = true then putR L (y.2.drop x.2.length) else L
  | Option.none => L
/-- One phrase with the first j others, the first i phrases with all others. -/
def seedK (ps : List Phr) (i : Nat) (x : Phr) (L : List (List Int)) (j : Nat) : List (List Int) := (List.range j).foldl (seed1 ps i x) L
def seedI (ps : List Phr) : Nat → List (List Int)
  | 0 => []
  | i + 1 => match ps[i]? with
    | some x => seedK ps i x (seedI ps i) ps.length
    | Option.none => seedI ps i
def seedR (ps : List Phr) : List (List Int) := seedI ps ps.length
theorem seedK_zero {ps : List Phr} {i : Nat} {x : Phr} {L : List (List Int)} : seedK ps i x L 0 = L := rfl
theorem seedK_succ {ps : List Phr} {i j : Nat} {x : Phr} {L : List (List Int)} : seedK ps i x L (j + 1) = seed1 ps i x (seedK ps i x L j) j := by
  unfold seedK; rw [List.range_succ, List.foldl_append]; rfl
theorem seedI_succ {ps : List Phr} {i : Nat} {x : Phr} (h : ps[i]? = some x) : seedI ps (i + 1) = seedK ps i x (seedI ps i) ps.length := by rw [seedI, h]
theorem seed1_yes {ps : List Phr} {i k : Nat} {x y : Phr} {L : List (List Int)} (hy : ps[k]? = some y) (h : i ≠ k) (hb : begB x.2 y.2 = true) : seed1 ps i x L k = putR L (y.2.drop x.2.length) := by
  unfold seed1; rw [hy]; exact if_pos ⟨h, hb⟩
theorem seed1_no {ps : List Phr} {i k : Nat} {x y : Phr} {L : List (List Int)} (hy : ps[k]? = some y) (h : ¬ (i ≠ k ∧ begB x.2 y.2 = true)) : seed1 ps i x L k = L := by
  unfold seed1; rw [hy]; exact if_neg h
/-- One phrase behind, or ahead of, a rest. -/
def turn1 (x : List Int) (L : List (List Int)) (y : Phr) : List (List Int) :=
  let L1 := if begB x y.2 then putR L (y.2.drop x.length) else L
  if begB y.2 x then putR L1 (x.drop y.2.length) else L1
def turnR (ps : List Phr) (x : List Int) (L : List (List Int)) (j : Nat) : List (List Int) := (ps.take j).foldl (turn1 x) L
theorem turnR_succ {ps : List Phr} {x : List Int} {L : List (List Int)} {j : Nat} {y : Phr} (h : ps[j]? = some y) : turnR ps x L (j + 1) = turn1 x (turnR ps x L j) y := by
  unfold turnR; rw [take_snocN h, List.foldl_append]; rfl
theorem turnR_zero {ps : List Phr} {x : List Int} {L : List (List Int)} : turnR ps x L 0 = L := rfl
/-- From the n-th rest on, until nothing new is left. -/
def runR (ps : List Phr) : Nat → Nat → List (List Int) → List (List Int)
  | 0, _, L => L
  | f + 1, n, L => match L[n]? with
    | Option.none => L
    | some x => runR ps f (n + 1) (turnR ps x L ps.length)
/-- All rests. -/
def restsR (ps : List Phr) : List (List Int) := runR ps 200 0 (seedR ps)
def oneB (ps : List Phr) : Bool := decide ([] ∉ restsR ps)
theorem runR_on {ps : List Phr} {f n : Nat} {L : List (List Int)} {x : List Int} (h : L[n]? = some x) : runR ps (f + 1) n L = runR ps f (n + 1) (turnR ps x L ps.length) := by rw [runR, h]
theorem runR_end {ps : List Phr} {f n : Nat} {L : List (List Int)} (h : L.length ≤ n) : runR ps f n L = L := by
  cases f with
  | zero => rfl
  | succ f => rw [runR, List.getElem?_eq_none h]
theorem turn1_pre {x : List Int} {L : List (List Int)} {y : Phr} : L <+: turn1 x L y := by
  unfold turn1
  dsimp only
  split <;> split
  · exact putR_pre.trans putR_pre
  · exact putR_pre
  · exact putR_pre
  · exact List.prefix_refl _
theorem turn_pre {x : List Int} : ∀ (qs : List Phr) (L : List (List Int)), L <+: qs.foldl (turn1 x) L
  | [], L => List.prefix_refl _
  | q :: qs, L => by rw [List.foldl_cons]; exact turn1_pre.trans (turn_pre qs _)
theorem turnR_pre {ps : List Phr} {x : List Int} {L : List (List Int)} {j : Nat} : L <+: turnR ps x L j := turn_pre _ _
theorem turnR_mono {ps : List Phr} {x : List Int} {L : List (List Int)} {j k : Nat} (h : j ≤ k) : turnR ps x L j <+: turnR ps x L k := by
  unfold turnR
  have : ps.take k = ps.take j ++ (ps.take k).drop j := by
    have e := List.take_append_drop j (ps.take k)
    rw [List.take_take, Nat.min_eq_left h] at e
    exact e.symm
  rw [this, List.foldl_append]
  exact turn_pre _ _
theorem runR_pre {ps : List Phr} : ∀ (f n : Nat) (L : List (List Int)), L <+: runR ps f n L
  | 0, _, L => List.prefix_refl _
  | f + 1, n, L => by
    rw [runR]
    split
    · exact List.prefix_refl _
    · exact turnR_pre.trans (runR_pre f _ _)
/-- The ends of the signals of phrases. -/
def endsP (p : Phr) : List (List Int) := (List.range (p.2.length + 1)).map fun k => p.2.drop k
def endsB (ps : List Phr) : List (List Int) := ps.flatMap endsP
theorem ends_drop {ps : List Phr} {p : Phr} (h : p ∈ ps) {k : Nat} (hk : k ≤ p.2.length) : p.2.drop k ∈ endsB ps := by
  unfold endsB endsP
  rw [List.mem_flatMap]
  exact ⟨p, h, List.mem_map.2 ⟨k, List.mem_range.2 (by omega), rfl⟩⟩
theorem ends_again {ps : List Phr} {r : List Int} (h : r ∈ endsB ps) {k : Nat} (hk : k ≤ r.length) : r.drop k ∈ endsB ps := by
  unfold endsB endsP at h
  rw [List.mem_flatMap] at h
  obtain ⟨p, hp, h⟩ := h
  rw [List.mem_map] at h
  obtain ⟨j, hj, rfl⟩ := h
  rw [List.mem_range] at hj
  rw [List.drop_drop]
  rw [List.length_drop] at hk
  exact ends_drop hp (by omega)
theorem ends_len {ps : List Phr} (h : bookB ps = true) : (endsB ps).length ≤ 160 := by
  have h1 := bookB_len h
  have h2 : ∀ p ∈ ps, p.2.length ≤ 3 := fun p hp => (phrOk_sig (bookB_phr h hp)).2.1
  have h3 : (endsB ps).length ≤ 4 * ps.length := by
    unfold endsB
    clear h h1
    induction ps with
    | nil => simp
    | cons p l ih =>
      have := ih (fun q hq => h2 q (List.mem_cons_of_mem _ hq))
      have h4 := h2 p (by simp)
      rw [List.flatMap_cons, List.length_append, List.length_cons]
      unfold endsP at this ⊢
      rw [List.length_map, List.length_range]
      omega
  omega
theorem nodup_len {α : Type} [DecidableEq α] : ∀ (L E : List α), L.Nodup → (∀ x ∈ L, x ∈ E) → L.length ≤ E.length
  | [], E, _, _ => by simp
  | a :: L, E, h, hs => by
    rw [List.nodup_cons] at h
    have ha := hs a (by simp)
    have h1 := nodup_len L (E.erase a) h.2 (fun x hx => by
      have hne : x ≠ a := by rintro rfl; exact h.1 hx
      exact (List.mem_erase_of_ne hne).2 (hs x (List.mem_cons_of_mem _ hx)))
    have h2 := List.length_erase_of_mem ha
    have h3 : 0 < E.length := List.length_pos_of_mem ha
    rw [List.length_cons]
    omega
/-- A list of rests: none twice, all of them ends of phrases. -/
structure RestOk (ps : List Phr) (L : List (List Int)) : Prop where
  nodup : L.Nodup
  ends : ∀ r ∈ L, r ∈ endsB ps
theorem RestOk.nil (ps : List Phr) : RestOk ps [] := ⟨List.nodup_nil, fun r h => by cases h⟩
theorem RestOk.put {ps : List Phr} {L : List (List Int)} {r : List Int} (h : RestOk ps L) (hr : r ∈ endsB ps) : RestOk ps (putR L r) := by
  refine ⟨putR_nodup h.nodup, fun x hx => ?_⟩
  unfold putR at hx
  split at hx
  · exact h.ends x hx
  · rw [List.mem_append, List.mem_singleton] at hx
    rcases hx with hx | rfl
    · exact h.ends x hx
    · exact hr
theorem RestOk.len {ps : List Phr} {L : List (List Int)} (h : RestOk ps L) (hb : bookB ps = true) : L.length ≤ 160 := Nat.le_trans (nodup_len L _ h.nodup h.ends) (ends_len hb)
theorem begB_le {xs ys : List Int} (h : begB xs ys = true) : xs.length ≤ ys.length := by rw [begB_iff] at h; exact h.length_le
theorem RestOk.seed1 {ps : List Phr} {L : List (List Int)} (h : RestOk ps L) (i : Nat) (x : Phr) (k : Nat) : RestOk ps (seed1 ps i x L k) := by
  unfold Go.Proofs.Ytabiobjcfopakaa.seed1
  split
  · rename_i y hy
    split
    · rename_i hc
      exact h.put (ends_drop (List.mem_of_getElem? hy) (begB_le hc.2))
    · exact h
  · exact h
theorem RestOk.seedK {ps : List Phr} {L : List (List Int)} (h : RestOk ps L) (i : Nat) (x : Phr) : ∀ j, RestOk ps (seedK ps i x L j)
  | 0 => h
  | j + 1 => by rw [seedK_succ]; exact (RestOk.seedK h i x j).seed1 i x j
theorem RestOk.seedI (ps : List Phr) : ∀ i, RestOk ps (seedI ps i)
  | 0 => RestOk.nil ps
  | i + 1 => by
    rw [Go.Proofs.Ytabiobjcfopakaa.seedI]
    split
    · exact (RestOk.seedI ps i).seedK _ _ _
    · exact RestOk.seedI ps i
theorem RestOk.turn1 {ps : List Phr} {L : List (List Int)} {x : List Int} {y : Phr} (h : RestOk ps L) (hx : x ∈ endsB ps) (hy : y ∈ ps) : RestOk ps (turn1 x L y) := by
  unfold Go.Proofs.Ytabiobjcfopakaa.turn1
  dsimp only
  have h1 : RestOk ps (if begB x y.2 then putR L (y.2.drop x.length) else L) := by
    split
    · rename_i hb; exact h.put (ends_drop hy (begB_le hb))
    · exact h
  split
  · rename_i hb; exact h1.put (ends_again hx (begB_le hb))
  · exact h1
theorem RestOk.turnR {ps : List Phr} {L : List (List Int)} {x : List Int} (h : RestOk ps L) (hx : x ∈ endsB ps) (j : Nat) : RestOk ps (turnR ps x L j) := by
  unfold Go.Proofs.Ytabiobjcfopakaa.turnR
  have : ∀ (qs : List Phr), (∀ q ∈ qs, q ∈ ps) → ∀ L, RestOk ps L → RestOk ps (qs.foldl (Go.Proofs.Ytabiobjcfopakaa.turn1 x) L) := by
    intro qs
    induction qs with
    | nil => intro _ L h; exact h
    | cons q qs ih =>
      intro hq L h
      rw [List.foldl_cons]
      exact ih (fun r hr => hq r (List.mem_cons_of_mem _ hr)) _ (h.turn1 hx (hq q (by simp)))
  exact this _ (fun q hq => List.mem_of_mem_take hq) L h
/-- So far: the n-th rest is next. -/
def RunTo (ps : List Phr) (n : Nat) (L : List (List Int)) : Prop := RestOk ps L ∧ n ≤ L.length ∧ runR ps (200 - n) n L = restsR ps
theorem RunTo.start (ps : List Phr) : RunTo ps 0 (seedR ps) := ⟨RestOk.seedI ps ps.length, Nat.zero_le _, rfl⟩
theorem RunTo.bd {ps : List Phr} {n : Nat} {L : List (List Int)} (h : RunTo ps n L) (hb : bookB ps = true) : L.length ≤ 160 ∧ n ≤ 160 := by
  have h1 := h.1.len hb
  have h2 := h.2.1
  omega
theorem RunTo.on {ps : List Phr} {n : Nat} {L : List (List Int)} {x : List Int} (h : RunTo ps n L) (hb : bookB ps = true) (hx : L[n]? = some x) : RunTo ps (n + 1) (turnR ps x L ps.length) := by
  have h0 := h.bd hb
  have hn := (List.getElem?_eq_some_iff.1 hx).1
  have hr := h.1.turnR (h.1.ends x (List.mem_of_getElem? hx)) ps.length
  have hp : L.length ≤ (turnR ps x L ps.length).length := (turnR_pre).length_le
  refine ⟨hr, by omega, ?_⟩
  have h3 := h.2.2
  rw [show 200 - n = (200 - (n + 1)) + 1 by omega, runR_on hx] at h3
  exact h3
theorem RunTo.fin {ps : List Phr} {n : Nat} {L : List (List Int)} (h : RunTo ps n L) (hl : L.length ≤ n) : L = restsR ps := by
  have h3 := h.2.2
  rwa [runR_end hl] at h3
theorem RunTo.sub {ps : List Phr} {n : Nat} {L : List (List Int)} (h : RunTo ps n L) : L <+: restsR ps := by
  rw [← h.2.2]; exact runR_pre _ _ _
/-- While the n-th rest is held against the phrases. -/
theorem RunTo.mid {ps : List Phr} {n : Nat} {L : List (List Int)} {x : List Int} (h : RunTo ps n L) (hb : bookB ps = true) (hx : L[n]? = some x) {j : Nat} (hj : j ≤ ps.length) : turnR ps x L j <+: restsR ps ∧ RestOk ps (turnR ps x L j) ∧ (turnR ps x L j).length ≤ 160 ∧ (turnR ps x L j)[n]? = some x := by
  have hr := h.1.turnR (h.1.ends x (List.mem_of_getElem? hx)) j
  refine ⟨(turnR_mono hj).trans (h.on hb hx).sub, hr, hr.len hb, ?_⟩
  obtain ⟨t, ht⟩ := turnR_pre (ps := ps) (x := x) (L := L) (j := j)
  rw [← ht, List.getElem?_append_left (List.getElem?_eq_some_iff.1 hx).1]
  exact hx
/-- A rest that is a phrase: nothing is left of it. -/
theorem turn1_same {x : List Int} {L : List (List Int)} {y : Phr} (h : x = y.2) : [] ∈ turn1 x L y := by
  unfold turn1
  have hb : begB y.2 x = true := by rw [h]; exact begB_iff.2 (List.prefix_refl _)
  dsimp only
  rw [if_pos hb, show x.drop y.2.length = [] by rw [h]; exact List.drop_length]
  exact putR_mem
theorem turn1_fore {x : List Int} {L : List (List Int)} {y : Phr} (h : x ≠ y.2) (hb : begB x y.2 = true) : turn1 x L y = putR L (y.2.drop x.length) ∧ y.2.drop x.length ≠ [] := by
  have hp := begB_iff.1 hb
  have hlt : x.length < y.2.length := by
    rcases Nat.lt_or_ge x.length y.2.length with h1 | h1
    · exact h1
    · exact absurd (hp.eq_of_length (Nat.le_antisymm hp.length_le h1)) h
  have hn : begB y.2 x = false := by
    cases e : begB y.2 x
    · rfl
    · have := begB_le e; omega
  unfold turn1
  refine ⟨by dsimp only; rw [if_pos hb, hn]; rfl, fun e => ?_⟩
  have := congrArg List.length e
  rw [List.length_drop, List.length_nil] at this
  omega
theorem turn1_aft {x : List Int} {L : List (List Int)} {y : Phr} (hb : begB x y.2 = false) (hb2 : begB y.2 x = true) : turn1 x L y = putR L (x.drop y.2.length) ∧ x.drop y.2.length ≠ [] := by
  have hp := begB_iff.1 hb2
  unfold turn1
  refine ⟨by dsimp only; rw [hb, if_pos hb2]; rfl, fun e => ?_⟩
  have h1 := congrArg List.length e
  rw [List.length_drop, List.length_nil] at h1
  have h2 := hp.eq_of_length (Nat.le_antisymm hp.length_le (by omega))
  rw [h2, begB_iff.2 (List.prefix_refl _)] at hb
  cases hb
theorem turn1_no {x : List Int} {L : List (List Int)} {y : Phr} (hb : begB x y.2 = false) (hb2 : begB y.2 x = false) : turn1 x L y = L := by
  unfold turn1; dsimp only; rw [hb, hb2]; rfl
theorem put_ne {L : List (List Int)} {r : List Int} (h : [] ∉ L) (hr : r ≠ []) : [] ∉ putR L r := by
  unfold putR; split
  · exact h
  · rw [List.mem_append, List.mem_singleton]
    rintro (h1 | h1)
    · exact h h1
    · exact hr h1.symm
theorem seed1_ne {ps : List Phr} (hb : bookB ps = true) {i k : Nat} {x : Phr} {L : List (List Int)} (hx : ps[i]? = some x) (h : [] ∉ L) : [] ∉ seed1 ps i x L k := by
  unfold seed1
  split
  · rename_i y hy
    split
    · rename_i hc
      refine put_ne h fun e => ?_
      have hp := begB_iff.1 hc.2
      have h1 := congrArg List.length e
      rw [List.length_drop, List.length_nil] at h1
      have h2 := hp.eq_of_length (Nat.le_antisymm hp.length_le (by omega))
      rcases Nat.lt_or_gt_of_ne hc.1 with hlt | hlt
      · exact book_sigs hb hx hy hlt h2
      · exact book_sigs hb hy hx hlt h2.symm
    · exact h
  · exact h
theorem seedK_ne {ps : List Phr} (hb : bookB ps = true) {i : Nat} {x : Phr} {L : List (List Int)} (hx : ps[i]? = some x) (h : [] ∉ L) : ∀ j, [] ∉ seedK ps i x L j
  | 0 => h
  | j + 1 => by rw [seedK_succ]; exact seed1_ne hb hx (seedK_ne hb hx h j)
theorem seedI_ne {ps : List Phr} (hb : bookB ps = true) : ∀ i, [] ∉ seedI ps i
  | 0 => by simp [seedI]
  | i + 1 => by
    rw [seedI]
    split
    · rename_i x hx; exact seedK_ne hb hx (seedI_ne hb i) _
    · exact seedI_ne hb i
end Go.Proofs.Ytabiobjcfopakaa
