/- Texts of one claim, joined: R2, R4, R5, R6, R7, R8, C2, E8, H2, R12, R13, R14, R15, R17, R18, T1, T3, T4. -/
import Derived.BigRegion
import Derived.BigQuiet
import Derived.Deep.QuietTactic
import Derived.Test.YtjnkdjokbamibaaShelf
import Derived.Shelf.Abstract
import Derived.Deep.RegionLaw
import Derived.Deep.Onto
import Derived.Test.YtjnkdjokbamibaaP4Spelling
/- Plain laws: the search of the least lengths, and the table of least costs level by level. -/
namespace Go.Proofs.Ytjnkdjokbamibaa
open Go.RowKit
/-- A list of lengths with its cost, or none. -/
abbrev Cand := Option (List Nat × Int)
/-- The first one, unless the second one costs less. -/
def pickC : Cand → Cand → Cand
  | Option.none, b => b
  | some x, Option.none => some x
  | some x, some y => if y.2 < x.2 then some y else some x
def addC (l : List Nat) (k : Int) (c : Cand) : Cand := c.map fun x => (l ++ x.1, k + x.2)
theorem pickC_none (a : Cand) : pickC a Option.none = a := by cases a <;> rfl
theorem pickC_assoc (a b c : Cand) : pickC (pickC a b) c = pickC a (pickC b c) := by
  cases a with
  | none => rfl
  | some x =>
    cases b with
    | none => rfl
    | some y =>
      cases c with
      | none => rw [pickC_none, pickC_none]
      | some z =>
        simp only [pickC]
        by_cases h1 : y.2 < x.2
        · by_cases h2 : z.2 < y.2
          · simp only [h1, h2, if_true]; rw [if_pos (by omega)]
          · simp only [h1, h2, if_true, if_false]
        · by_cases h2 : z.2 < y.2
          · simp only [h1, h2, if_true, if_false]
          · simp only [h1, h2, if_false]; rw [if_neg (by omega)]
theorem addC_pick (l : List Nat) (k : Int) (a b : Cand) : addC l k (pickC a b) = pickC (addC l k a) (addC l k b) := by
  cases a with
  | none => rfl
  | some x =>
    cases b with
    | none => rfl
    | some y =>
      simp only [pickC, addC, Option.map]
      by_cases h : y.2 < x.2
      · rw [if_pos h, if_pos (by omega)]
      · rw [if_neg h, if_neg (by omega)]
theorem addC_add (l m : List Nat) (k j : Int) (c : Cand) : addC l k (addC m j c) = addC (l ++ m) (k + j) c := by
  cases c with
  | none => rfl
  | some x => simp only [addC, Option.map, List.append_assoc, Int.add_assoc]
theorem addC_nil (c : Cand) : addC [] 0 c = c := by
  cases c with
  | none => rfl
  | some x => simp [addC]
/-- Of all lists of lengths that 1000000000er fall, from one length on, for which there is room: the first one of the least cost. -/
def bst (r L : Nat) : List Int → Nat → Nat → Cand
  | [], _, _ => some ([], 0)
  | w :: ws, fr, room => (List.range' fr (L + 1 - fr)).foldl (fun c n => pickC c (if r ^ (L - n) ≤ room then addC [n] (w * (n : Int)) (bst r L ws n (room - r ^ (L - n))) else Option.none)) Option.none
theorem pick_fold {f : Nat → Cand} : ∀ (l : List Nat) (a : Cand), l.foldl (fun c n => pickC c (f n)) a = pickC a (l.foldl (fun c n => pickC c (f n)) Option.none)
  | [], a => (pickC_none a).symm
  | n :: l, a => by
    rw [List.foldl_cons, List.foldl_cons, pick_fold l (pickC a (f n)), pick_fold l (pickC Option.none (f n)), pickC_assoc]; rfl
theorem bst_end {r L : Nat} {w : Int} {ws : List Int} {fr room : Nat} (h : L < fr) : bst r L (w :: ws) fr room = Option.none := by
  rw [bst, show L + 1 - fr = 0 by omega]; rfl
theorem bst_step {r L : Nat} {w : Int} {ws : List Int} {fr room : Nat} (h : fr ≤ L) :
    bst r L (w :: ws) fr room = pickC (if r ^ (L - fr) ≤ room then addC [fr] (w * (fr : Int)) (bst r L ws fr (room - r ^ (L - fr))) else Option.none) (bst r L (w :: ws) (fr + 1) room) := by
  rw [bst, bst, show L + 1 - fr = (L + 1 - (fr + 1)) + 1 by omega, List.range'_succ, List.foldl_cons, pick_fold]
  rfl
/-- All weights together. -/
def sumW : List Int → Int
  | [] => 0
  | w :: ws => w + sumW ws
theorem sumW_nonneg {ws : List Int} (h : ∀ w ∈ ws, 0 ≤ w) : 0 ≤ sumW ws := by
  induction ws with
  | nil => exact Int.le_refl _
  | cons w ws ih =>
    have h1 := h w (by simp)
    have h2 := ih (fun x hx => h x (by simp [hx]))
    simp only [sumW]; omega
theorem sumW_app (a b : List Int) : sumW (a ++ b) = sumW a + sumW b := by
  induction a with
  | nil => simp [sumW]
  | cons w ws ih => simp only [List.cons_append, sumW, ih]; omega
theorem pickC_some {a b : Cand} {x : List Nat × Int} (h : pickC a b = some x) : a = some x ∨ b = some x := by
  cases a with
  | none => exact .inr h
  | some y =>
    cases b with
    | none => exact .inl h
    | some z =>
      simp only [pickC] at h
      split at h
      · exact .inr h
      · exact .inl h
theorem addC_some {l : List Nat} {k : Int} {c : Cand} {x : List Nat × Int} (h : addC l k c = some x) : ∃ y, c = some y ∧ x = (l ++ y.1, k + y.2) := by
  cases c with
  | none => cases h
  | some y => exact ⟨y, rfl, by unfold addC at h; simp at h; exact h.symm⟩
/-- Induction over what is found: the lists are as long as the weights, and the cost lies between that of the least and that of the greatest length. -/
theorem bst_bd {r L : Nat} : ∀ (ws : List Int), (∀ w ∈ ws, 0 ≤ w) → ∀ (q fr room : Nat), q = L + 1 - fr → ∀ x, bst r L ws fr room = some x →
    x.1.length = ws.length ∧ (fr : Int) * sumW ws ≤ x.2 ∧ x.2 ≤ (L : Int) * sumW ws ∧ ∀ n ∈ x.1, fr ≤ n ∧ n ≤ L
  | [], _, q, fr, room, _, x, hx => by
    rw [bst] at hx; cases hx
    refine ⟨rfl, by simp [sumW], by simp [sumW], by simp⟩
  | w :: ws, hw, 0, fr, room, hq, x, hx => by
    rw [bst_end (by omega)] at hx; cases hx
  | w :: ws, hw, q + 1, fr, room, hq, x, hx => by
    have hw0 := hw w (by simp)
    have hws : ∀ x ∈ ws, 0 ≤ x := fun x hx => hw x (by simp [hx])
    have hs := sumW_nonneg hws
    rw [bst_step (by omega)] at hx
    rcases pickC_some hx with h | h
    · split at h
      · obtain ⟨y, hy, rfl⟩ := addC_some h
        have ih := bst_bd ws hws _ fr _ rfl y hy
        have hL : (fr : Int) ≤ (L : Int) := by omega
        have h5 : w * (fr : Int) ≤ w * (L : Int) := Int.mul_le_mul_of_nonneg_left hL hw0
        have e1 : (fr : Int) * (w + sumW ws) = w * (fr : Int) + (fr : Int) * sumW ws := by rw [Int.mul_add, Int.mul_comm]
        have e2 : (L : Int) * (w + sumW ws) = w * (L : Int) + (L : Int) * sumW ws := by rw [Int.mul_add, Int.mul_comm]
        refine ⟨by simp [ih.1], ?_, ?_, ?_⟩
        · simp only [sumW]; rw [e1]; have := ih.2.1; omega
        · simp only [sumW]; rw [e2]; have := ih.2.2.1; omega
        · intro n hn
          rcases List.mem_append.1 hn with h1 | h1
          · simp at h1; subst h1; exact ⟨Nat.le_refl _, by omega⟩
          · exact ih.2.2.2 n h1
      · cases h
    · have ih := bst_bd (w :: ws) hw q (fr + 1) room (by omega) x h
      have h0 := sumW_nonneg hw
      have e : ((fr + 1 : Nat) : Int) * sumW (w :: ws) = (fr : Int) * sumW (w :: ws) + sumW (w :: ws) := by rw [Int.natCast_add, Int.add_mul]; simp
      refine ⟨ih.1, by have := ih.2.1; omega, ih.2.2.1, fun n hn => ?_⟩
      have := ih.2.2.2 n hn
      omega
/-- With some free places at a level. -/
def lvl (r L : Nat) (ws : List Int) (level free : Nat) : Cand := bst r L ws level (free * r ^ (L - level))
theorem lvl_nil {r L level free : Nat} : lvl r L [] level free = some ([], 0) := by unfold lvl; rw [bst]
theorem lvl_end {r L level free : Nat} {ws : List Int} (hw : ws ≠ []) (h : L < level) : lvl r L ws level free = Option.none := by
  cases ws with
  | nil => exact absurd rfl hw
  | cons w ws => exact bst_end h
theorem lvl_next {r L level free : Nat} {w : Int} {ws : List Int} (h : level ≤ L) : bst r L (w :: ws) (level + 1) (free * r ^ (L - level)) = lvl r L (w :: ws) (level + 1) (free * r) := by
  rcases Nat.lt_or_ge level L with h1 | h1
  · unfold lvl
    rw [show L - level = (L - (level + 1)) + 1 by omega, Nat.pow_succ, Nat.mul_assoc, Nat.mul_comm (r ^ (L - (level + 1))) r]
  · rw [lvl_end (by simp) (by omega), bst_end (by omega)]
theorem lvl_step {r L level free : Nat} {w : Int} {ws : List Int} (hr : 1 ≤ r) (h : level ≤ L) :
    lvl r L (w :: ws) level (free + 1) = pickC (addC [level] (w * (level : Int)) (lvl r L ws level free)) (lvl r L (w :: ws) (level + 1) ((free + 1) * r)) := by
  have hp : 1 ≤ r ^ (L - level) := Nat.one_le_pow _ _ hr
  conv => lhs; unfold lvl
  rw [bst_step h, lvl_next h, if_pos (by rw [Nat.add_mul]; omega)]
  unfold lvl
  rw [show (free + 1) * r ^ (L - level) - r ^ (L - level) = free * r ^ (L - level) by rw [Nat.add_mul]; omega]
theorem lvl_none {r L : Nat} {w : Int} {ws : List Int} (hr : 1 ≤ r) : ∀ (q level : Nat), q = L + 1 - level → lvl r L (w :: ws) level 0 = Option.none
  | 0, level, hq => lvl_end (by simp) (by omega)
  | q + 1, level, hq => by
    have hp : 1 ≤ r ^ (L - level) := Nat.one_le_pow _ _ hr
    have ih := lvl_none (L := L) (w := w) (ws := ws) hr q (level + 1) (by omega)
    have h2 := lvl_next (r := r) (L := L) (free := 0) (w := w) (ws := ws) (show level ≤ L by omega)
    unfold lvl
    rw [Nat.zero_mul] at h2 ⊢
    rw [bst_step (by omega), if_neg (by omega), h2, Nat.zero_mul, ih]; rfl
/-- Enough places for all. -/
theorem lvl_all {r L : Nat} (hr : 1 ≤ r) : ∀ (ws : List Int), (∀ w ∈ ws, 0 ≤ w) → ∀ (level free : Nat), level ≤ L → ws.length ≤ free →
    lvl r L ws level free = some (List.replicate ws.length level, (level : Int) * sumW ws)
  | [], _, level, free, _, _ => by rw [lvl_nil]; simp [sumW]
  | w :: ws, hw, level, free, hl, hf => by
    obtain ⟨f, rfl⟩ : ∃ f, free = f + 1 := ⟨free - 1, by simp at hf; omega⟩
    have hws : ∀ x ∈ ws, 0 ≤ x := fun x hx => hw x (by simp [hx])
    rw [lvl_step hr hl, lvl_all hr ws hws level f hl (by simp at hf; omega)]
    have e1 : (level : Int) * (w + sumW ws) = w * (level : Int) + (level : Int) * sumW ws := by rw [Int.mul_add, Int.mul_comm]
    have e2 : addC [level] (w * (level : Int)) (some (List.replicate ws.length level, (level : Int) * sumW ws)) = some (List.replicate (w :: ws).length level, (level : Int) * sumW (w :: ws)) := by
      simp only [addC, Option.map, sumW, e1]; rfl
    rw [e2]
    cases hc : lvl r L (w :: ws) (level + 1) ((f + 1) * r) with
    | none => rfl
    | some y =>
      have hb := (bst_bd (w :: ws) hw _ (level + 1) _ rfl y hc).2.1
      have h0 := sumW_nonneg hw
      have e : ((level + 1 : Nat) : Int) * sumW (w :: ws) = (level : Int) * sumW (w :: ws) + sumW (w :: ws) := by rw [Int.natCast_add, Int.add_mul]; simp
      simp only [pickC]
      rw [if_neg (by omega)]
/-- More places than words help no more. -/
theorem lvl_clip {r L : Nat} (hr : 1 ≤ r) {ws : List Int} (hw : ∀ w ∈ ws, 0 ≤ w) {level f g : Nat} (hf : ws.length ≤ f) (hg : ws.length ≤ g) : lvl r L ws level f = lvl r L ws level g := by
  rcases Nat.lt_or_ge L level with h | h
  · cases ws with
    | nil => rw [lvl_nil, lvl_nil]
    | cons w ws => rw [lvl_end (by simp) h, lvl_end (by simp) h]
  · rw [lvl_all hr ws hw level f h hf, lvl_all hr ws hw level g h hg]
theorem lvl_min {r L : Nat} (hr : 1 ≤ r) {ws : List Int} (hw : ∀ w ∈ ws, 0 ≤ w) {level f : Nat} : lvl r L ws level (min f ws.length) = lvl r L ws level f := by
  rcases Nat.le_total f ws.length with h | h
  · rw [Nat.min_eq_left h]
  · exact lvl_clip hr hw (by omega) h
/-- The first of the least ones from f down to 0. -/
def pickDown (g : Nat → Cand) : Nat → Cand
  | 0 => g 0
  | f + 1 => pickC (g (f + 1)) (pickDown g f)
theorem pickDown_congr {g h : Nat → Cand} : ∀ f, (∀ t, t ≤ f → g t = h t) → pickDown g f = pickDown h f
  | 0, e => e 0 (Nat.le_refl _)
  | f + 1, e => by rw [pickDown, pickDown, e (f + 1) (Nat.le_refl _), pickDown_congr f (fun t ht => e t (by omega))]
theorem pickDown_add {g : Nat → Cand} {l : List Nat} {k : Int} : ∀ f, addC l k (pickDown g f) = pickDown (fun t => addC l k (g t)) f
  | 0 => rfl
  | f + 1 => by rw [pickDown, pickDown, addC_pick, pickDown_add f]
theorem pickDown_up {g : Nat → Cand} : ∀ f, pickDown g (f + 1) = pickC (pickDown (fun t => g (t + 1)) f) (g 0)
  | 0 => rfl
  | f + 1 => by
    rw [pickDown, pickDown_up f, pickDown, ← pickC_assoc]
/-- As many words as told end at a level. -/
def cand (r L : Nat) (ws : List Int) (level f take : Nat) : Cand := addC (List.replicate take level) ((level : Int) * sumW (ws.take take)) (lvl r L (ws.drop take) (level + 1) ((f - take) * r))
theorem lvl_take {r L : Nat} (hr : 1 ≤ r) {level : Nat} (hl : level ≤ L) : ∀ (ws : List Int) (f : Nat), f ≤ ws.length → lvl r L ws level f = pickDown (cand r L ws level f) f
  | [], f, hf => by
    obtain rfl : f = 0 := by simpa using hf
    simp only [pickDown, cand]
    rw [List.take_nil, List.drop_nil, lvl_nil, lvl_nil]; simp [addC, sumW]
  | w :: ws, 0, _ => by
    simp only [pickDown, cand]
    rw [List.take_zero, List.drop_zero, Nat.zero_mul, lvl_none hr _ _ rfl, lvl_none hr _ _ rfl]; rfl
  | w :: ws, f + 1, hf => by
    rw [lvl_step hr hl, lvl_take hr hl ws f (by simp at hf; omega), pickDown_add, pickDown_up]
    have e0 : cand r L (w :: ws) level (f + 1) 0 = lvl r L (w :: ws) (level + 1) ((f + 1) * r) := by
      simp only [cand]
      rw [List.take_zero, List.drop_zero, Nat.sub_zero]
      simp only [List.replicate_zero, sumW, Int.mul_zero]
      exact addC_nil _
    rw [e0]
    congr 1
    refine pickDown_congr f (fun t _ => ?_)
    simp only [cand]
    rw [addC_add, List.take_succ_cons, List.drop_succ_cons, show f + 1 - (t + 1) = f - t by omega]
    have e1 : (level : Int) * (w + sumW (ws.take t)) = w * (level : Int) + (level : Int) * sumW (ws.take t) := by rw [Int.mul_add, Int.mul_comm]
    rw [show List.replicate (t + 1) level = [level] ++ List.replicate t level from rfl]
    simp only [sumW]
    rw [e1]
/-- The cost of what is still to be given lengths of at least some level, if each weight costs its own for each level. -/
def relC (r L : Nat) (ws : List Int) (level free : Nat) : Int := match lvl r L ws level free with
  | Option.none => 1000000000
  | some x => x.2 - ((level : Int) - 1) * sumW ws
def withC (r L : Nat) (ws : List Int) (level f take : Nat) : Int := min 1000000000 (sumW ws + relC r L (ws.drop take) (level + 1) ((f - take) * r))
/-- What is found is cheap. -/
theorem lvl_cheap {r L : Nat} {ws : List Int} (hw : ∀ w ∈ ws, 0 ≤ w) {level free : Nat} {x : List Nat × Int} (h : lvl r L ws level free = some x) : (level : Int) * sumW ws ≤ x.2 ∧ x.2 ≤ (L : Int) * sumW ws :=
  ⟨(bst_bd ws hw _ level _ rfl x h).2.1, (bst_bd ws hw _ level _ rfl x h).2.2.1⟩
theorem sum_split (ws : List Int) (t : Nat) : sumW ws = sumW (ws.take t) + sumW (ws.drop t) := by rw [← sumW_app, List.take_append_drop]
/-- The cost of a candidate. -/
theorem cand_cost {r L : Nat} {ws : List Int} (hw : ∀ w ∈ ws, 0 ≤ w) {level f t : Nat} (h1 : 1 ≤ level) (hl : 1 ≤ L) (hL : (L : Int) * sumW ws < 1000000000) :
    withC r L ws level f t = match cand r L ws level f t with
      | Option.none => 1000000000
      | some x => x.2 - ((level : Int) - 1) * sumW ws := by
  have hwd : ∀ w ∈ ws.drop t, 0 ≤ w := fun w hm => hw w (List.mem_of_mem_drop hm)
  have hwt : ∀ w ∈ ws.take t, 0 ≤ w := fun w hm => hw w (List.mem_of_mem_take hm)
  have h0 := sumW_nonneg hw
  have hd0 := sumW_nonneg hwd
  have ht0 := sumW_nonneg hwt
  have hsp := sum_split ws t
  unfold withC relC cand
  cases hc : lvl r L (ws.drop t) (level + 1) ((f - t) * r) with
  | none =>
    show min 1000000000 (sumW ws + 1000000000) = 1000000000
    omega
  | some y =>
    have hb := lvl_cheap hwd hc
    simp only [addC, Option.map]
    have e1 : (((level + 1 : Nat) : Int) - 1) * sumW (ws.drop t) = (level : Int) * sumW (ws.drop t) := by congr 1; omega
    have e2 : ((level : Int) - 1) * sumW ws = (level : Int) * sumW (ws.take t) + (level : Int) * sumW (ws.drop t) - sumW ws := by rw [Int.sub_mul, Int.one_mul, hsp, Int.mul_add]
    have e3 : ((level + 1 : Nat) : Int) * sumW (ws.drop t) = (level : Int) * sumW (ws.drop t) + sumW (ws.drop t) := by rw [Int.natCast_add, Int.add_mul]; simp
    have h3 : (L : Int) * sumW ws = (L : Int) * sumW (ws.take t) + (L : Int) * sumW (ws.drop t) := by rw [hsp, Int.mul_add]
    have h4 : 0 ≤ (L : Int) * sumW (ws.take t) := Int.mul_nonneg (by omega) ht0
    have h5 : 0 ≤ (level : Int) * sumW (ws.drop t) := Int.mul_nonneg (by omega) hd0
    have h6 : sumW (ws.take t) ≤ (L : Int) * sumW (ws.take t) := by
      have := Int.mul_le_mul_of_nonneg_right (show (1 : Int) ≤ (L : Int) by omega) ht0
      omega
    have h7 : sumW (ws.drop t) ≤ (level : Int) * sumW (ws.drop t) := by
      have := Int.mul_le_mul_of_nonneg_right (show (1 : Int) ≤ (level : Int) by omega) hd0
      omega
    rw [e1, e2, Int.min_eq_right (by omega)]
    show _ = (level : Int) * sumW (ws.take t) + y.2 - ((level : Int) * sumW (ws.take t) + (level : Int) * sumW (ws.drop t) - sumW ws)
    omega
theorem pickDown_some {g : Nat → Cand} : ∀ (f : Nat) (x : List Nat × Int), pickDown g f = some x →
    ∃ t, t ≤ f ∧ g t = some x ∧ (∀ s, s ≤ f → ∀ y, g s = some y → x.2 ≤ y.2) ∧ (∀ s, t < s → s ≤ f → ∀ y, g s = some y → x.2 < y.2)
  | 0, x, h => ⟨0, Nat.le_refl _, h, fun s hs y hy => by
      obtain rfl : s = 0 := by omega
      rw [pickDown] at h; rw [h] at hy; cases hy; exact Int.le_refl _, fun s h1 h2 => by omega⟩
  | f + 1, x, h => by
    rw [pickDown] at h
    cases hg : g (f + 1) with
    | none =>
      rw [hg] at h
      obtain ⟨t, h1, h2, h3, h4⟩ := pickDown_some f x h
      refine ⟨t, by omega, h2, fun s hs y hy => ?_, fun s h5 h6 y hy => ?_⟩
      · rcases Nat.lt_or_ge f s with h7 | h7
        · obtain rfl : s = f + 1 := by omega
          rw [hg] at hy; cases hy
        · exact h3 s h7 y hy
      · rcases Nat.lt_or_ge f s with h7 | h7
        · obtain rfl : s = f + 1 := by omega
          rw [hg] at hy; cases hy
        · exact h4 s h5 h7 y hy
    | some z =>
      rw [hg] at h
      cases hp : pickDown g f with
      | none =>
        rw [hp] at h
        cases h
        refine ⟨f + 1, Nat.le_refl _, hg, fun s hs y hy => ?_, fun s h5 h6 => by omega⟩
        rcases Nat.lt_or_ge f s with h7 | h7
        · obtain rfl : s = f + 1 := by omega
          rw [hg] at hy; cases hy; exact Int.le_refl _
        · exact absurd hy (by rw [pickDown_none f hp s h7]; simp)
      | some u =>
        rw [hp] at h
        obtain ⟨t, h1, h2, h3, h4⟩ := pickDown_some f u hp
        simp only [pickC] at h
        split at h
        · rename_i hlt
          cases h
          refine ⟨t, by omega, h2, fun s hs y hy => ?_, fun s h5 h6 y hy => ?_⟩
          · rcases Nat.lt_or_ge f s with h7 | h7
            · obtain rfl : s = f + 1 := by omega
              rw [hg] at hy; cases hy; omega
            · exact h3 s h7 y hy
          · rcases Nat.lt_or_ge f s with h7 | h7
            · obtain rfl : s = f + 1 := by omega
              rw [hg] at hy; cases hy; omega
            · exact h4 s h5 h7 y hy
        · rename_i hlt
          cases h
          refine ⟨f + 1, Nat.le_refl _, hg, fun s hs y hy => ?_, fun s h5 h6 => by omega⟩
          rcases Nat.lt_or_ge f s with h7 | h7
          · obtain rfl : s = f + 1 := by omega
            rw [hg] at hy; cases hy; exact Int.le_refl _
          · have := h3 s h7 y hy
            omega
where pickDown_none {g : Nat → Cand} : ∀ (f : Nat), pickDown g f = Option.none → ∀ s, s ≤ f → g s = Option.none
  | 0, h, s, hs => by obtain rfl : s = 0 := by omega
                      exact h
  | f + 1, h, s, hs => by
    rw [pickDown] at h
    cases hg : g (f + 1) with
    | none =>
      rw [hg] at h
      rcases Nat.lt_or_ge f s with h7 | h7
      · obtain rfl : s = f + 1 := by omega
        exact hg
      · exact pickDown_none f h s h7
    | some z =>
      rw [hg] at h
      cases hp : pickDown g f with
      | none => rw [hp] at h; cases h
      | some u =>
        rw [hp] at h
        simp only [pickC] at h
        split at h <;> cases h
/-- One level of the list: as many words as can end there at the least cost. -/
theorem lvl_greedy {r L : Nat} (hr : 1 ≤ r) {ws : List Int} (hw : ∀ w ∈ ws, 0 ≤ w) {level f : Nat} (hf : f ≤ ws.length) (h1 : 1 ≤ level) (h2 : level ≤ L) (hL : (L : Int) * sumW ws < 1000000000)
    {x : List Nat × Int} (hx : lvl r L ws level f = some x) :
    ∃ t y, t ≤ f ∧ withC r L ws level f t = relC r L ws level f ∧ (∀ s, t < s → s ≤ f → relC r L ws level f < withC r L ws level f s) ∧ lvl r L (ws.drop t) (level + 1) ((f - t) * r) = some y ∧ x.1 = List.replicate t level ++ y.1 := by
  have hcc := fun t => cand_cost (r := r) (f := f) (t := t) hw h1 (show 1 ≤ L by omega) hL
  have hb := lvl_cheap hw hx
  have h0 := sumW_nonneg hw
  have hrel : relC r L ws level f = x.2 - ((level : Int) - 1) * sumW ws := by unfold relC; rw [hx]
  have hp := hx
  rw [lvl_take hr h2 ws f hf] at hp
  obtain ⟨t, ht, hc, hmin, hlt⟩ := pickDown_some f x hp
  have hy := hc
  unfold cand at hy
  obtain ⟨y, hy1, hy2⟩ := addC_some hy
  refine ⟨t, y, ht, ?_, fun s hs1 hs2 => ?_, hy1, by rw [hy2]⟩
  · rw [hcc t, hc, hrel]
  · rw [hcc s, hrel]
    have h3 : 0 ≤ ((level : Int) - 1) * sumW ws := Int.mul_nonneg (by omega) h0
    cases hd : cand r L ws level f s with
    | none => show _ < (1000000000 : Int); omega
    | some z =>
      have := hlt s hs1 hs2 z hd
      show _ < z.2 - ((level : Int) - 1) * sumW ws
      omega
end Go.Proofs.Ytjnkdjokbamibaa
/- Contracts: a stable sort of at most twenty indices by a comparison that only reads. -/
namespace Go.Proofs.Ytjnkdjokbamibaa
open Go.RowKit
theorem Only.trans {b : Option Nat} {a v w : World} (h : Only b a v) (k : Only b v w) : Only b a w :=
  ⟨k.os.trans h.os, k.tape.trans h.tape, k.output.trans h.output, k.size.trans h.size, fun i hi => (k.block i hi).trans (h.block i hi)⟩
end Go.Proofs.Ytjnkdjokbamibaa
/- Contracts: the stable sort of a program's order, its comparison of lengths; the digits of a number. -/
namespace Go.Proofs.Ytjnkdjokbamibaa
open Go.RowKit
theorem RdI.getD {w : World} {hi : Nat} {v : Value} {xs : List Int} (h : RdI w hi v xs) {k : Nat} (hk : k < xs.length) :
    ∃ b off c, v = .slice (some ⟨b, off, Option.none⟩) xs.length c ∧ b < hi ∧ w.cell? ⟨b, off + k, Option.none⟩ = some (.int .i64 (xs.getD k 0)) := by
  obtain ⟨b, off, c, y, hv, hb, hy, hc⟩ := Rd.at_ h hk
  refine ⟨b, off, c, hv, hb, ?_⟩
  rw [hc, List.getD_eq_getElem?_getD, hy]; rfl
/-- The last digits of a number stand, the number is cut. -/
def DigTo (r n len k m : Nat) (D : List Int) : Prop := digL r n len = digL r m k ++ D ∧ m ≤ n
theorem DigTo.start (r n len : Nat) : DigTo r n len len n [] := ⟨by simp, Nat.le_refl _⟩
theorem DigTo.step {r n len k m : Nat} {D : List Int} (h : DigTo r n len (k + 1) m D) : DigTo r n len k (m / r) (((m % r : Nat) : Int) :: D) := by
  refine ⟨?_, Nat.le_trans (Nat.div_le_self _ _) h.2⟩
  rw [h.1, digL]; simp
theorem DigTo.done {r n len m : Nat} {D : List Int} (h : DigTo r n len 0 m D) : D = digL r n len := by rw [h.1, digL]; rfl
end Go.Proofs.Ytjnkdjokbamibaa
/- Contracts: CanonicalCode of the reference. -/
namespace Go.Proofs.Ytjnkdjokbamibaa
open Go.RowKit
/-- One row is put in the place of another one. -/
theorem RowsO.put {w : World} {lo mid hi j : Nat} {us : List Value} {xss : List (List Int)} {u : Value} {xs : List Int} (h : RowsO w lo mid us xss) (hu : OwI w mid hi u xs) (h1 : lo ≤ mid) (h2 : mid ≤ hi) : RowsO w lo hi (us.set j u) (xss.set j xs) := by
  have hl := h.1
  refine ⟨by simp [hl], fun i a b ha hb => ?_, fun i k a b hik ha hb g hg => ?_⟩
  · by_cases e : j = i
    · subst e
      rcases Nat.lt_or_ge j us.length with hi2 | hi2
      · rw [List.getElem?_set_self hi2] at ha
        rw [List.getElem?_set_self (by omega)] at hb
        cases ha; cases hb
        exact hu.mono h1 (Nat.le_refl _)
      · rw [List.getElem?_eq_none (by simpa using hi2)] at ha; cases ha
    · rw [List.getElem?_set_ne e] at ha hb
      exact (h.2.1 i a b ha hb).mono (Nat.le_refl _) h2
  · have hold : ∀ (i : Nat) (a : Value), us[i]? = some a → ∀ g, a.ownBlock = some g → g < mid := by
      intro i a ha g hg
      have hil := (List.getElem?_eq_some_iff.1 ha).1
      exact ((h.2.1 i a xss[i] ha (List.getElem?_eq_getElem (by omega))).range g hg).2
    have hget : ∀ (i : Nat) (a : Value), (us.set j u)[i]? = some a → (i = j ∧ a = u) ∨ (i ≠ j ∧ us[i]? = some a) := by
      intro i a ha
      by_cases e : j = i
      · subst e
        rcases Nat.lt_or_ge j us.length with hi2 | hi2
        · rw [List.getElem?_set_self hi2] at ha; cases ha; exact .inl ⟨rfl, rfl⟩
        · rw [List.getElem?_eq_none (by simpa using hi2)] at ha; cases ha
      · rw [List.getElem?_set_ne e] at ha
        exact .inr ⟨fun e2 => e e2.symm, ha⟩
    intro hg2
    rcases hget i a ha with ⟨rfl, rfl⟩ | ⟨_, ha2⟩
    · rcases hget k b hb with ⟨rfl, rfl⟩ | ⟨_, hb2⟩
      · omega
      · have := hold k b hb2 g hg2
        have := (hu.range g hg).1
        omega
    · rcases hget k b hb with ⟨rfl, rfl⟩ | ⟨_, hb2⟩
      · have := hold i a ha2 g hg
        have := (hu.range g hg2).1
        omega
      · exact h.2.2 i k a b hik ha2 hb2 g hg hg2
/-- Rows that are all empty. -/
theorem RowsO.empty (w : World) (lo hi n : Nat) : RowsO w lo hi (List.replicate n (.slice Option.none 0 0)) (List.replicate n []) := by
  refine ⟨by simp, fun i u xs hu hx => ?_, fun i k a b _ ha _ g hg => ?_⟩
  · rw [List.getElem?_replicate] at hu hx
    split at hu
    · rw [if_pos (by assumption)] at hx
      cases hu; cases hx
      exact owI_nil _ _ _
    · cases hu
  · rw [List.getElem?_replicate] at ha
    split at ha
    · cases ha; cases hg
    · cases ha
theorem RowsO.form {w : World} {lo hi i : Nat} {us : List Value} {xss : List (List Int)} (h : RowsO w lo hi us xss) (hi2 : i < us.length) : ∃ A n c, us[i]? = some (.slice A n c) := by
  have hl := h.1
  obtain ⟨A, c, hv, _⟩ := (h.2.1 i us[i] xss[i] (List.getElem?_eq_getElem hi2) (List.getElem?_eq_getElem (by omega))).form
  exact ⟨A, _, c, by rw [List.getElem?_eq_getElem hi2, hv]⟩
end Go.Proofs.Ytjnkdjokbamibaa
/- Contracts: CanonicalCode of the program. -/
namespace Go.Proofs.Ytjnkdjokbamibaa
open Go.RowKit
theorem Only.bel {w w' : World} {g lo : Nat} (h : Only (some g) w w') (hl : lo ≤ g) : Below lo w w' :=
  ⟨h.os, h.tape, h.output, Nat.le_of_eq h.size.symm, fun k hk => h.block k (by intro e; cases e; omega)⟩
end Go.Proofs.Ytjnkdjokbamibaa
/- Contracts: the search of the least lengths. -/
namespace Go.Proofs.Ytjnkdjokbamibaa
open Go.RowKit
/-- Below block B nothing but block S has turned. -/
structure ButS (B S : Nat) (w w' : World) : Prop where
  os : w'.os = w.os
  tape : w'.tape = w.tape
  output : w'.output = w.output
  size : w.heap.size ≤ w'.heap.size
  block : ∀ k, k < B → k ≠ S → w'.heap[k]? = w.heap[k]?
theorem ButS.refl (B S : Nat) (w : World) : ButS B S w w := ⟨rfl, rfl, rfl, Nat.le_refl _, fun _ _ _ => rfl⟩
theorem ButS.trans {B S : Nat} {a b c : World} (h : ButS B S a b) (k : ButS B S b c) : ButS B S a c :=
  ⟨k.os.trans h.os, k.tape.trans h.tape, k.output.trans h.output, Nat.le_trans h.size k.size, fun i h1 h2 => (k.block i h1 h2).trans (h.block i h1 h2)⟩
theorem ButS.cell {B S : Nat} {w w' : World} (h : ButS B S w w') {b o : Nat} (hb : b < B) (hne : b ≠ S) : w'.cell? ⟨b, o, Option.none⟩ = w.cell? ⟨b, o, Option.none⟩ := by
  unfold World.cell?
  rw [h.block b hb hne]
end Go.Proofs.Ytjnkdjokbamibaa
/- Contracts of the tests whether words are a code, and of the words written one after the other; of the program and of the reference. -/
namespace Go.Proofs.Ytjnkdjokbamibaa
open Go.RowKit
def wordOk (xs : List Int) : Bool := inB xs.length 1 6 && allB xs 0 59
def noClash (xss : List (List Int)) : Bool := (List.range xss.length).all fun i => (List.range xss.length).all fun k => i == k || !begB (xss.getD i []) (xss.getD k [])
def codeB (xss : List (List Int)) : Bool := inB xss.length 1 20 && (xss.all wordOk && noClash xss)
end Go.Proofs.Ytjnkdjokbamibaa
/- Plain laws on reading words: the first word that begins digits is the only one; the words read one after the other. -/
namespace Go.Proofs.Ytjnkdjokbamibaa
open Go.RowKit
/-- The first word that begins digits. -/
def ixC (code : List (List Int)) (ds : List Int) : Option Nat := code.findIdx? fun x => begB x ds
def readF (code : List (List Int)) : Nat → List Int → Option (List Int)
  | _, [] => some []
  | 0, _ :: _ => Option.none
  | n + 1, d :: ds => match ixC code (d :: ds) with
    | Option.none => Option.none
    | some i => (readF code n ((d :: ds).drop (code.getD i []).length)).map fun r => (i : Int) :: r
def readW (code : List (List Int)) (ds : List Int) : Option (List Int) := readF code ds.length ds
theorem readW_nil (code : List (List Int)) : readW code [] = some [] := rfl
theorem code_pos {code : List (List Int)} (h : codeB code = true) {x : List Int} (hx : x ∈ code) : 1 ≤ x.length ∧ x.length ≤ 6 := by
  unfold codeB at h
  simp only [Bool.and_eq_true, List.all_eq_true] at h
  have := h.2.1 x hx
  unfold wordOk at this
  rw [Bool.and_eq_true, inB_iff] at this
  omega
theorem ixC_some {code : List (List Int)} {ds : List Int} {i : Nat} (h : ixC code ds = some i) : ∃ x, code[i]? = some x ∧ begB x ds = true ∧ i < code.length := by
  unfold ixC at h
  rw [List.findIdx?_eq_some_iff_getElem] at h
  obtain ⟨hl, h1, _⟩ := h
  exact ⟨code[i], List.getElem?_eq_getElem hl, h1, hl⟩
theorem readF_enough {code : List (List Int)} (h : codeB code = true) : ∀ (n : Nat) (ds : List Int), ds.length ≤ n → readF code n ds = readF code ds.length ds
  | _, [], _ => by cases ‹Nat› <;> rfl
  | 0, d :: ds, hl => by simp at hl
  | n + 1, d :: ds, hl => by
    simp only [List.length_cons, readF]
    cases e : ixC code (d :: ds) with
    | none => rfl
    | some i =>
      obtain ⟨x, hx, hb, _⟩ := ixC_some e
      have hp := code_pos h (List.mem_of_getElem? hx)
      have hg : code.getD i [] = x := by rw [List.getD_eq_getElem?_getD, hx]; rfl
      have hlen : ((d :: ds).drop x.length).length ≤ ds.length := by rw [List.length_drop, List.length_cons]; omega
      simp only [hg]
      rw [readF_enough h n _ (by simp only [List.length_cons] at hl; omega), readF_enough h ds.length _ hlen]
theorem readW_step {code : List (List Int)} (h : codeB code = true) {ds x : List Int} {i : Nat} (he : ixC code ds = some i) (hx : code[i]? = some x) (hd : 0 < ds.length) : readW code ds = (readW code (ds.drop x.length)).map fun r => (i : Int) :: r := by
  cases ds with
  | nil => simp at hd
  | cons d ds =>
    have hp := code_pos h (List.mem_of_getElem? hx)
    have hg : code.getD i [] = x := by rw [List.getD_eq_getElem?_getD, hx]; rfl
    unfold readW
    simp only [List.length_cons, readF, he, hg]
    rw [readF_enough h ds.length _ (by rw [List.length_drop, List.length_cons]; omega)]
/-- What is read so far, and what is left. -/
def ReadTo (code : List (List Int)) (ds L rest : List Int) : Prop := readW code ds = (readW code rest).map fun r => L ++ r
theorem ReadTo.start (code : List (List Int)) (ds : List Int) : ReadTo code ds [] ds := by unfold ReadTo; cases readW code ds <;> simp
theorem ReadTo.next {code : List (List Int)} (h : codeB code = true) {ds L rest x : List Int} {i : Nat} (hr : ReadTo code ds L rest) (he : ixC code rest = some i) (hx : code[i]? = some x) (hd : 0 < rest.length) : ReadTo code ds (L ++ [(i : Int)]) (rest.drop x.length) := by
  unfold ReadTo at *
  rw [hr, readW_step h he hx hd]
  cases readW code (rest.drop x.length) <;> simp
def digB (ds : List Int) : Bool := decide (ds.length ≤ 180) && allB ds 0 59
def readRes (code : List (List Int)) (ds : List Int) : List Int × Bool :=
  if codeB code && digB ds then match readW code ds with
    | some L => (L, true)
    | Option.none => ([], false)
  else ([], false)
theorem ReadTo.done {code : List (List Int)} {ds L : List Int} (hc : (codeB code && digB ds) = true) (h : ReadTo code ds L []) : readRes code ds = (L, true) := by
  unfold ReadTo at h
  rw [readW_nil] at h
  unfold readRes
  rw [hc, h]; simp
end Go.Proofs.Ytjnkdjokbamibaa
/- A list of rests in memory: each lies in old memory or is a row of the call's own; one more is put to the others; of the program and of the reference. -/
namespace Go.Proofs.Ytjnkdjokbamibaa
open Go.RowKit
/-- The slice value u reads as xs, in memory below B, or in a block of ints. -/
def El (w : World) (B : Nat) (u : Value) (xs : List Int) : Prop :=
  RdI w w.heap.size u xs ∧ ∀ (b off n c : Nat), u = .slice (some ⟨b, off, Option.none⟩) n c → 0 < n → b < B ∨ ∃ cur fz, w.heap[b]? = some (.cells cur 3 fz)
theorem El.rd {w : World} {B : Nat} {u : Value} {xs : List Int} (h : El w B u xs) (_ : B ≤ w.heap.size) : RdI w w.heap.size u xs := h.1
theorem El.below {w w' : World} {B : Nat} {u : Value} {xs : List Int} (h : El w B u xs) (_ : B ≤ w.heap.size) (hb : Below w.heap.size w w') : El w' B u xs := by
  refine ⟨(RdI.below h.1 hb (Nat.le_refl _)).mono hb.size, fun b off n c hu hn => ?_⟩
  rcases h.2 b off n c hu hn with h2 | ⟨cur, fz, h2⟩
  · exact .inl h2
  · exact .inr ⟨cur, fz, (hb.block b (Array.getElem?_eq_some_iff.1 h2).1).trans h2⟩
/-- Blocks other than rows of slices, and boxes of such, stand. -/
def Fr (w w' : World) : Prop := ∀ (k : Nat) (c : Array Value) (e : TypeId) (fz : Nat × Nat), w.heap[k]? = some (.cells c e fz) → e ≠ 35 → e ≠ 61 → w'.heap[k]? = some (.cells c e fz)
theorem Fr.refl (w : World) : Fr w w := fun _ _ _ _ h _ _ => h
theorem Fr.trans {a b c : World} (h : Fr a b) (g : Fr b c) : Fr a c := fun k x e fz hk h1 h2 => g k x e fz (h k x e fz hk h1 h2) h1 h2
theorem Blk.fr {w w' : World} {g : Nat} {t : TypeId} {cs : List Value} (h : Blk w g t cs) (hf : Fr w w') (h1 : t ≠ 35) (h2 : t ≠ 61) : Blk w' g t cs := hf _ _ _ _ h h1 h2
theorem El.fr {a w w' : World} {B : Nat} {u : Value} {xs : List Int} (h : El w B u xs) (hb : Below B a w) (hb' : Below B a w') (hs : w.heap.size ≤ w'.heap.size) (hf : Fr w w') : El w' B u xs := by
  obtain ⟨⟨h0, A, c, h1, h2, h3, h4⟩, h5⟩ := h
  refine ⟨⟨h0, A, c, h1, h2, h3, fun hn => ?_⟩, fun b off n c hu hn => ?_⟩
  · obtain ⟨b, off, hA, hbl, hc⟩ := h4 hn
    refine ⟨b, off, hA, by omega, fun j u hu => ?_⟩
    rcases h5 b off _ _ (by rw [h1, hA]) hn with h6 | ⟨cur, fz, h6⟩
    · rw [hb'.cell (p := ⟨b, off + j, Option.none⟩) h6, ← hb.cell (p := ⟨b, off + j, Option.none⟩) h6]
      exact hc j u hu
    · have h7 := hf _ _ _ _ h6 (by decide) (by decide)
      rw [← hc j u hu, cell_of_row w b (off + j) cur _ fz h6, cell_of_row w' b (off + j) cur _ fz h7]
  · rcases h5 b off n c hu hn with h6 | ⟨cur, fz, h6⟩
    · exact .inl h6
    · exact .inr ⟨cur, fz, hf _ _ _ _ h6 (by decide) (by decide)⟩
/-- v is a row of rests, appended to since the world w; below block number B nothing has turned. -/
def GrowL (w : World) (B : Nat) (wr : World) (v : Value) (xss : List (List Int)) : Prop :=
  (∃ us : List Value, us.length = xss.length ∧ (∀ (i : Nat) (u : Value) (xs : List Int), us[i]? = some u → xss[i]? = some xs → El wr B u xs) ∧ wr.ownsRow B 35 1 v xss.length us) ∧ Below B w wr ∧ B ≤ wr.heap.size
theorem GrowL.start (w : World) {B : Nat} (hB : B = w.heap.size) : GrowL w B w (.slice Option.none 0 0) [] := by
  subst hB
  exact ⟨⟨[], rfl, fun i u xs hu _ => by simp at hu, World.ownsRow_nil _ _ _ _⟩, Below.refl _ _, Nat.le_refl _⟩
theorem GrowL.belowR {w wr wr' : World} {B : Nat} {v : Value} {xss : List (List Int)} (h : GrowL w B wr v xss) (hb : Below wr.heap.size wr wr') : GrowL w B wr' v xss := by
  obtain ⟨⟨us, h1, h2, h3⟩, h4, h5⟩ := h
  exact ⟨⟨us, h1, fun i u xs hu hx => (h2 i u xs hu hx).below h5 hb, owns_below h3 (fun k hk => (h3.lt k hk).2) hb (Nat.le_refl _)⟩, h4.trans (hb.mono h5), Nat.le_trans h5 hb.size⟩
theorem GrowL.form {w wr : World} {B : Nat} {v : Value} {xss : List (List Int)} (h : GrowL w B wr v xss) : ∃ A c, v = .slice A xss.length c ∧ xss.length ≤ 9223372036854775807 := by
  obtain ⟨⟨us, h1, h2, h3⟩, h4, h5⟩ := h
  obtain ⟨A, c, hv, _, hm⟩ := Rd.form (rd_of_owns h3 (fun k hk => (h3.lt k hk).2))
  exact ⟨A, c, hv, hm⟩
theorem GrowL.rd {w wr : World} {B : Nat} {v : Value} {xss : List (List Int)} (h : GrowL w B wr v xss) : RdII wr wr.heap.size v xss := by
  obtain ⟨⟨us, h1, h2, h3⟩, h4, h5⟩ := h
  exact ⟨us, ⟨h1, fun i u xs hu hx => (h2 i u xs hu hx).rd h5⟩, rd_of_owns h3 (fun k hk => (h3.lt k hk).2)⟩
theorem GrowL.at_ {w wr : World} {B : Nat} {v : Value} {xss : List (List Int)} (h : GrowL w B wr v xss) {k : Nat} (hk : k < xss.length) :
    ∃ b off c u xs, v = .slice (some ⟨b, off, Option.none⟩) xss.length c ∧ xss[k]? = some xs ∧ wr.cell? ⟨b, off + k, Option.none⟩ = some u ∧ El wr B u xs := by
  obtain ⟨⟨us, h1, h2, h3⟩, h4, h5⟩ := h
  obtain ⟨_, A, c, hv, _, _, h6⟩ := rd_of_owns h3 (fun k hk => (h3.lt k hk).2)
  obtain ⟨b, off, rfl, hb, hc⟩ := h6 (by omega)
  have hu : us[k]? = some us[k] := by simp [show k < us.length by omega]
  exact ⟨b, off, c, us[k], xss[k], hv, by simp [hk], hc k _ hu, h2 k _ _ hu (by simp [hk])⟩
/-- One rest more behind the row. -/
theorem GrowL.app {w wr : World} {B : Nat} {v : Value} {xss : List (List Int)} {ops : Array Oper} {rest : List Oper} {o : Oper} {a : Act} {Q : Exit → Act → World → Prop} {A : Option Addr} {n c : Nat} {xs : List Int} (hgd : o.guard = Option.none) (s x : Operand)
    (ho : o.op = .call { callee := .builtin .append, args := #[s, x], argTypes := #[61, 61] }) (hG : GrowL w B wr v xss) (hu : El wr B (.slice A n c) xs) (hlen : xss.length < 1048576)
    (hs : a.eval s = v) (hx : a.eval x = .slice (some ⟨wr.heap.size, 0, Option.none⟩) 1 1)
    (h : ∀ v' w', GrowL w B w' v' (xss ++ [xs]) → Fr wr w' → wr.heap.size ≤ w'.heap.size → (∀ g, g < wr.heap.size → v.ownBlock ≠ some g → w'.heap[g]? = wr.heap[g]?) → wpList Try.prog ops Q rest (a.put o.dst v') w') : wpList Try.prog ops Q (o :: rest) a (wr.alloc (.cells #[.slice A n c] 35)) := by
  obtain ⟨i, hi, hz0, hz1, hz2⟩ := info_parts info_ints
  obtain ⟨⟨us, h1, h2, h3⟩, h4, h5⟩ := hG
  refine wpList_append_own _ hgd s x 61 ho B 35 i (.slice Option.none 0 0) 1 24 Try.underlying61 hi hz0 hz1 hz2 rfl (by decide) v xss.length us hs (h3.alloc _) ⟨wr.heap.size, 0, Option.none⟩ 1 1 [.slice A n c] hx rfl
    (one_cell _ _ _) (by intro u hu; simp at hu; subst hu; rfl) (by unfold maxLen; omega) (by omega) (by simp; omega) ?_
  intro v' w' hown hgr _
  have hsz := hgr.size
  have hsz2 : wr.heap.size + 1 ≤ w'.heap.size := by simpa using hsz
  have hfar : ∀ g, g < wr.heap.size → v.ownBlock ≠ some g → w'.heap[g]? = wr.heap[g]? := fun g hg hne => (hgr.block g (by simp; omega) (fun e => hne e.symm)).trans (Below.heap_alloc wr _ g hg)
  have hfr : Fr wr w' := by
    intro k cs e fz hk e1 e2
    have hlt := (Array.getElem?_eq_some_iff.1 hk).1
    rw [hfar k hlt (fun hv => ?_)]
    · exact hk
    · rcases h3.2 with ⟨rfl, _⟩ | ⟨g, cap, cur, rfl, _, hg, _⟩
      · cases hv
      · cases hv
        rw [hk] at hg
        cases hg
        exact e1 rfl
  have hb' : Below B w w' := (h4.alloc h5 _).grown hgr (by simp; omega) (fun k hk => ((h3.alloc (.cells #[.slice A n c] 35)).lt k hk).1)
  refine h v' w' ⟨⟨us ++ [.slice A n c], by simp [h1], fun j u ys hju hjy => ?_, by simpa using hown⟩, hb', by omega⟩ hfr (by omega) hfar
  rcases Nat.lt_or_ge j us.length with hj | hj
  · rw [List.getElem?_append_left hj] at hju
    rw [List.getElem?_append_left (by omega)] at hjy
    exact (h2 j u ys hju hjy).fr h4 hb' (by omega) hfr
  · rw [List.getElem?_append_right hj] at hju
    rw [List.getElem?_append_right (by omega)] at hjy
    have hj0 : j - us.length = 0 := by
      rcases Nat.eq_zero_or_pos (j - us.length) with e | e
      · exact e
      · rw [List.getElem?_eq_none (by simp; omega)] at hju; cases hju
    rw [hj0] at hju
    rw [show j - xss.length = 0 by omega] at hjy
    simp at hju hjy
    subst hju hjy
    exact hu.fr h4 hb' (by omega) hfr
theorem RdI.dropLe {w : World} {hi c : Nat} {b off : Nat} {xs : List Int} (h : RdI w hi (.slice (some ⟨b, off, Option.none⟩) xs.length c) xs) {k : Nat} (hk : k ≤ xs.length) :
    RdI w hi (.slice (some ⟨b, off + k, Option.none⟩) (xs.length - k) (c - k)) (xs.drop k) := by
  rcases Nat.lt_or_ge k xs.length with hlt | hge
  · exact h.drop hlt
  · obtain rfl : k = xs.length := by omega
    obtain ⟨h0, A', c', hv, h1, h2, _⟩ := h
    cases hv
    refine ⟨by simp, some ⟨b, off + xs.length, Option.none⟩, c - xs.length, by rw [List.length_drop], by rw [List.length_drop]; omega, by omega, fun h => ?_⟩
    rw [List.length_drop] at h
    omega
theorem El.drop {w : World} {B : Nat} {c : Nat} {b off : Nat} {xs : List Int} (h : El w B (.slice (some ⟨b, off, Option.none⟩) xs.length c) xs) {k : Nat} (hk : k ≤ xs.length) :
    El w B (.slice (some ⟨b, off + k, Option.none⟩) (xs.length - k) (c - k)) (xs.drop k) := by
  refine ⟨h.1.dropLe hk, fun b' off' n' c' hu hn => ?_⟩
  cases hu
  exact h.2 b off xs.length c rfl (by omega)
end Go.Proofs.Ytjnkdjokbamibaa
/- Contracts: the order of the weights, by the reference. -/
namespace Go.Proofs.Ytjnkdjokbamibaa
open Go.RowKit
/-- A slice of numbers is appended to a row of the call's own: the run. -/
theorem run_appR {w : World} {B hi : Nat} {v u : Value} {xs ys : List Int} (ty : TypeId) (hown : w.ownsRow B 3 1 v xs.length (ints xs)) (hB : B ≤ w.heap.size) (hR : RdI w hi u ys) (hlen : xs.length + ys.length ≤ 1048576) :
    ∃ v' w', (Builtin.append_ #[35, 35] ty #[v, u]).run Try.prog w = .ok v' w' ∧ w'.ownsRow B 3 1 v' (xs ++ ys).length (ints (xs ++ ys)) ∧ w.grownBy w' v.ownBlock := by
  obtain ⟨i, hi0, hz0, hz1, hz2⟩ := info_parts info_int
  obtain ⟨hl, A, c, rfl, hc1, hc2, hcell⟩ := hR
  rcases A with _ | ad
  · have h0 : ys = [] := by
      rcases Nat.eq_zero_or_pos ys.length with h | h
      · exact List.eq_nil_of_length_eq_zero h
      · obtain ⟨b, off, e, _⟩ := hcell h; cases e
    subst h0
    exact ⟨v, w, run_append_nil B 35 ty 3 i 1 Try.underlying35 hi0 v xs.length (ints xs) hown c, by simpa using hown, World.grownBy.refl _ _⟩
  · have hnews : ∀ j u, (ints ys)[j]? = some u → w.cell? (ad.add j) = some u := by
      intro j u hj
      rcases Nat.eq_zero_or_pos ys.length with h | h
      · rw [List.eq_nil_of_length_eq_zero h] at hj; simp at hj
      · obtain ⟨b, off, e, _, hcc⟩ := hcell h
        cases e
        rw [Go.WideShapes.add_plain]; exact hcc j u hj
    obtain ⟨v', w', hr, ho, hg, _⟩ := run_append_own (P := Try.prog) w B 35 ty 3 i (.int .i64 0) 1 8 Try.underlying35 hi0 hz0 hz1 hz2 rfl (by decide) v xs.length (ints xs) hown ad ys.length c (ints ys) (by simp) hnews
      (by intro u hu; simp at hu; obtain ⟨z, _, rfl⟩ := hu; rfl) (by unfold maxLen; omega) (by omega) hB
    exact ⟨v', w', hr, by simpa [ints] using ho, hg⟩
/-- The same at a step of a region that draws its order. -/
theorem step_appR {w0 w : World} {B hi : Nat} {v u : Value} {xs ys : List Int} {ops : Array Oper} {o : Oper} {a : Act} {K : Act → World → Prop} {Q : Exit → Act → World → Prop} {E : Prop} (hgd : o.guard = Option.none) (s x : Operand)
    (ho : o.op = .call { callee := .builtin .append, args := #[s, x], argTypes := #[35, 35] }) (hG : GrowI w0 B w v xs) (hR : RdI w hi u ys) (hlen : xs.length + ys.length ≤ 1048576) (hs : a.eval s = v) (hx : a.eval x = u)
    (h : ∀ v' w', GrowI w0 B w' v' (xs ++ ys) → K (a.put o.dst v') w') : if Region.wanted o (yielded ops a.tmps) = true then Oper.wp Try.prog o a w K Q else E := by
  have hw : Region.wanted o (yielded ops a.tmps) = true := by simp [Region.wanted, hgd]
  rw [if_pos hw]
  obtain ⟨v', w', hr, h1, h2⟩ := run_appR o.type hG.1 hG.2.2 hR hlen
  unfold Oper.wp execOp
  simp only [ho, resolve, invoke, builtin, Sem.run_bind, Sem.run_pure, Result.andThen_ok, List.map_toArray, List.map_cons, List.map_nil, hs, hx, hr]
  exact h v' w' ⟨h1, hG.2.1.grown h2 hG.2.2 (fun k hk => (hG.1.lt k hk).1), Nat.le_trans hG.2.2 h2.size⟩
theorem one_rd (w : World) (x : Int) : RdI (w.alloc (.cells #[.int .i64 x] 3)) (w.heap.size + 1) (.slice (some ⟨w.heap.size, 0, Option.none⟩) 1 1) [x] := by
  refine ⟨rfl, _, 1, rfl, Nat.le_refl _, by decide, fun _ => ⟨w.heap.size, 0, rfl, by omega, fun j u hj => ?_⟩⟩
  match j, hj with
  | 0, hj =>
    simp at hj; subst hj
    exact (Blk.new w 3 #[.int .i64 x]).cell 0
end Go.Proofs.Ytjnkdjokbamibaa
/- Contracts: the table of the reference, newly made. -/
namespace Go.Proofs.Ytjnkdjokbamibaa
open Go.RowKit
abbrev slN (g n : Nat) : Value := .slice (some ⟨g, 0, Option.none⟩) n n
/-- What is left of the weights from each index on. -/
def restL (Z : List Int) : List Int := (List.range (Z.length + 1)).map fun j => sumW (Z.drop j)
/-- Blocks of other types than some have not turned. -/
structure Frs (ts : List TypeId) (w w' : World) : Prop where
  os : w'.os = w.os
  tape : w'.tape = w.tape
  output : w'.output = w.output
  size : w.heap.size ≤ w'.heap.size
  block : ∀ (k : Nat) (c : Array Value) (e : TypeId) (fz : Nat × Nat), w.heap[k]? = some (.cells c e fz) → e ∉ ts → w'.heap[k]? = some (.cells c e fz)
theorem Frs.refl (ts : List TypeId) (w : World) : Frs ts w w := ⟨rfl, rfl, rfl, Nat.le_refl _, fun _ _ _ _ h _ => h⟩
theorem Frs.trans {ts : List TypeId} {a b c : World} (h : Frs ts a b) (k : Frs ts b c) : Frs ts a c :=
  ⟨k.os.trans h.os, k.tape.trans h.tape, k.output.trans h.output, Nat.le_trans h.size k.size, fun i x e fz h1 h2 => k.block i x e fz (h.block i x e fz h1 h2) h2⟩
/-- One level of the table: its rows lie in the blocks gs. -/
structure LevOk (w : World) (n1 : Nat) (x : Nat × Nat × List Nat) : Prop where
  len : x.2.2.length = n1
  row : ∃ cur : Array Value, w.heap[x.1]? = some (.cells cur 35 (0, 0)) ∧ cur.toList.take n1 = x.2.2.map fun g => slN g n1
  zero : ∀ g ∈ x.2.2, Blk w g 3 (ints (List.replicate n1 0))
theorem LevOk.below {B : Nat} {w w' : World} {n1 : Nat} {x : Nat × Nat × List Nat} (h : LevOk w n1 x) (hb : Below B w w') (hx : w.heap.size ≤ B) : LevOk w' n1 x := by
  obtain ⟨cur, hc, ht⟩ := h.row
  exact ⟨h.len, ⟨cur, (hb.block _ (by have := (Array.getElem?_eq_some_iff.1 hc).1; omega)).trans hc, ht⟩, fun g hg => (h.zero g hg).below hb (by have := (h.zero g hg).lt; omega)⟩
def lvV (n1 : Nat) (x : Nat × Nat × List Nat) : Value := .slice (some ⟨x.1, 0, Option.none⟩) n1 x.2.1
def flatG (lev : List (Nat × Nat × List Nat)) : List Nat := lev.flatMap fun x => x.2.2
structure Levs (w : World) (T n1 : Nat) (lev : List (Nat × Nat × List Nat)) : Prop where
  ok : ∀ x ∈ lev, LevOk w n1 x
  nodup : (flatG lev).Nodup
  range : ∀ g ∈ flatG lev, T < g ∧ g < w.heap.size
theorem Levs.nil (w : World) (T n1 : Nat) : Levs w T n1 [] := ⟨by simp, by simp [flatG], by simp [flatG]⟩
theorem Blk.heap_ne {w : World} {g h : Nat} {t t' : TypeId} {cs : List Value} {cur : Array Value} {fz : Nat × Nat} (hb : Blk w g t cs) (hh : w.heap[h]? = some (.cells cur t' fz)) (ht : t ≠ t') : g ≠ h := by
  rintro rfl
  unfold Blk at hb
  rw [hb] at hh
  cases hh
  exact ht rfl
end Go.Proofs.Ytjnkdjokbamibaa
/- Contracts: the reference makes its table. -/
namespace Go.Proofs.Ytjnkdjokbamibaa
open Go.RowKit
/-- What cmNew hands back. -/
def TabNew (Z : List Int) (r L : Nat) (w0 w : World) (T : Nat) : Prop := ∃ (K : Option Addr) (ck : Nat) (lev : List (Nat × Nat × List Nat)), w0.heap.size < T ∧ Blk w T 149 [slN w0.heap.size (Z.length + 1), .int .i64 (r : Int), .int .i64 (L : Int), .slice K (L + 1) ck] ∧
  Blk w w0.heap.size 3 (ints (restL Z)) ∧ lev.length = L + 1 ∧ w.ownsRow (T + 1) 61 1 (.slice K (L + 1) ck) (L + 1) (lev.map (lvV (Z.length + 1))) ∧ Levs w T (Z.length + 1) lev ∧ Below w0.heap.size w0 w
end Go.Proofs.Ytjnkdjokbamibaa
/- Contracts: the least cost by the table of the reference. -/
namespace Go.Proofs.Ytjnkdjokbamibaa
open Go.RowKit
def levAt (lev : List (Nat × Nat × List Nat)) (l : Nat) : Nat × Nat × List Nat := lev.getD l (0, 0, [])
def gAt (lev : List (Nat × Nat × List Nat)) (l d : Nat) : Nat := (levAt lev l).2.2.getD d 0
/-- Only blocks of the table's rows have turned. -/
structure FrG (gs : List Nat) (w w' : World) : Prop where
  os : w'.os = w.os
  tape : w'.tape = w.tape
  output : w'.output = w.output
  size : w'.heap.size = w.heap.size
  block : ∀ k, k ∉ gs → w'.heap[k]? = w.heap[k]?
theorem FrG.refl (gs : List Nat) (w : World) : FrG gs w w := ⟨rfl, rfl, rfl, rfl, fun _ _ => rfl⟩
theorem FrG.trans {gs : List Nat} {a b c : World} (h : FrG gs a b) (k : FrG gs b c) : FrG gs a c :=
  ⟨k.os.trans h.os, k.tape.trans h.tape, k.output.trans h.output, k.size.trans h.size, fun i hi => (k.block i hi).trans (h.block i hi)⟩
structure Tbl (w : World) (T Rb k0 ck : Nat) (Z : List Int) (r L : Nat) (lev : List (Nat × Nat × List Nat)) (f : Nat → Nat → Nat → Int) : Prop where
  blk : Blk w T 149 [slN Rb (Z.length + 1), .int .i64 (r : Int), .int .i64 (L : Int), .slice (some ⟨k0, 0, Option.none⟩) (L + 1) ck]
  rest : Blk w Rb 3 (ints (restL Z))
  outer : ∀ l, l ≤ L → w.cell? ⟨k0, l, Option.none⟩ = some (lvV (Z.length + 1) (levAt lev l))
  mid : ∀ l d, l ≤ L → d ≤ Z.length → w.cell? ⟨(levAt lev l).1, d, Option.none⟩ = some (slN (gAt lev l d) (Z.length + 1))
  rows : ∀ l d, l ≤ L → d ≤ Z.length → Blk w (gAt lev l d) 3 (ints ((List.range (Z.length + 1)).map (f l d)))
  mem : ∀ l d, l ≤ L → d ≤ Z.length → gAt lev l d ∈ flatG lev
  inj : ∀ l d l' d', l ≤ L → d ≤ Z.length → l' ≤ L → d' ≤ Z.length → gAt lev l d = gAt lev l' d' → l = l' ∧ d = d'
  far : ∀ g ∈ flatG lev, g ≠ T ∧ g ≠ Rb ∧ g ≠ k0 ∧ ∀ l, l ≤ L → g ≠ (levAt lev l).1
def upd (f : Nat → Nat → Nat → Int) (l d i : Nat) (v : Int) : Nat → Nat → Nat → Int := fun l' d' i' => if l' = l ∧ d' = d ∧ i' = i then v else f l' d' i'
theorem map_upd {f : Nat → Int} {n i : Nat} {v : Int} : ((List.range n).map f).set i v = (List.range n).map fun j => if j = i then v else f j := by
  refine List.ext_getElem (by simp) fun j h1 h2 => ?_
  rw [List.getElem_set]
  simp only [List.getElem_map, List.getElem_range]
  by_cases e : i = j
  · rw [if_pos e, if_pos e.symm]
  · rw [if_neg e, if_neg (fun h => e h.symm)]
theorem cell_far {w : World} {g i b o : Nat} {u v : Value} (h : w.cell? ⟨b, o, Option.none⟩ = some v) (hne : g ≠ b) : (w.setCell ⟨g, i, Option.none⟩ u).cell? ⟨b, o, Option.none⟩ = some v := by
  unfold World.cell? at h ⊢
  rw [Below.heap_setCell w _ u b (fun e => hne e.symm)]
  exact h
theorem Tbl.set {w : World} {T Rb k0 ck : Nat} {Z : List Int} {r L : Nat} {lev : List (Nat × Nat × List Nat)} {f : Nat → Nat → Nat → Int} (h : Tbl w T Rb k0 ck Z r L lev f) {l d i : Nat} (hl : l ≤ L) (hd : d ≤ Z.length) (v : Int) :
    Tbl (w.setCell ⟨gAt lev l d, i, Option.none⟩ (.int .i64 v)) T Rb k0 ck Z r L lev (upd f l d i v) := by
  have hg := h.far _ (h.mem l d hl hd)
  refine ⟨h.blk.far (p := ⟨gAt lev l d, i, Option.none⟩) (fun e => hg.1 e.symm) _, h.rest.far (p := ⟨gAt lev l d, i, Option.none⟩) (fun e => hg.2.1 e.symm) _, fun l' hl' => cell_far (h.outer l' hl') hg.2.2.1, fun l' d' hl' hd' => cell_far (h.mid l' d' hl' hd') (hg.2.2.2 l' hl'), fun l' d' hl' hd' => ?_, h.mem, h.inj, h.far⟩
  by_cases e : l' = l ∧ d' = d
  · obtain ⟨rfl, rfl⟩ := e
    have h1 := (h.rows l' d' hl' hd').set_ i (.int .i64 v)
    have h2 : (ints ((List.range (Z.length + 1)).map (f l' d'))).set i (.int .i64 v) = ints ((List.range (Z.length + 1)).map (upd f l' d' i v l' d')) := by
      unfold ints
      rw [← List.map_set, map_upd]
      simp [upd]
    rw [h2] at h1
    exact h1
  · have h1 := (h.rows l' d' hl' hd').far (p := ⟨gAt lev l d, i, Option.none⟩) (fun e2 => e (h.inj l' d' l d hl' hd' hl hd e2)) (.int .i64 v)
    have h2 : upd f l d i v l' d' = f l' d' := by
      funext j
      unfold upd
      rw [if_neg (fun h => e ⟨h.1, h.2.1⟩)]
    rw [h2]
    exact h1
theorem Tbl.cell {w : World} {T Rb k0 ck : Nat} {Z : List Int} {r L : Nat} {lev : List (Nat × Nat × List Nat)} {f : Nat → Nat → Nat → Int} (h : Tbl w T Rb k0 ck Z r L lev f) {l d i : Nat} (hl : l ≤ L) (hd : d ≤ Z.length) (hi : i ≤ Z.length) :
    w.cell? ⟨gAt lev l d, i, Option.none⟩ = some (.int .i64 (f l d i)) := by
  rw [(h.rows l d hl hd).cell i]
  unfold ints
  rw [List.getElem?_map, List.getElem?_map, List.getElem?_range (by omega)]; rfl
/-- What stands in the table is right. -/
def InvT (Z : List Int) (r L : Nat) (f : Nat → Nat → Nat → Int) : Prop := ∀ l d i, 1 ≤ l → l ≤ L → d ≤ Z.length → i ≤ Z.length - d → f l d i = 0 ∨ f l d i = relC r L (Z.drop d) l i + 1
theorem InvT.set {Z : List Int} {r L : Nat} {f : Nat → Nat → Nat → Int} (h : InvT Z r L f) {l d i : Nat} {v : Int} (hv : v = relC r L (Z.drop d) l i + 1) : InvT Z r L (upd f l d i v) := by
  intro l' d' i' h1 h2 h3 h4
  unfold upd
  split
  · rename_i e
    obtain ⟨rfl, rfl, rfl⟩ := e
    exact .inr hv
  · exact h l' d' i' h1 h2 h3 h4
/-- Worlds behind calls that fill the table. -/
structure LaterX (w : World) (T Rb k0 ck : Nat) (Z : List Int) (r L : Nat) (lev : List (Nat × Nat × List Nat)) where
  val : World
  f : Nat → Nat → Nat → Int
  tbl : Tbl val T Rb k0 ck Z r L lev f
  inv : InvT Z r L f
  fr : FrG (flatG lev) w val
theorem Tbl.drewN {w : World} {T Rb k0 ck : Nat} {Z : List Int} {r L : Nat} {lev : List (Nat × Nat × List Nat)} {f : Nat → Nat → Nat → Int} (h : Tbl w T Rb k0 ck Z r L lev f) (n : Nat) : Tbl (w.drewN n) T Rb k0 ck Z r L lev f :=
  ⟨h.blk, h.rest, h.outer, h.mid, h.rows, h.mem, h.inj, h.far⟩
section
variable {w : World} {T Rb k0 ck : Nat} {Z : List Int} {r L : Nat} {lev : List (Nat × Nat × List Nat)}
end
end Go.Proofs.Ytjnkdjokbamibaa
/- Contracts: LeastLengths and LeastCost of the reference. -/
namespace Go.Proofs.Ytjnkdjokbamibaa
open Go.RowKit
theorem flat_inj : ∀ (lev : List (Nat × Nat × List Nat)), (flatG lev).Nodup → ∀ (l d l' d' : Nat) (x x' : Nat × Nat × List Nat) (g : Nat), lev[l]? = some x → lev[l']? = some x' → x.2.2[d]? = some g → x'.2.2[d']? = some g → l = l' ∧ d = d'
  | [], _, l, d, l', d', x, x', g, h, _, _, _ => by simp at h
  | y :: lev, hn, l, d, l', d', x, x', g, h1, h2, h3, h4 => by
    have hf : flatG (y :: lev) = y.2.2 ++ flatG lev := by simp [flatG]
    rw [hf, List.nodup_append] at hn
    have hmem : ∀ (k : Nat) (z : Nat × Nat × List Nat), lev[k]? = some z → ∀ b ∈ z.2.2, b ∈ flatG lev := fun k z hz b hb => by
      unfold flatG; rw [List.mem_flatMap]; exact ⟨z, List.mem_of_getElem? hz, hb⟩
    cases l with
    | zero =>
      rw [List.getElem?_cons_zero] at h1; cases h1
      cases l' with
      | zero =>
        rw [List.getElem?_cons_zero] at h2; cases h2
        have := (List.getElem?_inj (i := d) (j := d') (List.getElem?_eq_some_iff.1 h3).1 hn.1).1 (by rw [h3, h4])
        exact ⟨rfl, this⟩
      | succ l' =>
        rw [List.getElem?_cons_succ] at h2
        exact absurd rfl (hn.2.2 g (List.mem_of_getElem? h3) g (hmem l' x' h2 g (List.mem_of_getElem? h4)))
    | succ l =>
      rw [List.getElem?_cons_succ] at h1
      cases l' with
      | zero =>
        rw [List.getElem?_cons_zero] at h2; cases h2
        exact absurd rfl (hn.2.2 g (List.mem_of_getElem? h4) g (hmem l x h1 g (List.mem_of_getElem? h3)))
      | succ l' =>
        rw [List.getElem?_cons_succ] at h2
        have := flat_inj lev hn.2.1 l d l' d' x x' g h1 h2 h3 h4
        exact ⟨by omega, this.2⟩
/-- A newly made table holds noughts. -/
theorem TabNew.tbl {Z : List Int} {r L : Nat} {w0 w : World} {T : Nat} (h : TabNew Z r L w0 w T) : ∃ k0 ck lev, Tbl w T w0.heap.size k0 ck Z r L lev (fun _ _ _ => 0) ∧ (∀ g ∈ flatG lev, T < g ∧ g < w.heap.size) ∧ w0.heap.size < T ∧ Below w0.heap.size w0 w := by
  obtain ⟨K, ck, lev, hT, hblk, hrest, hll, how, hlv, hbl⟩ := h
  obtain ⟨k0, rfl, cur0, hcur0⟩ : ∃ k0, K = some ⟨k0, 0, Option.none⟩ ∧ ∃ cur, w.heap[k0]? = some (.cells cur 61 (0, 0)) := by
    rcases how.2 with ⟨_, e⟩ | ⟨g, cap, cur, e, _, hg, _⟩
    · omega
    · cases e; exact ⟨g, rfl, cur, hg⟩
  have hlev : ∀ l, l ≤ L → ∃ x, lev[l]? = some x ∧ levAt lev l = x := by
    intro l hl
    have h1 := List.getElem?_eq_getElem (l := lev) (i := l) (by omega)
    exact ⟨lev[l], h1, by unfold levAt; rw [List.getD_eq_getElem?_getD, h1]; rfl⟩
  have hg : ∀ l d, l ≤ L → d ≤ Z.length → ∃ x g, lev[l]? = some x ∧ levAt lev l = x ∧ x.2.2[d]? = some g ∧ gAt lev l d = g := by
    intro l d hl hd
    obtain ⟨x, h1, h2⟩ := hlev l hl
    have hlen := (hlv.ok x (List.mem_of_getElem? h1)).len
    have h3 := List.getElem?_eq_getElem (l := x.2.2) (i := d) (by omega)
    exact ⟨x, x.2.2[d], h1, h2, h3, by unfold gAt; rw [h2, List.getD_eq_getElem?_getD, h3]; rfl⟩
  have hmem : ∀ l d, l ≤ L → d ≤ Z.length → gAt lev l d ∈ flatG lev := by
    intro l d hl hd
    obtain ⟨x, g, h1, _, h3, h4⟩ := hg l d hl hd
    rw [h4]; unfold flatG; rw [List.mem_flatMap]
    exact ⟨x, List.mem_of_getElem? h1, List.mem_of_getElem? h3⟩
  have hzero : ∀ g ∈ flatG lev, Blk w g 3 (ints (List.replicate (Z.length + 1) 0)) := by
    intro g hgm
    unfold flatG at hgm
    rw [List.mem_flatMap] at hgm
    obtain ⟨x, hx, hgx⟩ := hgm
    exact (hlv.ok x hx).zero g hgx
  refine ⟨k0, ck, lev, ⟨hblk, hrest, fun l hl => ?_, fun l d hl hd => ?_, fun l d hl hd => ?_, hmem, fun l d l' d' hl hd hl' hd' e => ?_, fun g hgm => ?_⟩, hlv.range, hT, hbl⟩
  · obtain ⟨x, h1, h2⟩ := hlev l hl
    have h3 := how.cells (g := k0) rfl l (lvV (Z.length + 1) x) (by rw [List.getElem?_map, h1]; rfl)
    have hadd : (⟨k0, 0, Option.none⟩ : Addr).add l = ⟨k0, 0 + l, Option.none⟩ := by unfold Addr.add; split <;> simp_all
    rw [hadd, Nat.zero_add] at h3
    rw [h2]; exact h3
  · obtain ⟨x, g, h1, h2, h3, h4⟩ := hg l d hl hd
    obtain ⟨cur, hc, ht⟩ := (hlv.ok x (List.mem_of_getElem? h1)).row
    rw [h2, h4]
    have h5 := congrArg (fun l : List Value => l[d]?) ht
    simp only [List.getElem?_map, h3, List.getElem?_take] at h5
    rw [if_pos (by omega)] at h5
    rw [cell_of_row w x.1 d cur 35 (0, 0) hc]
    simpa using h5
  · have := hzero _ (hmem l d hl hd)
    rw [show (List.range (Z.length + 1)).map (fun _ => (0 : Int)) = List.replicate (Z.length + 1) 0 by rw [List.map_const']; simp]
    exact this
  · obtain ⟨x, g, h1, _, h3, h4⟩ := hg l d hl hd
    obtain ⟨x', g', h1', _, h3', h4'⟩ := hg l' d' hl' hd'
    rw [h4, h4'] at e
    subst e
    exact flat_inj lev hlv.nodup l d l' d' x x' g h1 h1' h3 h3'
  · have hz := hzero g hgm
    have hr := hlv.range g hgm
    refine ⟨by omega, by omega, hz.heap_ne hcur0 (by decide), fun l hl => ?_⟩
    obtain ⟨x, h1, h2⟩ := hlev l hl
    obtain ⟨cur, hc, _⟩ := (hlv.ok x (List.mem_of_getElem? h1)).row
    rw [h2]
    exact hz.heap_ne hc (by decide)
/-- All blocks of the table lie below N. -/
structure TLt (N T Rb k0 : Nat) (Z : List Int) (L : Nat) (lev : List (Nat × Nat × List Nat)) : Prop where
  t : T < N
  rb : Rb < N
  k : k0 < N
  lv : ∀ l, l ≤ L → (levAt lev l).1 < N
  g : ∀ l d, l ≤ L → d ≤ Z.length → gAt lev l d < N
theorem Tbl.same {w w' : World} {T Rb k0 ck N : Nat} {Z : List Int} {r L : Nat} {lev : List (Nat × Nat × List Nat)} {f : Nat → Nat → Nat → Int} (h : Tbl w T Rb k0 ck Z r L lev f) (hl : TLt N T Rb k0 Z L lev) (hb : Below N w w') : Tbl w' T Rb k0 ck Z r L lev f :=
  ⟨h.blk.below hb hl.t, h.rest.below hb hl.rb, fun l h1 => (hb.cell (p := ⟨k0, l, Option.none⟩) hl.k).trans (h.outer l h1), fun l d h1 h2 => (hb.cell (p := ⟨(levAt lev l).1, d, Option.none⟩) (hl.lv l h1)).trans (h.mid l d h1 h2), fun l d h1 h2 => (h.rows l d h1 h2).below hb (hl.g l d h1 h2), h.mem, h.inj, h.far⟩
theorem FrG.bel {gs : List Nat} {w w' : World} {B : Nat} (h : FrG gs w w') (hg : ∀ g ∈ gs, B ≤ g) : Below B w w' := ⟨h.os, h.tape, h.output, Nat.le_of_eq h.size.symm, fun k hk => h.block k (fun hm => by have := hg k hm; omega)⟩
end Go.Proofs.Ytjnkdjokbamibaa
/- Contracts: LeastLengths and LeastCost of the reference. -/
namespace Go.Proofs.Ytjnkdjokbamibaa
open Go.RowKit
/-- What is still to be laid out: the list found for what is left. -/
def Left (r L : Nat) (Z : List Int) (X : List Nat) (level done free : Nat) : Prop := ∃ y, lvl r L (Z.drop done) level free = some y ∧ X.drop done = y.1
theorem Left.start {r L : Nat} {Z : List Int} {x : List Nat × Int} (hr : 1 ≤ r) (hL : 1 ≤ L) (hZ : ∀ w ∈ Z, 0 ≤ w) (h : bst r L Z 1 (r ^ L) = some x) : Left r L Z x.1 1 0 (min r Z.length) := by
  refine ⟨x, ?_, by simp⟩
  rw [List.drop_zero, lvl_min hr hZ]
  unfold lvl
  rw [show r * r ^ (L - 1) = r ^ L by rw [Nat.mul_comm, ← Nat.pow_succ]; congr 1; omega]
  exact h
/-- One level is laid out. -/
theorem Left.step {r L : Nat} {Z : List Int} {X : List Nat} {level done free : Nat} (hr : 1 ≤ r) (hZ : ∀ w ∈ Z, 0 ≤ w) (hb : (L : Int) * sumW (Z.drop done) < 1000000000) (h : Left r L Z X level done free) (hf : free ≤ Z.length - done) (h1 : 1 ≤ level) (hd : done < Z.length) :
    level ≤ L ∧ ∃ t, t ≤ free ∧ withC r L (Z.drop done) level free t = relC r L (Z.drop done) level free ∧ (∀ s, t < s → s ≤ free → relC r L (Z.drop done) level free < withC r L (Z.drop done) level free s) ∧
      (∀ k, k < t → X[done + k]? = some level) ∧ Left r L Z X (level + 1) (done + t) (min ((free - t) * r) (Z.length - (done + t))) := by
  obtain ⟨y, hy, hX⟩ := h
  have hne : Z.drop done ≠ [] := by intro e; have := congrArg List.length e; rw [List.length_drop, List.length_nil] at this; omega
  have hlL : level ≤ L := by
    rcases Nat.lt_or_ge L level with h2 | h2
    · rw [lvl_end hne h2] at hy; cases hy
    · exact h2
  have hZd : ∀ w ∈ Z.drop done, 0 ≤ w := fun w hw => hZ w (List.mem_of_mem_drop hw)
  obtain ⟨t, z, ht, hw, hs, hz, he⟩ := lvl_greedy hr hZd (by rw [List.length_drop]; exact hf) h1 hlL hb hy
  refine ⟨hlL, t, ht, hw, hs, fun k hk => ?_, z, ?_, ?_⟩
  · have h2 : (X.drop done)[k]? = some level := by
      rw [hX, he, List.getElem?_append_left (by simp; exact hk), List.getElem?_replicate, if_pos hk]
    rwa [List.getElem?_drop] at h2
  · rw [List.drop_drop] at hz
    have h3 := lvl_min (r := r) (L := L) hr (ws := Z.drop (done + t)) (fun w hw => hZ w (List.mem_of_mem_drop hw)) (level := level + 1) (f := (free - t) * r)
    rw [List.length_drop] at h3
    rw [h3]; exact hz
  · rw [← List.drop_drop, hX, he]
    simp
end Go.Proofs.Ytjnkdjokbamibaa
/- Contracts: drawn lists of numbers: weights, lengths; numbers of digits. -/
namespace Go.Proofs.Ytjnkdjokbamibaa
open Go.RowKit
theorem KeepG.fresh {C D : Nat} {w0 w w' : World} (h : KeepG C D w0 w) (hb : Below w0.heap.size w w') : KeepG C D w0 w' :=
  ⟨hb.os.trans h.os, hb.tape.trans h.tape, hb.output.trans h.output, Nat.le_trans h.size hb.size, fun k hk hn => (hb.block k hk).trans (h.block k hk hn)⟩
theorem KeepG.alloc {C D : Nat} {w0 w : World} (h : KeepG C D w0 w) (o : Obj) : KeepG C D w0 (w.alloc o) := h.trans (below_g ((Below.refl _ w).alloc (Nat.le_refl _) o))
theorem Cur.fresh {w w' : World} {C m B : Nat} (h : Cur w C m) (hb : Below B w w') (hC : C < B) : Cur w' C m := by
  obtain ⟨v, zs, p, s, h1, h2, h3⟩ := h
  exact ⟨v, zs, p, s, h1.below hb hC, Rd.below h2 hb (by omega), h3⟩
theorem owns_keepG {w w' : World} {lo C size n : Nat} {e : TypeId} {v : Value} {xs : List Value} (h : w.ownsRow lo e size v n xs) (hk : KeepG C (C + 1) w w') (hC : C < lo) : w'.ownsRow lo e size v n xs := by
  refine ⟨h.1, ?_⟩
  rcases h.2 with hn | ⟨g, cap, cur, rfl, hl, hg, rest⟩
  · exact .inl hn
  · exact .inr ⟨g, cap, cur, rfl, hl, (hk.block g (Array.getElem?_eq_some_iff.1 hg).1 (by omega)).trans hg, rest⟩
/-- A row of numbers drawn since the world w0; the cursor at C. -/
def DrL (w0 : World) (C m : Nat) (wr : World) (v : Value) (xs : List Int) : Prop := wr.ownsRow w0.heap.size 3 1 v xs.length (ints xs) ∧ Cur wr C m ∧ KeepG C (C + 1) w0 wr
theorem DrL.start {w : World} {C m : Nat} (h : Cur w C m) : DrL w C m w (.slice Option.none 0 0) [] := ⟨World.ownsRow_nil _ _ _ _, h, KeepG.refl _ _ _⟩
theorem DrL.step {w0 wr w' : World} {C m m' : Nat} {v : Value} {xs : List Int} (h : DrL w0 C m wr v xs) (hC : C < w0.heap.size) (hc : Cur w' C m') (hk : KeepG C (C + 1) wr w') : DrL w0 C m' w' v xs :=
  ⟨owns_keepG h.1 hk hC, hc, h.2.2.trans hk⟩
theorem DrL.alloc {w0 wr : World} {C m : Nat} {v : Value} {xs : List Int} (h : DrL w0 C m wr v xs) (o : Obj) : DrL w0 C m (wr.alloc o) v xs :=
  ⟨h.1.alloc o, h.2.1.alloc o, h.2.2.trans (below_g ((Below.refl _ wr).alloc (Nat.le_refl _) o))⟩
theorem DrL.mono {w0 wr : World} {C m m' : Nat} {v : Value} {xs : List Int} (h : DrL w0 C m wr v xs) (hm : m ≤ m') : DrL w0 C m' wr v xs := ⟨h.1, h.2.1.mono hm, h.2.2⟩
theorem DrL.le {w0 wr : World} {C m : Nat} {v : Value} {xs : List Int} (h : DrL w0 C m wr v xs) : w0.heap.size ≤ wr.heap.size := h.2.2.size
theorem DrL.own {w0 wr : World} {C m : Nat} {v : Value} {xs : List Int} (h : DrL w0 C m wr v xs) : OwI wr w0.heap.size wr.heap.size v xs := ⟨h.1, fun k hk => (h.1.lt k hk).2⟩
theorem DrL.rd {w0 wr : World} {C m : Nat} {v : Value} {xs : List Int} (h : DrL w0 C m wr v xs) : RdI wr wr.heap.size v xs := h.own.rd
theorem DrL.form {w0 wr : World} {C m : Nat} {v : Value} {xs : List Int} (h : DrL w0 C m wr v xs) : ∃ A c, v = .slice A xs.length c := by
  obtain ⟨A, c, hv, _⟩ := Rd.form h.rd
  exact ⟨A, c, hv⟩
theorem DrL.gr {w0 wr : World} {C m : Nat} {v : Value} {xs : List Int} (h : DrL w0 C m wr v xs) : GrowI wr w0.heap.size wr v xs := ⟨h.1, Below.refl _ _, h.le⟩
theorem DrL.pos {w0 wr : World} {C m : Nat} {v : Value} {xs : List Int} (h : DrL w0 C m wr v xs) (hp : 0 < xs.length) : ∃ g c, v = .slice (some ⟨g, 0, Option.none⟩) xs.length c ∧ w0.heap.size ≤ g := by
  rcases h.1.2 with ⟨_, e⟩ | ⟨g, cap, cur, hv, hl, _⟩
  · omega
  · exact ⟨g, cap, hv, hl⟩
theorem DrL.cell {w0 wr : World} {C m g c : Nat} {xs : List Int} (h : DrL w0 C m wr (.slice (some ⟨g, 0, Option.none⟩) xs.length c) xs) {j : Nat} (hj : j < xs.length) : wr.cell? ⟨g, j, Option.none⟩ = some (.int .i64 xs[j]) ∧ wr.frozen? ⟨g, j, Option.none⟩ = false := by
  refine ⟨?_, h.1.frozenAt j⟩
  rw [h.1.cellAt j (by omega)]
  simp [ints, hj]
theorem DrL.put {w0 wr : World} {C m g c : Nat} {xs : List Int} (h : DrL w0 C m wr (.slice (some ⟨g, 0, Option.none⟩) xs.length c) xs) (hC : C < w0.heap.size) (hg : w0.heap.size ≤ g) (j : Nat) (y : Int) :
    DrL w0 C m (wr.setCell ⟨g, j, Option.none⟩ (.int .i64 y)) (.slice (some ⟨g, 0, Option.none⟩) xs.length c) (xs.set j y) := by
  have h1 := (h.1.stored j (.int .i64 y)).1
  have hb : Below w0.heap.size wr (wr.setCell ⟨g, j, Option.none⟩ (.int .i64 y)) := (Below.refl _ _).setCell hg _
  refine ⟨?_, h.2.1.fresh hb hC, h.2.2.fresh hb⟩
  have h2 : ints (xs.set j y) = (ints xs).set j (.int .i64 y) := by unfold ints; rw [List.map_set]
  rw [h2, List.length_set]
  exact h1
end Go.Proofs.Ytjnkdjokbamibaa
/- Typed rows: slices of numbers and phrases of a drawn book, of which only the kind of the cells is known. -/
namespace Go.Proofs.Ytjnkdjokbamibaa
open Go.RowKit
/-- A slice of p to 1000 numbers in a row of numbers from block lo on; what it holds is of no matter. -/
def IntSl (w : World) (lo p : Nat) (u : Value) : Prop :=
  (u = .slice Option.none 0 0 ∧ p = 0) ∨ ∃ (b n c : Nat) (cur : Array Value), u = .slice (some ⟨b, 0, Option.none⟩) n c ∧ lo ≤ b ∧ (p ≤ n ∧ n ≤ 1000 ∧ n ≤ c) ∧ c ≤ 9223372036854775807 ∧ w.heap[b]? = some (.cells cur 3 (0, 0)) ∧ ∀ j, j < n → ∃ z : Int, cur[j]? = some (.int .i64 z)
/-- Rows of numbers stay rows of numbers. -/
def IntsKept (lo : Nat) (w w' : World) : Prop := ∀ (b : Nat) (cur : Array Value), lo ≤ b → w.heap[b]? = some (.cells cur 3 (0, 0)) → ∃ cur' : Array Value, w'.heap[b]? = some (.cells cur' 3 (0, 0)) ∧ ∀ (j : Nat) (z : Int), cur[j]? = some (.int .i64 z) → ∃ z' : Int, cur'[j]? = some (.int .i64 z')
theorem IntsKept.same {lo : Nat} {w w' : World} (h : ∀ (b : Nat) (cur : Array Value), lo ≤ b → w.heap[b]? = some (.cells cur 3 (0, 0)) → w'.heap[b]? = w.heap[b]?) : IntsKept lo w w' := fun b cur hb hg => ⟨cur, (h b cur hb hg).trans hg, fun _ z hz => ⟨z, hz⟩⟩
theorem IntsKept.refl (lo : Nat) (w : World) : IntsKept lo w w := .same fun _ _ _ _ => rfl
theorem IntsKept.trans {lo : Nat} {a b c : World} (h : IntsKept lo a b) (g : IntsKept lo b c) : IntsKept lo a c := fun k cur hk hg => by
  obtain ⟨c1, h1, h2⟩ := h k cur hk hg
  obtain ⟨c2, g1, g2⟩ := g k c1 hk h1
  refine ⟨c2, g1, fun j z hz => ?_⟩
  obtain ⟨z1, hz1⟩ := h2 j z hz
  exact g2 j z1 hz1
theorem IntsKept.keepG {lo C : Nat} {w w' : World} (h : KeepG C (C + 1) w w') (hC : C < lo) : IntsKept lo w w' := .same fun b _ hb hg => h.block b (Array.getElem?_eq_some_iff.1 hg).1 (by omega)
theorem IntsKept.below {lo : Nat} {w w' : World} (h : Below w.heap.size w w') : IntsKept lo w w' := .same fun b _ _ hg => h.block b (Array.getElem?_eq_some_iff.1 hg).1
theorem IntsKept.alloc {lo : Nat} {w w' : World} (h : IntsKept lo w w') (o : Obj) : IntsKept lo w (w'.alloc o) := h.trans (.below ((Below.refl _ _).alloc (Nat.le_refl _) _))
/-- A store into a row of another kind. -/
theorem IntsKept.far {lo : Nat} {w : World} {p : Addr} {u : Value} (h : ∀ cur, w.heap[p.block]? ≠ some (.cells cur 3 (0, 0))) : IntsKept lo w (w.setCell p u) := .same fun b cur _ hg => Below.heap_setCell w p u b (fun e => h cur (by rw [← e]; exact hg))
theorem IntsKept.setInt {lo : Nat} {w : World} {b i : Nat} (z : Int) : IntsKept lo w (w.setCell ⟨b, i, Option.none⟩ (.int .i64 z)) := fun k cur hk hg => by
  by_cases e : k = b
  · subst e
    refine ⟨cur.setIfInBounds i (.int .i64 z), heap_setCell_same w k i cur 3 (.int .i64 z) hg, fun j y hy => ?_⟩
    by_cases e2 : i = j
    · subst e2
      have hl := (Array.getElem?_eq_some_iff.1 hy).1
      exact ⟨z, by simp [hl]⟩
    · exact ⟨y, by rw [Array.getElem?_setIfInBounds, if_neg e2]; exact hy⟩
  · exact ⟨cur, (Below.heap_setCell w ⟨b, i, Option.none⟩ _ k e).trans hg, fun _ y hy => ⟨y, hy⟩⟩
theorem IntSl.kept {lo p : Nat} {w w' : World} {u : Value} (h : IntSl w lo p u) (hk : IntsKept lo w w') : IntSl w' lo p u := by
  rcases h with h0 | ⟨b, n, c, cur, rfl, hb, hn, hc, hg, hz⟩
  · exact .inl h0
  · obtain ⟨cur', h1, h2⟩ := hk b cur hb hg
    refine .inr ⟨b, n, c, cur', rfl, hb, hn, hc, h1, fun j hj => ?_⟩
    obtain ⟨z, hz1⟩ := hz j hj
    exact h2 j z hz1
theorem IntSl.nil (w : World) (lo : Nat) : IntSl w lo 0 (.slice Option.none 0 0) := .inl ⟨rfl, rfl⟩
theorem IntSl.own {w : World} {lo p : Nat} {v : Value} {xs : List Int} (h : w.ownsRow lo 3 1 v xs.length (ints xs)) (hp : p ≤ xs.length) (hx : xs.length ≤ 1000) : IntSl w lo p v := by
  rcases h.2 with ⟨rfl, hz⟩ | ⟨g, cap, cur, rfl, hl, hg, hn, hm, hs, ht⟩
  · exact .inl ⟨rfl, by omega⟩
  · refine .inr ⟨g, xs.length, cap, cur, rfl, hl, ⟨hp, hx, hn⟩, by unfold maxLen at hm; omega, hg, fun j hj => ⟨xs[j], ?_⟩⟩
    have h1 : (ints xs)[j]? = some (.int .i64 xs[j]) := by simp [ints, hj]
    rw [← ht, List.getElem?_take, if_pos (by omega)] at h1
    simpa using h1
theorem IntSl.zero {w : World} {lo p : Nat} {u : Value} (h : IntSl w lo p u) : IntSl w lo 0 u := by
  rcases h with ⟨rfl, _⟩ | ⟨b, n, c, cur, h1, h2, h3, h4⟩
  · exact .inl ⟨rfl, rfl⟩
  · exact .inr ⟨b, n, c, cur, h1, h2, ⟨Nat.zero_le _, h3.2⟩, h4⟩
theorem IntSl.form {w : World} {lo p : Nat} {u : Value} (h : IntSl w lo p u) : ∃ A n c, u = .slice A n c ∧ p ≤ n ∧ n ≤ 1000 := by
  rcases h with ⟨rfl, h0⟩ | ⟨b, n, c, cur, rfl, _, h3, _⟩
  · exact ⟨_, _, _, rfl, by omega, by omega⟩
  · exact ⟨_, _, _, rfl, h3.1, h3.2.1⟩
theorem IntSl.rd {w : World} {lo p : Nat} {u : Value} (h : IntSl w lo p u) : ∃ xs : List Int, RdI w w.heap.size u xs := by
  rcases h with ⟨rfl, _⟩ | ⟨b, n, c, cur, rfl, hb, hn, hc, hg, hz⟩
  · exact ⟨[], (owI_nil w 0 w.heap.size).rd⟩
  · have hz' : ∃ f : Nat → Int, ∀ j, j < n → cur[j]? = some (.int .i64 (f j)) := by
      refine ⟨fun j => if h : j < n then Classical.choose (hz j h) else 0, fun j hj => ?_⟩
      dsimp only
      rw [dif_pos hj]
      exact Classical.choose_spec (hz j hj)
    obtain ⟨f, hf⟩ := hz'
    have hl : ((List.range n).map f).length = n := by simp
    refine ⟨(List.range n).map f, by simp, some ⟨b, 0, Option.none⟩, c, by rw [hl], by rw [hl]; exact hn.2.2, by unfold maxLen; omega, fun _ => ⟨b, 0, rfl, (Array.getElem?_eq_some_iff.1 hg).1, fun j x hx => ?_⟩⟩
    rw [show (0 : Nat) + j = j by omega, cell_of_row w b j cur 3 (0, 0) hg]
    unfold ints at hx
    rw [List.map_map, List.getElem?_map] at hx
    by_cases hj : j < n
    · rw [List.getElem?_range hj] at hx
      rw [hf j hj]
      exact hx
    · rw [List.getElem?_eq_none (by simp; omega)] at hx; cases hx
/-- A row of n phrases of the call's own, of which only the kind is known. -/
def BookR (w : World) (lo p : Nat) (v : Value) (n : Nat) : Prop := ∃ (ts : List ByteArray) (us : List Value), ts.length = n ∧ us.length = n ∧ w.ownsRow lo 40 2 v n (zipC ts us) ∧ (∀ t ∈ ts, t.size ≤ 1000) ∧ ∀ u ∈ us, IntSl w lo p u
theorem BookR.nil (w : World) (lo p : Nat) : BookR w lo p (.slice Option.none 0 0) 0 := ⟨[], [], rfl, rfl, World.ownsRow_nil _ _ _ _, by simp, by simp⟩
theorem BookR.step {w w' : World} {lo p C n : Nat} {v : Value} (h : BookR w lo p v n) (hk : KeepG C (C + 1) w w') (hC : C < lo) : BookR w' lo p v n := by
  obtain ⟨ts, us, h1, h2, h3, h4, h5⟩ := h
  exact ⟨ts, us, h1, h2, owns_keepG h3 hk hC, h4, fun u hu => (h5 u hu).kept (.keepG hk hC)⟩
theorem BookR.zero {w : World} {lo p n : Nat} {v : Value} (h : BookR w lo p v n) : BookR w lo 0 v n := by
  obtain ⟨ts, us, h1, h2, h3, h4, h5⟩ := h
  exact ⟨ts, us, h1, h2, h3, h4, fun u hu => (h5 u hu).zero⟩
theorem BookR.rd {w : World} {lo p n : Nat} {v : Value} (h : BookR w lo p v n) : ∃ ps : List Phr, ps.length = n ∧ RdPS w w.heap.size v ps := by
  classical
  obtain ⟨ts, us, h1, h2, h3, h4, h5⟩ := h
  have hx : ∃ f : Value → List Int, ∀ u ∈ us, RdI w w.heap.size u (f u) := by
    refine ⟨fun u => if h : u ∈ us then Classical.choose (h5 u h).rd else [], fun u hu => ?_⟩
    dsimp only
    rw [dif_pos hu]
    exact Classical.choose_spec (h5 u hu).rd
  obtain ⟨f, hf⟩ := hx
  have ht : txts (ts.zip (us.map f)) = ts := by unfold txts; rw [List.map_fst_zip]; simp; omega
  have hs : sigs (ts.zip (us.map f)) = us.map f := by unfold sigs; rw [List.map_snd_zip]; simp; omega
  have hl : (ts.zip (us.map f)).length = n := by simp; omega
  refine ⟨ts.zip (us.map f), hl, us, ⟨by rw [hs]; simp, fun i u xs hu hx => ?_⟩, ?_, fun p hp => ?_⟩
  · rw [hs, List.getElem?_map, hu] at hx
    cases hx
    exact hf u (List.mem_of_getElem? hu)
  · rw [ht, hl]
    exact rd_of_owns h3 (fun k hk => (h3.lt k hk).2)
  · have := h4 p.1 (List.of_mem_zip hp).1
    omega
end Go.Proofs.Ytjnkdjokbamibaa
/- A drawn book's row: a phrase is appended; a text, a slice of signals is stored. -/
namespace Go.Proofs.Ytjnkdjokbamibaa
open Go.RowKit
/-- Blocks that are no rows of phrases stand. -/
def FrP (w w' : World) : Prop := ∀ (k : Nat) (c : Array Value) (e : TypeId) (fz : Nat × Nat), w.heap[k]? = some (.cells c e fz) → e ≠ 40 → w'.heap[k]? = some (.cells c e fz)
theorem Blk.frP {w w' : World} {g : Nat} {t : TypeId} {cs : List Value} (h : Blk w g t cs) (hf : FrP w w') (h1 : t ≠ 40) : Blk w' g t cs := hf _ _ _ _ h h1
theorem FrP.ints {w w' : World} (h : FrP w w') (lo : Nat) : IntsKept lo w w' := .same fun b cur _ hg => (h b cur 3 (0, 0) hg (by decide)).trans hg.symm
theorem two_cells (w : World) (u v : Value) (t : TypeId) (j : Nat) (x : Value) (h : [u, v][j]? = some x) : (w.alloc (.cells #[u, v] t)).cell? ((⟨w.heap.size, 0, Option.none⟩ : Addr).add j) = some x := by
  rw [Go.WideShapes.add_plain, show (0 : Nat) + j = j by omega, (Blk.new w t #[u, v]).cell j]
  exact h
theorem BookR.app {wr : World} {lo p n : Nat} {v : Value} {t : ByteArray} {A : Option Addr} {n1 c1 : Nat} {ops : Array Oper} {rest : List Oper} {o : Oper} {a : Act} {Q : Exit → Act → World → Prop} (hgd : o.guard = Option.none) (s x : Operand)
    (ho : o.op = .call { callee := .builtin .append, args := #[s, x], argTypes := #[26, 26] }) (hG : BookR wr lo p v n) (hlo : lo ≤ wr.heap.size) (hu : IntSl wr lo p (.slice A n1 c1)) (ht : t.size ≤ 1000) (hlen : n < 1000000)
    (hs : a.eval s = v) (hx : a.eval x = .slice (some ⟨wr.heap.size, 0, Option.none⟩) 1 1)
    (h : ∀ v' w', BookR w' lo p v' (n + 1) → Below lo wr w' → FrP wr w' → wr.heap.size ≤ w'.heap.size → wpList Try.prog ops Q rest (a.put o.dst v') w') : wpList Try.prog ops Q (o :: rest) a (wr.alloc (.cells #[.string t, .slice A n1 c1] 40)) := by
  obtain ⟨i, hi, hz0, hz1, hz2⟩ := info_parts info_phr
  obtain ⟨ts, us, h1, h2, h3, h4, h5⟩ := hG
  refine wpList_append_own _ hgd s x 26 ho lo 40 i (.agg #[.string { data := #[] }, .slice Option.none 0 0]) 2 40 Try.underlying26 hi hz0 hz1 hz2 rfl (by decide) v n (zipC ts us) hs (h3.alloc _) ⟨wr.heap.size, 0, Option.none⟩ 1 1 [.string t, .slice A n1 c1] hx rfl
    (two_cells _ _ _ _) (by intro u hu; simp at hu; rcases hu with rfl | rfl <;> rfl) (by unfold maxLen; omega) (by omega) (by simp; omega) ?_
  intro v' w' hown hgr _
  have hsz := hgr.size
  have hsz2 : wr.heap.size + 1 ≤ w'.heap.size := by simpa using hsz
  have hfar : ∀ g, g < wr.heap.size → v.ownBlock ≠ some g → w'.heap[g]? = wr.heap[g]? := fun g hg hne => (hgr.block g (by simp; omega) (fun e => hne e.symm)).trans (Below.heap_alloc wr _ g hg)
  have hfr : FrP wr w' := by
    intro k cs e fz hk e1
    have hlt := (Array.getElem?_eq_some_iff.1 hk).1
    rw [hfar k hlt (fun hv => ?_)]
    · exact hk
    · rcases h3.2 with ⟨rfl, _⟩ | ⟨g, cap, cur, rfl, _, hg, _⟩
      · cases hv
      · cases hv
        rw [hk] at hg
        cases hg
        exact e1 rfl
  have hb' : Below lo wr w' := ((Below.refl lo wr).alloc hlo _).grown hgr (by simp; omega) (fun k hk => ((h3.alloc (.cells #[.string t, .slice A n1 c1] 40)).lt k hk).1)
  refine h v' w' ⟨ts ++ [t], us ++ [.slice A n1 c1], by simp [h1], by simp [h2], ?_, fun t' ht' => ?_, fun u hu' => ?_⟩ hb' hfr (by omega)
  · rw [zipC_append ts us t _ (by omega)]
    simpa using hown
  · rw [List.mem_append, List.mem_singleton] at ht'
    rcases ht' with ht' | rfl
    · exact h4 _ ht'
    · exact ht
  · rw [List.mem_append, List.mem_singleton] at hu'
    rcases hu' with hu' | rfl
    · exact (h5 _ hu').kept (hfr.ints lo)
    · exact hu.kept (hfr.ints lo)
theorem zipC_setT : ∀ (ts : List ByteArray) (us : List Value) (j : Nat) (t : ByteArray), (zipC ts us).set (j * 2) (.string t) = zipC (ts.set j t) us
  | [], _, _, _ => rfl
  | _ :: _, [], 0, _ => rfl
  | _ :: _, [], _ + 1, _ => rfl
  | a :: ts, b :: us, 0, t => rfl
  | a :: ts, b :: us, j + 1, t => by
    rw [show (j + 1) * 2 = j * 2 + 1 + 1 by omega]
    simp only [zipC, List.set_cons_succ, zipC_setT ts us j t]
theorem zipC_setU : ∀ (ts : List ByteArray) (us : List Value) (j : Nat) (u : Value), (zipC ts us).set (j * 2 + 1) u = zipC ts (us.set j u)
  | [], _, _, _ => rfl
  | _ :: _, [], _, _ => by simp [zipC]
  | a :: ts, b :: us, 0, t => rfl
  | a :: ts, b :: us, j + 1, t => by
    rw [show (j + 1) * 2 + 1 = j * 2 + 1 + 1 + 1 by omega]
    simp only [zipC, List.set_cons_succ, zipC_setU ts us j t]
theorem BookR.pos {w : World} {lo p n : Nat} {v : Value} (h : BookR w lo p v n) (hn : 0 < n) : ∃ g c, v = .slice (some ⟨g, 0, Option.none⟩) n c ∧ lo ≤ g ∧ ∃ cur, w.heap[g]? = some (.cells cur 40 (0, 0)) := by
  obtain ⟨ts, us, h1, h2, h3, h4, h5⟩ := h
  rcases h3.2 with ⟨_, e⟩ | ⟨g, cap, cur, hv, hl, hg, _⟩
  · omega
  · exact ⟨g, cap, hv, hl, cur, hg⟩
theorem BookR.form {w : World} {lo p n : Nat} {v : Value} (h : BookR w lo p v n) : ∃ A c, v = .slice A n c := by
  obtain ⟨ps, h1, h2⟩ := h.rd
  obtain ⟨A, c, h3, _⟩ := h2.form
  exact ⟨A, c, by rw [h3, h1]⟩
theorem BookR.at_ {w : World} {lo p n g c : Nat} (h : BookR w lo p (.slice (some ⟨g, 0, Option.none⟩) n c) n) {j : Nat} (hj : j < n) :
    ∃ (t : ByteArray) (u : Value), w.cell? ⟨g, j * 2, Option.none⟩ = some (.string t) ∧ w.cell? ⟨g, j * 2 + 1, Option.none⟩ = some u ∧ IntSl w lo p u ∧ t.size ≤ 1000 ∧ w.frozen? ⟨g, j * 2, Option.none⟩ = false ∧ w.frozen? ⟨g, j * 2 + 1, Option.none⟩ = false := by
  obtain ⟨ts, us, h1, h2, h3, h4, h5⟩ := h
  have ht : ts[j]? = some ts[j] := by simp [show j < ts.length by omega]
  have hu : us[j]? = some us[j] := by simp [show j < us.length by omega]
  have hz := zipC_at ts us j _ _ ht hu
  exact ⟨ts[j], us[j], (h3.cellAt _ (by omega)).trans hz.1, (h3.cellAt _ (by omega)).trans hz.2, h5 _ (List.mem_of_getElem? hu), h4 _ (List.mem_of_getElem? ht), h3.frozenAt _, h3.frozenAt _⟩
theorem BookR.setText {w : World} {lo p n g c : Nat} (h : BookR w lo p (.slice (some ⟨g, 0, Option.none⟩) n c) n) {cur : Array Value} (hg : w.heap[g]? = some (.cells cur 40 (0, 0))) (j : Nat) {t : ByteArray} (ht : t.size ≤ 1000) : BookR (w.setCell ⟨g, j * 2, Option.none⟩ (.string t)) lo p (.slice (some ⟨g, 0, Option.none⟩) n c) n := by
  obtain ⟨ts, us, h1, h2, h3, h4, h5⟩ := h
  have h6 := (h3.stored (j * 2) (.string t)).1
  rw [zipC_setT] at h6
  refine ⟨ts.set j t, us, by simp [h1], h2, h6, fun t' ht' => ?_, fun u hu => (h5 u hu).kept (.far fun cur' e => ?_)⟩
  · rcases List.mem_or_eq_of_mem_set ht' with h7 | rfl
    · exact h4 _ h7
    · exact ht
  · rw [hg] at e; cases e
theorem BookR.setSig {w : World} {lo p n g c : Nat} (h : BookR w lo p (.slice (some ⟨g, 0, Option.none⟩) n c) n) {cur : Array Value} (hg : w.heap[g]? = some (.cells cur 40 (0, 0))) (j : Nat) {u : Value} (hu : IntSl w lo p u) : BookR (w.setCell ⟨g, j * 2 + 1, Option.none⟩ u) lo p (.slice (some ⟨g, 0, Option.none⟩) n c) n := by
  obtain ⟨ts, us, h1, h2, h3, h4, h5⟩ := h
  have h6 := (h3.stored (j * 2 + 1) u).1
  rw [zipC_setU] at h6
  have hk : IntsKept lo w (w.setCell ⟨g, j * 2 + 1, Option.none⟩ u) := .far fun cur' e => by rw [hg] at e; cases e
  refine ⟨ts, us.set j u, h1, by simp [h2], h6, h4, fun u' hu' => ?_⟩
  rcases List.mem_or_eq_of_mem_set hu' with h7 | rfl
  · exact (h5 _ h7).kept hk
  · exact hu.kept hk
/-- A store elsewhere. -/
theorem BookR.far {w : World} {lo k n : Nat} {v : Value} (h : BookR w lo k v n) {p : Addr} {u : Value} {cur : Array Value} {e : TypeId} {fz : Nat × Nat} (hg : w.heap[p.block]? = some (.cells cur e fz)) (he : e ≠ 40 ∨ v.ownBlock ≠ some p.block) (hk : IntsKept lo w (w.setCell p u)) : BookR (w.setCell p u) lo k v n := by
  obtain ⟨ts, us, h1, h2, h3, h4, h5⟩ := h
  refine ⟨ts, us, h1, h2, ⟨h3.1, ?_⟩, h4, fun u' hu' => (h5 u' hu').kept hk⟩
  rcases h3.2 with h6 | ⟨g, cap, cur', rfl, hl, hg', rest⟩
  · exact .inl h6
  · have hne : g ≠ p.block := by
      rintro rfl
      rcases he with he | he
      · rw [hg] at hg'; cases hg'; exact he rfl
      · exact he rfl
    exact .inr ⟨g, cap, cur', rfl, hl, (Below.heap_setCell w p u g hne).trans hg', rest⟩
end Go.Proofs.Ytjnkdjokbamibaa
