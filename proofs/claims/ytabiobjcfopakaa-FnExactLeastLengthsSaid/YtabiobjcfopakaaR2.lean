/- Plain laws: the search of the least lengths, and the table of least costs level by level. -/
import Derived.Test.YtabiobjcfopakaaR1
namespace Go.Proofs.Ytabiobjcfopakaa
open Go.RowKit
/-- A list of lengths with its cost, or none. -/
abbrev Cand := Option (List Nat × Int)
/-- The first one, unless the second one costs less. -/
def pickC : Cand → Cand → Cand
  | Option.none, b => b
  | some x, Option.none => some x
  | some x, some y => if y.2 < x.2 then some y else some x
def addC (l : List Nat) (k : Int) (c : Cand) : Cand := c.map fun x => (l ++ x.1, k + x.2)
theorem pickC_none (a : Cand) : pickC a Option.none = a := by cases a <;> rfl
theorem pickC_assoc (a b c : Cand) : pickC (pickC a b) c = pickC a (pickC b c) := by
  cases a with
  | none => rfl
  | some x =>
    cases b with
    | none => rfl
    | some y =>
      cases c with
      | none => rw [pickC_none, pickC_none]
      | some z =>
        simp only [pickC]
        by_cases h1 : y.2 < x.2
        · by_cases h2 : z.2 < y.2
          · simp only [h1, h2, if_true]; rw [if_pos (by omega)]
          · simp only [h1, h2, if_true, if_false]
        · by_cases h2 : z.2 < y.2
          · simp only [h1, h2, if_true, if_false]
          · simp only [h1, h2, if_false]; rw [if_neg (by omega)]
theorem addC_pick (l : List Nat) (k : Int) (a b : Cand) : addC l k (pickC a b) = pickC (addC l k a) (addC l k b) := by
  cases a with
  | none => rfl
  | some x =>
    cases b with
    | none => rfl
    | some y =>
      simp only [pickC, addC, Option.map]
      by_cases h : y.2 < x.2
      · rw [if_pos h, if_pos (by omega)]
      · rw [if_neg h, if_neg (by omega)]
theorem addC_add (l m : List Nat) (k j : Int) (c : Cand) : addC l k (addC m j c) = addC (l ++ m) (k + j) c := by
  cases c with
  | none => rfl
  | some x => simp only [addC, Option.map, List.append_assoc, Int.add_assoc]
theorem addC_nil (c : Cand) : addC [] 0 c = c := by
  cases c with
  | none => rfl
  | some x => simp [addC]
/-- Of all lists of lengths that 1000000000er fall, from one length on, for which there is room: the first one of the least cost. -/
def bst (r L : Nat) : List Int → Nat → Nat → Cand
  | [], _, _ => some ([], 0)
  | w :: ws, fr, room => (List.range' fr (L + 1 - fr)).foldl (fun c n => pickC c (if r ^ (L - n) ≤ room then addC [n] (w * (n : Int)) (bst r L ws n (room - r ^ (L - n))) else Option.none)) Option.none
/-- The part of it with lengths from fr to below fr + k. -/
def bstTo (r L : Nat) (w : Int) (ws : List Int) (fr room k : Nat) : Cand :=
  (List.range' fr k).foldl (fun c n => pickC c (if r ^ (L - n) ≤ room then addC [n] (w * (n : Int)) (bst r L ws n (room - r ^ (L - n))) else Option.none)) Option.none
theorem bst_to {r L : Nat} {w : Int} {ws : List Int} {fr room : Nat} : bst r L (w :: ws) fr room = bstTo r L w ws fr room (L + 1 - fr) := by rw [bst]; rfl
theorem bstTo_zero {r L : Nat} {w : Int} {ws : List Int} {fr room : Nat} : bstTo r L w ws fr room 0 = Option.none := rfl
theorem bstTo_no {r L : Nat} {w : Int} {ws : List Int} {fr room k : Nat} (h : ¬ r ^ (L - (fr + k)) ≤ room) : bstTo r L w ws fr room (k + 1) = bstTo r L w ws fr room k := by
  unfold bstTo
  rw [List.range'_concat, List.foldl_append]
  simp only [Nat.one_mul, List.foldl_cons, List.foldl_nil]
  rw [if_neg h, pickC_none]
theorem bstTo_yes {r L : Nat} {w : Int} {ws : List Int} {fr room k : Nat} (h : r ^ (L - (fr + k)) ≤ room) :
    bstTo r L w ws fr room (k + 1) = pickC (bstTo r L w ws fr room k) (addC [fr + k] (w * ((fr + k : Nat) : Int)) (bst r L ws (fr + k) (room - r ^ (L - (fr + k))))) := by
  unfold bstTo
  rw [List.range'_concat, List.foldl_append]
  simp only [Nat.one_mul, List.foldl_cons, List.foldl_nil]
  rw [if_pos h]
theorem pick_fold {f : Nat → Cand} : ∀ (l : List Nat) (a : Cand), l.foldl (fun c n => pickC c (f n)) a = pickC a (l.foldl (fun c n => pickC c (f n)) Option.none)
  | [], a => (pickC_none a).symm
  | n :: l, a => by
    rw [List.foldl_cons, List.foldl_cons, pick_fold l (pickC a (f n)), pick_fold l (pickC Option.none (f n)), pickC_assoc]; rfl
theorem bst_end {r L : Nat} {w : Int} {ws : List Int} {fr room : Nat} (h : L < fr) : bst r L (w :: ws) fr room = Option.none := by
  rw [bst, show L + 1 - fr = 0 by omega]; rfl
theorem bst_step {r L : Nat} {w : Int} {ws : List Int} {fr room : Nat} (h : fr ≤ L) :
    bst r L (w :: ws) fr room = pickC (if r ^ (L - fr) ≤ room then addC [fr] (w * (fr : Int)) (bst r L ws fr (room - r ^ (L - fr))) else Option.none) (bst r L (w :: ws) (fr + 1) room) := by
  rw [bst, bst, show L + 1 - fr = (L + 1 - (fr + 1)) + 1 by omega, List.range'_succ, List.foldl_cons, pick_fold]
  rfl
/-- All weights together. -/
def sumW : List Int → Int
  | [] => 0
  | w :: ws => w + sumW ws
theorem sumW_nonneg {ws : List Int} (h : ∀ w ∈ ws, 0 ≤ w) : 0 ≤ sumW ws := by
  induction ws with
  | nil => exact Int.le_refl _
  | cons w ws ih =>
    have h1 := h w (by simp)
    have h2 := ih (fun x hx => h x (by simp [hx]))
    simp only [sumW]; omega
theorem sumW_app (a b : List Int) : sumW (a ++ b) = sumW a + sumW b := by
  induction a with
  | nil => simp [sumW]
  | cons w ws ih => simp only [List.cons_append, sumW, ih]; omega
theorem pickC_some {a b : Cand} {x : List Nat × Int} (h : pickC a b = some x) : a = some x ∨ b = some x := by
  cases a with
  | none => exact .inr h
  | some y =>
    cases b with
    | none => exact .inl h
    | some z =>
      simp only [pickC] at h
      split at h
      · exact .inr h
      · exact .inl h
theorem addC_some {l : List Nat} {k : Int} {c : Cand} {x : List Nat × Int} (h : addC l k c = some x) : ∃ y, c = some y ∧ x = (l ++ y.1, k + y.2) := by
  cases c with
  | none => cases h
  | some y => exact ⟨y, rfl, by unfold addC at h; simp at h; exact h.symm⟩
/-- Induction over what is found: the lists are as long as the weights, and the cost lies between that of the least and that of the greatest length. -/
theorem bst_bd {r L : Nat} : ∀ (ws : List Int), (∀ w ∈ ws, 0 ≤ w) → ∀ (q fr room : Nat), q = L + 1 - fr → ∀ x, bst r L ws fr room = some x →
    x.1.length = ws.length ∧ (fr : Int) * sumW ws ≤ x.2 ∧ x.2 ≤ (L : Int) * sumW ws ∧ ∀ n ∈ x.1, fr ≤ n ∧ n ≤ L
  | [], _, q, fr, room, _, x, hx => by
    rw [bst] at hx; cases hx
    refine ⟨rfl, by simp [sumW], by simp [sumW], by simp⟩
  | w :: ws, hw, 0, fr, room, hq, x, hx => by
    rw [bst_end (by omega)] at hx; cases hx
  | w :: ws, hw, q + 1, fr, room, hq, x, hx => by
    have hw0 := hw w (by simp)
    have hws : ∀ x ∈ ws, 0 ≤ x := fun x hx => hw x (by simp [hx])
    have hs := sumW_nonneg hws
    rw [bst_step (by omega)] at hx
    rcases pickC_some hx with h | h
    · split at h
      · obtain ⟨y, hy, rfl⟩ := addC_some h
        have ih := bst_bd ws hws _ fr _ rfl y hy
        have hL : (fr : Int) ≤ (L : Int) := by omega
        have h5 : w * (fr : Int) ≤ w * (L : Int) := Int.mul_le_mul_of_nonneg_left hL hw0
        have e1 : (fr : Int) * (w + sumW ws) = w * (fr : Int) + (fr : Int) * sumW ws := by rw [Int.mul_add, Int.mul_comm]
        have e2 : (L : Int) * (w + sumW ws) = w * (L : Int) + (L : Int) * sumW ws := by rw [Int.mul_add, Int.mul_comm]
        refine ⟨by simp [ih.1], ?_, ?_, ?_⟩
        · simp only [sumW]; rw [e1]; have := ih.2.1; omega
        · simp only [sumW]; rw [e2]; have := ih.2.2.1; omega
        · intro n hn
          rcases List.mem_append.1 hn with h1 | h1
          · simp at h1; subst h1; exact ⟨Nat.le_refl _, by omega⟩
          · exact ih.2.2.2 n h1
      · cases h
    · have ih := bst_bd (w :: ws) hw q (fr + 1) room (by omega) x h
      have h0 := sumW_nonneg hw
      have e : ((fr + 1 : Nat) : Int) * sumW (w :: ws) = (fr : Int) * sumW (w :: ws) + sumW (w :: ws) := by rw [Int.natCast_add, Int.add_mul]; simp
      refine ⟨ih.1, by have := ih.2.1; omega, ih.2.2.1, fun n hn => ?_⟩
      have := ih.2.2.2 n hn
      omega
/-- With some free places at a level. -/
def lvl (r L : Nat) (ws : List Int) (level free : Nat) : Cand := bst r L ws level (free * r ^ (L - level))
theorem lvl_nil {r L level free : Nat} : lvl r L [] level free = some ([], 0) := by unfold lvl; rw [bst]
theorem lvl_end {r L level free : Nat} {ws : List Int} (hw : ws ≠ []) (h : L < level) : lvl r L ws level free = Option.none := by
  cases ws with
  | nil => exact absurd rfl hw
  | cons w ws => exact bst_end h
theorem lvl_next {r L level free : Nat} {w : Int} {ws : List Int} (h : level ≤ L) : bst r L (w :: ws) (level + 1) (free * r ^ (L - level)) = lvl r L (w :: ws) (level + 1) (free * r) := by
  rcases Nat.lt_or_ge level L with h1 | h1
  · unfold lvl
    rw [show L - level = (L - (level + 1)) + 1 by omega, Nat.pow_succ, Nat.mul_assoc, Nat.mul_comm (r ^ (L - (level + 1))) r]
  · rw [lvl_end (by simp) (by omega), bst_end (by omega)]
theorem lvl_step {r L level free : Nat} {w : Int} {ws : List Int} (hr : 1 ≤ r) (h : level ≤ L) :
    lvl r L (w :: ws) level (free + 1) = pickC (addC [level] (w * (level : Int)) (lvl r L ws level free)) (lvl r L (w :: ws) (level + 1) ((free + 1) * r)) := by
  have hp : 1 ≤ r ^ (L - level) := Nat.one_le_pow _ _ hr
  conv => lhs; unfold lvl
  rw [bst_step h, lvl_next h, if_pos (by rw [Nat.add_mul]; omega)]
  unfold lvl
  rw [show (free + 1) * r ^ (L - level) - r ^ (L - level) = free * r ^ (L - level) by rw [Nat.add_mul]; omega]
theorem lvl_none {r L : Nat} {w : Int} {ws : List Int} (hr : 1 ≤ r) : ∀ (q level : Nat), q = L + 1 - level → lvl r L (w :: ws) level 0 = Option.none
  | 0, level, hq => lvl_end (by simp) (by omega)
  | q + 1, level, hq => by
    have hp : 1 ≤ r ^ (L - level) := Nat.one_le_pow _ _ hr
    have ih := lvl_none (L := L) (w := w) (ws := ws) hr q (level + 1) (by omega)
    have h2 := lvl_next (r := r) (L := L) (free := 0) (w := w) (ws := ws) (show level ≤ L by omega)
    unfold lvl
    rw [Nat.zero_mul] at h2 ⊢
    rw [bst_step (by omega), if_neg (by omega), h2, Nat.zero_mul, ih]; rfl
/-- Enough places for all. -/
theorem lvl_all {r L : Nat} (hr : 1 ≤ r) : ∀ (ws : List Int), (∀ w ∈ ws, 0 ≤ w) → ∀ (level free : Nat), level ≤ L → ws.length ≤ free →
    lvl r L ws level free = some (List.replicate ws.length level, (level : Int) * sumW ws)
  | [], _, level, free, _, _ => by rw [lvl_nil]; simp [sumW]
  | w :: ws, hw, level, free, hl, hf => by
    obtain ⟨f, rfl⟩ : ∃ f, free = f + 1 := ⟨free - 1, by simp at hf; omega⟩
    have hws : ∀ x ∈ ws, 0 ≤ x := fun x hx => hw x (by simp [hx])
    rw [lvl_step hr hl, lvl_all hr ws hws level f hl (by simp at hf; omega)]
    have e1 : (level : Int) * (w + sumW ws) = w * (level : Int) + (level : Int) * sumW ws := by rw [Int.mul_add, Int.mul_comm]
    have e2 : addC [level] (w * (level : Int)) (some (List.replicate ws.length level, (level : Int) * sumW ws)) = some (List.replicate (w :: ws).length level, (level : Int) * sumW (w :: ws)) := by
      simp only [addC, Option.map, sumW, e1]; rfl
    rw [e2]
    cases hc : lvl r L (w :: ws) (level + 1) ((f + 1) * r) with
    | none => rfl
    | some y =>
      have hb := (bst_bd (w :: ws) hw _ (level + 1) _ rfl y hc).2.1
      have h0 := sumW_nonneg hw
      have e : ((level + 1 : Nat) : Int) * sumW (w :: ws) = (level : Int) * sumW (w :: ws) + sumW (w :: ws) := by rw [Int.natCast_add, Int.add_mul]; simp
      simp only [pickC]
      rw [if_neg (by omega)]
/-- More places than words help no more. -/
theorem lvl_clip {r L : Nat} (hr : 1 ≤ r) {ws : List Int} (hw : ∀ w ∈ ws, 0 ≤ w) {level f g : Nat} (hf : ws.length ≤ f) (hg : ws.length ≤ g) : lvl r L ws level f = lvl r L ws level g := by
  rcases Nat.lt_or_ge L level with h | h
  · cases ws with
    | nil => rw [lvl_nil, lvl_nil]
    | cons w ws => rw [lvl_end (by simp) h, lvl_end (by simp) h]
  · rw [lvl_all hr ws hw level f h hf, lvl_all hr ws hw level g h hg]
theorem lvl_min {r L : Nat} (hr : 1 ≤ r) {ws : List Int} (hw : ∀ w ∈ ws, 0 ≤ w) {level f : Nat} : lvl r L ws level (min f ws.length) = lvl r L ws level f := by
  rcases Nat.le_total f ws.length with h | h
  · rw [Nat.min_eq_left h]
  · exact lvl_clip hr hw (by omega) h
/-- The first of the least ones from f down to 0. -/
def pickDown (g : Nat → Cand) : Nat → Cand
  | 0 => g 0
  | f + 1 => pickC (g (f + 1)) (pickDown g f)
theorem pickDown_congr {g h : Nat → Cand} : ∀ f, (∀ t, t ≤ f → g t = h t) → pickDown g f = pickDown h f
  | 0, e => e 0 (Nat.le_refl _)
  | f + 1, e => by rw [pickDown, pickDown, e (f + 1) (Nat.le_refl _), pickDown_congr f (fun t ht => e t (by omega))]
theorem pickDown_add {g : Nat → Cand} {l : List Nat} {k : Int} : ∀ f, addC l k (pickDown g f) = pickDown (fun t => addC l k (g t)) f
  | 0 => rfl
  | f + 1 => by rw [pickDown, pickDown, addC_pick, pickDown_add f]
theorem pickDown_up {g : Nat → Cand} : ∀ f, pickDown g (f + 1) = pickC (pickDown (fun t => g (t + 1)) f) (g 0)
  | 0 => rfl
  | f + 1 => by
    rw [pickDown, pickDown_up f, pickDown, ← pickC_assoc]
/-- As many words as told end at a level. -/
def cand (r L : Nat) (ws : List Int) (level f take : Nat) : Cand := addC (List.replicate take level) ((level : Int) * sumW (ws.take take)) (lvl r L (ws.drop take) (level + 1) ((f - take) * r))
theorem lvl_take {r L : Nat} (hr : 1 ≤ r) {level : Nat} (hl : level ≤ L) : ∀ (ws : List Int) (f : Nat), f ≤ ws.length → lvl r L ws level f = pickDown (cand r L ws level f) f
  | [], f, hf => by
    obtain rfl : f = 0 := by simpa using hf
    simp only [pickDown, cand]
    rw [List.take_nil, List.drop_nil, lvl_nil, lvl_nil]; simp [addC, sumW]
  | w :: ws, 0, _ => by
    simp only [pickDown, cand]
    rw [List.take_zero, List.drop_zero, Nat.zero_mul, lvl_none hr _ _ rfl, lvl_none hr _ _ rfl]; rfl
  | w :: ws, f + 1, hf => by
    rw [lvl_step hr hl, lvl_take hr hl ws f (by simp at hf; omega), pickDown_add, pickDown_up]
    have e0 : cand r L (w :: ws) level (f + 1) 0 = lvl r L (w :: ws) (level + 1) ((f + 1) * r) := by
      simp only [cand]
      rw [List.take_zero, List.drop_zero, Nat.sub_zero]
      simp only [List.replicate_zero, sumW, Int.mul_zero]
      exact addC_nil _
    rw [e0]
    congr 1
    refine pickDown_congr f (fun t _ => ?_)
    simp only [cand]
    rw [addC_add, List.take_succ_cons, List.drop_succ_cons, show f + 1 - (t + 1) = f - t by omega]
    have e1 : (level : Int) * (w + sumW (ws.take t)) = w * (level : Int) + (level : Int) * sumW (ws.take t) := by rw [Int.mul_add, Int.mul_comm]
    rw [show List.replicate (t + 1) level = [level] ++ List.replicate t level from rfl]
    simp only [sumW]
    rw [e1]
/-- The cost of what is still to be given lengths of at least some level, if each weight costs its own for each level. -/
def relC (r L : Nat) (ws : List Int) (level free : Nat) : Int := match lvl r L ws level free with
  | Option.none => 1000000000
  | some x => x.2 - ((level : Int) - 1) * sumW ws
def withC (r L : Nat) (ws : List Int) (level f take : Nat) : Int := min 1000000000 (sumW ws + relC r L (ws.drop take) (level + 1) ((f - take) * r))
theorem relC_nil {r L level free : Nat} : relC r L [] level free = 0 := by unfold relC; rw [lvl_nil]; simp [sumW]
theorem relC_end {r L level free : Nat} {ws : List Int} (hw : ws ≠ []) (h : L < level) : relC r L ws level free = 1000000000 := by unfold relC; rw [lvl_end hw h]
theorem relC_zero {r L level : Nat} {ws : List Int} (hr : 1 ≤ r) (hw : ws ≠ []) : relC r L ws level 0 = 1000000000 := by
  cases ws with
  | nil => exact absurd rfl hw
  | cons w ws => unfold relC; rw [lvl_none hr _ _ rfl]
theorem relC_min {r L : Nat} (hr : 1 ≤ r) {ws : List Int} (hw : ∀ w ∈ ws, 0 ≤ w) {level f : Nat} : relC r L ws level (min f ws.length) = relC r L ws level f := by unfold relC; rw [lvl_min hr hw]
/-- What is found is cheap. -/
theorem lvl_cheap {r L : Nat} {ws : List Int} (hw : ∀ w ∈ ws, 0 ≤ w) {level free : Nat} {x : List Nat × Int} (h : lvl r L ws level free = some x) : (level : Int) * sumW ws ≤ x.2 ∧ x.2 ≤ (L : Int) * sumW ws :=
  ⟨(bst_bd ws hw _ level _ rfl x h).2.1, (bst_bd ws hw _ level _ rfl x h).2.2.1⟩
theorem relC_bd {r L : Nat} {ws : List Int} (hw : ∀ w ∈ ws, 0 ≤ w) {level free : Nat} (h1 : 1 ≤ level) (hL : (L : Int) * sumW ws < 1000000000) : 0 ≤ relC r L ws level free ∧ relC r L ws level free ≤ 1000000000 := by
  unfold relC
  split
  · exact ⟨by decide, Int.le_refl _⟩
  · rename_i x hx
    have hb := lvl_cheap hw hx
    have h0 := sumW_nonneg hw
    have e : ((level : Int) - 1) * sumW ws = (level : Int) * sumW ws - sumW ws := by rw [Int.sub_mul, Int.one_mul]
    have h2 : 0 ≤ ((level : Int) - 1) * sumW ws := Int.mul_nonneg (by omega) h0
    constructor <;> omega
theorem sum_split (ws : List Int) (t : Nat) : sumW ws = sumW (ws.take t) + sumW (ws.drop t) := by rw [← sumW_app, List.take_append_drop]
/-- The cost of a candidate. -/
theorem cand_cost {r L : Nat} {ws : List Int} (hw : ∀ w ∈ ws, 0 ≤ w) {level f t : Nat} (h1 : 1 ≤ level) (hl : 1 ≤ L) (hL : (L : Int) * sumW ws < 1000000000) :
    withC r L ws level f t = match cand r L ws level f t with
      | Option.none => 1000000000
      | some x => x.2 - ((level : Int) - 1) * sumW ws := by
  have hwd : ∀ w ∈ ws.drop t, 0 ≤ w := fun w hm => hw w (List.mem_of_mem_drop hm)
  have hwt : ∀ w ∈ ws.take t, 0 ≤ w := fun w hm => hw w (List.mem_of_mem_take hm)
  have h0 := sumW_nonneg hw
  have hd0 := sumW_nonneg hwd
  have ht0 := sumW_nonneg hwt
  have hsp := sum_split ws t
  unfold withC relC cand
  cases hc : lvl r L (ws.drop t) (level + 1) ((f - t) * r) with
  | none =>
    show min 1000000000 (sumW ws + 1000000000) = 1000000000
    omega
  | some y =>
    have hb := lvl_cheap hwd hc
    simp only [addC, Option.map]
    have e1 : (((level + 1 : Nat) : Int) - 1) * sumW (ws.drop t) = (level : Int) * sumW (ws.drop t) := by congr 1; omega
    have e2 : ((level : Int) - 1) * sumW ws = (level : Int) * sumW (ws.take t) + (level : Int) * sumW (ws.drop t) - sumW ws := by rw [Int.sub_mul, Int.one_mul, hsp, Int.mul_add]
    have e3 : ((level + 1 : Nat) : Int) * sumW (ws.drop t) = (level : Int) * sumW (ws.drop t) + sumW (ws.drop t) := by rw [Int.natCast_add, Int.add_mul]; simp
    have h3 : (L : Int) * sumW ws = (L : Int) * sumW (ws.take t) + (L : Int) * sumW (ws.drop t) := by rw [hsp, Int.mul_add]
    have h4 : 0 ≤ (L : Int) * sumW (ws.take t) := Int.mul_nonneg (by omega) ht0
    have h5 : 0 ≤ (level : Int) * sumW (ws.drop t) := Int.mul_nonneg (by omega) hd0
    have h6 : sumW (ws.take t) ≤ (L : Int) * sumW (ws.take t) := by
      have := Int.mul_le_mul_of_nonneg_right (show (1 : Int) ≤ (L : Int) by omega) ht0
      omega
    have h7 : sumW (ws.drop t) ≤ (level : Int) * sumW (ws.drop t) := by
      have := Int.mul_le_mul_of_nonneg_right (show (1 : Int) ≤ (level : Int) by omega) hd0
      omega
    rw [e1, e2, Int.min_eq_right (by omega)]
    show _ = (level : Int) * sumW (ws.take t) + y.2 - ((level : Int) * sumW (ws.take t) + (level : Int) * sumW (ws.drop t) - sumW ws)
    omega
theorem pickDown_some {g : Nat → Cand} : ∀ (f : Nat) (x : List Nat × Int), pickDown g f = some x →
    ∃ t, t ≤ f ∧ g t = some x ∧ (∀ s, s ≤ f → ∀ y, g s = some y → x.2 ≤ y.2) ∧ (∀ s, t < s → s ≤ f → ∀ y, g s = some y → x.2 < y.2)
  | 0, x, h => ⟨0, Nat.le_refl _, h, fun s hs y hy => by
      obtain rfl : s = 0 := by omega
      rw [pickDown] at h; rw [h] at hy; cases hy; exact Int.le_refl _, fun s h1 h2 => by omega⟩
  | f + 1, x, h => by
    rw [pickDown] at h
    cases hg : g (f + 1) with
    | none =>
      rw [hg] at h
      obtain ⟨t, h1, h2, h3, h4⟩ := pickDown_some f x h
      refine ⟨t, by omega, h2, fun s hs y hy => ?_, fun s h5 h6 y hy => ?_⟩
      · rcases Nat.lt_or_ge f s with h7 | h7
        · obtain rfl : s = f + 1 := by omega
          rw [hg] at hy; cases hy
        · exact h3 s h7 y hy
      · rcases Nat.lt_or_ge f s with h7 | h7
        · obtain rfl : s = f + 1 := by omega
          rw [hg] at hy; cases hy
        · exact h4 s h5 h7 y hy
    | some z =>
      rw [hg] at h
      cases hp : pickDown g f with
      | none =>
        rw [hp] at h
        cases h
        refine ⟨f + 1, Nat.le_refl _, hg, fun s hs y hy => ?_, fun s h5 h6 => by omega⟩
        rcases Nat.lt_or_ge f s with h7 | h7
        · obtain rfl : s = f + 1 := by omega
          rw [hg] at hy; cases hy; exact Int.le_refl _
        · exact absurd hy (by rw [pickDown_none f hp s h7]; simp)
      | some u =>
        rw [hp] at h
        obtain ⟨t, h1, h2, h3, h4⟩ := pickDown_some f u hp
        simp only [pickC] at h
        split at h
        · rename_i hlt
          cases h
          refine ⟨t, by omega, h2, fun s hs y hy => ?_, fun s h5 h6 y hy => ?_⟩
          · rcases Nat.lt_or_ge f s with h7 | h7
            · obtain rfl : s = f + 1 := by omega
              rw [hg] at hy; cases hy; omega
            · exact h3 s h7 y hy
          · rcases Nat.lt_or_ge f s with h7 | h7
            · obtain rfl : s = f + 1 := by omega
              rw [hg] at hy; cases hy; omega
            · exact h4 s h5 h7 y hy
        · rename_i hlt
          cases h
          refine ⟨f + 1, Nat.le_refl _, hg, fun s hs y hy => ?_, fun s h5 h6 => by omega⟩
          rcases Nat.lt_or_ge f s with h7 | h7
          · obtain rfl : s = f + 1 := by omega
            rw [hg] at hy; cases hy; exact Int.le_refl _
          · have := h3 s h7 y hy
            omega
where pickDown_none {g : Nat → Cand} : ∀ (f : Nat), pickDown g f = Option.none → ∀ s, s ≤ f → g s = Option.none
  | 0, h, s, hs => by obtain rfl : s = 0 := by omega
                      exact h
  | f + 1, h, s, hs => by
    rw [pickDown] at h
    cases hg : g (f + 1) with
    | none =>
      rw [hg] at h
      rcases Nat.lt_or_ge f s with h7 | h7
      · obtain rfl : s = f + 1 := by omega
        exact hg
      · exact pickDown_none f h s h7
    | some z =>
      rw [hg] at h
      cases hp : pickDown g f with
      | none => rw [hp] at h; cases h
      | some u =>
        rw [hp] at h
        simp only [pickC] at h
        split at h <;> cases h
/-- The least of the first k costs, from f down. -/
def lowDown (g : Nat → Int) (f : Nat) : Nat → Int
  | 0 => 1000000000
  | k + 1 => min (lowDown g f k) (g (f - k))
/-- The least cost of a level by the least costs of the next one. -/
theorem relC_low {r L : Nat} (hr : 1 ≤ r) {ws : List Int} (hw : ∀ w ∈ ws, 0 ≤ w) {level f : Nat} (hf : f ≤ ws.length) (h1 : 1 ≤ level) (h2 : level ≤ L) (hL : (L : Int) * sumW ws < 1000000000) :
    lowDown (withC r L ws level f) f (f + 1) = relC r L ws level f := by
  have hle : ∀ k, k ≤ f + 1 → lowDown (withC r L ws level f) f k ≤ 1000000000 ∧ (∀ s, f < s + k → s ≤ f → lowDown (withC r L ws level f) f k ≤ withC r L ws level f s) ∧
      (lowDown (withC r L ws level f) f k = 1000000000 ∨ ∃ s, f < s + k ∧ s ≤ f ∧ lowDown (withC r L ws level f) f k = withC r L ws level f s) := by
    intro k
    induction k with
    | zero => intro _; exact ⟨Int.le_refl _, fun s h3 h4 => by omega, .inl rfl⟩
    | succ k ih =>
      intro hk
      obtain ⟨i1, i2, i3⟩ := ih (by omega)
      rw [lowDown]
      refine ⟨by omega, fun s h3 h4 => ?_, ?_⟩
      · by_cases e : s = f - k
        · subst e; omega
        · have := i2 s (by omega) h4; omega
      · rcases Int.le_total (lowDown (withC r L ws level f) f k) (withC r L ws level f (f - k)) with h5 | h5
        · rw [Int.min_eq_left h5]
          rcases i3 with h6 | ⟨s, h6, h7, h8⟩
          · exact .inl h6
          · exact .inr ⟨s, by omega, h7, h8⟩
        · rw [Int.min_eq_right h5]
          exact .inr ⟨f - k, by omega, by omega, rfl⟩
  obtain ⟨b1, b2, b3⟩ := hle (f + 1) (Nat.le_refl _)
  have hcc := fun t => cand_cost (r := r) (f := f) (t := t) hw h1 (show 1 ≤ L by omega) hL
  have hrb := relC_bd (r := r) (free := f) hw h1 hL
  unfold relC at hrb ⊢
  rw [lvl_take hr h2 ws f hf] at hrb ⊢
  cases hp : pickDown (cand r L ws level f) f with
  | none =>
    rcases b3 with h | ⟨s, _, hs, h⟩
    · exact h
    · rw [h, hcc s, pickDown_some.pickDown_none f hp s hs]
  | some x =>
    rw [hp] at hrb
    simp only at hrb ⊢
    obtain ⟨t, ht, hx, hmin, _⟩ := pickDown_some f x hp
    have e1 := b2 t (by omega) ht
    rw [hcc t, hx] at e1
    simp only at e1
    rcases b3 with h | ⟨s, _, hs, h⟩
    · omega
    · rw [hcc s] at h
      cases hc : cand r L ws level f s with
      | none => rw [hc] at h; simp only at h; omega
      | some y =>
        rw [hc] at h
        simp only at h
        have := hmin s hs y hc
        omega
/-- One level of the list: as many words as can end there at the least cost. -/
theorem lvl_greedy {r L : Nat} (hr : 1 ≤ r) {ws : List Int} (hw : ∀ w ∈ ws, 0 ≤ w) {level f : Nat} (hf : f ≤ ws.length) (h1 : 1 ≤ level) (h2 : level ≤ L) (hL : (L : Int) * sumW ws < 1000000000)
    {x : List Nat × Int} (hx : lvl r L ws level f = some x) :
    ∃ t y, t ≤ f ∧ withC r L ws level f t = relC r L ws level f ∧ (∀ s, t < s → s ≤ f → relC r L ws level f < withC r L ws level f s) ∧ lvl r L (ws.drop t) (level + 1) ((f - t) * r) = some y ∧ x.1 = List.replicate t level ++ y.1 := by
  have hcc := fun t => cand_cost (r := r) (f := f) (t := t) hw h1 (show 1 ≤ L by omega) hL
  have hb := lvl_cheap hw hx
  have h0 := sumW_nonneg hw
  have hrel : relC r L ws level f = x.2 - ((level : Int) - 1) * sumW ws := by unfold relC; rw [hx]
  have hp := hx
  rw [lvl_take hr h2 ws f hf] at hp
  obtain ⟨t, ht, hc, hmin, hlt⟩ := pickDown_some f x hp
  have hy := hc
  unfold cand at hy
  obtain ⟨y, hy1, hy2⟩ := addC_some hy
  refine ⟨t, y, ht, ?_, fun s hs1 hs2 => ?_, hy1, by rw [hy2]⟩
  · rw [hcc t, hc, hrel]
  · rw [hcc s, hrel]
    have h3 : 0 ≤ ((level : Int) - 1) * sumW ws := Int.mul_nonneg (by omega) h0
    cases hd : cand r L ws level f s with
    | none => show _ < (1000000000 : Int); omega
    | some z =>
      have := hlt s hs1 hs2 z hd
      show _ < z.2 - ((level : Int) - 1) * sumW ws
      omega
end Go.Proofs.Ytabiobjcfopakaa
