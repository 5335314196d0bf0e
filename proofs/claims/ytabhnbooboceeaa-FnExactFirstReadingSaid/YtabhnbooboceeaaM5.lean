/- Words on lists of rows of integers in memory, and the helpers of the laws on slices of slices of integers. -/
import Derived.Test.YtabhnbooboceeaaM4
namespace Go.Proofs.Ytabhnbooboceeaa
open Go.RowKit
/-- The slice values us read as the lists xss. -/
def RowsR (w : World) (hi : Nat) (us : List Value) (xss : List (List Int)) : Prop := us.length = xss.length ∧ ∀ (i : Nat) (u : Value) (xs : List Int), us[i]? = some u → xss[i]? = some xs → RdI w hi u xs
/-- The slice values us are rows of the call's own, no two of them one. -/
def RowsO (w : World) (lo hi : Nat) (us : List Value) (xss : List (List Int)) : Prop :=
  us.length = xss.length ∧ (∀ (i : Nat) (u : Value) (xs : List Int), us[i]? = some u → xss[i]? = some xs → OwI w lo hi u xs) ∧
  ∀ (i j : Nat) (u u' : Value), i < j → us[i]? = some u → us[j]? = some u' → ∀ g, u.ownBlock = some g → u'.ownBlock ≠ some g
theorem RowsR.below {w w' : World} {hi B : Nat} {us : List Value} {xss : List (List Int)} (h : RowsR w hi us xss) (hb : Below B w w') (hB : hi ≤ B) : RowsR w' hi us xss :=
  ⟨h.1, fun i u xs hu hx => (h.2 i u xs hu hx).below hb hB⟩
theorem RowsR.mono {w : World} {hi hi' : Nat} {us : List Value} {xss : List (List Int)} (h : RowsR w hi us xss) (hB : hi ≤ hi') : RowsR w hi' us xss :=
  ⟨h.1, fun i u xs hu hx => (h.2 i u xs hu hx).mono hB⟩
theorem RowsO.rd {w : World} {lo hi : Nat} {us : List Value} {xss : List (List Int)} (h : RowsO w lo hi us xss) : RowsR w hi us xss := ⟨h.1, fun i u xs hu hx => (h.2.1 i u xs hu hx).rd⟩
theorem RowsO.below {w w' : World} {lo hi B : Nat} {us : List Value} {xss : List (List Int)} (h : RowsO w lo hi us xss) (hb : Below B w w') (hB : hi ≤ B) : RowsO w' lo hi us xss :=
  ⟨h.1, fun i u xs hu hx => (h.2.1 i u xs hu hx).below hb hB, h.2.2⟩
theorem RowsO.keep {w w' : World} {lo hi a b : Nat} {us : List Value} {xss : List (List Int)} (h : RowsO w lo hi us xss) (hk : Keep a b w w') (hd : hi ≤ a ∨ b ≤ lo) : RowsO w' lo hi us xss :=
  ⟨h.1, fun i u xs hu hx => (h.2.1 i u xs hu hx).keep hk hd, h.2.2⟩
theorem OwI.mono {w : World} {lo hi lo' hi' : Nat} {v : Value} {xs : List Int} (h : OwI w lo hi v xs) (h1 : lo' ≤ lo) (h2 : hi ≤ hi') : OwI w lo' hi' v xs := by
  refine ⟨⟨h.1.1, ?_⟩, fun k hk => by have := h.2 k hk; omega⟩
  rcases h.1.2 with hn | ⟨g, cap, cur, rfl, hl, hg, rest⟩
  · exact .inl hn
  · exact .inr ⟨g, cap, cur, rfl, by omega, hg, rest⟩
theorem RowsO.nil (w : World) (lo hi : Nat) : RowsO w lo hi [] [] := ⟨rfl, fun i u xs hu _ => by simp at hu, fun i j u u' _ hu _ => by simp at hu⟩
theorem RowsO.mono {w : World} {lo hi lo' hi' : Nat} {us : List Value} {xss : List (List Int)} (h : RowsO w lo hi us xss) (h1 : lo' ≤ lo) (h2 : hi ≤ hi') : RowsO w lo' hi' us xss :=
  ⟨h.1, fun i u xs hu hx => (h.2.1 i u xs hu hx).mono h1 h2, h.2.2⟩
/-- One row more, made since. -/
theorem RowsO.snoc {w : World} {lo mid hi : Nat} {us : List Value} {xss : List (List Int)} {u : Value} {xs : List Int} (h : RowsO w lo mid us xss) (hu : OwI w mid hi u xs) (h1 : lo ≤ mid) (h2 : mid ≤ hi) : RowsO w lo hi (us ++ [u]) (xss ++ [xs]) := by
  have hl := h.1
  refine ⟨by simp [hl], fun i a b ha hb => ?_, fun i j a b hij ha hb g hg => ?_⟩
  · rcases Nat.lt_or_ge i us.length with hi | hi
    · rw [List.getElem?_append_left hi] at ha
      rw [List.getElem?_append_left (by omega)] at hb
      exact (h.2.1 i a b ha hb).mono (Nat.le_refl _) h2
    · rw [List.getElem?_append_right hi] at ha
      rw [List.getElem?_append_right (by omega)] at hb
      obtain ⟨hz, rfl⟩ : i - us.length = 0 ∧ u = a := by
        rcases Nat.eq_zero_or_pos (i - us.length) with e | e
        · rw [e] at ha; simp at ha; exact ⟨e, ha⟩
        · rw [List.getElem?_eq_none (by simp; omega)] at ha; cases ha
      rw [show i - xss.length = 0 by omega] at hb
      simp at hb
      subst hb
      exact hu.mono h1 (Nat.le_refl _)
  · rcases Nat.lt_or_ge i us.length with hi | hi
    · rw [List.getElem?_append_left hi] at ha
      rcases Nat.lt_or_ge j us.length with hj | hj
      · rw [List.getElem?_append_left hj] at hb
        exact h.2.2 i j a b hij ha hb g hg
      · rw [List.getElem?_append_right hj] at hb
        have hbu : u = b := by
          rcases Nat.eq_zero_or_pos (j - us.length) with e | e
          · rw [e] at hb; simpa using hb
          · rw [List.getElem?_eq_none (by simp; omega)] at hb; cases hb
        subst hbu
        intro hg2
        have h3 := (hu.range g hg2).1
        obtain ⟨xs', hxs⟩ : ∃ xs', xss[i]? = some xs' := ⟨xss[i], by simp [show i < xss.length by omega]⟩
        have h4 := ((h.2.1 i a xs' ha hxs).range g hg).2
        omega
    · rw [List.getElem?_append_right hi] at ha
      rw [List.getElem?_append_right (by omega)] at hb
      rw [List.getElem?_eq_none (by simp; omega)] at hb
      cases hb
/-- One row is marked: it reads anew, the others as they did. -/
theorem RowsO.only {w w' : World} {lo hi j : Nat} {us : List Value} {xss : List (List Int)} {u : Value} {ys : List Int} (h : RowsO w lo hi us xss) (hu : us[j]? = some u) (hk : Only u.ownBlock w w') (hy : OwI w' lo hi u ys) : RowsO w' lo hi us (xss.set j ys) := by
  refine ⟨by simp [h.1], fun i a b ha hb => ?_, h.2.2⟩
  by_cases e : i = j
  · subst e
    rw [hu] at ha; cases ha
    have hil : i < xss.length := by have := (List.getElem?_eq_some_iff.1 hu).1; have := h.1; omega
    rw [List.getElem?_set_self hil] at hb; cases hb
    exact hy
  · rw [List.getElem?_set_ne (fun e2 => e e2.symm)] at hb
    refine (h.2.1 i a b ha hb).only hk (fun g hg hg2 => ?_)
    rcases Nat.lt_or_gt_of_ne e with hlt | hlt
    · exact h.2.2 i j a u hlt ha hu g hg hg2
    · exact h.2.2 j i u a hlt hu ha g hg2 hg
def RdII (w : World) (hi : Nat) (v : Value) (xss : List (List Int)) : Prop := ∃ us, RowsR w hi us xss ∧ Rd w hi 1 v xss.length us
def OwII (w : World) (lo hi : Nat) (v : Value) (xss : List (List Int)) : Prop := ∃ us, RowsO w lo hi us xss ∧ w.ownsRow lo 37 1 v xss.length us ∧ ∀ k, v.ownBlock = some k → k < hi
theorem RdII.below {w w' : World} {hi : Nat} {v : Value} {xss : List (List Int)} (h : RdII w hi v xss) {B : Nat} (hb : Below B w w') (hB : hi ≤ B) : RdII w' hi v xss := by
  obtain ⟨us, h1, h2⟩ := h; exact ⟨us, h1.below hb hB, h2.below hb hB⟩
theorem owns_below {w w' : World} {lo hi size n : Nat} {e : TypeId} {v : Value} {xs : List Value} (h : w.ownsRow lo e size v n xs) (h2 : ∀ k, v.ownBlock = some k → k < hi) {B : Nat} (hb : Below B w w') (hB : hi ≤ B) : w'.ownsRow lo e size v n xs := by
  refine ⟨h.1, ?_⟩
  rcases h.2 with hn | ⟨g, cap, cur, rfl, hl, hg, rest⟩
  · exact .inl hn
  · exact .inr ⟨g, cap, cur, rfl, hl, (hb.block g (by have := h2 g rfl; omega)).trans hg, rest⟩
theorem owns_keep {w w' : World} {lo hi a b size n : Nat} {e : TypeId} {v : Value} {xs : List Value} (h : w.ownsRow lo e size v n xs) (h2 : ∀ k, v.ownBlock = some k → k < hi) (hk : Keep a b w w') (hd : hi ≤ a ∨ b ≤ lo) : w'.ownsRow lo e size v n xs := by
  refine ⟨h.1, ?_⟩
  rcases h.2 with hn | ⟨g, cap, cur, rfl, hl, hg, rest⟩
  · exact .inl hn
  · exact .inr ⟨g, cap, cur, rfl, hl, (hk.block g (by have := h2 g rfl; omega)).trans hg, rest⟩
theorem OwII.below {w w' : World} {lo hi : Nat} {v : Value} {xss : List (List Int)} (h : OwII w lo hi v xss) {B : Nat} (hb : Below B w w') (hB : hi ≤ B) : OwII w' lo hi v xss := by
  obtain ⟨us, h1, h2, h3⟩ := h; exact ⟨us, h1.below hb hB, owns_below h2 h3 hb hB, h3⟩
theorem OwII.keep {w w' : World} {lo hi a b : Nat} {v : Value} {xss : List (List Int)} (h : OwII w lo hi v xss) (hk : Keep a b w w') (hd : hi ≤ a ∨ b ≤ lo) : OwII w' lo hi v xss := by
  obtain ⟨us, h1, h2, h3⟩ := h; exact ⟨us, h1.keep hk hd, owns_keep h2 h3 hk hd, h3⟩
theorem OwII.rd {w : World} {lo hi : Nat} {v : Value} {xss : List (List Int)} (h : OwII w lo hi v xss) : RdII w hi v xss := by
  obtain ⟨us, h1, h2, h3⟩ := h; exact ⟨us, h1.rd, rd_of_owns h2 h3⟩
/-- The element at k: a cell with a slice value that reads as the k-th list. -/
theorem RdII.at_ {w : World} {hi : Nat} {v : Value} {xss : List (List Int)} (h : RdII w hi v xss) {k : Nat} (hk : k < xss.length) :
    ∃ b off c u xs, v = .slice (some ⟨b, off, Option.none⟩) xss.length c ∧ b < hi ∧ xss[k]? = some xs ∧ w.cell? ⟨b, off + k, Option.none⟩ = some u ∧ RdI w hi u xs := by
  obtain ⟨us, h1, h0, A, c, hv, _, _, h4⟩ := h
  obtain ⟨b, off, rfl, hb, hc⟩ := h4 (by omega)
  have hl := h1.1
  have hu : us[k]? = some us[k] := by simp [show k < us.length by omega]
  exact ⟨b, off, c, us[k], xss[k], hv, hb, by simp [hk], hc k _ hu, h1.2 k _ _ hu (by simp [hk])⟩
theorem RdII.form {w : World} {hi : Nat} {v : Value} {xss : List (List Int)} (h : RdII w hi v xss) : ∃ A c, v = .slice A xss.length c ∧ xss.length ≤ 9223372036854775807 := by
  obtain ⟨us, _, _, A, c, hv, h2, h3, _⟩ := h
  exact ⟨A, c, hv, by unfold maxLen at h3; omega⟩
theorem take_snocN {α : Type} {xs : List α} {k : Nat} {y : α} (h : xs[k]? = some y) : xs.take (k + 1) = xs.take k ++ [y] := by rw [List.take_add_one, h]; rfl
/-- All lists together. -/
def sizeII : List (List Int) → Nat
  | [] => 0
  | xs :: r => xs.length + sizeII r
/-- What is left of a number of cells behind all rows. -/
def szRest : Int → List (List Int) → Int
  | l, [] => l
  | l, xs :: r => if l - xs.length < 0 then -1 else szRest (l - xs.length) r
def szIntSSM (xss : List (List Int)) (left : Int) : Int := if left - xss.length < 0 then -1 else szRest (left - xss.length) xss
theorem szRest_bd (l : Int) (xss : List (List Int)) (h : ¬ szRest l xss < 0) : (sizeII xss : Int) ≤ l := by
  induction xss generalizing l with
  | nil => simp only [szRest] at h; simp only [sizeII]; omega
  | cons xs r ih =>
    simp only [szRest] at h
    split at h
    · omega
    · have := ih _ h
      simp only [sizeII]
      omega
theorem szIntSS_bd {xss : List (List Int)} {left z : Int} (h : z = szIntSSM xss left) (hz : ¬ z < 0) (hl : left ≤ 1048576 := by omega) : xss.length + sizeII xss ≤ 1048576 := by
  subst h
  unfold szIntSSM at hz
  split at hz
  · omega
  · have := szRest_bd _ _ hz
    omega
theorem sizeII_at {xss : List (List Int)} {k : Nat} {xs : List Int} (h : xss[k]? = some xs) : sizeII (xss.take (k + 1)) = sizeII (xss.take k) + xs.length ∧ sizeII (xss.take (k + 1)) ≤ sizeII xss := by
  induction xss generalizing k with
  | nil => simp at h
  | cons y r ih =>
    cases k with
    | zero => simp at h; subst h; simp [sizeII]
    | succ k =>
      have := ih (k := k) (by simpa using h)
      simp only [List.take_succ_cons, sizeII]
      omega
theorem sizeII_full (xss : List (List Int)) : sizeII (xss.take xss.length) = sizeII xss := by rw [List.take_of_length_le (Nat.le_refl _)]
def marksII : Nat → List (List Int) → List (List Int)
  | _, [] => []
  | k, xs :: r => marks k xs.length :: marksII (k + xs.length) r
theorem marksII_len (k : Nat) (xss : List (List Int)) : (marksII k xss).length = xss.length := by
  induction xss generalizing k with
  | nil => rfl
  | cons y r ih => simp [marksII, ih]
theorem marksII_at {k j : Nat} {xss : List (List Int)} {xs : List Int} (h : xss[j]? = some xs) : (marksII k xss)[j]? = some (marks (k + sizeII (xss.take j)) xs.length) := by
  induction xss generalizing k j with
  | nil => simp at h
  | cons y r ih =>
    cases j with
    | zero => simp at h; subst h; simp [marksII, sizeII]
    | succ j =>
      have := ih (k := k + y.length) (j := j) (by simpa using h)
      simp only [marksII, List.getElem?_cons_succ, List.take_succ_cons, sizeII]
      rw [this, Nat.add_assoc]
/-- Behind j rows: those are marked, the others are as they were. -/
def mixII (k j : Nat) (xss : List (List Int)) : List (List Int) := (marksII k xss).take j ++ xss.drop j
theorem mixII_at {k j : Nat} {xss : List (List Int)} {xs : List Int} (h : xss[j]? = some xs) : (mixII k j xss)[j]? = some xs := by
  have hl := (List.getElem?_eq_some_iff.1 h).1
  unfold mixII
  rw [List.getElem?_append_right (by rw [List.length_take, marksII_len]; omega), List.length_take, marksII_len, List.getElem?_drop]
  rw [show j + (j - min j xss.length) = j by omega]; exact h
theorem mixII_step {k j : Nat} {xss : List (List Int)} {xs : List Int} (h : xss[j]? = some xs) : (mixII k j xss).set j (marks (k + sizeII (xss.take j)) xs.length) = mixII k (j + 1) xss := by
  have hl := (List.getElem?_eq_some_iff.1 h).1
  have e : xss.drop j = xss[j] :: xss.drop (j + 1) := List.drop_eq_getElem_cons hl
  unfold mixII
  rw [e]
  have hlt : ((marksII k xss).take j).length = j := by rw [List.length_take, marksII_len]; omega
  have hs : ((marksII k xss).take j ++ xss[j] :: xss.drop (j + 1)).set j (marks (k + sizeII (xss.take j)) xs.length) = (marksII k xss).take j ++ marks (k + sizeII (xss.take j)) xs.length :: xss.drop (j + 1) := by
    rw [List.set_append_right _ _ (by omega), hlt, Nat.sub_self]; rfl
  rw [hs, List.take_add_one, marksII_at h]; simp
theorem szIntS_any (xs : List Int) (v : Value) (left : Int) (hi : Nat) (w : World) (h : RdI w hi v xs) (h0 : 0 ≤ left) (h1 : left ≤ 1048576) :
    Calls Try.prog 81 #[v, .int .i64 left] w fun e w' => e = .returned (.int .i64 (if left - xs.length < 0 then -1 else left - xs.length)) ∧ w = w' := by
  obtain ⟨A, c, rfl, hc, hm⟩ := Rd.form h
  clear h
  by_cases hlt : left - xs.length < 0
  · rw [if_pos hlt]
    go_enter Try.func81, Try.ntmps81
    go_wp2
    go_ret
    exact ⟨rfl, rfl⟩
  · rw [if_neg hlt]
    go_enter Try.func81, Try.ntmps81
    go_wp2
    go_ret
    exact ⟨rfl, rfl⟩
/-- Room for n slices, all nil, behind a name. -/
def nils (n : Nat) : Array Value := (List.replicate n (Value.slice Option.none 0 0)).toArray
theorem info_ints : (Try.prog.info? 37).map (fun i => (i.zero, i.size, i.bytes)) = some (some (.slice Option.none 0 0), 1, 24) := by kernel_rfl
/-- The outer row is not the row of an int slice. -/
theorem outer_only {w w' : World} {lo n : Nat} {v u : Value} {us : List Value} {xs : List Int} {lo' hi' : Nat} (h : w.ownsRow lo 37 1 v n us) (hu : OwI w lo' hi' u xs) (hk : Only u.ownBlock w w') : w'.ownsRow lo 37 1 v n us := by
  refine ⟨h.1, ?_⟩
  rcases h.2 with hn | ⟨g, cap, cur, rfl, hl, hg, rest⟩
  · exact .inl hn
  · refine .inr ⟨g, cap, cur, rfl, hl, (hk.block g (fun e => ?_)).trans hg, rest⟩
    rcases hu.1.2 with ⟨rfl, _⟩ | ⟨g2, cap2, cur2, rfl, _, hg2, _⟩
    · cases e
    · cases e
      rw [hg] at hg2
      simp at hg2
theorem own_range {w : World} {lo hi n : Nat} {e : TypeId} {size : Nat} {v : Value} {us : List Value} (h : w.ownsRow lo e size v n us) (h2 : ∀ k, v.ownBlock = some k → k < hi) : ∀ g, v.ownBlock = some g → lo ≤ g ∧ g < hi := fun g hg => ⟨(h.lt g hg).1, h2 g hg⟩
theorem Only.keepI {w w' : World} {lo hi : Nat} {u : Value} {xs : List Int} (h : Only u.ownBlock w w') (hu : OwI w lo hi u xs) : Keep lo hi w w' := h.keep hu.range
end Go.Proofs.Ytabhnbooboceeaa
