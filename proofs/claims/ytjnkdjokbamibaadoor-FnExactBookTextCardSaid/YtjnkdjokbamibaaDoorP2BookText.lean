/- Texts of one claim, joined: M5, D1. -/
import Derived.Test.YtjnkdjokbamibaaDoorP1BookText
/- Words on lists of rows of integers in memory, and the helpers of the laws on slices of slices of integers. -/
namespace Go.Proofs.YtjnkdjokbamibaaDoor
open Go.RowKit
/-- The slice values us read as the lists xss. -/
def RowsR (w : World) (hi : Nat) (us : List Value) (xss : List (List Int)) : Prop := us.length = xss.length ∧ ∀ (i : Nat) (u : Value) (xs : List Int), us[i]? = some u → xss[i]? = some xs → RdI w hi u xs
/-- The slice values us are rows of the call's own, no two of them one. -/
def RowsO (w : World) (lo hi : Nat) (us : List Value) (xss : List (List Int)) : Prop :=
  us.length = xss.length ∧ (∀ (i : Nat) (u : Value) (xs : List Int), us[i]? = some u → xss[i]? = some xs → OwI w lo hi u xs) ∧
  ∀ (i j : Nat) (u u' : Value), i < j → us[i]? = some u → us[j]? = some u' → ∀ g, u.ownBlock = some g → u'.ownBlock ≠ some g
theorem RowsR.below {w w' : World} {hi B : Nat} {us : List Value} {xss : List (List Int)} (h : RowsR w hi us xss) (hb : Below B w w') (hB : hi ≤ B) : RowsR w' hi us xss :=
  ⟨h.1, fun i u xs hu hx => (h.2 i u xs hu hx).below hb hB⟩
theorem RowsR.mono {w : World} {hi hi' : Nat} {us : List Value} {xss : List (List Int)} (h : RowsR w hi us xss) (hB : hi ≤ hi') : RowsR w hi' us xss :=
  ⟨h.1, fun i u xs hu hx => (h.2 i u xs hu hx).mono hB⟩
theorem RowsO.rd {w : World} {lo hi : Nat} {us : List Value} {xss : List (List Int)} (h : RowsO w lo hi us xss) : RowsR w hi us xss := ⟨h.1, fun i u xs hu hx => (h.2.1 i u xs hu hx).rd⟩
theorem RowsO.below {w w' : World} {lo hi B : Nat} {us : List Value} {xss : List (List Int)} (h : RowsO w lo hi us xss) (hb : Below B w w') (hB : hi ≤ B) : RowsO w' lo hi us xss :=
  ⟨h.1, fun i u xs hu hx => (h.2.1 i u xs hu hx).below hb hB, h.2.2⟩
theorem RowsO.keep {w w' : World} {lo hi a b : Nat} {us : List Value} {xss : List (List Int)} (h : RowsO w lo hi us xss) (hk : Keep a b w w') (hd : hi ≤ a ∨ b ≤ lo) : RowsO w' lo hi us xss :=
  ⟨h.1, fun i u xs hu hx => (h.2.1 i u xs hu hx).keep hk hd, h.2.2⟩
theorem OwI.mono {w : World} {lo hi lo' hi' : Nat} {v : Value} {xs : List Int} (h : OwI w lo hi v xs) (h1 : lo' ≤ lo) (h2 : hi ≤ hi') : OwI w lo' hi' v xs := by
  refine ⟨⟨h.1.1, ?_⟩, fun k hk => by have := h.2 k hk; omega⟩
  rcases h.1.2 with hn | ⟨g, cap, cur, rfl, hl, hg, rest⟩
  · exact .inl hn
  · exact .inr ⟨g, cap, cur, rfl, by omega, hg, rest⟩
theorem RowsO.nil (w : World) (lo hi : Nat) : RowsO w lo hi [] [] := ⟨rfl, fun i u xs hu _ => by simp at hu, fun i j u u' _ hu _ => by simp at hu⟩
theorem RowsO.mono {w : World} {lo hi lo' hi' : Nat} {us : List Value} {xss : List (List Int)} (h : RowsO w lo hi us xss) (h1 : lo' ≤ lo) (h2 : hi ≤ hi') : RowsO w lo' hi' us xss :=
  ⟨h.1, fun i u xs hu hx => (h.2.1 i u xs hu hx).mono h1 h2, h.2.2⟩
/-- One row more, made since. -/
theorem RowsO.snoc {w : World} {lo mid hi : Nat} {us : List Value} {xss : List (List Int)} {u : Value} {xs : List Int} (h : RowsO w lo mid us xss) (hu : OwI w mid hi u xs) (h1 : lo ≤ mid) (h2 : mid ≤ hi) : RowsO w lo hi (us ++ [u]) (xss ++ [xs]) := by
  have hl := h.1
  refine ⟨by simp [hl], fun i a b ha hb => ?_, fun i j a b hij ha hb g hg => ?_⟩
  · rcases Nat.lt_or_ge i us.length with hi | hi
    · rw [List.getElem?_append_left hi] at ha
      rw [List.getElem?_append_left (by omega)] at hb
      exact (h.2.1 i a b ha hb).mono (Nat.le_refl _) h2
    · rw [List.getElem?_append_right hi] at ha
      rw [List.getElem?_append_right (by omega)] at hb
      obtain ⟨hz, rfl⟩ : i - us.length = 0 ∧ u = a := by
        rcases Nat.eq_zero_or_pos (i - us.length) with e | e
        · rw [e] at ha; simp at ha; exact ⟨e, ha⟩
        · rw [List.getElem?_eq_none (by simp; omega)] at ha; cases ha
      rw [show i - xss.length = 0 by omega] at hb
      simp at hb
      subst hb
      exact hu.mono h1 (Nat.le_refl _)
  · rcases Nat.lt_or_ge i us.length with hi | hi
    · rw [List.getElem?_append_left hi] at ha
      rcases Nat.lt_or_ge j us.length with hj | hj
      · rw [List.getElem?_append_left hj] at hb
        exact h.2.2 i j a b hij ha hb g hg
      · rw [List.getElem?_append_right hj] at hb
        have hbu : u = b := by
          rcases Nat.eq_zero_or_pos (j - us.length) with e | e
          · rw [e] at hb; simpa using hb
          · rw [List.getElem?_eq_none (by simp; omega)] at hb; cases hb
        subst hbu
        intro hg2
        have h3 := (hu.range g hg2).1
        obtain ⟨xs', hxs⟩ : ∃ xs', xss[i]? = some xs' := ⟨xss[i], by simp [show i < xss.length by omega]⟩
        have h4 := ((h.2.1 i a xs' ha hxs).range g hg).2
        omega
    · rw [List.getElem?_append_right hi] at ha
      rw [List.getElem?_append_right (by omega)] at hb
      rw [List.getElem?_eq_none (by simp; omega)] at hb
      cases hb
/-- One row is marked: it reads anew, the others as they did. -/
theorem RowsO.only {w w' : World} {lo hi j : Nat} {us : List Value} {xss : List (List Int)} {u : Value} {ys : List Int} (h : RowsO w lo hi us xss) (hu : us[j]? = some u) (hk : Only u.ownBlock w w') (hy : OwI w' lo hi u ys) : RowsO w' lo hi us (xss.set j ys) := by
  refine ⟨by simp [h.1], fun i a b ha hb => ?_, h.2.2⟩
  by_cases e : i = j
  · subst e
    rw [hu] at ha; cases ha
    have hil : i < xss.length := by have := (List.getElem?_eq_some_iff.1 hu).1; have := h.1; omega
    rw [List.getElem?_set_self hil] at hb; cases hb
    exact hy
  · rw [List.getElem?_set_ne (fun e2 => e e2.symm)] at hb
    refine (h.2.1 i a b ha hb).only hk (fun g hg hg2 => ?_)
    rcases Nat.lt_or_gt_of_ne e with hlt | hlt
    · exact h.2.2 i j a u hlt ha hu g hg hg2
    · exact h.2.2 j i u a hlt hu ha g hg2 hg
def RdII (w : World) (hi : Nat) (v : Value) (xss : List (List Int)) : Prop := ∃ us, RowsR w hi us xss ∧ Rd w hi 1 v xss.length us
def OwII (w : World) (lo hi : Nat) (v : Value) (xss : List (List Int)) : Prop := ∃ us, RowsO w lo hi us xss ∧ w.ownsRow lo 30 1 v xss.length us ∧ ∀ k, v.ownBlock = some k → k < hi
theorem RdII.below {w w' : World} {hi : Nat} {v : Value} {xss : List (List Int)} (h : RdII w hi v xss) {B : Nat} (hb : Below B w w') (hB : hi ≤ B) : RdII w' hi v xss := by
  obtain ⟨us, h1, h2⟩ := h; exact ⟨us, h1.below hb hB, h2.below hb hB⟩
theorem owns_below {w w' : World} {lo hi size n : Nat} {e : TypeId} {v : Value} {xs : List Value} (h : w.ownsRow lo e size v n xs) (h2 : ∀ k, v.ownBlock = some k → k < hi) {B : Nat} (hb : Below B w w') (hB : hi ≤ B) : w'.ownsRow lo e size v n xs := by
  refine ⟨h.1, ?_⟩
  rcases h.2 with hn | ⟨g, cap, cur, rfl, hl, hg, rest⟩
  · exact .inl hn
  · exact .inr ⟨g, cap, cur, rfl, hl, (hb.block g (by have := h2 g rfl; omega)).trans hg, rest⟩
theorem owns_keep {w w' : World} {lo hi a b size n : Nat} {e : TypeId} {v : Value} {xs : List Value} (h : w.ownsRow lo e size v n xs) (h2 : ∀ k, v.ownBlock = some k → k < hi) (hk : Keep a b w w') (hd : hi ≤ a ∨ b ≤ lo) : w'.ownsRow lo e size v n xs := by
  refine ⟨h.1, ?_⟩
  rcases h.2 with hn | ⟨g, cap, cur, rfl, hl, hg, rest⟩
  · exact .inl hn
  · exact .inr ⟨g, cap, cur, rfl, hl, (hk.block g (by have := h2 g rfl; omega)).trans hg, rest⟩
theorem OwII.below {w w' : World} {lo hi : Nat} {v : Value} {xss : List (List Int)} (h : OwII w lo hi v xss) {B : Nat} (hb : Below B w w') (hB : hi ≤ B) : OwII w' lo hi v xss := by
  obtain ⟨us, h1, h2, h3⟩ := h; exact ⟨us, h1.below hb hB, owns_below h2 h3 hb hB, h3⟩
theorem OwII.keep {w w' : World} {lo hi a b : Nat} {v : Value} {xss : List (List Int)} (h : OwII w lo hi v xss) (hk : Keep a b w w') (hd : hi ≤ a ∨ b ≤ lo) : OwII w' lo hi v xss := by
  obtain ⟨us, h1, h2, h3⟩ := h; exact ⟨us, h1.keep hk hd, owns_keep h2 h3 hk hd, h3⟩
theorem OwII.rd {w : World} {lo hi : Nat} {v : Value} {xss : List (List Int)} (h : OwII w lo hi v xss) : RdII w hi v xss := by
  obtain ⟨us, h1, h2, h3⟩ := h; exact ⟨us, h1.rd, rd_of_owns h2 h3⟩
/-- The element at k: a cell with a slice value that reads as the k-th list. -/
theorem RdII.at_ {w : World} {hi : Nat} {v : Value} {xss : List (List Int)} (h : RdII w hi v xss) {k : Nat} (hk : k < xss.length) :
    ∃ b off c u xs, v = .slice (some ⟨b, off, Option.none⟩) xss.length c ∧ b < hi ∧ xss[k]? = some xs ∧ w.cell? ⟨b, off + k, Option.none⟩ = some u ∧ RdI w hi u xs := by
  obtain ⟨us, h1, h0, A, c, hv, _, _, h4⟩ := h
  obtain ⟨b, off, rfl, hb, hc⟩ := h4 (by omega)
  have hl := h1.1
  have hu : us[k]? = some us[k] := by simp [show k < us.length by omega]
  exact ⟨b, off, c, us[k], xss[k], hv, hb, by simp [hk], hc k _ hu, h1.2 k _ _ hu (by simp [hk])⟩
theorem RdII.form {w : World} {hi : Nat} {v : Value} {xss : List (List Int)} (h : RdII w hi v xss) : ∃ A c, v = .slice A xss.length c ∧ xss.length ≤ 9223372036854775807 := by
  obtain ⟨us, _, _, A, c, hv, h2, h3, _⟩ := h
  exact ⟨A, c, hv, by unfold maxLen at h3; omega⟩
theorem take_snocN {α : Type} {xs : List α} {k : Nat} {y : α} (h : xs[k]? = some y) : xs.take (k + 1) = xs.take k ++ [y] := by rw [List.take_add_one, h]; rfl
theorem szIntS_any (xs : List Int) (v : Value) (left : Int) (hi : Nat) (w : World) (h : RdI w hi v xs) (h0 : 0 ≤ left) (h1 : left ≤ 1048576) :
    Calls Tryd.prog 77 #[v, .int .i64 left] w fun e w' => e = .returned (.int .i64 (if left - xs.length < 0 then -1 else left - xs.length)) ∧ w = w' := by
  obtain ⟨A, c, rfl, hc, hm⟩ := Rd.form h
  clear h
  by_cases hlt : left - xs.length < 0
  · rw [if_pos hlt]
    go_enter Tryd.func77, Tryd.ntmps77
    go_wp2
    go_ret
    exact ⟨rfl, rfl⟩
  · rw [if_neg hlt]
    go_enter Tryd.func77, Tryd.ntmps77
    go_wp2
    go_ret
    exact ⟨rfl, rfl⟩
end Go.Proofs.YtjnkdjokbamibaaDoor
/- Words on books in memory; the helpers of the laws on phrases and books. -/
namespace Go.Proofs.YtjnkdjokbamibaaDoor
open Go.RowKit
/-- A phrase: its text and its signals. -/
abbrev Phr := ByteArray × List Int
/-- The cells of phrases: of each its text, then its slice. -/
def zipC : List ByteArray → List Value → List Value
  | t :: ts, u :: us => .string t :: u :: zipC ts us
  | _, _ => []
theorem zipC_len : ∀ (ts : List ByteArray) (us : List Value), us.length = ts.length → (zipC ts us).length = ts.length * 2
  | [], [], _ => rfl
  | [], _ :: _, h => by simp at h
  | _ :: _, [], h => by simp at h
  | t :: ts, u :: us, h => by simp only [zipC, List.length_cons, zipC_len ts us (by simpa using h)]; omega
theorem zipC_at : ∀ (ts : List ByteArray) (us : List Value) (k : Nat) (t : ByteArray) (u : Value), ts[k]? = some t → us[k]? = some u → (zipC ts us)[k * 2]? = some (.string t) ∧ (zipC ts us)[k * 2 + 1]? = some u
  | [], _, k, t, u, h, _ => by simp at h
  | _ :: _, [], k, t, u, _, h => by simp at h
  | a :: ts, b :: us, 0, t, u, h, g => by simp at h g; subst h g; exact ⟨rfl, rfl⟩
  | a :: ts, b :: us, k + 1, t, u, h, g => by
    have := zipC_at ts us k t u (by simpa using h) (by simpa using g)
    simp only [zipC, show (k + 1) * 2 = k * 2 + 1 + 1 by omega, List.getElem?_cons_succ]
    exact this
theorem zipC_append : ∀ (ts : List ByteArray) (us : List Value) (t : ByteArray) (u : Value), us.length = ts.length → zipC (ts ++ [t]) (us ++ [u]) = zipC ts us ++ [.string t, u]
  | [], [], t, u, _ => rfl
  | [], _ :: _, _, _, h => by simp at h
  | _ :: _, [], _, _, h => by simp at h
  | a :: ts, b :: us, t, u, h => by simp only [List.cons_append, zipC, zipC_append ts us t u (by simpa using h)]
def txts (ps : List Phr) : List ByteArray := ps.map (·.1)
def sigs (ps : List Phr) : List (List Int) := ps.map (·.2)
def TxtOk (ps : List Phr) : Prop := ∀ p ∈ ps, p.1.size ≤ 9223372036854775807
/-- The slice value v reads as phrases. -/
def RdPS (w : World) (hi : Nat) (v : Value) (ps : List Phr) : Prop := ∃ us, RowsR w hi us (sigs ps) ∧ Rd w hi 2 v ps.length (zipC (txts ps) us) ∧ TxtOk ps
theorem RdPS.form {w : World} {hi : Nat} {v : Value} {ps : List Phr} (h : RdPS w hi v ps) : ∃ A c, v = .slice A ps.length c ∧ ps.length ≤ c ∧ ps.length ≤ 9223372036854775807 := by
  obtain ⟨us, _, ⟨_, A, c, hv, h2, h3, _⟩, _⟩ := h
  exact ⟨A, c, hv, h2, by unfold maxLen at h3; omega⟩
theorem RdPS.at_ {w : World} {hi : Nat} {v : Value} {ps : List Phr} (h : RdPS w hi v ps) {k : Nat} (hk : k < ps.length) :
    ∃ b off c u t xs, v = .slice (some ⟨b, off, Option.none⟩) ps.length c ∧ b < hi ∧ ps[k]? = some (t, xs) ∧ w.cell? ⟨b, off + k * 2, Option.none⟩ = some (.string t) ∧ w.cell? ⟨b, off + k * 2 + 1, Option.none⟩ = some u ∧ RdI w hi u xs ∧ t.size ≤ 9223372036854775807 := by
  obtain ⟨us, h1, ⟨h0, A, c, hv, _, _, h4⟩, ht⟩ := h
  obtain ⟨b, off, rfl, hb, hc⟩ := h4 (by omega)
  have hl : us.length = ps.length := by have := h1.1; simpa [sigs] using this
  have hu : us[k]? = some us[k] := by simp [show k < us.length by omega]
  have hz := zipC_at (txts ps) us k ps[k].1 us[k] (by simp [txts, hk]) hu
  refine ⟨b, off, c, us[k], ps[k].1, ps[k].2, hv, hb, by simp [hk], hc _ _ hz.1, ?_, h1.2 k _ _ hu (by simp [sigs, hk]), ht _ (List.getElem_mem hk)⟩
  have := hc _ _ hz.2
  rwa [← Nat.add_assoc] at this
theorem RdPS.below {w w' : World} {hi : Nat} {v : Value} {ps : List Phr} (h : RdPS w hi v ps) {B : Nat} (hb : Below B w w') (hB : hi ≤ B) : RdPS w' hi v ps := by
  obtain ⟨us, h1, h2, h3⟩ := h; exact ⟨us, h1.below hb hB, h2.below hb hB, h3⟩
def RdP (w : World) (hi : Nat) (v : Value) (p : Phr) : Prop := ∃ u, v = .agg #[.string p.1, u] ∧ RdI w hi u p.2 ∧ p.1.size ≤ 9223372036854775807
def RdB (w : World) (hi : Nat) (v : Value) (ps : List Phr) : Prop := ∃ u, v = .agg #[u] ∧ RdPS w hi u ps
def OwP (w : World) (lo hi : Nat) (v : Value) (p : Phr) : Prop := ∃ u, v = .agg #[.string p.1, u] ∧ OwI w lo hi u p.2 ∧ p.1.size ≤ 9223372036854775807
def OwPS (w : World) (lo hi : Nat) (v : Value) (ps : List Phr) : Prop := ∃ us, RowsO w lo hi us (sigs ps) ∧ w.ownsRow lo 49 2 v ps.length (zipC (txts ps) us) ∧ TxtOk ps ∧ ∀ k, v.ownBlock = some k → k < hi
def OwB (w : World) (lo hi : Nat) (v : Value) (ps : List Phr) : Prop := ∃ u, v = .agg #[u] ∧ OwPS w lo hi u ps
theorem RdP.below {w w' : World} {hi : Nat} {v : Value} {p : Phr} (h : RdP w hi v p) {B : Nat} (hb : Below B w w') (hB : hi ≤ B) : RdP w' hi v p := by
  obtain ⟨u, h1, h2, h3⟩ := h; exact ⟨u, h1, h2.below hb hB, h3⟩
theorem RdB.below {w w' : World} {hi : Nat} {v : Value} {ps : List Phr} (h : RdB w hi v ps) {B : Nat} (hb : Below B w w') (hB : hi ≤ B) : RdB w' hi v ps := by
  obtain ⟨u, h1, h2⟩ := h; exact ⟨u, h1, h2.below hb hB⟩
theorem OwP.below {w w' : World} {lo hi : Nat} {v : Value} {p : Phr} (h : OwP w lo hi v p) {B : Nat} (hb : Below B w w') (hB : hi ≤ B) : OwP w' lo hi v p := by
  obtain ⟨u, h1, h2, h3⟩ := h; exact ⟨u, h1, h2.below hb hB, h3⟩
theorem OwP.keep {w w' : World} {lo hi a b : Nat} {v : Value} {p : Phr} (h : OwP w lo hi v p) (hk : Keep a b w w') (hd : hi ≤ a ∨ b ≤ lo) : OwP w' lo hi v p := by
  obtain ⟨u, h1, h2, h3⟩ := h; exact ⟨u, h1, h2.keep hk hd, h3⟩
theorem OwPS.below {w w' : World} {lo hi : Nat} {v : Value} {ps : List Phr} (h : OwPS w lo hi v ps) {B : Nat} (hb : Below B w w') (hB : hi ≤ B) : OwPS w' lo hi v ps := by
  obtain ⟨us, h1, h2, h3, h4⟩ := h; exact ⟨us, h1.below hb hB, owns_below h2 h4 hb hB, h3, h4⟩
theorem OwPS.keep {w w' : World} {lo hi a b : Nat} {v : Value} {ps : List Phr} (h : OwPS w lo hi v ps) (hk : Keep a b w w') (hd : hi ≤ a ∨ b ≤ lo) : OwPS w' lo hi v ps := by
  obtain ⟨us, h1, h2, h3, h4⟩ := h; exact ⟨us, h1.keep hk hd, owns_keep h2 h4 hk hd, h3, h4⟩
theorem OwB.below {w w' : World} {lo hi : Nat} {v : Value} {ps : List Phr} (h : OwB w lo hi v ps) {B : Nat} (hb : Below B w w') (hB : hi ≤ B) : OwB w' lo hi v ps := by
  obtain ⟨u, h1, h2⟩ := h; exact ⟨u, h1, h2.below hb hB⟩
theorem OwB.keep {w w' : World} {lo hi a b : Nat} {v : Value} {ps : List Phr} (h : OwB w lo hi v ps) (hk : Keep a b w w') (hd : hi ≤ a ∨ b ≤ lo) : OwB w' lo hi v ps := by
  obtain ⟨u, h1, h2⟩ := h; exact ⟨u, h1, h2.keep hk hd⟩
theorem OwP.rd {w : World} {lo hi : Nat} {v : Value} {p : Phr} (h : OwP w lo hi v p) : RdP w hi v p := by
  obtain ⟨u, h1, h2, h3⟩ := h; exact ⟨u, h1, h2.rd, h3⟩
theorem OwPS.rd {w : World} {lo hi : Nat} {v : Value} {ps : List Phr} (h : OwPS w lo hi v ps) : RdPS w hi v ps := by
  obtain ⟨us, h1, h2, h3, h4⟩ := h; exact ⟨us, h1.rd, rd_of_owns h2 h4, h3⟩
theorem OwB.rd {w : World} {lo hi : Nat} {v : Value} {ps : List Phr} (h : OwB w lo hi v ps) : RdB w hi v ps := by
  obtain ⟨u, h1, h2⟩ := h; exact ⟨u, h1, h2.rd⟩
/-- What is left of a number of cells behind a phrase, behind phrases. -/
def szPhraseM (p : Phr) (left : Int) : Int := if left - p.1.size < 0 then -1 else if left - p.1.size - p.2.length < 0 then -1 else left - p.1.size - p.2.length
def szPhrRest : Int → List Phr → Int
  | l, [] => l
  | l, p :: r => if szPhraseM p l < 0 then -1 else szPhrRest (szPhraseM p l) r
def szBookM (ps : List Phr) (left : Int) : Int := if left - ps.length < 0 then -1 else szPhrRest (left - ps.length) ps
def sizeP (p : Phr) : Nat := p.1.size + p.2.length
def sizeB : List Phr → Nat
  | [] => 0
  | p :: r => sizeP p + 1 + sizeB r
theorem szPhraseM_bd {p : Phr} {l : Int} (h : ¬ szPhraseM p l < 0) : szPhraseM p l = l - sizeP p ∧ sizeP p ≤ l := by
  unfold szPhraseM at *
  unfold sizeP
  split at h
  · omega
  · split at h
    · omega
    · rename_i h1 h2; rw [if_neg h1, if_neg h2]; omega
theorem szPhrRest_bd (l : Int) (ps : List Phr) (h : ¬ szPhrRest l ps < 0) : (sizeB ps : Int) ≤ l + ps.length := by
  induction ps generalizing l with
  | nil => simp only [szPhrRest] at h; simp only [sizeB, List.length_nil]; omega
  | cons p r ih =>
    simp only [szPhrRest] at h
    split at h
    · omega
    · rename_i h1
      have h2 := szPhraseM_bd h1
      have := ih _ h
      simp only [sizeB, List.length_cons]
      omega
theorem szBook_bd {ps : List Phr} {left z : Int} (h : z = szBookM ps left) (hz : ¬ z < 0) (hl : left ≤ 1048576 := by omega) : sizeB ps ≤ 1048576 := by
  subst h
  unfold szBookM at hz
  split at hz
  · omega
  · have := szPhrRest_bd _ _ hz
    omega
theorem sizeB_at {ps : List Phr} {k : Nat} {p : Phr} (h : ps[k]? = some p) : sizeB (ps.take (k + 1)) = sizeB (ps.take k) + sizeP p + 1 ∧ sizeB (ps.take (k + 1)) ≤ sizeB ps := by
  induction ps generalizing k with
  | nil => simp at h
  | cons y r ih =>
    cases k with
    | zero => simp at h; subst h; simp [sizeB]
    | succ k =>
      have := ih (k := k) (by simpa using h)
      simp only [List.take_succ_cons, sizeB]
      omega
theorem sizeB_len (ps : List Phr) : ps.length ≤ sizeB ps := by
  induction ps with
  | nil => simp
  | cons y r ih => simp only [List.length_cons, sizeB]; omega
theorem bel_box {B : Nat} {w w' : World} {o : Obj} (h : Below (w.alloc o).heap.size (w.alloc o) w') (hB : B ≤ w.heap.size) : Below B w w' :=
  ((Below.refl B w).alloc hB o).trans (h.mono (by simp; omega))
theorem szPhrase_any (p : Phr) (v : Value) (left : Int) (hi : Nat) (w : World) (h : RdP w hi v p) (hhi : hi ≤ w.heap.size) (h0 : 0 ≤ left) (h1 : left ≤ 1048576) :
    Calls Tryd.prog 61 #[v, .int .i64 left] w fun e w' => e = .returned (.int .i64 (szPhraseM p left)) ∧ Below w.heap.size w w' := by
  obtain ⟨u, rfl, hu, ht⟩ := h
  have H := Lib.hid (RdI.below hu ((Below.refl w.heap.size w).alloc (Nat.le_refl _) (.cells #[.string p.1, u] 76)) hhi)
  clear hu
  unfold szPhraseM
  have hba : Below w.heap.size w (w.alloc (.cells #[.string p.1, u] 76)) := (Below.refl _ _).alloc (Nat.le_refl _) _
  by_cases hl1 : left - p.1.size < 0
  · rw [if_pos hl1]
    go_enter Tryd.func61, Tryd.ntmps61
    go_wp2_with fail
    go_ret
    exact ⟨rfl, hba⟩
  · rw [if_neg hl1]
    by_cases hl2 : left - p.1.size - p.2.length < 0
    · rw [if_pos hl2]
      go_enter Tryd.func61, Tryd.ntmps61
      go_wp2_with fail
      refine (szIntS_any p.2 u _ hi _ H.out (by omega) (by omega)).mono ?_
      rw [if_pos hl2]
      rintro e w' ⟨rfl, rfl⟩
      go_wp2_with fail
      go_ret
      exact ⟨rfl, hba⟩
    · rw [if_neg hl2]
      go_enter Tryd.func61, Tryd.ntmps61
      go_wp2_with fail
      refine (szIntS_any p.2 u _ hi _ H.out (by omega) (by omega)).mono ?_
      rw [if_neg (by omega)]
      rintro e w' ⟨rfl, rfl⟩
      go_wp2_with fail
      go_ret
      exact ⟨rfl, hba⟩
set_option maxHeartbeats 400000 in
theorem szPhraseS_any (ps : List Phr) (v : Value) (left : Int) (hi : Nat) (w : World) (h : RdPS w hi v ps) (hhi : hi ≤ w.heap.size) (h0 : 0 ≤ left) (h1 : left ≤ 1048576) :
    Calls Tryd.prog 39 #[v, .int .i64 left] w fun e w' => e = .returned (.int .i64 (szBookM ps left)) ∧ Below w.heap.size w w' := by
  obtain ⟨A, c, rfl, hc, hm⟩ := h.form
  have H := Lib.hid h
  clear h
  unfold szBookM
  by_cases hlt : left - ps.length < 0
  · rw [if_pos hlt]
    go_enter Tryd.func39, Tryd.ntmps39
    go_wp2
    go_ret
    exact ⟨rfl, Below.refl _ _⟩
  · rw [if_neg hlt]
    obtain ⟨z, hz⟩ : ∃ z, z = szPhrRest (left - ps.length) ps := ⟨_, rfl⟩
    rw [← hz]
    have HZ := Lib.hid hz
    clear hz
    go_enter Tryd.func39, Tryd.ntmps39
    go_wp2
    go_loopw [1, 5] (fun q i wr => ∃ (k : Nat) (l : Int), k ≤ ps.length ∧ i = .int .i64 k ∧ q = .int .i64 l ∧ 0 ≤ l ∧ l ≤ 1048576 ∧ Hid (z = szPhrRest l (ps.drop k)) ∧ Below w.heap.size w wr) (fun _ i _ => ps.length - (intOf i).toNat)
    case atStart => exact ⟨0, _, Nat.zero_le _, rfl, rfl, by omega, by omega, HZ.out, Below.refl _ _⟩
    case round =>
      obtain ⟨k, l, hk, rfl, rfl, hl0, hl1, hzl, hbr⟩ := hrel
      by_cases hlt : k < ps.length
      · obtain ⟨b1, o1, c1, u, t, xs, hv, _, hx, hcell1, hcell2, hru, hts⟩ := (H.out.below hbr hhi).at_ hlt
        cases hv
        have hdr : ps.drop k = (t, xs) :: ps.drop (k + 1) := by
          rw [List.drop_eq_getElem_cons hlt]
          rw [List.getElem?_eq_getElem hlt] at hx
          rw [Option.some.inj hx]
        have hz2 := hzl.out
        rw [hdr, szPhrRest] at hz2
        have HZ2 := Lib.hid hz2
        have HRU : Hid (RdP wr hi (.agg #[.string t, u]) (t, xs)) := ⟨u, rfl, hru, hts⟩
        have hbs := hbr.size
        clear hz2 hdr hx hru
        by_cases hneg : szPhraseM (t, xs) l < 0
        · go_wp2_with fail
          refine (szPhrase_any (t, xs) _ l hi _ HRU.out (by omega) hl0 hl1).mono ?_
          rintro e w' ⟨rfl, hb2⟩
          have hb3 := hbr.trans (hb2.mono hbs)
          go_wp2_with fail
          go_ret
          exact ⟨ret_int (by rw [HZ2.out, if_pos hneg]), hb3⟩
        · have hbd := szPhraseM_bd hneg
          have hbd1 := hbd.1
          have HB1 := Lib.hid hbd1
          have hbd2 := hbd.2
          have hbd3 : szPhraseM (t, xs) l ≤ 1048576 := by omega
          have hbd4 : 0 ≤ szPhraseM (t, xs) l := by omega
          clear hbd hbd1
          go_wp2_with fail
          refine (szPhrase_any (t, xs) _ l hi _ HRU.out (by omega) hl0 hl1).mono ?_
          rintro e w' ⟨rfl, hb2⟩
          have hb3 := hbr.trans (hb2.mono hbs)
          go_wp2_with fail
          go_roundw
          case rel => exact ⟨k + 1, szPhraseM (t, xs) l, by omega, by go_num, rfl, by omega, by omega, by have := HZ2.out; rw [if_neg (by omega)] at this; exact this, hb3⟩
          case measure => simp [intOf]; omega
      · obtain rfl : k = ps.length := by omega
        go_wp2
        go_ret
        exact ⟨ret_int (by rw [hzl.out, List.drop_length]; rfl), hbr⟩
theorem szBook_any (ps : List Phr) (v : Value) (left : Int) (hi : Nat) (w : World) (h : RdB w hi v ps) (hhi : hi ≤ w.heap.size) (h0 : 0 ≤ left) (h1 : left ≤ 1048576) :
    Calls Tryd.prog 16 #[v, .int .i64 left] w fun e w' => e = .returned (.int .i64 (szBookM ps left)) ∧ Below w.heap.size w w' := by
  obtain ⟨u, rfl, hu⟩ := h
  have H := Lib.hid (hu.below ((Below.refl w.heap.size w).alloc (Nat.le_refl _) (.cells #[u] 38)) hhi)
  clear hu
  have hneg : szBookM ps left < 0 → szBookM ps left = -1 := by
    intro hn
    unfold szBookM at *
    split
    · rfl
    · rename_i h2
      rw [if_neg h2] at hn
      revert hn
      generalize left - ps.length = l at h2
      clear h0 h1 H
      induction ps generalizing l with
      | nil => intro hn; simp only [szPhrRest] at hn; omega
      | cons p r ih =>
        simp only [szPhrRest]
        split
        · intro _; rfl
        · rename_i h3; intro hn; exact ih _ (by omega) hn
  have HN := Lib.hid hneg
  clear hneg
  by_cases hz : szBookM ps left < 0
  · go_enter Tryd.func16, Tryd.ntmps16
    go_wp2_with fail
    refine (szPhraseS_any ps u left hi _ H.out (by simp; omega) h0 h1).mono ?_
    rintro e w' ⟨rfl, hb⟩
    have hb2 := bel_box hb (Nat.le_refl w.heap.size)
    clear hb
    go_wp2_with fail
    go_ret
    exact ⟨ret_int (HN.out hz).symm, hb2⟩
  · go_enter Tryd.func16, Tryd.ntmps16
    go_wp2_with fail
    refine (szPhraseS_any ps u left hi _ H.out (by simp; omega) h0 h1).mono ?_
    rintro e w' ⟨rfl, hb⟩
    have hb2 := bel_box hb (Nat.le_refl w.heap.size)
    clear hb
    go_wp2_with fail
    go_ret
    exact ⟨rfl, hb2⟩
theorem toPhrase_any (p : Phr) (v : Value) (hi : Nat) (w : World) (h : RdP w hi v p) (hhi : hi ≤ w.heap.size) (hsz : sizeP p ≤ 1048576) :
    Calls Tryd.prog 62 #[v] w fun e w' => ∃ v', e = .returned v' ∧ OwP w' w.heap.size w'.heap.size v' p ∧ Below w.heap.size w w' := by
  obtain ⟨u, rfl, hu, ht⟩ := h
  have hba : Below w.heap.size w (((w.alloc (.cells #[.string p.1, u] 76)).alloc (.cells #[.string { data := #[] }, .slice Option.none 0 0] 49)).alloc (.cells #[.string p.1, .slice Option.none 0 0] 49)) :=
    (((Below.refl _ _).alloc (Nat.le_refl _) _).alloc (by simp) _).alloc (by simp; omega) _
  have H := Lib.hid (hu.below hba hhi)
  have hlen : p.2.length ≤ 1048576 := by unfold sizeP at hsz; omega
  clear hu
  go_enter Tryd.func62, Tryd.ntmps62
  go_wp2_with fail
  refine (toIntS_any p.2 u hi _ H.out (by omega) (by simp; omega)).mono ?_
  rintro e w4 ⟨u', rfl, hu', hb4⟩
  have hblk1 : Blk w4 (w.heap.size + 1) 49 [.string { data := #[] }, .slice Option.none 0 0] := by
    have := ((Blk.new (w.alloc (.cells #[.string p.1, u] 76)) 49 #[.string { data := #[] }, .slice Option.none 0 0]).alloc (.cells #[.string p.1, .slice Option.none 0 0] 49)).below hb4 (by simp)
    simpa using this
  have hblk2 : Blk w4 (w.heap.size + 1 + 1) 49 [.string p.1, .slice Option.none 0 0] := by
    have := (Blk.new ((w.alloc (.cells #[.string p.1, u] 76)).alloc (.cells #[.string { data := #[] }, .slice Option.none 0 0] 49)) 49 #[.string p.1, .slice Option.none 0 0]).below hb4 (by simp)
    simpa using this
  have hsz4 : w.heap.size + 1 + 1 < w4.heap.size := hblk2.lt
  have c10 : w4.cell? ⟨w.heap.size + 1, 0, Option.none⟩ = some (.string { data := #[] }) := hblk1.cell 0
  have c11 : w4.cell? ⟨w.heap.size + 1, 1, Option.none⟩ = some (.slice Option.none 0 0) := hblk1.cell 1
  have c20 : w4.cell? ⟨w.heap.size + 1 + 1, 0, Option.none⟩ = some (.string p.1) := hblk2.cell 0
  have c21 : w4.cell? ⟨w.heap.size + 1 + 1, 1, Option.none⟩ = some (.slice Option.none 0 0) := hblk2.cell 1
  have f10 := hblk1.frozen 0
  have f11 := hblk1.frozen 1
  have f20 := hblk2.frozen 0
  have f21 := hblk2.frozen 1
  obtain ⟨A', c', rfl, hc'⟩ := hu'.form
  have HU := Lib.hid hu'
  have HB := Lib.hid (hba.trans (hb4.mono (by simp; omega)))
  clear hb4 hu' hba hblk1 hblk2
  go_wp2_with fail
  refine bodyPost_ret (v := .agg #[.string p.1, .slice A' p.2.length c']) (by simp [results, Tryd.results62, go_sem, c10, c11]) rfl ?_
  have hk : Keep (w.heap.size + 1) (w.heap.size + 3) w4 (((w4.setCell ⟨w.heap.size + 1 + 1, 1, Option.none⟩ (.slice A' p.2.length c')).setCell ⟨w.heap.size + 1, 0, Option.none⟩ (.string p.1)).setCell ⟨w.heap.size + 1, 1, Option.none⟩ (.slice A' p.2.length c')) :=
    (((Keep.refl _ _ w4).setCell (p := ⟨w.heap.size + 1 + 1, 1, Option.none⟩) (by simp) (by simp) _).setCell (p := ⟨w.heap.size + 1, 0, Option.none⟩) (by simp) (by simp) _).setCell (p := ⟨w.heap.size + 1, 1, Option.none⟩) (by simp) (by simp) _
  have h3 : OwI w4 (w.heap.size + 3) w4.heap.size (.slice A' p.2.length c') p.2 := by simpa using HU.out
  refine ⟨_, rfl, ⟨_, rfl, ?_, ht⟩, HB.out.trans (hk.bel.mono (by omega))⟩
  have h4 := (h3.keep hk (.inr (Nat.le_refl _))).mono (lo' := w.heap.size) (by omega) (Nat.le_refl _)
  rw [hk.size]; exact h4
/-- n empty phrases: their cells. -/
def noPhr : Nat → List Value
  | 0 => []
  | n + 1 => .string { data := #[] } :: .slice Option.none 0 0 :: noPhr n
theorem noPhr_len (n : Nat) : (noPhr n).length = n * 2 := by
  induction n with
  | zero => rfl
  | succ n ih => simp only [noPhr, List.length_cons, ih]; omega
theorem noPhr_at {n j : Nat} (h : j < n) : (noPhr n)[j * 2]? = some (.string { data := #[] }) ∧ (noPhr n)[j * 2 + 1]? = some (.slice Option.none 0 0) := by
  induction n generalizing j with
  | zero => omega
  | succ n ih =>
    cases j with
    | zero => exact ⟨rfl, rfl⟩
    | succ j =>
      have := ih (j := j) (by omega)
      simp only [noPhr, show (j + 1) * 2 = j * 2 + 1 + 1 by omega, List.getElem?_cons_succ]
      exact this
theorem info_phr : (Tryd.prog.info? 49).map (fun i => (i.zero, i.size, i.bytes)) = some (some (.agg #[.string { data := #[] }, .slice Option.none 0 0]), 2, 40) := by kernel_rfl
theorem made_phr (n : Nat) : (madeCells (Value.agg #[.string { data := #[] }, .slice Option.none 0 0]).cells (n * 2)).toList = noPhr n := by
  apply List.ext_getElem?
  intro i
  by_cases h : i < n * 2
  · have h1 : (madeCells (Value.agg #[.string { data := #[] }, .slice Option.none 0 0]).cells (n * 2)).toList[i]? = some (#[Value.string { data := #[] }, .slice Option.none 0 0][i % 2]!) := by
      simp [madeCells, h, Value.cells]
    rw [h1]
    rcases Nat.mod_two_eq_zero_or_one i with e | e
    · have := (noPhr_at (n := n) (j := i / 2) (by omega)).1
      rw [show i / 2 * 2 = i by omega] at this
      rw [this, e]; rfl
    · have := (noPhr_at (n := n) (j := i / 2) (by omega)).2
      rw [show i / 2 * 2 + 1 = i by omega] at this
      rw [this, e]; rfl
  · rw [List.getElem?_eq_none (by simp [madeCells]; omega), List.getElem?_eq_none (by rw [noPhr_len]; omega)]
/-- The room of n phrases, behind a name. -/
def phrRoom (n : Nat) : Array Value := madeCells (Value.agg #[.string { data := #[] }, .slice Option.none 0 0]).cells (n * 2)
theorem set_pair {A : List Value} {k m : Nat} {x y : Value} (h : 0 < m) (hl : A.length = k * 2) : ((A ++ noPhr m).set (k * 2) x).set (k * 2 + 1) y = (A ++ [x, y]) ++ noPhr (m - 1) := by
  obtain ⟨q, rfl⟩ : ∃ q, m = q + 1 := ⟨m - 1, by omega⟩
  rw [List.set_append_right _ _ (by omega), List.set_append_right _ _ (by omega), hl, Nat.sub_self, show k * 2 + 1 - k * 2 = 1 by omega]
  simp [noPhr]
theorem make_phr (n : Nat) (hn : n ≤ 1048576) (w : World) :
    (Instr.makeSlice 22 (.int .i64 (n : Int)) (.int .i64 (n : Int))).run Tryd.prog w = .ok (.slice (some ⟨w.heap.size, 0, Option.none⟩) n n) (w.alloc (.cells (phrRoom n) 49)) := by
  obtain ⟨i, hi, hz0, hz1, hz2⟩ := info_parts info_phr
  have h := run_make_rowN (P := Tryd.prog) 22 49 i (.agg #[.string { data := #[] }, .slice Option.none 0 0]) Tryd.underlying22 hi hz0 .i64 .i64 n n (Nat.le_refl _) (by rw [hz2]; omega) (by omega) w
  rw [h, hz1]
  rfl
/-- Phrases of the call's own. -/
def RetOwPS (ps : List Phr) (w : World) (e : Ending) (w' : World) : Prop := ∃ v, e = .returned v ∧ OwPS w' w.heap.size w'.heap.size v ps ∧ Below w.heap.size w w'
set_option maxHeartbeats 1000000 in
theorem toPhraseS_any (ps : List Phr) (v : Value) (hi : Nat) (w : World) (h : RdPS w hi v ps) (hsz : sizeB ps ≤ 1048576) (hhi : hi ≤ w.heap.size) : Calls Tryd.prog 40 #[v] w (RetOwPS ps w) := by
  have hok := h
  obtain ⟨_, _, _, htx⟩ := hok
  have HTX := Lib.hid htx
  obtain ⟨A, c, rfl, hc, hm⟩ := h.form
  have H := Lib.hid h
  have hpl := sizeB_len ps
  clear h htx
  have hmk := make_phr ps.length (by omega)
  go_enter Tryd.func40, Tryd.ntmps40
  go_wp2
  go_loopw [4] (fun i wr => ∃ (k : Nat) (us : List Value), k ≤ ps.length ∧ i = .int .i64 k ∧ us.length = k ∧ Blk wr w.heap.size 49 (zipC (txts (ps.take k)) us ++ noPhr (ps.length - k)) ∧
      RowsO wr (w.heap.size + 1) wr.heap.size us (sigs (ps.take k)) ∧ Below w.heap.size w wr ∧ w.heap.size + 1 ≤ wr.heap.size) (fun i _ => ps.length - (intOf i).toNat)
  case atStart => exact ⟨0, [], Nat.zero_le _, rfl, rfl, by have := Blk.new w 49 (phrRoom ps.length); unfold phrRoom at this; rw [made_phr] at this; exact this, RowsO.nil _ _ _, (Below.refl _ _).alloc (Nat.le_refl _) _, by simp⟩
  case round =>
    obtain ⟨k, us, hk, rfl, hul, hblk, hrows, hbr, hsz1⟩ := hrel
    by_cases hlt : k < ps.length
    · obtain ⟨b1, o1, c1, a, t, xs, hv, _, hx, hcell1, hcell2, hra, hts⟩ := (H.out.below hbr hhi).at_ hlt
      cases hv
      have HA : Hid (RdP wr hi (.agg #[.string t, a]) (t, xs)) := ⟨a, rfl, hra, hts⟩
      have HX := Lib.hid hx
      have hsj := sizeB_at hx
      have hlx : sizeP (t, xs) ≤ 1048576 := by omega
      have hbs := hbr.size
      have HU := Lib.hid hul
      clear hx hra hul hsj
      go_wp2_with fail
      refine (toPhrase_any (t, xs) _ hi _ HA.out (by omega) hlx).mono ?_
      rintro e w2 ⟨_, rfl, ⟨u, rfl, hu, _⟩, hb2⟩
      have hs2 := hb2.size
      have hblk2 := hblk.below hb2 (by omega)
      have hzl : (zipC (txts (ps.take k)) us).length = k * 2 := by rw [zipC_len _ _ (by simp [txts]; have := HU.out; omega)]; simp [txts]; omega
      have hn1 := noPhr_at (n := ps.length - k) (j := 0) (by omega)
      have hcell3 := hblk2.cell (k * 2)
      rw [List.getElem?_append_right (by omega), show k * 2 - (zipC (txts (ps.take k)) us).length = 0 * 2 by omega, hn1.1] at hcell3
      have hcell4 := hblk2.cell (k * 2 + 1)
      rw [List.getElem?_append_right (by omega), show k * 2 + 1 - (zipC (txts (ps.take k)) us).length = 0 * 2 + 1 by omega, hn1.2] at hcell4
      have hfr3 := hblk2.frozen (k * 2)
      have hfr4 := hblk2.frozen (k * 2 + 1)
      clear hn1 hcell1 hcell2 hblk
      obtain ⟨A2, c2, rfl, hc2'⟩ := hu.form
      have hset := (hblk2.set_ (k * 2) (.string t)).set_ (k * 2 + 1) (.slice A2 xs.length c2)
      rw [set_pair (by omega) hzl] at hset
      have HS := Lib.hid hset
      have HO := Lib.hid hu
      have HR := Lib.hid hrows
      have HB2 := Lib.hid hb2
      clear hset hu hrows hb2 hblk2 hzl
      go_wp2
      go_roundw
      case rel =>
        refine ⟨k + 1, us ++ [.slice A2 xs.length c2], by omega, by go_num, by have := HU.out; simp [this], ?_, ?_, ((hbr.trans (HB2.out.mono (by omega))).setCell (Nat.le_refl _) _).setCell (Nat.le_refl _) _, by simp [World.setCell]; omega⟩
        · have := HS.out
          rw [show ps.length - (k + 1) = ps.length - k - 1 by omega, take_snocN HX.out]
          unfold txts at *
          rw [List.map_append, List.map_cons, List.map_nil, zipC_append _ _ _ _ (by simp; have := HU.out; omega)]
          exact this
        · rw [take_snocN HX.out]
          unfold sigs at *
          rw [List.map_append, List.map_cons, List.map_nil]
          have h1 := (HR.out.below HB2.out (Nat.le_refl _)).snoc HO.out hsz1 hs2
          have h2 := h1.keep (((Keep.refl w.heap.size (w.heap.size + 1) w2).setCell (p := ⟨w.heap.size, k * 2, Option.none⟩) (Nat.le_refl _) (by simp) (.string t)).setCell (p := ⟨w.heap.size, k * 2 + 1, Option.none⟩) (Nat.le_refl _) (by simp) (.slice A2 xs.length c2)) (.inr (Nat.le_refl _))
          simpa [World.setCell] using h2
      case measure => simp [intOf]; omega
    · obtain rfl : k = ps.length := by omega
      rw [List.take_of_length_le (Nat.le_refl _)] at hrows hblk
      rw [Nat.sub_self, noPhr, List.append_nil] at hblk
      have hzl : (zipC (txts ps) us).length = ps.length * 2 := by rw [zipC_len _ _ (by simp [txts]; omega)]; simp [txts]
      go_wp2
      go_ret
      refine ⟨_, rfl, ⟨us, hrows.mono (by omega) (Nat.le_refl _), ⟨hzl, .inr ⟨w.heap.size, ps.length, (zipC (txts ps) us).toArray, rfl, Nat.le_refl _, hblk, Nat.le_refl _, by unfold maxLen; omega, by simpa using hzl, by rw [List.take_of_length_le (by simp; omega)]⟩⟩, HTX.out, fun g hg => by cases hg; show w.heap.size < _; omega⟩, hbr⟩
theorem toBook_any (ps : List Phr) (v : Value) (hi : Nat) (w : World) (h : RdB w hi v ps) (hsz : sizeB ps ≤ 1048576) (hhi : hi ≤ w.heap.size) :
    Calls Tryd.prog 18 #[v] w fun e w' => ∃ v', e = .returned v' ∧ OwB w' w.heap.size w'.heap.size v' ps ∧ Below w.heap.size w w' := by
  obtain ⟨u, rfl, hu⟩ := h
  have hba : Below w.heap.size w (((w.alloc (.cells #[u] 38)).alloc (.cells #[.slice Option.none 0 0] 24)).alloc (.cells #[.slice Option.none 0 0] 24)) :=
    (((Below.refl _ _).alloc (Nat.le_refl _) _).alloc (by simp) _).alloc (by simp; omega) _
  have H := Lib.hid (hu.below hba hhi)
  clear hu
  go_enter Tryd.func18, Tryd.ntmps18
  go_wp2_with fail
  refine (toPhraseS_any ps u hi _ H.out hsz (by simp; omega)).mono ?_
  rintro e w4 ⟨u', rfl, hu', hb4⟩
  have hblk1 : Blk w4 (w.heap.size + 1) 24 [.slice Option.none 0 0] := by
    have := ((Blk.new (w.alloc (.cells #[u] 38)) 24 #[.slice Option.none 0 0]).alloc (.cells #[.slice Option.none 0 0] 24)).below hb4 (by simp)
    simpa using this
  have hblk2 : Blk w4 (w.heap.size + 1 + 1) 24 [.slice Option.none 0 0] := by
    have := (Blk.new ((w.alloc (.cells #[u] 38)).alloc (.cells #[.slice Option.none 0 0] 24)) 24 #[.slice Option.none 0 0]).below hb4 (by simp)
    simpa using this
  have hsz4 : w.heap.size + 1 + 1 < w4.heap.size := hblk2.lt
  have c10 : w4.cell? ⟨w.heap.size + 1, 0, Option.none⟩ = some (.slice Option.none 0 0) := hblk1.cell 0
  have c20 : w4.cell? ⟨w.heap.size + 1 + 1, 0, Option.none⟩ = some (.slice Option.none 0 0) := hblk2.cell 0
  have f10 := hblk1.frozen 0
  have f20 := hblk2.frozen 0
  obtain ⟨A', c', rfl, hc', hcl'⟩ := hu'.rd.form
  have HU := Lib.hid hu'
  have HB := Lib.hid (hba.trans (hb4.mono (by simp; omega)))
  clear hb4 hu' hba hblk1 hblk2
  go_wp2_with fail
  refine bodyPost_ret (v := .agg #[.slice A' ps.length c']) (by simp [results, Tryd.results18, go_sem, c10]) rfl ?_
  have hk : Keep (w.heap.size + 1) (w.heap.size + 3) w4 ((w4.setCell ⟨w.heap.size + 1 + 1, 0, Option.none⟩ (.slice A' ps.length c')).setCell ⟨w.heap.size + 1, 0, Option.none⟩ (.slice A' ps.length c')) :=
    ((Keep.refl _ _ w4).setCell (p := ⟨w.heap.size + 1 + 1, 0, Option.none⟩) (by simp) (by simp) _).setCell (p := ⟨w.heap.size + 1, 0, Option.none⟩) (by simp) (by simp) _
  have h3 : OwPS w4 (w.heap.size + 3) w4.heap.size (.slice A' ps.length c') ps := by simpa using HU.out
  refine ⟨_, rfl, ⟨_, rfl, ?_⟩, HB.out.trans (hk.bel.mono (by omega))⟩
  obtain ⟨us, g1, g2, g3, g4⟩ := h3.keep hk (.inr (Nat.le_refl _))
  rw [hk.size]
  refine ⟨us, g1.mono (by omega) (Nat.le_refl _), ⟨g2.1, ?_⟩, g3, g4⟩
  rcases g2.2 with hn | ⟨g, cap, cur, e1, hl, rest⟩
  · exact .inl hn
  · exact .inr ⟨g, cap, cur, e1, by omega, rest⟩
end Go.Proofs.YtjnkdjokbamibaaDoor
