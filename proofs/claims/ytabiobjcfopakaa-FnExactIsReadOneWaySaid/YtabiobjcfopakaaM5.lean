/- Words on lists of rows of integers in memory, and the helpers of the laws on slices of slices of integers. -/
import Derived.Test.YtabiobjcfopakaaM4
namespace Go.Proofs.Ytabiobjcfopakaa
open Go.RowKit
/-- The slice values us read as the lists xss. -/
def RowsR (w : World) (hi : Nat) (us : List Value) (xss : List (List Int)) : Prop := us.length = xss.length ∧ ∀ (i : Nat) (u : Value) (xs : List Int), us[i]? = some u → xss[i]? = some xs → RdI w hi u xs
/-- The slice values us are rows of the call's own, no two of them one. -/
def RowsO (w : World) (lo hi : Nat) (us : List Value) (xss : List (List Int)) : Prop :=
  us.length = xss.length ∧ (∀ (i : Nat) (u : Value) (xs : List Int), us[i]? = some u → xss[i]? = some xs → OwI w lo hi u xs) ∧
  ∀ (i j : Nat) (u u' : Value), i < j → us[i]? = some u → us[j]? = some u' → ∀ g, u.ownBlock = some g → u'.ownBlock ≠ some g
theorem RowsR.below {w w' : World} {hi B : Nat} {us : List Value} {xss : List (List Int)} (h : RowsR w hi us xss) (hb : Below B w w') (hB : hi ≤ B) : RowsR w' hi us xss :=
  ⟨h.1, fun i u xs hu hx => (h.2 i u xs hu hx).below hb hB⟩
theorem RowsR.mono {w : World} {hi hi' : Nat} {us : List Value} {xss : List (List Int)} (h : RowsR w hi us xss) (hB : hi ≤ hi') : RowsR w hi' us xss :=
  ⟨h.1, fun i u xs hu hx => (h.2 i u xs hu hx).mono hB⟩
theorem RowsO.rd {w : World} {lo hi : Nat} {us : List Value} {xss : List (List Int)} (h : RowsO w lo hi us xss) : RowsR w hi us xss := ⟨h.1, fun i u xs hu hx => (h.2.1 i u xs hu hx).rd⟩
theorem RowsO.below {w w' : World} {lo hi B : Nat} {us : List Value} {xss : List (List Int)} (h : RowsO w lo hi us xss) (hb : Below B w w') (hB : hi ≤ B) : RowsO w' lo hi us xss :=
  ⟨h.1, fun i u xs hu hx => (h.2.1 i u xs hu hx).below hb hB, h.2.2⟩
theorem RowsO.keep {w w' : World} {lo hi a b : Nat} {us : List Value} {xss : List (List Int)} (h : RowsO w lo hi us xss) (hk : Keep a b w w') (hd : hi ≤ a ∨ b ≤ lo) : RowsO w' lo hi us xss :=
  ⟨h.1, fun i u xs hu hx => (h.2.1 i u xs hu hx).keep hk hd, h.2.2⟩
theorem OwI.mono {w : World} {lo hi lo' hi' : Nat} {v : Value} {xs : List Int} (h : OwI w lo hi v xs) (h1 : lo' ≤ lo) (h2 : hi ≤ hi') : OwI w lo' hi' v xs := by
  refine ⟨⟨h.1.1, ?_⟩, fun k hk => by have := h.2 k hk; omega⟩
  rcases h.1.2 with hn | ⟨g, cap, cur, rfl, hl, hg, rest⟩
  · exact .inl hn
  · exact .inr ⟨g, cap, cur, rfl, by omega, hg, rest⟩
theorem RowsO.nil (w : World) (lo hi : Nat) : RowsO w lo hi [] [] := ⟨rfl, fun i u xs hu _ => by simp at hu, fun i j u u' _ hu _ => by simp at hu⟩
theorem RowsO.mono {w : World} {lo hi lo' hi' : Nat} {us : List Value} {xss : List (List Int)} (h : RowsO w lo hi us xss) (h1 : lo' ≤ lo) (h2 : hi ≤ hi') : RowsO w lo' hi' us xss :=
  ⟨h.1, fun i u xs hu hx => (h.2.1 i u xs hu hx).mono h1 h2, h.2.2⟩
/-- One row more, made since. -/
theorem RowsO.snoc {w : World} {lo mid hi : Nat} {us : List Value} {xss : List (List Int)} {u : Value} {xs : List Int} (h : RowsO w lo mid us xss) (hu : OwI w mid hi u xs) (h1 : lo ≤ mid) (h2 : mid ≤ hi) : RowsO w lo hi (us ++ [u]) (xss ++ [xs]) := by
  have hl := h.1
  refine ⟨by simp [hl], fun i a b ha hb => ?_, fun i j a b hij ha hb g hg => ?_⟩
  · rcases Nat.lt_or_ge i us.length with hi | hi
    · rw [List.getElem?_append_left hi] at ha
      rw [List.getElem?_append_left (by omega)] at hb
      exact (h.2.1 i a b ha hb).mono (Nat.le_refl _) h2
    · rw [List.getElem?_append_right hi] at ha
      rw [List.getElem?_append_right (by omega)] at hb
      obtain ⟨hz, rfl⟩ : i - us.length = 0 ∧ u = a := by
        rcases Nat.eq_zero_or_pos (i - us.length) with e | e
        · rw [e] at ha; simp at ha; exact ⟨e, ha⟩
        · rw [List.getElem?_eq_none (by simp; omega)] at ha; cases ha
      rw [show i - xss.length = 0 by omega] at hb
      simp at hb
      subst hb
      exact hu.mono h1 (Nat.le_refl _)
  · rcases Nat.lt_or_ge i us.length with hi | hi
    · rw [List.getElem?_append_left hi] at ha
      rcases Nat.lt_or_ge j us.length with hj | hj
      · rw [List.getElem?_append_left hj] at hb
        exact h.2.2 i j a b hij ha hb g hg
      · rw [List.getElem?_append_right hj] at hb
        have hbu : u = b := by
          rcases Nat.eq_zero_or_pos (j - us.length) with e | e
          · rw [e] at hb; simpa using hb
          · rw [List.getElem?_eq_none (by simp; omega)] at hb; cases hb
        subst hbu
        intro hg2
        have h3 := (hu.range g hg2).1
        obtain ⟨xs', hxs⟩ : ∃ xs', xss[i]? = some xs' := ⟨xss[i], by simp [show i < xss.length by omega]⟩
        have h4 := ((h.2.1 i a xs' ha hxs).range g hg).2
        omega
    · rw [List.getElem?_append_right hi] at ha
      rw [List.getElem?_append_right (by omega)] at hb
      rw [List.getElem?_eq_none (by simp; omega)] at hb
      cases hb
/-- One row is marked: it reads anew, the others as they did. -/
theorem RowsO.only {w w' : World} {lo hi j : Nat} {us : List Value} {xss : List (List Int)} {u : Value} {ys : List Int} (h : RowsO w lo hi us xss) (hu : us[j]? = some u) (hk : Only u.ownBlock w w') (hy : OwI w' lo hi u ys) : RowsO w' lo hi us (xss.set j ys) := by
  refine ⟨by simp [h.1], fun i a b ha hb => ?_, h.2.2⟩
  by_cases e : i = j
  · subst e
    rw [hu] at ha; cases ha
    have hil : i < xss.length := by have := (List.getElem?_eq_some_iff.1 hu).1; have := h.1; omega
    rw [List.getElem?_set_self hil] at hb; cases hb
    exact hy
  · rw [List.getElem?_set_ne (fun e2 => e e2.symm)] at hb
    refine (h.2.1 i a b ha hb).only hk (fun g hg hg2 => ?_)
    rcases Nat.lt_or_gt_of_ne e with hlt | hlt
    · exact h.2.2 i j a u hlt ha hu g hg hg2
    · exact h.2.2 j i u a hlt hu ha g hg2 hg
def RdII (w : World) (hi : Nat) (v : Value) (xss : List (List Int)) : Prop := ∃ us, RowsR w hi us xss ∧ Rd w hi 1 v xss.length us
def OwII (w : World) (lo hi : Nat) (v : Value) (xss : List (List Int)) : Prop := ∃ us, RowsO w lo hi us xss ∧ w.ownsRow lo 29 1 v xss.length us ∧ ∀ k, v.ownBlock = some k → k < hi
theorem RdII.below {w w' : World} {hi : Nat} {v : Value} {xss : List (List Int)} (h : RdII w hi v xss) {B : Nat} (hb : Below B w w') (hB : hi ≤ B) : RdII w' hi v xss := by
  obtain ⟨us, h1, h2⟩ := h; exact ⟨us, h1.below hb hB, h2.below hb hB⟩
theorem owns_below {w w' : World} {lo hi size n : Nat} {e : TypeId} {v : Value} {xs : List Value} (h : w.ownsRow lo e size v n xs) (h2 : ∀ k, v.ownBlock = some k → k < hi) {B : Nat} (hb : Below B w w') (hB : hi ≤ B) : w'.ownsRow lo e size v n xs := by
  refine ⟨h.1, ?_⟩
  rcases h.2 with hn | ⟨g, cap, cur, rfl, hl, hg, rest⟩
  · exact .inl hn
  · exact .inr ⟨g, cap, cur, rfl, hl, (hb.block g (by have := h2 g rfl; omega)).trans hg, rest⟩
theorem owns_keep {w w' : World} {lo hi a b size n : Nat} {e : TypeId} {v : Value} {xs : List Value} (h : w.ownsRow lo e size v n xs) (h2 : ∀ k, v.ownBlock = some k → k < hi) (hk : Keep a b w w') (hd : hi ≤ a ∨ b ≤ lo) : w'.ownsRow lo e size v n xs := by
  refine ⟨h.1, ?_⟩
  rcases h.2 with hn | ⟨g, cap, cur, rfl, hl, hg, rest⟩
  · exact .inl hn
  · exact .inr ⟨g, cap, cur, rfl, hl, (hk.block g (by have := h2 g rfl; omega)).trans hg, rest⟩
theorem OwII.below {w w' : World} {lo hi : Nat} {v : Value} {xss : List (List Int)} (h : OwII w lo hi v xss) {B : Nat} (hb : Below B w w') (hB : hi ≤ B) : OwII w' lo hi v xss := by
  obtain ⟨us, h1, h2, h3⟩ := h; exact ⟨us, h1.below hb hB, owns_below h2 h3 hb hB, h3⟩
theorem OwII.keep {w w' : World} {lo hi a b : Nat} {v : Value} {xss : List (List Int)} (h : OwII w lo hi v xss) (hk : Keep a b w w') (hd : hi ≤ a ∨ b ≤ lo) : OwII w' lo hi v xss := by
  obtain ⟨us, h1, h2, h3⟩ := h; exact ⟨us, h1.keep hk hd, owns_keep h2 h3 hk hd, h3⟩
theorem OwII.rd {w : World} {lo hi : Nat} {v : Value} {xss : List (List Int)} (h : OwII w lo hi v xss) : RdII w hi v xss := by
  obtain ⟨us, h1, h2, h3⟩ := h; exact ⟨us, h1.rd, rd_of_owns h2 h3⟩
/-- The element at k: a cell with a slice value that reads as the k-th list. -/
theorem RdII.at_ {w : World} {hi : Nat} {v : Value} {xss : List (List Int)} (h : RdII w hi v xss) {k : Nat} (hk : k < xss.length) :
    ∃ b off c u xs, v = .slice (some ⟨b, off, Option.none⟩) xss.length c ∧ b < hi ∧ xss[k]? = some xs ∧ w.cell? ⟨b, off + k, Option.none⟩ = some u ∧ RdI w hi u xs := by
  obtain ⟨us, h1, h0, A, c, hv, _, _, h4⟩ := h
  obtain ⟨b, off, rfl, hb, hc⟩ := h4 (by omega)
  have hl := h1.1
  have hu : us[k]? = some us[k] := by simp [show k < us.length by omega]
  exact ⟨b, off, c, us[k], xss[k], hv, hb, by simp [hk], hc k _ hu, h1.2 k _ _ hu (by simp [hk])⟩
theorem RdII.form {w : World} {hi : Nat} {v : Value} {xss : List (List Int)} (h : RdII w hi v xss) : ∃ A c, v = .slice A xss.length c ∧ xss.length ≤ 9223372036854775807 := by
  obtain ⟨us, _, _, A, c, hv, h2, h3, _⟩ := h
  exact ⟨A, c, hv, by unfold maxLen at h3; omega⟩
theorem take_snocN {α : Type} {xs : List α} {k : Nat} {y : α} (h : xs[k]? = some y) : xs.take (k + 1) = xs.take k ++ [y] := by rw [List.take_add_one, h]; rfl
/-- All lists together. -/
def sizeII : List (List Int) → Nat
  | [] => 0
  | xs :: r => xs.length + sizeII r
/-- What is left of a number of cells behind all rows. -/
def szRest : Int → List (List Int) → Int
  | l, [] => l
  | l, xs :: r => if l - xs.length < 0 then -1 else szRest (l - xs.length) r
def szIntSSM (xss : List (List Int)) (left : Int) : Int := if left - xss.length < 0 then -1 else szRest (left - xss.length) xss
theorem szRest_bd (l : Int) (xss : List (List Int)) (h : ¬ szRest l xss < 0) : (sizeII xss : Int) ≤ l := by
  induction xss generalizing l with
  | nil => simp only [szRest] at h; simp only [sizeII]; omega
  | cons xs r ih =>
    simp only [szRest] at h
    split at h
    · omega
    · have := ih _ h
      simp only [sizeII]
      omega
theorem szIntSS_bd {xss : List (List Int)} {left z : Int} (h : z = szIntSSM xss left) (hz : ¬ z < 0) (hl : left ≤ 1048576 := by omega) : xss.length + sizeII xss ≤ 1048576 := by
  subst h
  unfold szIntSSM at hz
  split at hz
  · omega
  · have := szRest_bd _ _ hz
    omega
theorem sizeII_at {xss : List (List Int)} {k : Nat} {xs : List Int} (h : xss[k]? = some xs) : sizeII (xss.take (k + 1)) = sizeII (xss.take k) + xs.length ∧ sizeII (xss.take (k + 1)) ≤ sizeII xss := by
  induction xss generalizing k with
  | nil => simp at h
  | cons y r ih =>
    cases k with
    | zero => simp at h; subst h; simp [sizeII]
    | succ k =>
      have := ih (k := k) (by simpa using h)
      simp only [List.take_succ_cons, sizeII]
      omega
theorem sizeII_full (xss : List (List Int)) : sizeII (xss.take xss.length) = sizeII xss := by rw [List.take_of_length_le (Nat.le_refl _)]
def marksII : Nat → List (List Int) → List (List Int)
  | _, [] => []
  | k, xs :: r => marks k xs.length :: marksII (k + xs.length) r
theorem marksII_len (k : Nat) (xss : List (List Int)) : (marksII k xss).length = xss.length := by
  induction xss generalizing k with
  | nil => rfl
  | cons y r ih => simp [marksII, ih]
theorem marksII_at {k j : Nat} {xss : List (List Int)} {xs : List Int} (h : xss[j]? = some xs) : (marksII k xss)[j]? = some (marks (k + sizeII (xss.take j)) xs.length) := by
  induction xss generalizing k j with
  | nil => simp at h
  | cons y r ih =>
    cases j with
    | zero => simp at h; subst h; simp [marksII, sizeII]
    | succ j =>
      have := ih (k := k + y.length) (j := j) (by simpa using h)
      simp only [marksII, List.getElem?_cons_succ, List.take_succ_cons, sizeII]
      rw [this, Nat.add_assoc]
/-- Behind j rows: those are marked, the others are as they were. -/
def mixII (k j : Nat) (xss : List (List Int)) : List (List Int) := (marksII k xss).take j ++ xss.drop j
theorem mixII_at {k j : Nat} {xss : List (List Int)} {xs : List Int} (h : xss[j]? = some xs) : (mixII k j xss)[j]? = some xs := by
  have hl := (List.getElem?_eq_some_iff.1 h).1
  unfold mixII
  rw [List.getElem?_append_right (by rw [List.length_take, marksII_len]; omega), List.length_take, marksII_len, List.getElem?_drop]
  rw [show j + (j - min j xss.length) = j by omega]; exact h
theorem mixII_step {k j : Nat} {xss : List (List Int)} {xs : List Int} (h : xss[j]? = some xs) : (mixII k j xss).set j (marks (k + sizeII (xss.take j)) xs.length) = mixII k (j + 1) xss := by
  have hl := (List.getElem?_eq_some_iff.1 h).1
  have e : xss.drop j = xss[j] :: xss.drop (j + 1) := List.drop_eq_getElem_cons hl
  unfold mixII
  rw [e]
  have hlt : ((marksII k xss).take j).length = j := by rw [List.length_take, marksII_len]; omega
  have hs : ((marksII k xss).take j ++ xss[j] :: xss.drop (j + 1)).set j (marks (k + sizeII (xss.take j)) xs.length) = (marksII k xss).take j ++ marks (k + sizeII (xss.take j)) xs.length :: xss.drop (j + 1) := by
    rw [List.set_append_right _ _ (by omega), hlt, Nat.sub_self]; rfl
  rw [hs, List.take_add_one, marksII_at h]; simp
theorem szIntS_any (xs : List Int) (v : Value) (left : Int) (hi : Nat) (w : World) (h : RdI w hi v xs) (h0 : 0 ≤ left) (h1 : left ≤ 1048576) :
    Calls Try.prog 168 #[v, .int .i64 left] w fun e w' => e = .returned (.int .i64 (if left - xs.length < 0 then -1 else left - xs.length)) ∧ w = w' := by
  obtain ⟨A, c, rfl, hc, hm⟩ := Rd.form h
  clear h
  by_cases hlt : left - xs.length < 0
  · rw [if_pos hlt]
    go_enter Try.func168, Try.ntmps168
    go_wp2
    go_ret
    exact ⟨rfl, rfl⟩
  · rw [if_neg hlt]
    go_enter Try.func168, Try.ntmps168
    go_wp2
    go_ret
    exact ⟨rfl, rfl⟩
set_option maxHeartbeats 400000 in
theorem eqIntSS_sameB (xss : List (List Int)) (v u : Value) (hi hj : Nat) (w : World) (h : RdII w hi v xss) (g : RdII w hj u xss) (hh : hi ≤ w.heap.size := by omega) (hg : hj ≤ w.heap.size := by omega) :
    Calls Try.prog 56 #[v, u] w fun e w' => e = .returned (.bool true) ∧ Below w.heap.size w w' := by
  obtain ⟨A, c, rfl, hm⟩ := h.form
  obtain ⟨A', c', rfl, hm'⟩ := g.form
  have H := Lib.hid h
  have G := Lib.hid g
  clear h g
  go_enter Try.func56, Try.ntmps56
  go_wp2
  go_loopw [5] (fun i wr => ∃ k : Nat, k ≤ xss.length ∧ i = .int .i64 k ∧ Below w.heap.size w wr) (fun i _ => xss.length - (intOf i).toNat)
  case atStart => exact ⟨0, Nat.zero_le _, rfl, Below.refl _ _⟩
  case round =>
    obtain ⟨k, hk, rfl, hbr⟩ := hrel
    by_cases hlt : k < xss.length
    · obtain ⟨b1, o1, c1, a, xs, hv, _, hx, hcell1, hra⟩ := (H.out.below hbr hh).at_ hlt
      cases hv
      obtain ⟨b2, o2, c2, b, xs', hv, _, hx', hcell2, hrb⟩ := (G.out.below hbr hg).at_ hlt
      cases hv
      rw [hx] at hx'
      cases hx'
      have HA := Lib.hid hra
      have HB := Lib.hid hrb
      clear hx hra hrb
      have hs := hbr.size
      go_wp2
      go_quiet ((go_at_call 57; exact Calls.quiet_of (eqIntS_same xs _ _ hi hj _ (by exact HA.out) (by exact HB.out))))
      go_wp2
      go_roundw
      case rel => exact ⟨k + 1, by omega, by go_num, hbr.trans (bel_drewN _ wr _)⟩
      case measure => simp [intOf]; omega
    · go_wp2
      go_ret
      exact ⟨rfl, hbr⟩
theorem sizeII_len {xss : List (List Int)} {k : Nat} {xs : List Int} (h : xss[k]? = some xs) : xs.length ≤ sizeII xss := by
  have := sizeII_at h; omega
/-- A slice of rows of the call's own. -/
def RetOwII (xss : List (List Int)) (w : World) (e : Ending) (w' : World) : Prop := ∃ v, e = .returned v ∧ OwII w' w.heap.size w'.heap.size v xss ∧ Below w.heap.size w w'
/-- Room for n slices, all nil, behind a name. -/
def nils (n : Nat) : Array Value := (List.replicate n (Value.slice Option.none 0 0)).toArray
theorem info_ints : (Try.prog.info? 29).map (fun i => (i.zero, i.size, i.bytes)) = some (some (.slice Option.none 0 0), 1, 24) := by kernel_rfl
theorem make_rows (n : Nat) (hn : n ≤ 1048576) (w : World) :
    (Instr.makeSlice 61 (.int .i64 (n : Int)) (.int .i64 (n : Int))).run Try.prog w = .ok (.slice (some ⟨w.heap.size, 0, Option.none⟩) n n) (w.alloc (.cells (nils n) 29)) := by
  obtain ⟨i, hi, hz0, hz1, hz2⟩ := info_parts info_ints
  have h := run_make_rowN (P := Try.prog) 61 29 i (.slice Option.none 0 0) Try.underlying61 hi hz0 .i64 .i64 n n (Nat.le_refl _) (by rw [hz2]; omega) (by omega) w
  rw [h, hz1]
  have e : madeCells (Value.slice Option.none 0 0).cells (n * 1) = nils n := by
    apply Array.ext
    · simp [madeCells, nils]
    · intro j h1 h2
      simp [madeCells, nils, Value.cells, Nat.mod_one]
  rw [e]
theorem rows_set {us : List Value} {m : Nat} {u : Value} (h : 0 < m) : (us ++ List.replicate m (Value.slice Option.none 0 0)).set us.length u = (us ++ [u]) ++ List.replicate (m - 1) (Value.slice Option.none 0 0) := by
  obtain ⟨q, rfl⟩ : ∃ q, m = q + 1 := ⟨m - 1, by omega⟩
  rw [List.replicate_succ]
  have := set_mid us (List.replicate q (Value.slice Option.none 0 0)) (Value.slice Option.none 0 0) u
  rw [this]; simp
/-- The outer row is not the row of an int slice. -/
theorem outer_only {w w' : World} {lo n : Nat} {v u : Value} {us : List Value} {xs : List Int} {lo' hi' : Nat} (h : w.ownsRow lo 29 1 v n us) (hu : OwI w lo' hi' u xs) (hk : Only u.ownBlock w w') : w'.ownsRow lo 29 1 v n us := by
  refine ⟨h.1, ?_⟩
  rcases h.2 with hn | ⟨g, cap, cur, rfl, hl, hg, rest⟩
  · exact .inl hn
  · refine .inr ⟨g, cap, cur, rfl, hl, (hk.block g (fun e => ?_)).trans hg, rest⟩
    rcases hu.1.2 with ⟨rfl, _⟩ | ⟨g2, cap2, cur2, rfl, _, hg2, _⟩
    · cases e
    · cases e
      rw [hg] at hg2
      simp at hg2
theorem own_range {w : World} {lo hi n : Nat} {e : TypeId} {size : Nat} {v : Value} {us : List Value} (h : w.ownsRow lo e size v n us) (h2 : ∀ k, v.ownBlock = some k → k < hi) : ∀ g, v.ownBlock = some g → lo ≤ g ∧ g < hi := fun g hg => ⟨(h.lt g hg).1, h2 g hg⟩
theorem Only.keepI {w w' : World} {lo hi : Nat} {u : Value} {xs : List Int} (h : Only u.ownBlock w w') (hu : OwI w lo hi u xs) : Keep lo hi w w' := h.keep hu.range
set_option maxHeartbeats 400000 in
theorem markIntSS_any (xss : List (List Int)) (v : Value) (lo hi k : Nat) (w : World) (h : OwII w lo hi v xss) (hk : k ≤ 4194304) (hsz : sizeII xss ≤ 4194304) :
    Calls Try.prog 59 #[v, .int .i64 (k : Int)] w fun e w' => e = .returned (.int .i64 ((k + sizeII xss : Nat) : Int)) ∧ OwII w' lo hi v (marksII k xss) ∧ Keep lo hi w w' := by
  obtain ⟨A, c, hv, hm⟩ := h.rd.form
  subst hv
  obtain ⟨us, hrows, hown, hbl⟩ := h
  have HR0 := Lib.hid hrows
  have HO0 := Lib.hid hown
  clear hrows hown
  go_enter Try.func59, Try.ntmps59
  go_wp2
  go_loopw [1, 5] (fun q i wr => ∃ (j : Nat), j ≤ xss.length ∧ i = .int .i64 j ∧ q = .int .i64 ((k + sizeII (xss.take j) : Nat) : Int) ∧ RowsO wr lo hi us (mixII k j xss) ∧ wr.ownsRow lo 29 1 (.slice A xss.length c) xss.length us ∧ Keep lo hi w wr) (fun _ i _ => xss.length - (intOf i).toNat)
  case atStart => exact ⟨0, Nat.zero_le _, rfl, rfl, by simpa [mixII] using HR0.out, HO0.out, Keep.refl _ _ _⟩
  case round =>
    obtain ⟨j, hj, rfl, rfl, hrows, hown, hkp⟩ := hrel
    by_cases hlt : j < xss.length
    · have hx : xss[j]? = some xss[j] := by simp [hlt]
      obtain ⟨xs, hxs⟩ : ∃ xs, xs = xss[j] := ⟨_, rfl⟩
      rw [← hxs] at hx
      have hrd := rd_of_owns hown hbl
      obtain ⟨_, A2, c2, hv2, _, _, h4⟩ := hrd
      cases hv2
      obtain ⟨b, off, rfl, hb, hcell⟩ := h4 (by omega)
      have hu : us[j]? = some us[j] := by simp [show j < us.length by have := HR0.out.1; omega]
      have hcell1 := hcell j _ hu
      obtain ⟨u, huu⟩ : ∃ u, u = us[j]'(by have := HR0.out.1; omega) := ⟨_, rfl⟩
      rw [← huu] at hu hcell1
      have hru := hrows.2.1 j u xs hu (mixII_at hx)
      have hsj := sizeII_at hx
      have HX := Lib.hid hx
      have HU := Lib.hid hu
      have HRU := Lib.hid hru
      have HRW := Lib.hid hrows
      have HOW := Lib.hid hown
      have HKP := Lib.hid hkp
      have hs1 := hsj.1
      have hs2 := hsj.2
      have hlx := sizeII_len hx
      have HS := Lib.hid hs1
      have hs3 : k + sizeII (xss.take j) ≤ 8388608 := by omega
      clear hx hu hru hcell hxs huu hsj hs1 hs2 hrows hown hkp h4
      go_wp2_with fail
      refine (markIntS_only xs u lo hi (k + sizeII (xss.take j)) _ HRU.out (by omega) (by omega)).mono ?_
      rintro e w2 ⟨rfl, hm2, hk2⟩
      have h1 := HRW.out.only HU.out hk2 hm2
      rw [mixII_step HX.out] at h1
      have h2 := outer_only HOW.out HRU.out hk2
      have h3 := HKP.out.trans (hk2.keepI HRU.out)
      have H1 := Lib.hid h1
      have H2 := Lib.hid h2
      have H3 := Lib.hid h3
      clear h1 h2 h3 hk2 hm2 hcell1
      go_wp2
      go_roundw
      case rel => exact ⟨j + 1, by omega, by go_num, int_val (by have := HS.out; omega), H1.out, H2.out, H3.out⟩
      case measure => simp [intOf]; omega
    · obtain rfl : j = xss.length := by omega
      go_wp2
      go_ret
      refine ⟨ret_int (by rw [sizeII_full]), ⟨us, ?_, ?_, hbl⟩, hkp⟩
      · have e : mixII k xss.length xss = marksII k xss := by unfold mixII; rw [List.drop_length, List.append_nil, List.take_of_length_le (by rw [marksII_len]; exact Nat.le_refl _)]
        rwa [e] at hrows
      · rw [marksII_len]; exact hown
theorem markIntSS_ex (xss : List (List Int)) (v : Value) (lo hi k : Nat) (w : World) (h : OwII w lo hi v xss) (hk : k ≤ 4194304) (hsz : sizeII xss ≤ 4194304) :
    Calls Try.prog 59 #[v, .int .i64 (k : Int)] w fun e w' => ∃ q : Nat, e = .returned (.int .i64 (q : Int)) ∧ q ≤ k + sizeII xss ∧ OwII w' lo hi v (marksII k xss) ∧ Keep lo hi w w' :=
  (markIntSS_any xss v lo hi k w h hk hsz).mono fun _ _ ⟨he, h1, h2⟩ => ⟨_, he, Nat.le_refl _, h1, h2⟩
theorem heldIntSS_any (xss : List (List Int)) (v : Value) (hi k : Nat) (w : World) (h : RdII w hi v (marksII k xss)) (hk : k ≤ 4194304) (hsz : sizeII xss ≤ 4194304) :
    Calls Try.prog 60 #[v, .int .i64 (k : Int)] w fun e w' => e = .returned (.int .i64 ((k + sizeII xss : Nat) : Int)) ∧ w = w' := by
  obtain ⟨A, c, hv, hm⟩ := h.form
  rw [marksII_len] at hv hm
  subst hv
  have H := Lib.hid h
  clear h
  go_enter Try.func60, Try.ntmps60
  go_wp2
  go_loop [1, 5] (fun q i => ∃ (j : Nat), j ≤ xss.length ∧ i = .int .i64 j ∧ q = .int .i64 ((k + sizeII (xss.take j) : Nat) : Int)) (fun _ i => xss.length - (intOf i).toNat)
  case atStart => exact ⟨0, Nat.zero_le _, rfl, rfl⟩
  case round =>
    obtain ⟨j, hj, rfl, rfl⟩ := hrel
    by_cases hlt : j < xss.length
    · have hx : xss[j]? = some xss[j] := by simp [hlt]
      obtain ⟨xs, hxs⟩ : ∃ xs, xs = xss[j] := ⟨_, rfl⟩
      rw [← hxs] at hx
      obtain ⟨b1, o1, c1, a, ys, hv, _, hy, hcell1, hra⟩ := H.out.at_ (k := j) (by rw [marksII_len]; exact hlt)
      rw [marksII_len] at hv
      cases hv
      rw [marksII_at hx] at hy
      cases hy
      have hsj := sizeII_at hx
      have hs1 := hsj.1
      have hs2 := hsj.2
      have hlx := sizeII_len hx
      have HS := Lib.hid hs1
      have HRA := Lib.hid hra
      have hs3 : k + sizeII (xss.take j) ≤ 8388608 := by omega
      clear hx hxs hra hsj hs1 hs2
      go_wp2_with fail
      refine (heldIntS_any xs.length a hi (k + sizeII (xss.take j)) _ HRA.out (by omega) (by omega)).mono ?_
      rintro e w2 ⟨rfl, rfl⟩
      go_wp2
      go_round
      case rel => exact ⟨j + 1, by omega, by go_num, int_val (by have := HS.out; omega)⟩
      case measure => simp [intOf]; omega
    · obtain rfl : j = xss.length := by omega
      go_wp2
      go_ret
      exact ⟨ret_int (by first | rw [sizeII_full] | rfl), rfl⟩
end Go.Proofs.Ytabiobjcfopakaa
