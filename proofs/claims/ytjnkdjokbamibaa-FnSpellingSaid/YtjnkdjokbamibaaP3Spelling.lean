/- Texts of one claim, joined: E12, E11, E13, F1, F2, F3, D10, F4. -/
import Derived.Lib.OthersKept
import Derived.StillTailTactics
import Derived.BigQuiet
import Derived.Test.YtjnkdjokbamibaaP2Spelling
/- Plain laws: which first parts of letters can be spelled. -/
namespace Go.Proofs.Ytjnkdjokbamibaa
/-- A place that phrases reach, one after the other. -/
inductive Rch (ps : List Phr) (s : ByteArray) : Nat → Prop
  | zero : Rch ps s 0
  | step {a : Nat} {p : Phr} : Rch ps s a → p ∈ ps → fitT s a p = true → Rch ps s (a + p.1.size)
/-- A place from which phrases reach the end. -/
inductive Bck (ps : List Phr) (s : ByteArray) : Nat → Prop
  | fin : Bck ps s s.size
  | step {a : Nat} {p : Phr} : Bck ps s (a + p.1.size) → p ∈ ps → fitT s a p = true → Bck ps s a
theorem Bck.rch {ps : List Phr} {s : ByteArray} {a : Nat} (h : Bck ps s a) : Rch ps s a → Rch ps s s.size := by
  induction h with
  | fin => exact id
  | step _ hp hf ih => exact fun hr => ih (hr.step hp hf)
theorem Rch.bck {ps : List Phr} {s : ByteArray} {a : Nat} (h : Rch ps s a) : Bck ps s a → Bck ps s 0 := by
  induction h with
  | zero => exact id
  | step _ hp hf ih => exact fun hb => ih (hb.step hp hf)
theorem bck_rch {ps : List Phr} {s : ByteArray} : Bck ps s 0 ↔ Rch ps s s.size := ⟨fun h => h.rch .zero, fun h => h.bck .fin⟩
theorem ls_some {fit : Phr → Bool} {len cost : Phr → Nat} {tb : List (Option Nat)} : ∀ (ps : List Phr) (cur : Option Nat),
    ((ps.foldl (lsStep fit len cost tb) cur).isSome = true ↔ (cur.isSome = true ∨ ∃ p ∈ ps, fit p = true ∧ (tb.getD (len p - 1) Option.none).isSome = true))
  | [], cur => by simp
  | p :: ps, cur => by
    rw [List.foldl_cons, ls_some ps]
    have e : (lsStep fit len cost tb cur p).isSome = true ↔ (cur.isSome = true ∨ (fit p = true ∧ (tb.getD (len p - 1) Option.none).isSome = true)) := by
      unfold lsStep
      split
      · rename_i hf
        split
        · rename_i ht; rw [ht]; simp
        · rename_i m ht
          simp only [ht, hf, Option.isSome_some, and_true, or_true, iff_true]
          cases cur with
          | none => rfl
          | some c => show (if _ then _ else _ : Option Nat).isSome = true; split <;> rfl
      · rename_i hf; simp [hf]
    rw [e]
    simp only [List.mem_cons, exists_eq_or_imp, or_assoc]
theorem dpL_get (fit : Nat → Phr → Bool) (len cost : Phr → Nat) (ps : List Phr) (n : Nat) : ∀ (k i : Nat), i ≤ k → (dpL fit len cost ps n k)[i]? = (dpL fit len cost ps n (k - i))[0]?
  | k, 0, _ => rfl
  | 0, i + 1, h => by omega
  | k + 1, i + 1, h => by
    rw [show k + 1 - (i + 1) = k - i by omega, ← dpL_get fit len cost ps n k i (by omega)]
    simp [dpL]
theorem fitT_le {s : ByteArray} {a : Nat} {p : Phr} (h : fitT s a p = true) (hp : 1 ≤ p.1.size) : a + p.1.size ≤ s.size := by
  rw [fitT_eq] at h
  have := h.length_le
  rw [List.length_drop] at this
  simp at this
  omega
theorem dpL_head {ps : List Phr} (hbk : bookB ps = true) (s : ByteArray) : ∀ k, k ≤ s.size → (((dpL (fitT s) txtLen sigCost ps s.size k).getD 0 Option.none).isSome = true ↔ Bck ps s (s.size - k)) := by
  intro k
  induction k using Nat.strongRecOn with
  | _ k ih =>
    intro hk
    cases k with
    | zero => simp [dpL]; exact .fin
    | succ k =>
      have e : (dpL (fitT s) txtLen sigCost ps s.size (k + 1)).getD 0 Option.none = lsAt (fitT s (s.size - (k + 1))) txtLen sigCost ps (dpL (fitT s) txtLen sigCost ps s.size k) := by simp [dpL]
      rw [e]
      unfold lsAt
      rw [ls_some]
      simp only [Option.isSome_none, Bool.false_eq_true, false_or]
      constructor
      · rintro ⟨p, hp, hf, ht⟩
        have h1 := tblT_hyp hbk s k (by omega) p hp hf
        rw [List.getD_eq_getElem?_getD, dpL_get _ _ _ _ _ _ _ (by have := h1.2.1; omega), ← List.getD_eq_getElem?_getD, ih (k - (txtLen p - 1)) (by omega) (by omega)] at ht
        have h2 : s.size - (k - (txtLen p - 1)) = s.size - (k + 1) + p.1.size := by have := h1.1; have := h1.2.1; show _ = _ + txtLen p; omega
        rw [h2] at ht
        exact ht.step hp hf
      · intro hb
        generalize ha : s.size - (k + 1) = a at hb
        cases hb with
        | fin => omega
        | @step _ p h2 hp hf =>
          rw [← ha] at hf h2
          have h1 := tblT_hyp hbk s k (by omega) p hp hf
          refine ⟨p, hp, by rw [ha] at hf; exact hf, ?_⟩
          rw [List.getD_eq_getElem?_getD, dpL_get _ _ _ _ _ _ _ (by have := h1.2.1; omega), ← List.getD_eq_getElem?_getD, ih (k - (txtLen p - 1)) (by omega) (by omega)]
          have h3 : s.size - (k - (txtLen p - 1)) = s.size - (k + 1) + p.1.size := by have := h1.1; have := h1.2.1; show _ = _ + txtLen p; omega
          rw [h3]; exact h2
/-- Can the first m letters be spelled? -/
def spellB (ps : List Phr) (s : ByteArray) (m : Nat) : Bool := ((tblT ps (s.extract 0 m)).getD 0 Option.none).isSome
theorem fitT_cut {s : ByteArray} {m a : Nat} {p : Phr} (ha : a ≤ m) : fitT (s.extract 0 m) a p = true ↔ (fitT s a p = true ∧ a + p.1.size ≤ m) := by
  rw [fitT_eq, fitT_eq]
  have e : (s.extract 0 m).data.toList.drop a = (s.data.toList.drop a).take (m - a) := by
    rw [← List.drop_take]; simp
  rw [e, List.prefix_take_iff]
  have : p.1.data.toList.length = p.1.size := by simp
  rw [this]
  constructor
  · rintro ⟨h1, h2⟩; exact ⟨h1, by omega⟩
  · rintro ⟨h1, h2⟩; exact ⟨h1, by omega⟩
theorem rch_cut {ps : List Phr} {s : ByteArray} {m : Nat} {a : Nat} : a ≤ m → (Rch ps (s.extract 0 m) a ↔ Rch ps s a) := by
  intro ha
  constructor
  · intro h
    induction h with
    | zero => exact .zero
    | @step b p _ hp hf ih =>
      have hb : b ≤ m := by omega
      exact (ih hb).step hp ((fitT_cut hb).1 hf).1
  · intro h
    induction h with
    | zero => exact .zero
    | @step b p _ hp hf ih =>
      have hb : b ≤ m := by omega
      exact (ih hb).step hp ((fitT_cut hb).2 ⟨hf, ha⟩)
theorem spellB_iff {ps : List Phr} {s : ByteArray} {m : Nat} (hbk : bookB ps = true) (hm : m ≤ s.size) : spellB ps s m = true ↔ Rch ps s m := by
  have hs : (s.extract 0 m).size = m := by simp; omega
  unfold spellB tblT
  rw [dpL_head hbk (s.extract 0 m) _ (Nat.le_refl _), Nat.sub_self, bck_rch, hs]
  exact rch_cut (Nat.le_refl _)
/-- The greatest number of first letters, k at most, that can be spelled. -/
def partM (ps : List Phr) (s : ByteArray) : Nat → Nat
  | 0 => 0
  | k + 1 => if spellB ps s (k + 1) then k + 1 else partM ps s k
theorem partM_le (ps : List Phr) (s : ByteArray) (k : Nat) : partM ps s k ≤ k := by
  induction k with
  | zero => exact Nat.le_refl _
  | succ k ih => unfold partM; split <;> omega
theorem partM_eq {ps : List Phr} {s : ByteArray} {n m : Nat} (hbk : bookB ps = true) (hn : n ≤ s.size) (h1 : Rch ps s m) (hm : m ≤ n) (h2 : ∀ p, p ≤ n → Rch ps s p → p ≤ m) : partM ps s n = m := by
  induction n with
  | zero => show 0 = m; omega
  | succ n ih =>
    unfold partM
    split
    · rename_i h
      have := h2 (n + 1) (Nat.le_refl _) ((spellB_iff hbk hn).1 h)
      omega
    · rename_i h
      have hne : m ≠ n + 1 := by rintro rfl; exact h ((spellB_iff hbk hn).2 h1)
      exact ih (by omega) (by omega) (fun p hp => h2 p (by omega))
/-- What has been reached: from the places before at_, and from at_ by some phrases. -/
def RchTo (ps : List Phr) (s : ByteArray) (at_ : Nat) (qs : List Phr) (p : Nat) : Prop :=
  p = 0 ∨ (∃ a q, a < at_ ∧ Rch ps s a ∧ q ∈ ps ∧ fitT s a q = true ∧ p = a + q.1.size) ∨ (Rch ps s at_ ∧ ∃ q, q ∈ qs ∧ fitT s at_ q = true ∧ p = at_ + q.1.size)
theorem RchTo.rch {ps qs : List Phr} {s : ByteArray} {at_ p : Nat} (hq : ∀ q ∈ qs, q ∈ ps) (h : RchTo ps s at_ qs p) : Rch ps s p := by
  rcases h with rfl | ⟨a, q, _, h1, h2, h3, rfl⟩ | ⟨h1, q, h2, h3, rfl⟩
  · exact .zero
  · exact h1.step h2 h3
  · exact h1.step (hq q h2) h3
theorem Rch.to {ps : List Phr} {s : ByteArray} {at_ p : Nat} (hbk : bookB ps = true) (h : Rch ps s p) (hp : p ≤ at_) : RchTo ps s at_ [] p := by
  cases h with
  | zero => exact .inl rfl
  | @step a q h1 h2 h3 =>
    have := (phrOk_txt (bookB_phr hbk h2)).1
    exact .inr (.inl ⟨a, q, by omega, h1, h2, h3, rfl⟩)
theorem RchTo.turn {ps : List Phr} {s : ByteArray} {at_ p : Nat} : RchTo ps s at_ ps p ↔ RchTo ps s (at_ + 1) [] p := by
  constructor
  · rintro (h | ⟨a, q, h0, h1⟩ | ⟨h1, q, h2, h3, h4⟩)
    · exact .inl h
    · exact .inr (.inl ⟨a, q, by omega, h1⟩)
    · exact .inr (.inl ⟨at_, q, by omega, h1, h2, h3, h4⟩)
  · rintro (h | ⟨a, q, h0, h1, h2, h3, h4⟩ | ⟨_, q, h2, _⟩)
    · exact .inl h
    · by_cases e : a = at_
      · subst e; exact .inr (.inr ⟨h1, q, h2, h3, h4⟩)
      · exact .inr (.inl ⟨a, q, by omega, h1, h2, h3, h4⟩)
    · cases h2
theorem RchTo.no {ps qs : List Phr} {s : ByteArray} {at_ p : Nat} {q : Phr} (h : ¬ (Rch ps s at_ ∧ fitT s at_ q = true)) : RchTo ps s at_ (qs ++ [q]) p ↔ RchTo ps s at_ qs p := by
  unfold RchTo
  constructor
  · rintro (h1 | h1 | ⟨h1, r, h2, h3, h4⟩)
    · exact .inl h1
    · exact .inr (.inl h1)
    · rw [List.mem_append, List.mem_singleton] at h2
      rcases h2 with h2 | rfl
      · exact .inr (.inr ⟨h1, r, h2, h3, h4⟩)
      · exact absurd ⟨h1, h3⟩ h
  · rintro (h1 | h1 | ⟨h1, r, h2, h3, h4⟩)
    · exact .inl h1
    · exact .inr (.inl h1)
    · exact .inr (.inr ⟨h1, r, List.mem_append_left _ h2, h3, h4⟩)
theorem RchTo.yes {ps qs : List Phr} {s : ByteArray} {at_ p : Nat} {q : Phr} (h1 : Rch ps s at_) (h2 : fitT s at_ q = true) : RchTo ps s at_ (qs ++ [q]) p ↔ (RchTo ps s at_ qs p ∨ p = at_ + q.1.size) := by
  unfold RchTo
  constructor
  · rintro (h | h | ⟨_, r, h4, h5, h6⟩)
    · exact .inl (.inl h)
    · exact .inl (.inr (.inl h))
    · rw [List.mem_append, List.mem_singleton] at h4
      rcases h4 with h4 | rfl
      · exact .inl (.inr (.inr ⟨h1, r, h4, h5, h6⟩))
      · exact .inr h6
  · rintro ((h | h | ⟨_, r, h4, h5, h6⟩) | h)
    · exact .inl h
    · exact .inr (.inl h)
    · exact .inr (.inr ⟨h1, r, List.mem_append_left _ h4, h5, h6⟩)
    · exact .inr (.inr ⟨h1, q, by simp, h2, h⟩)
end Go.Proofs.Ytjnkdjokbamibaa
/- Contract: the reference's table of the least lengths. -/
namespace Go.Proofs.Ytjnkdjokbamibaa
open Go.RowKit
theorem opts_ints (l : List (Option Nat)) : opts l = ints (l.map optI) := by simp
theorem lsStep_no {fit : Phr → Bool} {len cost : Phr → Nat} {tb : List (Option Nat)} {cur : Option Nat} {p : Phr} (h : fit p = false) : lsStep fit len cost tb cur p = cur := by unfold lsStep; rw [h]; rfl
theorem lsStep_none {fit : Phr → Bool} {len cost : Phr → Nat} {tb : List (Option Nat)} {cur : Option Nat} {p : Phr} (ht : tb[len p - 1]? = some Option.none) : lsStep fit len cost tb cur p = cur := by
  unfold lsStep; rw [List.getD_eq_getElem?_getD, ht]; cases fit p <;> rfl
theorem lsStep_some {fit : Phr → Bool} {len cost : Phr → Nat} {tb : List (Option Nat)} {cur : Option Nat} {p : Phr} {v : Nat} (h : fit p = true) (ht : tb[len p - 1]? = some (some v)) : lsStep fit len cost tb cur p = lsUpd cur (cost p + v) := by
  unfold lsStep; rw [h, List.getD_eq_getElem?_getD, ht]; rfl
set_option maxRecDepth 100000 in
set_option maxHeartbeats 4000000 in
theorem spTable_any (ps : List Phr) (s : ByteArray) (v : Value) (hi : Nat) (w : World) (h : RdB w hi v ps) (hh : hi ≤ w.heap.size) (hbk : bookB ps = true) (hs40 : s.size ≤ 40) :
    Calls Try.prog 84 #[v, .string s] w (RetOwI ((tblT ps s).map optI) w) := by
  obtain ⟨a, rfl, ha⟩ := h
  obtain ⟨A, c, rfl, hc, hm⟩ := ha.form
  have HA0 := Lib.hid ha
  have hba : Below w.heap.size w (w.alloc (.cells #[.slice A ps.length c] 28)) := (Below.refl _ _).alloc (Nat.le_refl _) _
  have HB := Lib.hid hba
  have HA := Lib.hid (ha.below hba hh)
  have HG : Hid (RdB (w.alloc (.cells #[.slice A ps.length c] 28)) hi (.agg #[.slice A ps.length c]) ps) := ⟨_, rfl, HA.out⟩
  have hcb0 : (w.alloc (.cells #[.slice A ps.length c] 28)).cell? ⟨w.heap.size, 0, Option.none⟩ = some (.slice A ps.length c) := (Blk.new w 28 #[.slice A ps.length c]).cell 0
  have HCB := Lib.hid hcb0
  have hsz1 : hi ≤ (w.alloc (.cells #[.slice A ps.length c] 28)).heap.size := by simp; omega
  clear ha hba hcb0
  have HBK := Lib.hid hbk
  clear hbk
  have hmk := make_ints (s.size + 1) (by omega)
  rw [show ((s.size + 1 : Nat) : Int) = (s.size : Int) + 1 from rfl] at hmk
  have HBW : Hid (Below w.heap.size w ((w.alloc (.cells #[.slice A ps.length c] 28)).alloc (.cells (zeros (s.size + 1)) 3))) := ((Below.refl _ _).alloc (Nat.le_refl _) _).alloc (by simp) _
  have HTB0 : Hid (Blk ((w.alloc (.cells #[.slice A ps.length c] 28)).alloc (.cells (zeros (s.size + 1)) 3)) (w.heap.size + 1) 3 (optZ s.size (dpL (fitT s) txtLen sigCost ps s.size 0))) := by
    have := Blk.new (w.alloc (.cells #[.slice A ps.length c] 28)) 3 (zeros (s.size + 1))
    rw [optZ_start] at this
    simp at this
    exact this
  have HCBX : Hid (((w.alloc (.cells #[.slice A ps.length c] 28)).alloc (.cells (zeros (s.size + 1)) 3)).cell? ⟨w.heap.size, 0, Option.none⟩ = some (.slice A ps.length c)) :=
    (((Below.refl (w.alloc (.cells #[.slice A ps.length c] 28)).heap.size (w.alloc (.cells #[.slice A ps.length c] 28))).alloc (Nat.le_refl _) (.cells (zeros (s.size + 1)) 3)).cell (p := ⟨w.heap.size, 0, Option.none⟩) (by simp)).trans HCB.out
  go_enter Try.func84, Try.ntmps84
  go_wp2_with fail
  go_loopw [6] (fun i wr => ∃ (m k : Nat) (z : Int), Hid (m + k = s.size) ∧ Hid (z = (m : Int) - 1) ∧ i = .int .i64 z ∧ Hid (Blk wr (w.heap.size + 1) 3 (optZ m (dpL (fitT s) txtLen sigCost ps s.size k))) ∧ Hid (Below (w.heap.size + 1) ((w.alloc (.cells #[.slice A ps.length c] 28)).alloc (.cells (zeros (s.size + 1)) 3)) wr)) (fun i _ => (intOf i + 1).toNat)
  case atStart => exact ⟨s.size, 0, (s.size : Int) - 1, rfl, rfl, rfl, HTB0.out, Below.refl _ _⟩
  case round =>
    obtain ⟨m, k, z, hmk1, hz, rfl, hblk, hbr⟩ := hrel
    have hs : (w.heap.size + 1) + 1 ≤ wr.heap.size := by have := hblk.out.lt; omega
    rcases m with _ | m
    · obtain rfl : z = -1 := by have := hz.out; omega
      have HK : Hid (k = s.size) := by have := hmk1.out; show k = _; omega
      go_wp2_with fail
      go_ret
      have h1 := hblk.out
      rw [HK.out] at h1
      refine ⟨_, rfl, ?_, HBW.out.trans (hbr.out.mono (by omega))⟩
      have e : ((tblT ps s).map optI).length = s.size + 1 := by simp [tblT, dpL_len]
      have h2 : Blk wr (w.heap.size + 1) 3 (ints ((tblT ps s).map optI)) := by rw [← opts_ints]; simpa [optZ, tblT] using h1
      have := own_of_blk (lo := w.heap.size) (hi := wr.heap.size) h2 (by omega) (by omega) (by rw [e]; unfold maxLen; omega)
      rw [e] at this
      exact this
    · obtain rfl : z = (m : Int) := by have := hz.out; omega
      have hm1 : m < s.size := by have := hmk1.out; omega
      have hboxr := (hbr.out.cell (p := ⟨w.heap.size, 0, Option.none⟩) (by show w.heap.size < (w.heap.size + 1); omega)).trans HCBX.out
      have hz0 := hblk.out.cell m
      rw [optZ_below] at hz0
      have hf0 := hblk.out.frozen m
      rename World => wo
      go_wp2_with fail
      go_loopw [27] (fun i wr => ∃ j : Nat, j ≤ ps.length ∧ i = .int .i64 j ∧ Hid (Blk wr (w.heap.size + 1) 3 (optZ m (lsAt (fitT s m) txtLen sigCost (ps.take j) (dpL (fitT s) txtLen sigCost ps s.size k) :: (dpL (fitT s) txtLen sigCost ps s.size k)))) ∧ Hid (Below (w.heap.size + 1) ((w.alloc (.cells #[.slice A ps.length c] 28)).alloc (.cells (zeros (s.size + 1)) 3)) wr)) (fun i _ => ps.length - (intOf i).toNat)
      case atStart => exact ⟨0, Nat.zero_le _, rfl, by have := hblk.out.set_ m (.int .i64 (-1)); rw [optZ_down] at this; exact this, hbr.out.setCell (Nat.le_refl _) _⟩
      case round =>
        obtain ⟨j, hjl, rfl, hblk2, hbr2⟩ := hrel
        have hs2 : (w.heap.size + 1) + 1 ≤ wr.heap.size := by have := hblk2.out.lt; omega
        have HBR := Lib.hid (HBW.out.trans (hbr2.out.mono (by omega)))
        clear hz0 hf0
        by_cases hlt : j < ps.length
        · obtain ⟨b1, o1, c1, a, t, xs, hv, hb1, hx, hcell1, hcell2, hra, hta⟩ := (HA0.out.below HBR.out (by omega)).at_ hlt
          cases hv
          obtain ⟨A2, c2, rfl, hc2, hm2⟩ := Rd.form hra
          have HX := Lib.hid hx
          have hfit : fitT s m (t, xs) = Lib.hasPrefix (s.extract m s.size).data.toList t.data.toList := rfl
          have HF := Lib.hid hfit
          have HAP := Lib.hid (tblT_hyp HBK.out s k (by have := hmk1.out; omega) (t, xs) (List.mem_of_getElem? HX.out))
          have HBP := Lib.hid (hbr2.out.alloc (show (w.heap.size + 1) ≤ wr.heap.size by omega) (.cells #[.string t, .slice A2 xs.length c2] 40))
          have HBLP : Hid (Blk (wr.alloc (.cells #[.string t, .slice A2 xs.length c2] 40)) (w.heap.size + 1) 3 (optZ m (lsAt (fitT s m) txtLen sigCost (ps.take j) (dpL (fitT s) txtLen sigCost ps s.size k) :: (dpL (fitT s) txtLen sigCost ps s.size k)))) := hblk2.out.alloc _
          clear hx hfit hra
          have cB := fun n => still_of (spBegins_any (s.extract m s.size) t (by simp; omega) hta ((wr.alloc (.cells #[.string t, .slice A2 xs.length c2] 40)).drewN n))
          cases hbg : Lib.hasPrefix (s.extract m s.size).data.toList t.data.toList
          · rw [hbg] at cB
            have CB := Lib.hid cB
            have HBG := Lib.hid hbg
            clear cB hbg
            go_wp2_with fail
            go_quiet ((go_at_call 86; exact Calls.quiet_of_same (CB.out _)))
            go_wp2_with fail
            go_roundw
            case rel => exact ⟨j + 1, by omega, by go_num, by rw [lsAt_snoc HX.out, lsStep_no (by rw [HF.out, HBG.out])]; exact HBLP.out, HBP.out.trans (bel_drewN _ _ _)⟩
            case measure => (simp [intOf]; try omega)
          · rw [hbg] at cB
            have CB := Lib.hid cB
            have HF1 : Hid (fitT s m (t, xs) = true) := hbg
            have hl := HAP.out (by rw [show s.size - (k + 1) = m by have := hmk1.out; omega]; exact HF1.out)
            have hl1 : 1 ≤ t.size := hl.1
            have hl2 : t.size ≤ k + 1 := hl.2.1
            have hl3 : xs.length ≤ 3 := hl.2.2
            have hmk2 := hmk1.out
            obtain ⟨ob, hvb⟩ : ∃ ob, (dpL (fitT s) txtLen sigCost ps s.size k)[t.size - 1]? = some ob := ⟨_, List.getElem?_eq_getElem (by rw [dpL_len]; omega)⟩
            have hvb2 : ∀ q, ob = some q → q ≤ 120 := fun q e => by
              have := dpL_txt HBK.out s k (by omega) (t.size - 1) q (by rw [← e]; exact hvb)
              omega
            have HVB := Lib.hid hvb
            have HVB2 := Lib.hid hvb2
            have HMK := Lib.hid hmk2
            have c1' := HBLP.out.cell (m + t.size)
            rw [show m + t.size = m + 1 + (t.size - 1) by omega, optZ_on hvb, show m + 1 + (t.size - 1) = m + t.size by omega] at c1'
            have i1 : IntKind.i64.wrap ((m : Int) + (t.size : Int)) = (m : Int) + (t.size : Int) := wrap_in (by omega)
            have i2 : (0 : Int) ≤ (m : Int) + (t.size : Int) := by omega
            have i3 : (m : Int) + (t.size : Int) < (s.size : Int) + 1 := by omega
            have i4 : ((m : Int) + (t.size : Int)).toNat = m + t.size := by omega
            clear cB hbg hl hvb hvb2 hmk2
            rcases ob with _ | vb
            · simp only [optI] at c1'
              go_wp2_with fail
              go_quiet ((go_at_call 86; exact Calls.quiet_of_same (CB.out _)))
              go_wp2_with fail
              go_roundw
              case rel => exact ⟨j + 1, by omega, by go_num, by rw [lsAt_snoc HX.out, lsStep_none HVB.out]; exact HBLP.out, HBP.out.trans (bel_drewN _ _ _)⟩
              case measure => (simp [intOf]; try omega)
            · have hv120 := HVB2.out vb rfl
              simp only [optI] at c1'
              have nb : decide ((vb : Int) < 0) = false := by rw [decide_eq_false_iff_not]; omega
              have nb2 : ¬ (vb : Int) < 0 := by omega
              have i5 : IntKind.i64.wrap ((xs.length : Int) + (vb : Int)) = (xs.length : Int) + (vb : Int) := wrap_in (by omega)
              have c0 := HBLP.out.cell m
              rw [optZ_at] at c0
              go_wp2_with fail
              go_quiet ((go_at_call 86; exact Calls.quiet_of_same (CB.out _)))
              go_wp2_with fail
              rcases hcur : (lsAt (fitT s m) txtLen sigCost (ps.take j) (dpL (fitT s) txtLen sigCost ps s.size k)) with _ | cv
              · rw [hcur] at c0
                have HCUR := Lib.hid hcur
                simp only [optI] at c0
                have d0 : ((wr.alloc (.cells #[.string t, .slice A2 xs.length c2] 40)).drewN nq).cell? ⟨(w.heap.size + 1), m, Option.none⟩ = some (.int .i64 (-1)) := c0
                have d2 : ((wr.alloc (.cells #[.string t, .slice A2 xs.length c2] 40)).drewN nq).frozen? ⟨(w.heap.size + 1), m, Option.none⟩ = false := HBLP.out.frozen m
                have d1 : ((wr.alloc (.cells #[.string t, .slice A2 xs.length c2] 40)).drewN nq).cell? ⟨(w.heap.size + 1), m + t.size, Option.none⟩ = some (.int .i64 (vb : Int)) := c1'
                have d3 : ((wr.alloc (.cells #[.string t, .slice A2 xs.length c2] 40)).drewN nq).cell? ⟨wr.heap.size, 0, Option.none⟩ = some (.string t) := (Blk.new wr 40 #[.string t, .slice A2 xs.length c2]).cell 0
                have d4 : ((wr.alloc (.cells #[.string t, .slice A2 xs.length c2] 40)).drewN nq).cell? ⟨wr.heap.size, 1, Option.none⟩ = some (.slice A2 xs.length c2) := (Blk.new wr 40 #[.string t, .slice A2 xs.length c2]).cell 1
                have HBQ := Lib.hid (HBP.out.trans (bel_drewN (w.heap.size + 1) (wr.alloc (.cells #[.string t, .slice A2 xs.length c2] 40)) nq))
                have HBLQ : Hid (Blk ((wr.alloc (.cells #[.string t, .slice A2 xs.length c2] 40)).drewN nq) (w.heap.size + 1) 3 (optZ m (lsAt (fitT s m) txtLen sigCost (ps.take j) (dpL (fitT s) txtLen sigCost ps s.size k) :: (dpL (fitT s) txtLen sigCost ps s.size k)))) := HBLP.out
                clear c0 c1'
                generalize (wr.alloc (.cells #[.string t, .slice A2 xs.length c2] 40)).drewN nq = wq at d0 d1 d2 d3 d4 HBQ HBLQ ⊢
                go_quiet (fail)
                clear hcur i1 i2 i3 i4 i5 d1 d3 d4 nb nb2
                have d5 : (wq.drewN nq).cell? ⟨(w.heap.size + 1), m, Option.none⟩ = some (.int .i64 (-1)) := d0
                have d6 : (wq.drewN nq).frozen? ⟨(w.heap.size + 1), m, Option.none⟩ = false := d2
                clear d0 d2
                go_wp2_with fail
                go_roundw
                case rel =>
                  refine ⟨j + 1, by omega, by go_num, ?_, (HBQ.out.trans (bel_drewN _ _ _)).setCell (Nat.le_refl _) _⟩
                  rw [lsAt_snoc HX.out, lsStep_some HF1.out HVB.out, HCUR.out]
                  have h5 := Blk.set_ (show Blk (wq.drewN nq) (w.heap.size + 1) 3 _ from HBLQ.out) m (.int .i64 (optI (some (xs.length + vb))))
                  rw [optZ_set] at h5
                  exact h5
                case measure => (simp [intOf]; try omega)
              · rw [hcur] at c0
                have HCUR := Lib.hid hcur
                simp only [optI] at c0
                have nc : decide ((cv : Int) < 0) = false := by rw [decide_eq_false_iff_not]; omega
                have nc2 : ¬ (cv : Int) < 0 := by omega
                have d0 : ((wr.alloc (.cells #[.string t, .slice A2 xs.length c2] 40)).drewN nq).cell? ⟨(w.heap.size + 1), m, Option.none⟩ = some (.int .i64 (cv : Int)) := c0
                have d2 : ((wr.alloc (.cells #[.string t, .slice A2 xs.length c2] 40)).drewN nq).frozen? ⟨(w.heap.size + 1), m, Option.none⟩ = false := HBLP.out.frozen m
                have d1 : ((wr.alloc (.cells #[.string t, .slice A2 xs.length c2] 40)).drewN nq).cell? ⟨(w.heap.size + 1), m + t.size, Option.none⟩ = some (.int .i64 (vb : Int)) := c1'
                have d3 : ((wr.alloc (.cells #[.string t, .slice A2 xs.length c2] 40)).drewN nq).cell? ⟨wr.heap.size, 0, Option.none⟩ = some (.string t) := (Blk.new wr 40 #[.string t, .slice A2 xs.length c2]).cell 0
                have d4 : ((wr.alloc (.cells #[.string t, .slice A2 xs.length c2] 40)).drewN nq).cell? ⟨wr.heap.size, 1, Option.none⟩ = some (.slice A2 xs.length c2) := (Blk.new wr 40 #[.string t, .slice A2 xs.length c2]).cell 1
                have HBQ := Lib.hid (HBP.out.trans (bel_drewN (w.heap.size + 1) (wr.alloc (.cells #[.string t, .slice A2 xs.length c2] 40)) nq))
                have HBLQ : Hid (Blk ((wr.alloc (.cells #[.string t, .slice A2 xs.length c2] 40)).drewN nq) (w.heap.size + 1) 3 (optZ m (lsAt (fitT s m) txtLen sigCost (ps.take j) (dpL (fitT s) txtLen sigCost ps s.size k) :: (dpL (fitT s) txtLen sigCost ps s.size k)))) := HBLP.out
                clear c0 c1'
                generalize (wr.alloc (.cells #[.string t, .slice A2 xs.length c2] 40)).drewN nq = wq at d0 d1 d2 d3 d4 HBQ HBLQ ⊢
                go_quiet (fail)
                clear hcur i1 i2 i3 i4 i5 d1 d3 d4 nb nb2
                have d5 : (wq.drewN nq).cell? ⟨(w.heap.size + 1), m, Option.none⟩ = some (.int .i64 (cv : Int)) := d0
                have d6 : (wq.drewN nq).frozen? ⟨(w.heap.size + 1), m, Option.none⟩ = false := d2
                clear d0 d2
                by_cases hnc : (xs.length : Int) + (vb : Int) < (cv : Int)
                · have HNC := Lib.hid hnc
                  go_wp2_with fail
                  go_roundw
                  case rel =>
                    refine ⟨j + 1, by omega, by go_num, ?_, (HBQ.out.trans (bel_drewN _ _ _)).setCell (Nat.le_refl _) _⟩
                    rw [lsAt_snoc HX.out, lsStep_some HF1.out HVB.out, HCUR.out]
                    have h5 := Blk.set_ (show Blk (wq.drewN nq) (w.heap.size + 1) 3 _ from HBLQ.out) m (.int .i64 (optI (some (xs.length + vb))))
                    rw [optZ_set] at h5
                    have e : lsUpd (some cv) (sigCost (t, xs) + vb) = some (xs.length + vb) := by unfold lsUpd; exact if_pos (by have := HNC.out; show xs.length + vb < cv; omega)
                    rw [e]; exact h5
                  case measure => (simp [intOf]; try omega)
                · have HNC := Lib.hid hnc
                  go_wp2_with fail
                  go_roundw
                  case rel =>
                    refine ⟨j + 1, by omega, by go_num, ?_, HBQ.out.trans (bel_drewN _ _ _)⟩
                    rw [lsAt_snoc HX.out, lsStep_some HF1.out HVB.out, HCUR.out]
                    have h5 : Blk (wq.drewN nq) (w.heap.size + 1) 3 (optZ m (lsAt (fitT s m) txtLen sigCost (ps.take j) (dpL (fitT s) txtLen sigCost ps s.size k) :: (dpL (fitT s) txtLen sigCost ps s.size k))) := HBLQ.out
                    rw [HCUR.out] at h5
                    have e : lsUpd (some cv) (sigCost (t, xs) + vb) = some cv := by unfold lsUpd; exact if_neg (by have := HNC.out; show ¬ xs.length + vb < cv; omega)
                    rw [e]; exact h5
                  case measure => (simp [intOf]; try omega)
        · obtain rfl : j = ps.length := by omega
          go_wp2_with fail
          go_roundw
          case rel => exact ⟨m, k + 1, (m : Int) - 1, by have := hmk1.out; show m + (k + 1) = _; omega, rfl, rfl, by
            have h1 := hblk2.out
            rw [List.take_of_length_le (Nat.le_refl _)] at h1
            have h2 : s.size - (k + 1) = m := by have := hmk1.out; omega
            show Blk _ _ _ (optZ m (dpL _ _ _ _ _ (k + 1)))
            rw [dpL, h2]; exact h1, hbr2⟩
          case measure => (simp [intOf]; try omega)
end Go.Proofs.Ytjnkdjokbamibaa
/- Contracts: how many first letters can be spelled; of the program and of the reference. -/
namespace Go.Proofs.Ytjnkdjokbamibaa
open Go.RowKit
theorem small_lt {s : ByteArray} (h : smallB s.data.toList = true) {k : Nat} (hk : k < s.size) : (s[k]'hk).toNat < 128 := by
  unfold smallB at h
  rw [List.all_eq_true] at h
  have := h (s[k]'hk) (List.getElem_mem (l := s.data.toList) (by simpa using hk))
  simp only [Bool.and_eq_true, decide_eq_true_eq] at this
  omega
theorem own_headO {w : World} {lo hi : Nat} {v : Value} {ps : List Phr} {t : ByteArray} (h : OwI w lo hi v ((tblT ps t).map optI)) :
    ∃ b c, v = .slice (some ⟨b, 0, Option.none⟩) (t.size + 1) c ∧ w.cell? ⟨b, 0, Option.none⟩ = some (.int .i64 (optI ((tblT ps t).getD 0 Option.none))) := by
  have hl : ((tblT ps t).map optI).length = t.size + 1 := by simp [tblT, dpL_len]
  obtain ⟨b, off, c, y, hv, _, hy, hc⟩ := Rd.at_ h.rd (k := 0) (by rw [hl]; omega)
  rcases h.1.2 with ⟨rfl, _⟩ | ⟨g, cap, cur, hv2, _⟩
  · cases hv
  · rw [hv] at hv2
    cases hv2
    rw [hl] at hv
    refine ⟨b, c, hv, ?_⟩
    have e : y = optI ((tblT ps t).getD 0 Option.none) := by
      rw [List.getElem?_map] at hy
      rw [List.getD_eq_getElem?_getD]
      cases e : (tblT ps t)[0]? with
      | none => rw [e] at hy; cases hy
      | some m => rw [e] at hy; cases hy; rfl
    rw [e] at hc
    simpa using hc
theorem spellB_head {ps : List Phr} {s : ByteArray} {m : Nat} {o : Option Nat} (h : (tblT ps (s.extract 0 m)).getD 0 Option.none = o) : spellB ps s m = o.isSome := by unfold spellB; rw [h]
theorem partM_yes {ps : List Phr} {s : ByteArray} {k : Nat} (h : spellB ps s (k + 1) = true) : partM ps s (k + 1) = k + 1 := by unfold partM; rw [h]; rfl
theorem partM_no {ps : List Phr} {s : ByteArray} {k : Nat} (h : spellB ps s (k + 1) = false) : partM ps s (k + 1) = partM ps s k := by rw [partM, h]; rfl
def partV (ps : List Phr) (s : ByteArray) : Nat := partM ps s s.size
set_option maxRecDepth 100000 in
set_option maxHeartbeats 4000000 in
theorem sSpelledPart_any (ps : List Phr) (s : ByteArray) (v : Value) (hi : Nat) (w : World) (hs0 : s.size ≤ maxLen) (h : RdB w hi v ps) (hh : hi ≤ w.heap.size) :
    Calls Try.prog 31 #[v, .string s] w fun e w' => e = .returned (cntV (bookB ps && lettB s) (partV ps s)) ∧ Below w.heap.size w w' := by
  obtain ⟨a, rfl, ha⟩ := h
  obtain ⟨A, c, rfl, hc, hm⟩ := ha.form
  have hba : Below w.heap.size w (w.alloc (.cells #[.slice A ps.length c] 28)) := (Below.refl _ _).alloc (Nat.le_refl _) _
  have HB := Lib.hid hba
  have HA := Lib.hid (ha.below hba hh)
  have HG : Hid (RdB (w.alloc (.cells #[.slice A ps.length c] 28)) hi (.agg #[.slice A ps.length c]) ps) := ⟨_, rfl, HA.out⟩
  have hcb0 : (w.alloc (.cells #[.slice A ps.length c] 28)).cell? ⟨w.heap.size, 0, Option.none⟩ = some (.slice A ps.length c) := (Blk.new w 28 #[.slice A ps.length c]).cell 0
  have HCB := Lib.hid hcb0
  have hsz1 : hi ≤ (w.alloc (.cells #[.slice A ps.length c] 28)).heap.size := by simp; omega
  clear ha hba hcb0
  have cB := spAsked_any ps s (.agg #[.slice A ps.length c]) hi (w.alloc (.cells #[.slice A ps.length c] 28)) hs0 HG.out hsz1
  cases hbr : (bookB ps && lettB s)
  · rw [hbr] at cB
    have CB := Lib.hid cB
    clear cB
    go_enter Try.func31, Try.ntmps31
    go_wp2_with (go_at_call 81; refine CB.out.mono ?_; rintro e w1 ⟨rfl, hb1⟩)
    go_ret2
    exact ⟨ret_val rfl, HB.out.trans (hb1.mono (by simp))⟩
  · rw [hbr] at cB
    have CB := Lib.hid cB
    have HRB := Lib.hid hbr
    rw [Bool.and_eq_true] at hbr
    have HBK := Lib.hid hbr.1
    have hs40 : s.size ≤ 40 := by have := hbr.2; unfold lettB at this; rw [Bool.and_eq_true, decide_eq_true_eq] at this; exact this.2
    have HSM : Hid (smallB s.data.toList = true) := by have := hbr.2; unfold lettB at this; rw [Bool.and_eq_true] at this; exact this.1
    clear cB hbr
    go_enter Try.func31, Try.ntmps31
    go_wp2_with fail
    refine CB.out.mono ?_
    rintro e w1 ⟨rfl, hb1⟩
    have HCB1 := Lib.hid ((hb1.cell (p := ⟨w.heap.size, 0, Option.none⟩) (by simp)).trans HCB.out)
    have hs1 : w.heap.size + 1 ≤ w1.heap.size := by have := hb1.size; simpa using this
    have HA1 := Lib.hid (HA.out.below hb1 hsz1)
    have HB1 := Lib.hid (HB.out.trans (hb1.mono (by simp)))
    clear hb1
    go_wp2_with fail
    go_loopw [6] (fun q wr => ∃ k : Nat, k ≤ s.size ∧ q = .int .i64 ((partM ps s k : Nat) : Int) ∧ Hid (wr.heap[w1.heap.size]? = some (.stringIter s k)) ∧ Hid (Below w1.heap.size w1 wr)) (fun _ wr => s.size - wr.iterPos w1.heap.size)
    case atStart => exact ⟨0, Nat.zero_le _, rfl, World.iter_heap w1 s 0, (Below.refl _ _).alloc (Nat.le_refl _) _⟩
    case round =>
      obtain ⟨k, hk, rfl, hit, hbr⟩ := hrel
      by_cases hlt : k < s.size
      · have hnx := fun ty => Lib.run_next_ascii_at (P := Try.prog) wr w1.heap.size s k ty hit.out hlt (small_lt HSM.out hlt)
        have hb2 : Below w1.heap.size w1 (wr.iterAt w1.heap.size s (k + 1)) := Lib.below_iterAt hbr.out (Nat.le_refl _) s (k + 1)
        have HIT2 : Hid ((wr.iterAt w1.heap.size s (k + 1)).heap[w1.heap.size]? = some (.stringIter s (k + 1))) := Lib.iterAt_heap wr w1.heap.size s k (k + 1) hit.out
        have hcb2 := (hb2.cell (p := ⟨w.heap.size, 0, Option.none⟩) (by show w.heap.size < w1.heap.size; omega)).trans HCB1.out
        have hsz2 : w1.heap.size ≤ (wr.iterAt w1.heap.size s (k + 1)).heap.size := hb2.size
        have HB2 := Lib.hid hb2
        have HIT := Lib.hid hit.out
        clear hb2
        have i1 : IntKind.i64.wrap ((k : Int) + 1) = (k : Int) + 1 := wrap_in (by omega)
        have i2 : (0 : Int) ≤ (k : Int) + 1 := by omega
        have i3 : (k : Int) + 1 ≤ (s.size : Int) := by omega
        have i4 : ((k : Int) + 1).toNat = k + 1 := by omega
        have HHIT : Hid (wr.iterPos w1.heap.size = k) := iterPos_of hit.out
        go_wp2_with fail
        generalize (wr.iterAt w1.heap.size s (k + 1)) = wq at hcb2 hsz2 HB2 HIT2 ⊢
        clear hnx
        have cT := spTable_any ps (s.extract 0 (k + 1)) (.agg #[.slice A ps.length c]) hi wq.drew (show RdB wq.drew hi _ _ from ⟨_, rfl, (HA1.out.below HB2.out.drew (by omega))⟩) (show hi ≤ wq.heap.size by omega) HBK.out (by simp; omega)
        have CT := Lib.hid cT
        clear cT
        go_still_tail 5, (by kernel_rfl)
        change wpList _ _ _ _ _ wq.drew
        go_wp2_with fail
        refine CT.out.mono ?_
        rintro e w3 ⟨q, rfl, hq, hb3⟩
        obtain ⟨bq, cq, rfl, hcq⟩ := own_headO hq
        have hb3' : Below wq.heap.size wq w3 := (Below.refl wq.heap.size wq).drew.trans hb3
        have hlq : w1.heap.size < wq.heap.size := (Array.getElem?_eq_some_iff.1 HIT2.out).1
        have HIT3 : Hid (w3.heap[w1.heap.size]? = some (.stringIter s (k + 1))) := (hb3'.block _ hlq).trans HIT2.out
        have HB3 := Lib.hid (HB2.out.trans (hb3'.mono (by omega)))
        clear hq hb3 hb3' hcb2 i1 i2 i3 i4
        have hs1' : (s.extract 0 (k + 1)).size = k + 1 := by simp; omega
        have HS1' := Lib.hid hs1'
        clear hs1'
        rcases ho : (tblT ps (s.extract 0 (k + 1))).getD 0 Option.none with _ | vv
        · have HO := Lib.hid (spellB_head ho)
          rw [ho] at hcq
          simp only [optI] at hcq
          clear ho
          go_wp2_with fail
          go_roundw
          case rel => exact ⟨k + 1, by omega, by rw [partM_no HO.out], HIT3.out, HB3.out⟩
          case measure => rw [HHIT.out, iterPos_of HIT3.out]; omega
        · have HO := Lib.hid (spellB_head ho)
          rw [ho] at hcq
          simp only [optI] at hcq
          have hvv : (0 : Int) ≤ (vv : Int) := by omega
          clear ho
          go_wp2_with fail
          go_roundw
          case rel => exact ⟨k + 1, by omega, by rw [partM_yes HO.out]; go_num, HIT3.out, HB3.out⟩
          case measure => rw [HHIT.out, iterPos_of HIT3.out]; omega
      · obtain rfl : k = s.size := by omega
        have hnx := fun ty => Lib.run_next_end_at (P := Try.prog) wr w1.heap.size s s.size ty hit.out hlt
        go_wp2_with fail
        go_ret2
        exact ⟨ret_val (by first | rfl | (rw [HRB.out]; rfl)), HB1.out.trans (hbr.out.mono (by omega))⟩
def boolC (f : Nat → Bool) (n : Nat) : List Value := (List.range (n + 1)).map fun p => Value.bool (f p)
theorem boolC_at {f : Nat → Bool} {n p : Nat} (h : p ≤ n) : (boolC f n)[p]? = some (.bool (f p)) := by simp [boolC, show p < n + 1 by omega]
theorem boolC_set {f : Nat → Bool} {n p : Nat} (h : p ≤ n) : (boolC f n).set p (.bool true) = boolC (fun q => f q || q == p) n := by
  apply List.ext_getElem?
  intro i
  by_cases e : i = p
  · subst e
    rw [List.getElem?_set_self (by simp [boolC]; omega), boolC_at h]; simp
  · rw [List.getElem?_set_ne (fun e2 => e e2.symm)]
    by_cases hi : i ≤ n
    · rw [boolC_at hi, boolC_at hi]; simp [e]
    · rw [List.getElem?_eq_none (by simp [boolC]; omega), List.getElem?_eq_none (by simp [boolC]; omega)]
def falses (n : Nat) : Array Value := (List.replicate n (Value.bool false)).toArray
theorem falses_start (n : Nat) : ((falses (n + 1)).setIfInBounds 0 (.bool true)).toList = boolC (fun p => p == 0) n := by
  have e : (falses (n + 1)).toList = boolC (fun _ => false) n := by
    unfold falses boolC
    apply List.ext_getElem?
    intro i
    by_cases hi : i < n + 1 <;> simp [hi]
  rw [Array.toList_setIfInBounds, e, boolC_set (Nat.zero_le _)]
  simp
theorem info_bool : (Try.prog.info? 4).map (fun i => (i.zero, i.size, i.bytes)) = some (some (.bool false), 1, 1) := by kernel_rfl
theorem make_bools (n : Nat) (hn : n ≤ 1099511627776) (w : World) :
    (Instr.makeSlice 96 (.int .i64 (n : Int)) (.int .i64 (n : Int))).run Try.prog w = .ok (.slice (some ⟨w.heap.size, 0, Option.none⟩) n n) (w.alloc (.cells (falses n) 4)) := by
  obtain ⟨i, hi, hz0, hz1, hz2⟩ := info_parts info_bool
  have h := run_make_rowN (P := Try.prog) 96 4 i (.bool false) Try.underlying96 hi hz0 .i64 .i64 n n (Nat.le_refl _) (by rw [hz2]; omega) (by omega) w
  rw [h, hz1]
  have e : madeCells (Value.bool false).cells (n * 1) = falses n := by
    apply Array.ext
    · simp [madeCells, falses]
    · intro j h1 h2
      simp [madeCells, falses, Value.cells, Nat.mod_one]
  rw [e]
def FitsF (ps : List Phr) (s : ByteArray) (f : Nat → Bool) (at_ : Nat) (qs : List Phr) : Prop := ∀ p, p ≤ s.size → (f p = true ↔ RchTo ps s at_ qs p)
def MaxF (ps : List Phr) (s : ByteArray) (m at_ : Nat) (qs : List Phr) : Prop := RchTo ps s at_ qs m ∧ m ≤ s.size ∧ ∀ p, p ≤ s.size → RchTo ps s at_ qs p → p ≤ m
theorem FitsF.no {ps qs : List Phr} {s : ByteArray} {f : Nat → Bool} {at_ : Nat} {q : Phr} (h : FitsF ps s f at_ qs) (hn : ¬ (Rch ps s at_ ∧ fitT s at_ q = true)) : FitsF ps s f at_ (qs ++ [q]) := fun p hp => by rw [RchTo.no hn]; exact h p hp
theorem MaxF.no {ps qs : List Phr} {s : ByteArray} {m at_ : Nat} {q : Phr} (h : MaxF ps s m at_ qs) (hn : ¬ (Rch ps s at_ ∧ fitT s at_ q = true)) : MaxF ps s m at_ (qs ++ [q]) :=
  ⟨(RchTo.no hn).2 h.1, h.2.1, fun p hp hr => h.2.2 p hp ((RchTo.no hn).1 hr)⟩
theorem FitsF.yes {ps qs : List Phr} {s : ByteArray} {f : Nat → Bool} {at_ : Nat} {q : Phr} (h : FitsF ps s f at_ qs) (h1 : Rch ps s at_) (h2 : fitT s at_ q = true) : FitsF ps s (fun p => f p || p == at_ + q.1.size) at_ (qs ++ [q]) := fun p hp => by
  rw [RchTo.yes h1 h2, Bool.or_eq_true, h p hp, beq_iff_eq]
theorem MaxF.yes {ps qs : List Phr} {s : ByteArray} {m at_ : Nat} {q : Phr} (h : MaxF ps s m at_ qs) (h1 : Rch ps s at_) (h2 : fitT s at_ q = true) (hl : at_ + q.1.size ≤ s.size) : MaxF ps s (max m (at_ + q.1.size)) at_ (qs ++ [q]) := by
  refine ⟨(RchTo.yes h1 h2).2 ?_, by have := h.2.1; omega, fun p hp hr => ?_⟩
  · rcases Nat.le_total m (at_ + q.1.size) with e | e
    · rw [Nat.max_eq_right e]; exact .inr rfl
    · rw [Nat.max_eq_left e]; exact .inl h.1
  · rcases (RchTo.yes h1 h2).1 hr with e | e
    · have := h.2.2 p hp e; omega
    · omega
theorem RchTo.at_ {ps qs : List Phr} {s : ByteArray} {k : Nat} (hbk : bookB ps = true) (hq : ∀ q ∈ qs, q ∈ ps) : RchTo ps s k qs k ↔ Rch ps s k := by
  constructor
  · exact fun h => h.rch hq
  · intro h
    rcases h.to hbk (Nat.le_refl k) with e | e | ⟨_, q, e, _⟩
    · exact .inl e
    · exact .inr (.inl e)
    · cases e
theorem FitsF.turn {ps : List Phr} {s : ByteArray} {f : Nat → Bool} {k : Nat} (h : FitsF ps s f k ps) : FitsF ps s f (k + 1) [] := fun p hp => by rw [← RchTo.turn]; exact h p hp
theorem MaxF.turn {ps : List Phr} {s : ByteArray} {m k : Nat} (h : MaxF ps s m k ps) : MaxF ps s m (k + 1) [] := ⟨RchTo.turn.1 h.1, h.2.1, fun p hp hr => h.2.2 p hp (RchTo.turn.2 hr)⟩
theorem MaxF.part {ps : List Phr} {s : ByteArray} {m : Nat} (hbk : bookB ps = true) (h : MaxF ps s m s.size []) : partV ps s = m :=
  partM_eq hbk (Nat.le_refl _) (h.1.rch (fun q hq => by cases hq)) h.2.1 (fun p hp hr => h.2.2 p hp (hr.to hbk hp))
theorem FitsF.start (ps : List Phr) (s : ByteArray) : FitsF ps s (fun p => p == 0) 0 [] := fun p _ => by
  rw [beq_iff_eq]
  constructor
  · exact fun h => .inl h
  · rintro (h | ⟨a, _, h, _⟩ | ⟨_, q, h, _⟩)
    · exact h
    · omega
    · cases h
theorem MaxF.start (ps : List Phr) (s : ByteArray) : MaxF ps s 0 0 [] := ⟨.inl rfl, Nat.zero_le _, fun p hp h => by
  have := (FitsF.start ps s p hp).2 h
  rw [beq_iff_eq] at this; omega⟩
set_option maxRecDepth 100000 in
set_option maxHeartbeats 4000000 in
theorem SpelledPart_any (ps : List Phr) (s : ByteArray) (v : Value) (hi : Nat) (w : World) (hs0 : s.size ≤ maxLen) (h : RdB w hi v ps) (hh : hi ≤ w.heap.size) :
    Calls Try.prog 30 #[v, .string s] w fun e w' => e = .returned (cntV (bookB ps && lettB s) (partV ps s)) ∧ Below w.heap.size w w' := by
  obtain ⟨a, rfl, ha⟩ := h
  obtain ⟨A, c, rfl, hc, hm⟩ := ha.form
  have hba : Below w.heap.size w (w.alloc (.cells #[.slice A ps.length c] 28)) := (Below.refl _ _).alloc (Nat.le_refl _) _
  have HB := Lib.hid hba
  have HA := Lib.hid (ha.below hba hh)
  have HG : Hid (RdB (w.alloc (.cells #[.slice A ps.length c] 28)) hi (.agg #[.slice A ps.length c]) ps) := ⟨_, rfl, HA.out⟩
  have hcb0 : (w.alloc (.cells #[.slice A ps.length c] 28)).cell? ⟨w.heap.size, 0, Option.none⟩ = some (.slice A ps.length c) := (Blk.new w 28 #[.slice A ps.length c]).cell 0
  have HCB := Lib.hid hcb0
  have hsz1 : hi ≤ (w.alloc (.cells #[.slice A ps.length c] 28)).heap.size := by simp; omega
  clear ha hba hcb0
  have cB := IsBook_any ps (.agg #[.slice A ps.length c]) hi (w.alloc (.cells #[.slice A ps.length c] 28)) HG.out hsz1
  cases hbk : bookB ps
  · rw [hbk] at cB
    have CB := Lib.hid cB
    clear cB
    go_enter Try.func30, Try.ntmps30
    go_wp2_with (go_at_call 71; refine CB.out.mono ?_; rintro e w1 ⟨rfl, hb1⟩)
    go_ret2
    exact ⟨ret_val rfl, HB.out.trans (hb1.mono (by simp))⟩
  · rw [hbk] at cB
    have CB := Lib.hid cB
    have HBK := Lib.hid hbk
    clear cB
    go_enter Try.func30, Try.ntmps30
    go_wp2_with fail
    refine CB.out.mono ?_
    rintro e w1 ⟨rfl, hb1⟩
    have hcb := (hb1.cell (p := ⟨w.heap.size, 0, Option.none⟩) (by simp)).trans HCB.out
    have hs1 : w.heap.size + 1 ≤ w1.heap.size := by have := hb1.size; simpa using this
    have HA1 := Lib.hid (HA.out.below hb1 hsz1)
    have HG1 : Hid (RdB w1 hi (.agg #[.slice A ps.length c]) ps) := ⟨_, rfl, HA1.out⟩
    have HB1 := Lib.hid (HB.out.trans (hb1.mono (by simp)))
    clear hb1
    have HCB1 := Lib.hid hcb
    clear hcb
    have cR := isLetters_any s hs0 w1
    cases hrd : lettB s
    · rw [hrd] at cR
      have CR := Lib.hid cR
      have HC1 := HCB1.out
      clear cR
      go_wp2_with (go_at_call 79; refine (CR.out).mono ?_; rintro e w' ⟨rfl, rfl⟩)
      go_ret2
      exact ⟨ret_val (by rw [hrd]; rfl), HB1.out⟩
    · rw [hrd] at cR
      have CR := Lib.hid cR
      have HRB : Hid ((true && lettB s) = true) := hrd
      have hs40 : s.size ≤ 40 := by have := hrd; unfold lettB at this; rw [Bool.and_eq_true, decide_eq_true_eq] at this; exact this.2
      have HSM : Hid (smallB s.data.toList = true) := by have := hrd; unfold lettB at this; rw [Bool.and_eq_true] at this; exact this.1
      have hcb := HCB1.out
      clear cR hrd
      have hmk := make_bools (s.size + 1) (by omega)
      rw [show ((s.size + 1 : Nat) : Int) = (s.size : Int) + 1 from rfl] at hmk
      have HT0 : Hid (Blk ((w1.alloc (.cells ((falses (s.size + 1)).setIfInBounds 0 (.bool true)) 4)).iter s 0) w1.heap.size 4 (boolC (fun p => p == 0) s.size)) := by
        have := (Blk.new w1 4 ((falses (s.size + 1)).setIfInBounds 0 (.bool true))).alloc (.stringIter s 0)
        rw [falses_start] at this
        exact this
      have HI0 : Hid (((w1.alloc (.cells ((falses (s.size + 1)).setIfInBounds 0 (.bool true)) 4)).iter s 0).heap[w1.heap.size + 1]? = some (.stringIter s 0)) := by
        have := World.iter_heap (w1.alloc (.cells ((falses (s.size + 1)).setIfInBounds 0 (.bool true)) 4)) s 0
        simp only [World.size_alloc] at this
        exact this
      have HBI0 : Hid (Below w1.heap.size w1 ((w1.alloc (.cells ((falses (s.size + 1)).setIfInBounds 0 (.bool true)) 4)).iter s 0)) := ((Below.refl _ _).alloc (Nat.le_refl _) _).alloc (by simp) _
      have hz0 : (w1.alloc (.cells (falses (s.size + 1)) 4)).cell? ⟨w1.heap.size, 0, Option.none⟩ = some (.bool false) := by
        have := (Blk.new w1 4 (falses (s.size + 1))).cell 0
        rw [show (falses (s.size + 1)).toList[0]? = some (.bool false) by simp [falses]] at this
        exact this
      go_wp2_with (go_at_call 79; refine (CR.out).mono ?_; rintro e w' ⟨rfl, rfl⟩)
      go_loopw [7] (fun q wr => ∃ (k m : Nat) (f : Nat → Bool), k ≤ s.size ∧ q = .int .i64 (m : Int) ∧ Hid (Blk wr w1.heap.size 4 (boolC f s.size)) ∧ Hid (FitsF ps s f k []) ∧ Hid (MaxF ps s m k []) ∧ Hid (wr.heap[w1.heap.size + 1]? = some (.stringIter s k)) ∧ Hid (Below w1.heap.size w1 wr)) (fun _ wr => s.size - wr.iterPos (w1.heap.size + 1))
      case atStart => exact ⟨0, 0, fun p => p == 0, Nat.zero_le _, rfl, HT0.out, FitsF.start ps s, MaxF.start ps s, HI0.out, HBI0.out⟩
      case round =>
        obtain ⟨k, m, f, hk, rfl, hblk, hff, hmf, hit, hbr⟩ := hrel
        have hszr : w1.heap.size + 2 ≤ wr.heap.size := by have := (Array.getElem?_eq_some_iff.1 hit.out).1; omega
        by_cases hlt : k < s.size
        · have hnx := fun ty => Lib.run_next_ascii_at (P := Try.prog) wr (w1.heap.size + 1) s k ty hit.out hlt (small_lt HSM.out hlt)
          have hb2 : Below w1.heap.size w1 (wr.iterAt (w1.heap.size + 1) s (k + 1)) := Lib.below_iterAt hbr.out (by omega) s (k + 1)
          have HIT2 : Hid ((wr.iterAt (w1.heap.size + 1) s (k + 1)).heap[w1.heap.size + 1]? = some (.stringIter s (k + 1))) := Lib.iterAt_heap wr (w1.heap.size + 1) s k (k + 1) hit.out
          have hbl2 : Blk (wr.iterAt (w1.heap.size + 1) s (k + 1)) w1.heap.size 4 (boolC f s.size) := (Lib.iterAt_other wr (w1.heap.size + 1) w1.heap.size s (k + 1) (by omega)).trans hblk.out
          have hcb2 := (hb2.cell (p := ⟨w.heap.size, 0, Option.none⟩) (by show w.heap.size < w1.heap.size; omega)).trans HCB1.out
          have hsz2 : w1.heap.size + 2 ≤ (wr.iterAt (w1.heap.size + 1) s (k + 1)).heap.size := by rw [Lib.iterAt_size]; exact hszr
          have HB2 := Lib.hid hb2
          have HBL2 := Lib.hid hbl2
          have HHIT : Hid (wr.iterPos (w1.heap.size + 1) = k) := iterPos_of hit.out
          clear hb2 hbl2
          go_wp2_with fail
          clear hnx
          generalize (wr.iterAt (w1.heap.size + 1) s (k + 1)) = wq at hcb2 hsz2 HB2 HIT2 HBL2 ⊢
          go_loopw [7, 33] (fun q i wr => ∃ (j : Nat) (f : Nat → Bool) (m : Nat), j ≤ ps.length ∧ i = .int .i64 j ∧ q = .int .i64 (m : Int) ∧ Hid (Blk wr w1.heap.size 4 (boolC f s.size)) ∧ Hid (FitsF ps s f k (ps.take j)) ∧ Hid (MaxF ps s m k (ps.take j)) ∧ Hid (wr.heap[w1.heap.size + 1]? = some (.stringIter s (k + 1))) ∧ Hid (Below w1.heap.size w1 wr)) (fun _ i _ => ps.length - (intOf i).toNat)
          case atStart => exact ⟨0, f, m, Nat.zero_le _, rfl, rfl, HBL2.out, hff.out, hmf.out, HIT2.out, HB2.out⟩
          case round =>
            obtain ⟨j, f, m, hjl, rfl, rfl, hblk2, hff, hmf, hit2, hbr2⟩ := hrel
            have hszw : w1.heap.size + 2 ≤ wr.heap.size := by have := (Array.getElem?_eq_some_iff.1 hit2.out).1; omega
            by_cases hltj : j < ps.length
            · obtain ⟨b1, o1, c1, a, t, xs, hv, hb1, hx, hcell1, hcell2, hra, hta⟩ := (HA1.out.below hbr2.out (by omega)).at_ hltj
              cases hv
              obtain ⟨A2, c2, rfl, hc2, hm2⟩ := Rd.form hra
              have HX := Lib.hid hx
              have HBP := Lib.hid (hbr2.out.alloc (show w1.heap.size ≤ wr.heap.size by omega) (.cells #[.string t, .slice A2 xs.length c2] 40))
              have HBLP : Hid (Blk (wr.alloc (.cells #[.string t, .slice A2 xs.length c2] 40)) w1.heap.size 4 (boolC f s.size)) := hblk2.out.alloc _
              have HITP : Hid ((wr.alloc (.cells #[.string t, .slice A2 xs.length c2] 40)).heap[w1.heap.size + 1]? = some (.stringIter s (k + 1))) := (Below.heap_alloc wr _ _ (by omega)).trans hit2.out
              have cf := HBLP.out.cell k
              rw [boolC_at (by omega)] at cf
              have hqs : ∀ q ∈ ps.take j, q ∈ ps := fun q hq => List.mem_of_mem_take hq
              have hRk := (hff.out k (by omega)).trans (RchTo.at_ HBK.out hqs)
              have HRK := Lib.hid hRk
              have htm := List.mem_of_getElem? hx
              have htl := phrOk_txt (bookB_phr HBK.out htm)
              have hi0 : (0 : Int) ≤ (k : Int) := by omega
              have hi1 : (k : Int) < (s.size : Int) + 1 := by omega
              have HTL := Lib.hid htl
              clear hx hra hqs hRk htm htl
              have cB := fun n => Try.strings_HasPrefix (s.extract k s.size) t ((wr.alloc (.cells #[.string t, .slice A2 xs.length c2] 40)).drewN n)
              cases hfk : f k
              · rw [hfk] at cf
                have HNO : Hid (¬ (Rch ps s k ∧ fitT s k (t, xs) = true)) := fun h => by have := HRK.out.2 h.1; rw [hfk] at this; cases this
                clear cB
                go_wp2_with fail
                go_quiet (fail)
                go_wp2_with fail
                go_roundw
                case rel => exact ⟨j + 1, f, m, by omega, by go_num, rfl, HBLP.out, by show FitsF _ _ _ _ _; rw [take_snocN HX.out]; exact hff.out.no HNO.out, by show MaxF _ _ _ _ _; rw [take_snocN HX.out]; exact hmf.out.no HNO.out, HITP.out, HBP.out.trans (bel_drewN _ _ _)⟩
                case measure => (simp [intOf]; try omega)
              · rw [hfk] at cf
                have HR := Lib.hid (HRK.out.1 hfk)
                cases hbg : Lib.hasPrefix (s.extract k s.size).data.toList t.data.toList
                · rw [hbg] at cB
                  have CB := Lib.hid cB
                  have HNO : Hid (¬ (Rch ps s k ∧ fitT s k (t, xs) = true)) := fun h => by have := h.2; unfold fitT at this; rw [hbg] at this; cases this
                  clear cB hbg
                  go_wp2_with fail
                  go_quiet ((go_at_call 85; exact Calls.quiet_of_same (CB.out _)))
                  go_wp2_with fail
                  go_roundw
                  case rel => exact ⟨j + 1, f, m, by omega, by go_num, rfl, HBLP.out, by show FitsF _ _ _ _ _; rw [take_snocN HX.out]; exact hff.out.no HNO.out, by show MaxF _ _ _ _ _; rw [take_snocN HX.out]; exact hmf.out.no HNO.out, HITP.out, HBP.out.trans (bel_drewN _ _ _)⟩
                  case measure => (simp [intOf]; try omega)
                · rw [hbg] at cB
                  have CB := Lib.hid cB
                  have HFT : Hid (fitT s k (t, xs) = true) := hbg
                  have hle := fitT_le HFT.out HTL.out.1
                  have hle2 : k + t.size ≤ s.size := hle
                  have hmn : m ≤ s.size := hmf.out.2.1
                  clear cB hbg hle
                  have c9 := HBLP.out.cell (k + t.size)
                  rw [boolC_at hle2] at c9
                  have f9 := HBLP.out.frozen (k + t.size)
                  have i1 : IntKind.i64.wrap ((k : Int) + (t.size : Int)) = (k : Int) + (t.size : Int) := wrap_in (by omega)
                  have i2 : (0 : Int) ≤ (k : Int) + (t.size : Int) := by omega
                  have i3 : (k : Int) + (t.size : Int) < (s.size : Int) + 1 := by omega
                  have i4 : ((k : Int) + (t.size : Int)).toNat = k + t.size := by omega
                  have hst := fun n => (show Blk ((wr.alloc (.cells #[.string t, .slice A2 xs.length c2] 40)).drewN n) w1.heap.size 4 (boolC f s.size) from HBLP.out).set_ (k + t.size) (.bool true)
                  simp only [boolC_set hle2] at hst
                  have HST := Lib.hid hst
                  have HBS := Lib.hid fun n => (HBP.out.trans (bel_drewN w1.heap.size (wr.alloc (.cells #[.string t, .slice A2 xs.length c2] 40)) n)).setCell (p := ⟨w1.heap.size, k + t.size, Option.none⟩) (Nat.le_refl _) (.bool true)
                  have HIS : Hid (∀ n, (((wr.alloc (.cells #[.string t, .slice A2 xs.length c2] 40)).drewN n).setCell ⟨w1.heap.size, k + t.size, Option.none⟩ (.bool true)).heap[w1.heap.size + 1]? = some (.stringIter s (k + 1))) := fun n => (Below.heap_setCell _ _ _ _ (by show w1.heap.size + 1 ≠ w1.heap.size; omega)).trans (show ((wr.alloc (.cells #[.string t, .slice A2 xs.length c2] 40)).drewN n).heap[w1.heap.size + 1]? = _ from HITP.out)
                  clear hst
                  go_wp2_with fail
                  go_quiet ((go_at_call 85; exact Calls.quiet_of_same (CB.out _)))
                  go_wp2_with fail
                  go_roundw
                  case rel => exact ⟨j + 1, fun p => f p || p == k + t.size, max m (k + t.size), by omega, by go_num, by rw [show ((max m (k + t.size) : Nat) : Int) = max (m : Int) ((k : Int) + (t.size : Int)) by omega], HST.out _, by show FitsF _ _ _ _ _; rw [take_snocN HX.out]; exact hff.out.yes HR.out HFT.out, by show MaxF _ _ _ _ _; rw [take_snocN HX.out]; exact hmf.out.yes HR.out HFT.out hle2, HIS.out _, HBS.out _⟩
                  case measure => (simp [intOf]; try omega)
            · obtain rfl : j = ps.length := by omega
              go_wp2_with fail
              go_roundw
              case rel => exact ⟨k + 1, m, f, by omega, rfl, hblk2.out, by have := hff.out; rw [List.take_of_length_le (Nat.le_refl _)] at this; exact this.turn, by have := hmf.out; rw [List.take_of_length_le (Nat.le_refl _)] at this; exact this.turn, hit2.out, hbr2.out⟩
              case measure => rw [HHIT.out, iterPos_of hit2.out]; omega
        · obtain rfl : k = s.size := by omega
          have hnx := fun ty => Lib.run_next_end_at (P := Try.prog) wr (w1.heap.size + 1) s s.size ty hit.out hlt
          go_wp2_with fail
          go_ret2
          exact ⟨ret_val (by rw [hmf.out.part HBK.out]; first | rfl | (rw [HRB.out]; rfl)), HB1.out.trans (hbr.out.mono (by omega))⟩
end Go.Proofs.Ytjnkdjokbamibaa
/- Plain laws: the first path through a table, place by place; of readings and of spellings. -/
namespace Go.Proofs.Ytjnkdjokbamibaa
/-- The choices from place m on: nx names the phrase, ln how far it leads. -/
def pathF (n : Nat) (nx : Nat → Option Nat) (ln : Nat → Nat) : Nat → Nat → List Nat
  | 0, _ => []
  | f + 1, m => if m < n then match nx m with
      | Option.none => []
      | some i => i :: pathF n nx ln f (m + ln i)
    else []
theorem pathF_end {n : Nat} {nx : Nat → Option Nat} {ln : Nat → Nat} {f m : Nat} (h : n ≤ m) : pathF n nx ln f m = [] := by
  cases f with
  | zero => rfl
  | succ f => unfold pathF; rw [if_neg (by omega)]
theorem pathF_on {n : Nat} {nx : Nat → Option Nat} {ln : Nat → Nat} {f m i : Nat} (h : m < n) (h2 : nx m = some i) : pathF n nx ln (f + 1) m = i :: pathF n nx ln f (m + ln i) := by
  rw [pathF, if_pos h, h2]
theorem pathF_len {n : Nat} {nx : Nat → Option Nat} {ln : Nat → Nat} : ∀ (f m : Nat), (pathF n nx ln f m).length ≤ f
  | 0, m => by simp [pathF]
  | f + 1, m => by
    unfold pathF
    split
    · split
      · simp
      · rw [List.length_cons]
        exact Nat.succ_le_succ (pathF_len f _)
    · simp
/-- So far the path l was taken, it stands at m. -/
def PathTo (n : Nat) (nx : Nat → Option Nat) (ln : Nat → Nat) (l : List Nat) (m : Nat) : Prop := ∃ f, n - m ≤ f ∧ f + l.length ≤ n ∧ l ++ pathF n nx ln f m = pathF n nx ln n 0
theorem PathTo.start {n : Nat} {nx : Nat → Option Nat} {ln : Nat → Nat} : PathTo n nx ln [] 0 := ⟨n, by omega, by simp, rfl⟩
theorem PathTo.on {n : Nat} {nx : Nat → Option Nat} {ln : Nat → Nat} {l : List Nat} {m i : Nat} (h : PathTo n nx ln l m) (hm : m < n) (hn : nx m = some i) (hl : 1 ≤ ln i) : PathTo n nx ln (l ++ [i]) (m + ln i) := by
  obtain ⟨f, h1, h2, h3⟩ := h
  obtain ⟨f, rfl⟩ : ∃ g, f = g + 1 := ⟨f - 1, by omega⟩
  rw [pathF_on hm hn] at h3
  exact ⟨f, by omega, by rw [List.length_append, List.length_singleton]; omega, by rw [List.append_assoc]; exact h3⟩
theorem PathTo.done {n : Nat} {nx : Nat → Option Nat} {ln : Nat → Nat} {l : List Nat} {m : Nat} (h : PathTo n nx ln l m) (hm : n ≤ m) : l = pathF n nx ln n 0 := by
  obtain ⟨f, _, _, h3⟩ := h
  rw [pathF_end hm, List.append_nil] at h3
  exact h3
theorem PathTo.short {n : Nat} {nx : Nat → Option Nat} {ln : Nat → Nat} {l : List Nat} {m : Nat} (h : PathTo n nx ln l m) : l.length ≤ n := by
  obtain ⟨f, _, h2, _⟩ := h; omega
/-- How far the i-th phrase leads. -/
def lnOf (len : Phr → Nat) (ps : List Phr) (i : Nat) : Nat := (ps[i]?.map len).getD 0
theorem lnOf_at {len : Phr → Nat} {ps : List Phr} {i : Nat} {p : Phr} (h : ps[i]? = some p) : lnOf len ps i = len p := by unfold lnOf; rw [h]; rfl
theorem dpL_drop (fit : Nat → Phr → Bool) (len cost : Phr → Nat) (ps : List Phr) (n : Nat) : ∀ k j, j ≤ k → (dpL fit len cost ps n k).drop j = dpL fit len cost ps n (k - j)
  | 0, j, h => by obtain rfl : j = 0 := by omega
                  rfl
  | k + 1, 0, _ => rfl
  | k + 1, j + 1, h => by rw [dpL, List.drop_succ_cons, dpL_drop fit len cost ps n k j (by omega), show k + 1 - (j + 1) = k - j by omega]
theorem dpL_at {fit : Nat → Phr → Bool} {len cost : Phr → Nat} {ps : List Phr} {n m : Nat} (h : m < n) : (dpL fit len cost ps n n)[m]? = some (lsAt (fit m) len cost ps (dpL fit len cost ps n (n - (m + 1)))) := by
  have h1 := dpL_drop fit len cost ps n n m (by omega)
  obtain ⟨k, hk⟩ : ∃ k, n - m = k + 1 := ⟨n - m - 1, by omega⟩
  rw [hk, dpL] at h1
  have h2 : ((dpL fit len cost ps n n).drop m)[0]? = some (lsAt (fit (n - (k + 1))) len cost ps (dpL fit len cost ps n k)) := by rw [h1]; rfl
  rw [List.getElem?_drop, Nat.add_zero] at h2
  rw [h2, show n - (k + 1) = m by omega, show k = n - (m + 1) by omega]
theorem dpL_rest {fit : Nat → Phr → Bool} {len cost : Phr → Nat} {ps : List Phr} {n m d : Nat} (h : m < n) : (dpL fit len cost ps n (n - (m + 1)))[d]? = (dpL fit len cost ps n n)[m + 1 + d]? := by
  rw [← dpL_drop fit len cost ps n n (m + 1) (by omega), List.getElem?_drop]
theorem wayAt_pos {fit : Phr → Bool} {len : Phr → Nat} {tb : List Nat} : ∀ {ps : List Phr}, 0 < wayAt fit len ps tb → ∃ p ∈ ps, fit p = true ∧ 0 < tb.getD (len p - 1) 0
  | [], h => by simp [wayAt] at h
  | p :: ps, h => by
    have e : wayAt fit len (p :: ps) tb = (if fit p then tb.getD (len p - 1) 0 else 0) + wayAt fit len ps tb := by simp [wayAt]
    rw [e] at h
    by_cases h1 : 0 < wayAt fit len ps tb
    · obtain ⟨q, hq, h2⟩ := wayAt_pos h1
      exact ⟨q, List.mem_cons_of_mem _ hq, h2⟩
    · split at h
      · rename_i hf
        exact ⟨p, by simp, hf, by omega⟩
      · omega
/-- What a phrase would cost at a place. -/
def valP (fit : Phr → Bool) (len cost : Phr → Nat) (tb : List (Option Nat)) (p : Phr) : Option Nat := if fit p then (tb.getD (len p - 1) Option.none).map (cost p + ·) else Option.none
theorem lsStep_val {fit : Phr → Bool} {len cost : Phr → Nat} {tb : List (Option Nat)} {cur : Option Nat} {p : Phr} : lsStep fit len cost tb cur p = match valP fit len cost tb p with
    | Option.none => cur
    | some v => lsUpd cur v := by
  unfold lsStep valP
  split
  · cases tb.getD (len p - 1) Option.none <;> rfl
  · rfl
/-- cur is the least of what the phrases seen cost. -/
structure Least (val : Phr → Option Nat) (ps : List Phr) (cur : Option Nat) : Prop where
  le : ∀ p ∈ ps, ∀ v, val p = some v → ∃ c, cur = some c ∧ c ≤ v
  hit : ∀ c, cur = some c → ∃ p ∈ ps, val p = some c
theorem least_lsAt {fit : Phr → Bool} {len cost : Phr → Nat} {ps : List Phr} {tb : List (Option Nat)} : ∀ j, j ≤ ps.length → Least (valP fit len cost tb) (ps.take j) (lsAt fit len cost (ps.take j) tb)
  | 0, _ => ⟨fun p hp => by simp at hp, fun c hc => by cases hc⟩
  | j + 1, hj => by
    have ih := least_lsAt (ps := ps) (fit := fit) (len := len) (cost := cost) (tb := tb) j (by omega)
    obtain ⟨q, hx⟩ : ∃ q, ps[j]? = some q := ⟨ps[j]'hj, List.getElem?_eq_getElem hj⟩
    rw [lsAt_snoc hx, take_snocN hx, lsStep_val]
    generalize ps.take j = qs at ih ⊢
    generalize lsAt fit len cost qs tb = cur at ih ⊢
    cases hv : valP fit len cost tb q with
    | none =>
      refine ⟨fun p hp v h => ?_, fun c hc => ?_⟩
      · rw [List.mem_append, List.mem_singleton] at hp
        rcases hp with hp | rfl
        · exact ih.le p hp v h
        · rw [hv] at h; cases h
      · obtain ⟨p, hp, h⟩ := ih.hit c hc
        exact ⟨p, List.mem_append_left _ hp, h⟩
    | some v =>
      have key : ∃ c, lsUpd cur v = some c ∧ c ≤ v ∧ (∀ b, cur = some b → c ≤ b) ∧ (c = v ∨ cur = some c) := by
        cases cur with
        | none => exact ⟨v, rfl, Nat.le_refl _, ⟨fun b hb => (by cases hb), Or.inl rfl⟩⟩
        | some b =>
          by_cases hlt : v < b
          · exact ⟨v, by simp only [lsUpd]; rw [if_pos hlt], Nat.le_refl _, ⟨fun b' hb => (by cases hb; omega), Or.inl rfl⟩⟩
          · exact ⟨b, by simp only [lsUpd]; rw [if_neg hlt], by omega, ⟨fun b' hb => (by cases hb; omega), Or.inr rfl⟩⟩
      obtain ⟨c, hc, h1, h2, h3⟩ := key
      dsimp only
      rw [hc]
      refine ⟨fun p hp u h => ?_, fun c' hc' => ?_⟩
      · rw [List.mem_append, List.mem_singleton] at hp
        rcases hp with hp | rfl
        · obtain ⟨b, hb, hbu⟩ := ih.le p hp u h
          exact ⟨c, rfl, Nat.le_trans (h2 b hb) hbu⟩
        · rw [hv] at h; cases h
          exact ⟨c, rfl, h1⟩
      · cases hc'
        rcases h3 with rfl | h3
        · exact ⟨q, by simp, hv⟩
        · obtain ⟨p, hp, h⟩ := ih.hit c h3
          exact ⟨p, List.mem_append_left _ hp, h⟩
/-- The first phrase that costs no more than the least. -/
def fstAt (val : Phr → Option Nat) (ps : List Phr) (cur : Option Nat) : Option Nat := match cur with
  | Option.none => Option.none
  | some c => ps.findIdx? fun p => val p == some c
theorem fstAt_some {val : Phr → Option Nat} {ps : List Phr} {c : Nat} (h : Least val ps (some c)) : ∃ i p, fstAt val ps (some c) = some i ∧ ps[i]? = some p ∧ val p = some c := by
  obtain ⟨p, hp, hv⟩ := h.hit c rfl
  unfold fstAt
  cases e : ps.findIdx? fun p => val p == some c with
  | none =>
    rw [List.findIdx?_eq_none_iff] at e
    have := e p hp
    simp [hv] at this
  | some i =>
    have h3 := e
    rw [List.findIdx?_eq_some_iff_getElem] at h3
    obtain ⟨hi, h4, _⟩ := h3
    exact ⟨i, ps[i], e, List.getElem?_eq_getElem hi, by simpa using h4⟩
/-- One phrase more that does not better the least. -/
theorem fstAt_keep {val : Phr → Option Nat} {ps : List Phr} {cur : Option Nat} {q : Phr} (h : Least val ps cur) : fstAt val (ps ++ [q]) cur = fstAt val ps cur := by
  cases cur with
  | none => rfl
  | some c =>
    obtain ⟨i, p, h1, _⟩ := fstAt_some h
    unfold fstAt at h1 ⊢
    dsimp only at h1 ⊢
    rw [List.findIdx?_append, h1]; rfl
/-- One phrase more that betters it. -/
theorem fstAt_new {val : Phr → Option Nat} {ps : List Phr} {cur : Option Nat} {q : Phr} {v : Nat} (h : Least val ps cur) (hv : val q = some v) (hb : ∀ b, cur = some b → v < b) : fstAt val (ps ++ [q]) (some v) = some ps.length := by
  unfold fstAt
  dsimp only
  rw [List.findIdx?_append]
  have : (ps.findIdx? fun p => val p == some v) = Option.none := by
    rw [List.findIdx?_eq_none_iff]
    intro p hp
    rw [beq_eq_false_iff_ne]
    intro e
    obtain ⟨c, hc, hcv⟩ := h.le p hp v e
    have := hb c hc
    omega
  rw [this]
  simp [hv]
/-- The next phrase of the first list of the least cost. -/
def nextL (fit : Nat → Phr → Bool) (len cost : Phr → Nat) (ps : List Phr) (n m : Nat) : Option Nat :=
  fstAt (valP (fit m) len cost (dpL fit len cost ps n (n - (m + 1)))) ps ((dpL fit len cost ps n n).getD m Option.none)
theorem valP_some {fit : Phr → Bool} {len cost : Phr → Nat} {tb : List (Option Nat)} {p : Phr} {c : Nat} (h : valP fit len cost tb p = some c) : fit p = true ∧ ∃ v, tb.getD (len p - 1) Option.none = some v ∧ cost p + v = c := by
  unfold valP at h
  split at h
  · rename_i hf
    cases e : tb.getD (len p - 1) Option.none with
    | none => rw [e] at h; cases h
    | some v => rw [e] at h; simp at h; exact ⟨hf, v, rfl, h⟩
  · cases h
theorem nextL_some {fit : Nat → Phr → Bool} {len cost : Phr → Nat} {ps : List Phr} {n m c : Nat} (hm : m < n) (hl : ∀ p ∈ ps, fit m p = true → 1 ≤ len p) (h : (dpL fit len cost ps n n).getD m Option.none = some c) :
    ∃ i p v, nextL fit len cost ps n m = some i ∧ ps[i]? = some p ∧ fit m p = true ∧ 1 ≤ len p ∧ (dpL fit len cost ps n n).getD (m + len p) Option.none = some v ∧ cost p + v = c := by
  unfold nextL
  rw [h]
  rw [List.getD_eq_getElem?_getD, dpL_at hm] at h
  have hls := least_lsAt (fit := fit m) (len := len) (cost := cost) (tb := dpL fit len cost ps n (n - (m + 1))) ps.length (Nat.le_refl _)
  rw [List.take_length] at hls
  rw [show lsAt (fit m) len cost ps (dpL fit len cost ps n (n - (m + 1))) = some c from h] at hls
  obtain ⟨i, p, h1, h2, h3⟩ := fstAt_some hls
  obtain ⟨h4, v, h5, h6⟩ := valP_some h3
  have h7 := hl p (List.mem_of_getElem? h2) h4
  rw [List.getD_eq_getElem?_getD, dpL_rest hm, show m + 1 + (len p - 1) = m + len p by omega, ← List.getD_eq_getElem?_getD] at h5
  exact ⟨i, p, v, h1, h2, h4, h7, h5, h6⟩
/-- What a list of phrases costs. -/
def costS (cost : Phr → Nat) (ps : List Phr) (l : List Nat) : Nat := (l.map (lnOf cost ps)).sum
theorem dpL_last (fit : Nat → Phr → Bool) (len cost : Phr → Nat) (ps : List Phr) (n : Nat) : (dpL fit len cost ps n n).getD n Option.none = some 0 := by
  have h1 := dpL_drop fit len cost ps n n n (Nat.le_refl _)
  rw [Nat.sub_self] at h1
  have h2 : ((dpL fit len cost ps n n).drop n)[0]? = some (some 0) := by rw [h1]; rfl
  rw [List.getElem?_drop, Nat.add_zero] at h2
  rw [List.getD_eq_getElem?_getD, h2]; rfl
theorem path_cost {fit : Nat → Phr → Bool} {len cost : Phr → Nat} {ps : List Phr} {n : Nat} (hl : ∀ m, ∀ p ∈ ps, fit m p = true → 1 ≤ len p) :
    ∀ f m c, n - m ≤ f → (dpL fit len cost ps n n).getD m Option.none = some c → costS cost ps (pathF n (nextL fit len cost ps n) (lnOf len ps) f m) = c
  | f, m, c, hf, h => by
    by_cases hm : m < n
    · obtain ⟨f, rfl⟩ : ∃ g, f = g + 1 := ⟨f - 1, by omega⟩
      obtain ⟨i, p, v, h1, h2, _, h4, h5, h6⟩ := nextL_some hm (hl m) h
      rw [pathF_on hm h1, lnOf_at h2]
      have := path_cost hl f (m + len p) v (by omega) h5
      unfold costS at this ⊢
      rw [List.map_cons, List.sum_cons, this, lnOf_at h2, h6]
    · rw [pathF_end (by omega)]
      have hlen := dpL_len fit len cost ps n n
      by_cases e : m = n
      · subst e
        rw [dpL_last] at h
        cases h; rfl
      · rw [List.getD_eq_getElem?_getD, List.getElem?_eq_none (by omega)] at h
        cases h
/-- Each choice on the path is a phrase. -/
theorem path_mem {n : Nat} {nx : Nat → Option Nat} {ln : Nat → Nat} {P : Nat → Prop} (h : ∀ m i, nx m = some i → P i) : ∀ f m, ∀ i ∈ pathF n nx ln f m, P i
  | 0, m, i, hi => by cases hi
  | f + 1, m, i, hi => by
    unfold pathF at hi
    split at hi
    · split at hi
      · cases hi
      · rename_i j hj
        rw [List.mem_cons] at hi
        rcases hi with rfl | hi
        · exact h m i hj
        · exact path_mem h f _ i hi
    · cases hi
/-- The signals of phrases, one after the other. -/
def sigsOf (ps : List Phr) (l : List Nat) : List Int := l.flatMap fun i => (ps[i]?.map (·.2)).getD []
theorem sigsOf_len {ps : List Phr} : ∀ (l : List Nat), (sigsOf ps l).length = costS sigCost ps l
  | [] => rfl
  | i :: l => by
    have := sigsOf_len (ps := ps) l
    unfold sigsOf costS at this ⊢
    rw [List.flatMap_cons, List.length_append, this, List.map_cons, List.sum_cons]
    unfold lnOf
    cases ps[i]? <;> rfl
theorem sigsOf_snoc {ps : List Phr} {l : List Nat} {i : Nat} {p : Phr} (h : ps[i]? = some p) : sigsOf ps (l ++ [i]) = sigsOf ps l ++ p.2 := by
  unfold sigsOf; rw [List.flatMap_append]; simp [h]
end Go.Proofs.Ytjnkdjokbamibaa
/- Plain laws: the two tables of the program's search for the first list of the least cost. -/
namespace Go.Proofs.Ytjnkdjokbamibaa
/-- The least, as the program writes it: 2^30 for none. -/
def bigI : Option Nat → Int
  | some m => (m : Int)
  | Option.none => 1073741824
abbrev bigs (l : List (Option Nat)) : List Value := l.map fun m => Value.int .i64 (bigI m)
def bigZ (m : Nat) (tb : List (Option Nat)) : List Value := List.replicate m (Value.int .i64 0) ++ bigs tb
theorem bigZ_at {m : Nat} {a : Option Nat} {tb : List (Option Nat)} : (bigZ m (a :: tb))[m]? = some (.int .i64 (bigI a)) := by
  unfold bigZ; rw [List.getElem?_append_right (by simp)]; simp
theorem bigZ_on {m d : Nat} {a b : Option Nat} {tb : List (Option Nat)} (h : tb[d]? = some b) : (bigZ m (a :: tb))[m + 1 + d]? = some (.int .i64 (bigI b)) := by
  unfold bigZ; rw [List.getElem?_append_right (by simp; omega)]; simp [show m + 1 + d - m = d + 1 by omega, h]
theorem bigZ_set {m : Nat} {a b : Option Nat} {tb : List (Option Nat)} : (bigZ m (a :: tb)).set m (.int .i64 (bigI b)) = bigZ m (b :: tb) := by
  unfold bigZ
  rw [List.set_append_right _ _ (by simp)]; simp
theorem bigZ_down {m : Nat} {tb : List (Option Nat)} : (bigZ (m + 1) tb).set m (.int .i64 1073741824) = bigZ m (Option.none :: tb) := by
  unfold bigZ
  rw [List.replicate_succ', List.append_assoc, List.set_append_right _ _ (by simp)]; simp [bigI]
theorem bigZ_below {m : Nat} {tb : List (Option Nat)} : (bigZ (m + 1) tb)[m]? = some (.int .i64 0) := by
  unfold bigZ; rw [List.getElem?_append_left (by simp)]; simp
theorem bigZ_start (n : Nat) : (zeros (n + 1)).toList = bigZ n [some 0] := by
  unfold bigZ zeros
  simp [bigI, List.replicate_succ']
theorem tblZ_zero (n : Nat) : (zeros (n + 1)).toList = tblZ n [0] := by
  unfold tblZ zeros
  simp [List.replicate_succ']
/-- The table of the first phrases that reach the least. -/
def fstD (fit : Nat → Phr → Bool) (len cost : Phr → Nat) (ps : List Phr) (n : Nat) : Nat → List Nat
  | 0 => [0]
  | k + 1 => ((fstAt (valP (fit (n - (k + 1))) len cost (dpL fit len cost ps n k)) ps (lsAt (fit (n - (k + 1))) len cost ps (dpL fit len cost ps n k))).getD 0) :: fstD fit len cost ps n k
theorem fstD_len (fit : Nat → Phr → Bool) (len cost : Phr → Nat) (ps : List Phr) (n k : Nat) : (fstD fit len cost ps n k).length = k + 1 := by
  induction k with
  | zero => rfl
  | succ k ih => simp [fstD, ih]
theorem fstD_drop (fit : Nat → Phr → Bool) (len cost : Phr → Nat) (ps : List Phr) (n : Nat) : ∀ k j, j ≤ k → (fstD fit len cost ps n k).drop j = fstD fit len cost ps n (k - j)
  | 0, j, h => by obtain rfl : j = 0 := by omega
                  rfl
  | k + 1, 0, _ => rfl
  | k + 1, j + 1, h => by rw [fstD, List.drop_succ_cons, fstD_drop fit len cost ps n k j (by omega), show k + 1 - (j + 1) = k - j by omega]
theorem fstD_at {fit : Nat → Phr → Bool} {len cost : Phr → Nat} {ps : List Phr} {n m : Nat} (h : m < n) : (fstD fit len cost ps n n)[m]? = some ((nextL fit len cost ps n m).getD 0) := by
  have h1 := fstD_drop fit len cost ps n n m (by omega)
  obtain ⟨k, hk⟩ : ∃ k, n - m = k + 1 := ⟨n - m - 1, by omega⟩
  rw [hk, fstD] at h1
  have h2 : ((fstD fit len cost ps n n).drop m)[0]? = some ((fstAt (valP (fit (n - (k + 1))) len cost (dpL fit len cost ps n k)) ps (lsAt (fit (n - (k + 1))) len cost ps (dpL fit len cost ps n k))).getD 0) := by rw [h1]; rfl
  rw [List.getElem?_drop, Nat.add_zero] at h2
  have h3 := dpL_at (fit := fit) (len := len) (cost := cost) (ps := ps) h
  rw [h2, show n - (k + 1) = m by omega, show k = n - (m + 1) by omega]
  unfold nextL
  rw [List.getD_eq_getElem?_getD, h3]; rfl
/-- What the program holds of a place, the first j phrases seen. -/
def lsJ (fit : Phr → Bool) (len cost : Phr → Nat) (ps : List Phr) (tb : List (Option Nat)) (j : Nat) : Option Nat := lsAt fit len cost (ps.take j) tb
def fsJ (fit : Phr → Bool) (len cost : Phr → Nat) (ps : List Phr) (tb : List (Option Nat)) (j : Nat) : Nat := (fstAt (valP fit len cost tb) (ps.take j) (lsJ fit len cost ps tb j)).getD 0
theorem lsJ_keep {fit : Phr → Bool} {len cost : Phr → Nat} {ps : List Phr} {tb : List (Option Nat)} {j : Nat} {p : Phr} (hp : ps[j]? = some p) (h : ∀ v, valP fit len cost tb p = some v → ∃ c, lsJ fit len cost ps tb j = some c ∧ c ≤ v) :
    lsJ fit len cost ps tb (j + 1) = lsJ fit len cost ps tb j ∧ fsJ fit len cost ps tb (j + 1) = fsJ fit len cost ps tb j := by
  have hj := (List.getElem?_eq_some_iff.1 hp).1
  have h1 : lsJ fit len cost ps tb (j + 1) = lsJ fit len cost ps tb j := by
    unfold lsJ at h ⊢
    rw [lsAt_snoc hp, lsStep_val]
    cases hv : valP fit len cost tb p with
    | none => rfl
    | some v =>
      obtain ⟨c, hc, hcv⟩ := h v hv
      rw [hc]
      simp only [lsUpd]
      rw [if_neg (by omega)]
  refine ⟨h1, ?_⟩
  unfold fsJ
  rw [h1, take_snocN hp, fstAt_keep (show Least _ _ (lsJ fit len cost ps tb j) from least_lsAt j (by omega))]
theorem lsJ_new {fit : Phr → Bool} {len cost : Phr → Nat} {ps : List Phr} {tb : List (Option Nat)} {j : Nat} {p : Phr} {v : Nat} (hp : ps[j]? = some p) (hv : valP fit len cost tb p = some v) (h : ∀ c, lsJ fit len cost ps tb j = some c → v < c) :
    lsJ fit len cost ps tb (j + 1) = some v ∧ fsJ fit len cost ps tb (j + 1) = j := by
  have hj := (List.getElem?_eq_some_iff.1 hp).1
  have h1 : lsJ fit len cost ps tb (j + 1) = some v := by
    unfold lsJ at h ⊢
    rw [lsAt_snoc hp, lsStep_val, hv]
    generalize lsAt fit len cost (ps.take j) tb = cur at h ⊢
    cases cur with
    | none => rfl
    | some c => simp only [lsUpd]; rw [if_pos (h c rfl)]
  refine ⟨h1, ?_⟩
  unfold fsJ
  rw [h1, take_snocN hp, fstAt_new (least_lsAt j (by omega)) hv h, List.length_take, Nat.min_eq_left (by omega)]
  rfl
theorem lsJ_end {fit : Nat → Phr → Bool} {len cost : Phr → Nat} {ps : List Phr} {n k m : Nat} (h : m + (k + 1) = n) :
    lsJ (fit m) len cost ps (dpL fit len cost ps n k) ps.length :: dpL fit len cost ps n k = dpL fit len cost ps n (k + 1) ∧ fsJ (fit m) len cost ps (dpL fit len cost ps n k) ps.length :: fstD fit len cost ps n k = fstD fit len cost ps n (k + 1) := by
  have e : n - (k + 1) = m := by omega
  unfold fsJ lsJ
  rw [List.take_length, dpL, fstD, e]
  exact ⟨rfl, rfl⟩
theorem valP_no {fit : Phr → Bool} {len cost : Phr → Nat} {tb : List (Option Nat)} {p : Phr} (h : fit p = false) : valP fit len cost tb p = Option.none := by unfold valP; rw [h]; rfl
theorem valP_none {fit : Phr → Bool} {len cost : Phr → Nat} {tb : List (Option Nat)} {p : Phr} (ht : tb[len p - 1]? = some Option.none) : valP fit len cost tb p = Option.none := by
  unfold valP; rw [List.getD_eq_getElem?_getD, ht]; split <;> rfl
theorem valP_yes {fit : Phr → Bool} {len cost : Phr → Nat} {tb : List (Option Nat)} {p : Phr} {v : Nat} (h : fit p = true) (ht : tb[len p - 1]? = some (some v)) : valP fit len cost tb p = some (cost p + v) := by
  unfold valP; rw [h, List.getD_eq_getElem?_getD, ht]; rfl
/-- The first of the first j phrases that a test holds for. -/
def fstJ (t : Phr → Bool) (ps : List Phr) (j : Nat) : Option Nat := (ps.take j).findIdx? t
theorem fstJ_old {t : Phr → Bool} {ps : List Phr} {j i : Nat} {p : Phr} (hp : ps[j]? = some p) (h : fstJ t ps j = some i) : fstJ t ps (j + 1) = some i := by
  unfold fstJ at h ⊢; rw [take_snocN hp, List.findIdx?_append, h]; rfl
theorem fstJ_no {t : Phr → Bool} {ps : List Phr} {j : Nat} {p : Phr} (hp : ps[j]? = some p) (h : fstJ t ps j = Option.none) (hf : t p = false) : fstJ t ps (j + 1) = Option.none := by
  unfold fstJ at h ⊢; rw [take_snocN hp, List.findIdx?_append, h]; simp [hf]
theorem fstJ_yes {t : Phr → Bool} {ps : List Phr} {j : Nat} {p : Phr} (hp : ps[j]? = some p) (h : fstJ t ps j = Option.none) (hf : t p = true) : fstJ t ps (j + 1) = some j := by
  have hj := (List.getElem?_eq_some_iff.1 hp).1
  unfold fstJ at h ⊢; rw [take_snocN hp, List.findIdx?_append, h]; simp [hf]; omega
theorem fstJ_end {t : Phr → Bool} {ps : List Phr} : fstJ t ps ps.length = ps.findIdx? t := by unfold fstJ; rw [List.take_length]
/-- The test of the reference at place m, where the least is c. -/
def okL (fit : Nat → Phr → Bool) (len cost : Phr → Nat) (ps : List Phr) (n m c : Nat) (p : Phr) : Bool := valP (fit m) len cost (dpL fit len cost ps n (n - (m + 1))) p == some c
theorem nextL_ok {fit : Nat → Phr → Bool} {len cost : Phr → Nat} {ps : List Phr} {n m c : Nat} (h : (dpL fit len cost ps n n).getD m Option.none = some c) : ps.findIdx? (okL fit len cost ps n m c) = nextL fit len cost ps n m := by
  unfold nextL; rw [h]; rfl
theorem okL_no {fit : Nat → Phr → Bool} {len cost : Phr → Nat} {ps : List Phr} {n m c : Nat} {p : Phr} (h : fit m p = false) : okL fit len cost ps n m c p = false := by unfold okL; rw [valP_no h]; rfl
theorem okL_none {fit : Nat → Phr → Bool} {len cost : Phr → Nat} {ps : List Phr} {n m c : Nat} {p : Phr} (hm : m < n) (hl : 1 ≤ len p) (h : (dpL fit len cost ps n n)[m + len p]? = some Option.none) : okL fit len cost ps n m c p = false := by
  have h2 := dpL_rest (fit := fit) (len := len) (cost := cost) (ps := ps) (d := len p - 1) hm
  rw [show m + 1 + (len p - 1) = m + len p by omega, h] at h2
  unfold okL; rw [valP_none h2]; rfl
theorem okL_some {fit : Nat → Phr → Bool} {len cost : Phr → Nat} {ps : List Phr} {n m c v : Nat} {p : Phr} (hm : m < n) (hf : fit m p = true) (hl : 1 ≤ len p) (h : (dpL fit len cost ps n n)[m + len p]? = some (some v)) : okL fit len cost ps n m c p = decide (cost p + v = c) := by
  have h2 := dpL_rest (fit := fit) (len := len) (cost := cost) (ps := ps) (d := len p - 1) hm
  rw [show m + 1 + (len p - 1) = m + len p by omega, h] at h2
  unfold okL; rw [valP_yes hf h2]; simp only [Option.some_beq_some]; by_cases e : cost p + v = c <;> simp [e]
end Go.Proofs.Ytjnkdjokbamibaa
/- Contracts: the least number of signals, of the reference; asking for letters. -/
namespace Go.Proofs.Ytjnkdjokbamibaa
open Go.RowKit
/-- The least number of signals, if the letters can be asked for and spelled. -/
def leastO (ps : List Phr) (s : ByteArray) : Option Nat := if bookB ps && lettB s then (tblT ps s).getD 0 Option.none else Option.none
def lstV (o : Option Nat) : Value := match o with
  | some n => .tuple #[.int .i64 (n : Int), .bool true]
  | Option.none => .tuple #[.int .i64 0, .bool false]
theorem leastO_no {ps : List Phr} {s : ByteArray} (h : (bookB ps && lettB s) = false) : leastO ps s = Option.none := by unfold leastO; rw [h]; rfl
theorem leastO_yes {ps : List Phr} {s : ByteArray} (h : (bookB ps && lettB s) = true) : leastO ps s = (tblT ps s).getD 0 Option.none := by unfold leastO; rw [h]; rfl
set_option maxRecDepth 100000 in
set_option maxHeartbeats 4000000 in
theorem sLeastSignals_any (ps : List Phr) (s : ByteArray) (v : Value) (hi : Nat) (w : World) (hs0 : s.size ≤ maxLen) (h : RdB w hi v ps) (hh : hi ≤ w.heap.size) :
    Calls Try.prog 27 #[v, .string s] w fun e w' => e = .returned (lstV (leastO ps s)) ∧ Below w.heap.size w w' := by
  obtain ⟨a, rfl, ha⟩ := h
  obtain ⟨A, c, rfl, hc, hm⟩ := ha.form
  have hba : Below w.heap.size w (w.alloc (.cells #[.slice A ps.length c] 28)) := (Below.refl _ _).alloc (Nat.le_refl _) _
  have HB := Lib.hid hba
  have HA := Lib.hid (ha.below hba hh)
  have HG : Hid (RdB (w.alloc (.cells #[.slice A ps.length c] 28)) hi (.agg #[.slice A ps.length c]) ps) := ⟨_, rfl, HA.out⟩
  have hcb0 : (w.alloc (.cells #[.slice A ps.length c] 28)).cell? ⟨w.heap.size, 0, Option.none⟩ = some (.slice A ps.length c) := (Blk.new w 28 #[.slice A ps.length c]).cell 0
  have HCB := Lib.hid hcb0
  have hsz1 : hi ≤ (w.alloc (.cells #[.slice A ps.length c] 28)).heap.size := by simp; omega
  clear ha hba hcb0
  have cB := spAsked_any ps s (.agg #[.slice A ps.length c]) hi (w.alloc (.cells #[.slice A ps.length c] 28)) hs0 HG.out hsz1
  cases hbr : (bookB ps && lettB s)
  · rw [hbr] at cB
    have CB := Lib.hid cB
    have HRB := Lib.hid hbr
    clear cB hbr
    go_enter Try.func27, Try.ntmps27
    go_wp2_with (go_at_call 81; refine CB.out.mono ?_; rintro e w1 ⟨rfl, hb1⟩)
    go_ret2
    exact ⟨ret_val (by rw [leastO_no HRB.out]; rfl), HB.out.trans (hb1.mono (by simp))⟩
  · rw [hbr] at cB
    have CB := Lib.hid cB
    have HRB := Lib.hid hbr
    rw [Bool.and_eq_true] at hbr
    have HBK := Lib.hid hbr.1
    have hs40 : s.size ≤ 40 := by have := hbr.2; unfold lettB at this; rw [Bool.and_eq_true, decide_eq_true_eq] at this; exact this.2
    clear cB hbr
    go_enter Try.func27, Try.ntmps27
    go_wp2_with fail
    refine CB.out.mono ?_
    rintro e w1 ⟨rfl, hb1⟩
    have hcb := (hb1.cell (p := ⟨w.heap.size, 0, Option.none⟩) (by simp)).trans HCB.out
    have hs1 : w.heap.size + 1 ≤ w1.heap.size := by have := hb1.size; simpa using this
    have HA1 := Lib.hid (HA.out.below hb1 hsz1)
    have HG1 : Hid (RdB w1 hi (.agg #[.slice A ps.length c]) ps) := ⟨_, rfl, HA1.out⟩
    have HB1 := Lib.hid (HB.out.trans (hb1.mono (by simp)))
    clear hb1
    have cT := spTable_any ps s (.agg #[.slice A ps.length c]) hi w1 HG1.out (by omega) HBK.out hs40
    have CT := Lib.hid cT
    clear cT
    go_wp2_with fail
    refine CT.out.mono ?_
    rintro e w2 ⟨q, rfl, hq, hb2⟩
    obtain ⟨bq, cq, rfl, hcq⟩ := own_headO hq
    have hs2 := hb2.size
    have hcb2 := (hb2.cell (p := ⟨w.heap.size, 0, Option.none⟩) (by show w.heap.size < w1.heap.size; omega)).trans hcb
    have HG2 := Lib.hid (HG1.out.below hb2 (by omega))
    have HB2 := Lib.hid (HB1.out.trans (hb2.mono (by omega)))
    clear hq hb2 hcb
    rcases ho : (tblT ps s).getD 0 Option.none with _ | vv
    · have HO := Lib.hid ho
      rw [ho] at hcq
      simp only [optI] at hcq
      clear ho
      go_wp2_with fail
      go_ret2
      exact ⟨ret_val (by rw [leastO_yes HRB.out, HO.out]; rfl), HB2.out⟩
    · have HO := Lib.hid ho
      rw [ho] at hcq
      simp only [optI] at hcq
      have hvv : ¬ (vv : Int) < 0 := by omega
      have cT := spTable_any ps s (.agg #[.slice A ps.length c]) hi w2 HG2.out (by omega) HBK.out hs40
      have CT2 := Lib.hid cT
      clear cT
      go_wp2_with fail
      refine CT2.out.mono ?_
      rintro e w3 ⟨q, rfl, hq, hb3⟩
      obtain ⟨bq3, cq3, rfl, hcq3⟩ := own_headO hq
      rw [HO.out] at hcq3
      simp only [optI] at hcq3
      have HB3 := Lib.hid (HB2.out.trans (hb3.mono (by omega)))
      clear hq hb3 hcb2 ho
      go_wp2_with fail
      go_ret2
      exact ⟨ret_val (by rw [leastO_yes HRB.out, HO.out]; rfl), HB3.out⟩
end Go.Proofs.Ytjnkdjokbamibaa
/- Contracts: is a book free of prefixes, its first prefix, its texts of one letter, its texts with a beginning; of the program and of the reference. -/
namespace Go.Proofs.Ytjnkdjokbamibaa
open Go.RowKit
/-- The texts of one letter, put together. -/
def loneL (ps : List Phr) : List UInt8 := ps.flatMap fun p => if (p.1.size : Int) == 1 then p.1.data.toList else []
theorem loneL_snoc {ps : List Phr} {k : Nat} {p : Phr} (h : ps[k]? = some p) : loneL (ps.take (k + 1)) = loneL (ps.take k) ++ if (p.1.size : Int) == 1 then p.1.data.toList else [] := by
  unfold loneL; rw [take_snocN h, List.flatMap_append]; simp
theorem loneL_len (ps : List Phr) : (loneL ps).length ≤ ps.length := by
  unfold loneL
  induction ps with
  | nil => simp
  | cons p r ih =>
    rw [List.flatMap_cons, List.length_append, List.length_cons]
    have : (if (p.1.size : Int) == 1 then p.1.data.toList else []).length ≤ 1 := by
      split
      · rename_i h; rw [beq_iff_eq] at h; simp; omega
      · simp
    omega
def loneV (ps : List Phr) : Value := if bookB ps then .tuple #[.string ⟨(loneL ps).toArray⟩, .bool true] else .tuple #[.string ⟨#[]⟩, .bool false]
theorem loneV_form (ps : List Phr) : ∃ p q, loneV ps = .tuple #[.string p, .bool q] := by unfold loneV; split <;> exact ⟨_, _, rfl⟩
theorem arr_app (l : List UInt8) (t : ByteArray) : (⟨l.toArray⟩ : ByteArray) ++ t = ⟨(l ++ t.data.toList).toArray⟩ := by
  rw [ByteArray.ext_iff]; simp
set_option maxHeartbeats 800000 in
theorem sLone_any (ps : List Phr) (v : Value) (hi : Nat) (w : World) (h : RdB w hi v ps) (hh : hi ≤ w.heap.size) :
    Calls Try.prog 41 #[v] w fun e w' => e = .returned (loneV ps) ∧ Below w.heap.size w w' := by
  have HA0 : Hid (∃ a, v = .agg #[a] ∧ RdPS w hi a ps) := h
  clear HA0
  obtain ⟨a, rfl, ha⟩ := h
  obtain ⟨A, c, rfl, hc, hm⟩ := ha.form
  have HA0 := Lib.hid ha
  have hba : Below w.heap.size w (w.alloc (.cells #[.slice A ps.length c] 28)) := (Below.refl _ _).alloc (Nat.le_refl _) _
  have HB := Lib.hid hba
  have HA := Lib.hid (ha.below hba hh)
  have HG : Hid (RdB (w.alloc (.cells #[.slice A ps.length c] 28)) hi (.agg #[.slice A ps.length c]) ps) := ⟨_, rfl, HA.out⟩
  have hcb0 : (w.alloc (.cells #[.slice A ps.length c] 28)).cell? ⟨w.heap.size, 0, Option.none⟩ = some (.slice A ps.length c) := (Blk.new w 28 #[.slice A ps.length c]).cell 0
  have HCB := Lib.hid hcb0
  have hsz1 : hi ≤ (w.alloc (.cells #[.slice A ps.length c] 28)).heap.size := by simp; omega
  clear ha hba hcb0
  have cB := bkGood_any ps (.agg #[.slice A ps.length c]) hi (w.alloc (.cells #[.slice A ps.length c] 28)) HG.out hsz1
  cases hbk : bookB ps
  · rw [hbk] at cB
    have CB := Lib.hid cB
    clear cB
    go_enter Try.func41, Try.ntmps41
    go_wp2_with (go_at_call 59; refine CB.out.mono ?_; rintro e w1 ⟨rfl, hb1⟩)
    go_ret2
    exact ⟨ret_val (by unfold loneV; rw [hbk]; rfl), HB.out.trans (hb1.mono (by simp))⟩
  · rw [hbk] at cB
    have CB := Lib.hid cB
    have HBK := Lib.hid hbk
    clear cB
    have hlen := bookB_len hbk
    have hlen1 := hlen.2
    clear hlen hbk
    go_enter Try.func41, Try.ntmps41
    go_wp2_with fail
    refine CB.out.mono ?_
    rintro e w1 ⟨rfl, hb1⟩
    have hcb := (hb1.cell (p := ⟨w.heap.size, 0, Option.none⟩) (by simp)).trans HCB.out
    have hs1 : w.heap.size + 1 ≤ w1.heap.size := by have := hb1.size; simpa using this
    have HA1 := Lib.hid (HA.out.below hb1 hsz1)
    have HG1 : Hid (RdB w1 hi (.agg #[.slice A ps.length c]) ps) := ⟨_, rfl, HA1.out⟩
    have HB1 := Lib.hid (HB.out.trans (hb1.mono (by simp)))
    clear hb1
    go_wp2_with fail
    go_loopw [4, 13] (fun s i wr => ∃ k : Nat, k ≤ ps.length ∧ i = .int .i64 k ∧ s = .string ⟨(loneL (ps.take k)).toArray⟩ ∧ Below w.heap.size w wr) (fun _ i _ => ps.length - (intOf i).toNat)
    case atStart => exact ⟨0, Nat.zero_le _, rfl, rfl, HB1.out⟩
    case round =>
      obtain ⟨k, hk, rfl, rfl, hbr⟩ := hrel
      have hs := hbr.size
      by_cases hlt : k < ps.length
      · obtain ⟨b1, o1, c1, a, t, xs, hv, hb1, hx, hcell1, hcell2, hra, hta⟩ := (HA0.out.below hbr (by omega)).at_ hlt
        cases hv
        obtain ⟨A2, c2, rfl, hc2, hm2⟩ := Rd.form hra
        have HX := Lib.hid hx
        clear hra hx
        have hll := loneL_len (ps.take k)
        have hl2 : (loneL (ps.take k)).length ≤ 40 := by rw [List.length_take] at hll; omega
        clear hll
        cases ht : ((t.size : Int) == 1)
        · have HT := Lib.hid ht
          go_wp2_with fail
          go_roundw
          case rel => exact ⟨k + 1, by omega, by go_num, by rw [loneL_snoc HX.out, HT.out]; simp, hbr.alloc hs _⟩
          case measure => simp [intOf]; omega
        · have HT := Lib.hid ht
          have ht1 : t.size = 1 := by rw [beq_iff_eq] at ht; omega
          have HT1 := Lib.hid ht1
          have ht2 : t.size ≤ 1 := by omega
          clear ht1
          go_wp2_with fail
          go_roundw
          case rel => exact ⟨k + 1, by omega, by go_num, by rw [loneL_snoc HX.out, HT.out, arr_app]; rfl, hbr.alloc hs _⟩
          case measure => simp [intOf]; omega
      · obtain rfl : k = ps.length := by omega
        go_wp2_with fail
        go_ret2
        exact ⟨ret_val (by unfold loneV; rw [HBK.out, List.take_of_length_le (Nat.le_refl _)]; rfl), hbr⟩
set_option maxHeartbeats 800000 in
theorem Lone_any (ps : List Phr) (v : Value) (hi : Nat) (w : World) (h : RdB w hi v ps) (hh : hi ≤ w.heap.size) :
    Calls Try.prog 40 #[v] w fun e w' => e = .returned (loneV ps) ∧ Below w.heap.size w w' := by
  have HA0 : Hid (∃ a, v = .agg #[a] ∧ RdPS w hi a ps) := h
  clear HA0
  obtain ⟨a, rfl, ha⟩ := h
  obtain ⟨A, c, rfl, hc, hm⟩ := ha.form
  have HA0 := Lib.hid ha
  have hba : Below w.heap.size w (w.alloc (.cells #[.slice A ps.length c] 28)) := (Below.refl _ _).alloc (Nat.le_refl _) _
  have HB := Lib.hid hba
  have HA := Lib.hid (ha.below hba hh)
  have HG : Hid (RdB (w.alloc (.cells #[.slice A ps.length c] 28)) hi (.agg #[.slice A ps.length c]) ps) := ⟨_, rfl, HA.out⟩
  have hcb0 : (w.alloc (.cells #[.slice A ps.length c] 28)).cell? ⟨w.heap.size, 0, Option.none⟩ = some (.slice A ps.length c) := (Blk.new w 28 #[.slice A ps.length c]).cell 0
  have HCB := Lib.hid hcb0
  have hsz1 : hi ≤ (w.alloc (.cells #[.slice A ps.length c] 28)).heap.size := by simp; omega
  clear ha hba hcb0
  have cB := IsBook_any ps (.agg #[.slice A ps.length c]) hi (w.alloc (.cells #[.slice A ps.length c] 28)) HG.out hsz1
  cases hbk : bookB ps
  · rw [hbk] at cB
    have CB := Lib.hid cB
    clear cB
    go_enter Try.func40, Try.ntmps40
    go_wp2_with (go_at_call 71; refine CB.out.mono ?_; rintro e w1 ⟨rfl, hb1⟩)
    go_ret2
    exact ⟨ret_val (by unfold loneV; rw [hbk]; rfl), HB.out.trans (hb1.mono (by simp))⟩
  · rw [hbk] at cB
    have CB := Lib.hid cB
    have HBK := Lib.hid hbk
    clear cB
    have hlen := bookB_len hbk
    have hlen1 := hlen.2
    clear hlen hbk
    go_enter Try.func40, Try.ntmps40
    go_wp2_with fail
    refine CB.out.mono ?_
    rintro e w1 ⟨rfl, hb1⟩
    have hcb := (hb1.cell (p := ⟨w.heap.size, 0, Option.none⟩) (by simp)).trans HCB.out
    have hs1 : w.heap.size + 1 ≤ w1.heap.size := by have := hb1.size; simpa using this
    have HA1 := Lib.hid (HA.out.below hb1 hsz1)
    have HG1 : Hid (RdB w1 hi (.agg #[.slice A ps.length c]) ps) := ⟨_, rfl, HA1.out⟩
    have HB1 := Lib.hid (HB.out.trans (hb1.mono (by simp)))
    clear hb1
    go_wp2_with fail
    go_loopw [4, 13] (fun s i wr => ∃ k : Nat, k ≤ ps.length ∧ i = .int .i64 k ∧ s = .string ⟨(loneL (ps.take k)).toArray⟩ ∧ Below w.heap.size w wr) (fun _ i _ => ps.length - (intOf i).toNat)
    case atStart => exact ⟨0, Nat.zero_le _, rfl, rfl, HB1.out⟩
    case round =>
      obtain ⟨k, hk, rfl, rfl, hbr⟩ := hrel
      have hs := hbr.size
      by_cases hlt : k < ps.length
      · obtain ⟨b1, o1, c1, a, t, xs, hv, hb1, hx, hcell1, hcell2, hra, hta⟩ := (HA0.out.below hbr (by omega)).at_ hlt
        cases hv
        obtain ⟨A2, c2, rfl, hc2, hm2⟩ := Rd.form hra
        have HX := Lib.hid hx
        clear hra hx
        have hll := loneL_len (ps.take k)
        have hl2 : (loneL (ps.take k)).length ≤ 40 := by rw [List.length_take] at hll; omega
        clear hll
        cases ht : ((t.size : Int) == 1)
        · have HT := Lib.hid ht
          go_wp2_with fail
          go_roundw
          case rel => exact ⟨k + 1, by omega, by go_num, by rw [loneL_snoc HX.out, HT.out]; simp, hbr.alloc hs _⟩
          case measure => simp [intOf]; omega
        · have HT := Lib.hid ht
          have ht1 : t.size = 1 := by rw [beq_iff_eq] at ht; omega
          have HT1 := Lib.hid ht1
          have ht2 : t.size ≤ 1 := by omega
          clear ht1
          go_wp2_with fail
          go_roundw
          case rel => exact ⟨k + 1, by omega, by go_num, by rw [loneL_snoc HX.out, HT.out, arr_app]; rfl, hbr.alloc hs _⟩
          case measure => simp [intOf]; omega
      · obtain rfl : k = ps.length := by omega
        go_wp2_with fail
        go_ret2
        exact ⟨ret_val (by unfold loneV; rw [HBK.out, List.take_of_length_le (Nat.le_refl _)]; rfl), hbr⟩
end Go.Proofs.Ytjnkdjokbamibaa
/- Contracts: the first list of phrases of the least length, of the reference. -/
namespace Go.Proofs.Ytjnkdjokbamibaa
open Go.RowKit
/-- A table of least lengths that a call has made: its cells. -/
theorem own_cellsO {w : World} {lo hi : Nat} {v : Value} {ps : List Phr} {t : ByteArray} (h : OwI w lo hi v ((tblT ps t).map optI)) :
    ∃ b c, v = .slice (some ⟨b, 0, Option.none⟩) (t.size + 1) c ∧ b < hi ∧ ∀ k, k ≤ t.size → w.cell? ⟨b, k, Option.none⟩ = some (.int .i64 (optI ((tblT ps t).getD k Option.none))) := by
  have hl : ((tblT ps t).map optI).length = t.size + 1 := by simp [tblT, dpL_len]
  have hat := fun k (hk : k ≤ t.size) => Rd.at_ h.rd (k := k) (by rw [hl]; omega)
  rcases h.1.2 with ⟨rfl, _⟩ | ⟨g, cap, cur, hv2, _⟩
  · obtain ⟨b, off, c, y, hv, _⟩ := hat 0 (Nat.zero_le _)
    cases hv
  · subst hv2
    rw [hl] at hat
    obtain ⟨b, off, c, y, hv, hb, _⟩ := hat 0 (Nat.zero_le _)
    rw [hl]
    cases hv
    refine ⟨_, _, rfl, hb, fun k hk => ?_⟩
    obtain ⟨b, off, c, y, hv, hb, hy, hc⟩ := hat k hk
    cases hv
    have e : y = optI ((tblT ps t).getD k Option.none) := by
      rw [List.getElem?_map] at hy
      rw [List.getD_eq_getElem?_getD]
      cases e : (tblT ps t)[k]? with
      | none => rw [e] at hy; cases hy
      | some m => rw [e] at hy; cases hy; rfl
    rw [e] at hc
    simpa using hc
/-- The path of the first list of the least length. -/
def pathT (ps : List Phr) (s : ByteArray) : List Nat := pathF s.size (nextL (fitT s) txtLen sigCost ps s.size) (lnOf txtLen ps) s.size 0
def spellL (ps : List Phr) (s : ByteArray) : List Int := match (tblT ps s).getD 0 Option.none with
  | some _ => waysI (pathT ps s)
  | Option.none => []
def spellQ (ps : List Phr) (s : ByteArray) : Bool := ((tblT ps s).getD 0 Option.none).isSome
abbrev PathT (ps : List Phr) (s : ByteArray) (l : List Nat) (m : Nat) : Prop := PathTo s.size (nextL (fitT s) txtLen sigCost ps s.size) (lnOf txtLen ps) l m
theorem fit_hyp {ps : List Phr} (h : bookB ps = true) (s : ByteArray) (m : Nat) : ∀ p ∈ ps, fitT s m p = true → 1 ≤ txtLen p := fun _ hp _ => (phrOk_txt (bookB_phr h hp)).1
theorem waysI_snoc {l : List Nat} {i : Nat} : waysI (l ++ [i]) = waysI l ++ [(i : Int)] := by simp [waysI]
theorem retOwT_from {w w2 wr : World} {v : Value} {xs : List Int} (b : Bool) (h : GrowI w2 w2.heap.size wr v xs) (hb : Below w.heap.size w w2) (hs : w.heap.size ≤ w2.heap.size) : RetOwT xs b w (.returned (.tuple #[v, .bool b])) wr := by
  refine ⟨v, rfl, ⟨⟨h.1.1, ?_⟩, h.own.2⟩, hb.trans (h.2.1.mono hs)⟩
  rcases h.1.2 with hn | ⟨g, cap, cur, rfl, hl, rest⟩
  · exact .inl hn
  · exact .inr ⟨g, cap, cur, rfl, by omega, rest⟩
theorem waysI_len {l : List Nat} : (waysI l).length = l.length := by simp [waysI]
set_option maxRecDepth 100000 in
set_option maxHeartbeats 4000000 in
theorem spSpell_any (ps : List Phr) (s : ByteArray) (v : Value) (hi : Nat) (w : World) (h : RdB w hi v ps) (hh : hi ≤ w.heap.size) (hbk : bookB ps = true) (hs40 : s.size ≤ 40) :
    Calls Try.prog 82 #[v, .string s] w (RetOwT (spellL ps s) (spellQ ps s) w) := by
  obtain ⟨a, rfl, ha⟩ := h
  obtain ⟨A, c, rfl, hc, hm⟩ := ha.form
  have hba : Below w.heap.size w (w.alloc (.cells #[.slice A ps.length c] 28)) := (Below.refl _ _).alloc (Nat.le_refl _) _
  have HB := Lib.hid hba
  have HA := Lib.hid (ha.below hba hh)
  have HG : Hid (RdB (w.alloc (.cells #[.slice A ps.length c] 28)) hi (.agg #[.slice A ps.length c]) ps) := ⟨_, rfl, HA.out⟩
  have hcb0 : (w.alloc (.cells #[.slice A ps.length c] 28)).cell? ⟨w.heap.size, 0, Option.none⟩ = some (.slice A ps.length c) := (Blk.new w 28 #[.slice A ps.length c]).cell 0
  have HCB := Lib.hid hcb0
  have hsz1 : hi ≤ (w.alloc (.cells #[.slice A ps.length c] 28)).heap.size := by simp; omega
  clear ha hba hcb0
  have HBK := Lib.hid hbk
  go_enter Try.func82, Try.ntmps82
  go_wp2_with fail
  have HA1 := HA
  have HG1 := HG
  have HB1 := HB
  have hcb := HCB.out
  have hs1 : w.heap.size + 1 ≤ (w.alloc (.cells #[.slice A ps.length c] 28)).heap.size := by simp
  generalize (w.alloc (.cells #[.slice A ps.length c] 28)) = w1 at HA HG HB HCB HA1 HG1 HB1 hcb hsz1 hs1 ⊢
  clear HA HG HB HCB
  have cT := spTable_any ps s (.agg #[.slice A ps.length c]) hi w1 HG1.out (by omega) HBK.out hs40
  have CT := Lib.hid cT
  clear cT
  go_wp2_with fail
  refine CT.out.mono ?_
  rintro e w2 ⟨q, rfl, hq, hb2⟩
  obtain ⟨bq, cq, rfl, hbq, htc⟩ := own_cellsO hq
  have HTC := Lib.hid htc
  have hs2 := hb2.size
  have hcq := htc 0 (Nat.zero_le _)
  have hcb2 := (hb2.cell (p := ⟨w.heap.size, 0, Option.none⟩) (by show w.heap.size < w1.heap.size; omega)).trans hcb
  have HB12 := Lib.hid hb2
  have HCBX := Lib.hid hcb
  have HB2 := Lib.hid (HB1.out.trans (hb2.mono (by omega)))
  clear hq hb2 hcb htc
  rcases ho : (tblT ps s).getD 0 Option.none with _ | vv
  · have HO := Lib.hid ho
    rw [ho] at hcq
    simp only [optI] at hcq
    clear ho
    go_wp2_with fail
    go_ret2
    show RetOwT _ _ _ _ _
    rw [show spellL ps s = [] by unfold spellL; rw [HO.out], show spellQ ps s = false by unfold spellQ; rw [HO.out]; rfl]
    exact retOwT _ (GrowI.nil HB2.out)
  · have HO := Lib.hid ho
    rw [ho] at hcq
    simp only [optI] at hcq
    have hvv : ¬ (vv : Int) < 0 := by omega
    clear ho
    go_wp2_with fail
    go_loopw [7, 8] (fun q i wr => ∃ (m : Nat) (l : List Nat) (c0 : Nat), m ≤ s.size ∧ i = .int .i64 (m : Int) ∧ Hid (PathT ps s l m) ∧ Hid ((tblT ps s).getD m Option.none = some c0) ∧ Hid (GrowI w2 w2.heap.size wr q (waysI l))) (fun _ i _ => s.size - (intOf i).toNat)
    case atStart => exact ⟨0, [], vv, Nat.zero_le _, rfl, PathTo.start, HO.out, GrowI.start w2⟩
    case round =>
      obtain ⟨m, l, c0, hm, rfl, hpt, htm, hg⟩ := hrel
      have HTM := Lib.hid htm.out
      have hs0r := hg.out.2.1.size
      have hs1r := hg.out.2.2
      by_cases hltm : m < s.size
      · obtain ⟨ib, pb, vb, hnx, hpb, hfb, hlb, htb, _⟩ := nextL_some hltm (fit_hyp HBK.out s m) HTM.out
        have HNX := Lib.hid hnx
        have HPB := Lib.hid hpb
        have HFB := Lib.hid hfb
        have HLB := Lib.hid hlb
        have HTB := Lib.hid htb
        have hcbr := (hg.out.2.1.cell (p := ⟨w.heap.size, 0, Option.none⟩) (by show w.heap.size < w2.heap.size; omega)).trans hcb2
        clear hnx hpb hfb hlb htb
        go_wp2_with fail
        go_loopw [9, 26] (fun b i wr => ∃ j : Nat, j ≤ ps.length ∧ i = .int .i64 j ∧ b = .int .i64 (ixI (fstJ (okL (fitT s) txtLen sigCost ps s.size m c0) ps j)) ∧ Hid (GrowI w2 w2.heap.size wr u7 (waysI l))) (fun _ i _ => ps.length - (intOf i).toNat)
        case atStart => exact ⟨0, Nat.zero_le _, rfl, rfl, hg.out⟩
        case round =>
          obtain ⟨j, hjl, rfl, rfl, hg2⟩ := hrel
          have hs2 := hg2.out.2.1.size
          have hs3 := hg2.out.2.2
          by_cases hltj : j < ps.length
          · obtain ⟨b1, o1, c1, a, t, xs, hv, hb1, hx, hcell1, hcell2, hra, hta⟩ := (HA1.out.below (HB12.out.trans (hg2.out.2.1.mono (by omega))) (by omega)).at_ hltj
            cases hv
            obtain ⟨A2, c2, rfl, hc2, hm2⟩ := Rd.form hra
            have HX := Lib.hid hx
            have hpk := phrOk_txt (bookB_phr HBK.out (List.mem_of_getElem? hx))
            have HPK := Lib.hid hpk
            have HG2 := Lib.hid (hg2.out.belowR ((Below.refl wr.heap.size wr).alloc (Nat.le_refl _) (.cells #[.string t, .slice A2 xs.length c2] 40)))
            have HCL := Lib.hid fun k (hk : k ≤ s.size) => (HG2.out.2.1.cell (p := ⟨bq, k, Option.none⟩) (by show bq < w2.heap.size; omega)).trans (HTC.out k hk)
            clear hx hra hpk
            rcases hbst : fstJ (okL (fitT s) txtLen sigCost ps s.size m c0) ps j with _ | i0
            · have HBS := Lib.hid hbst
              clear hbst
              have cB := fun n => still_of (spBegins_any (s.extract m s.size) t (by simp; omega) hta ((wr.alloc (.cells #[.string t, .slice A2 xs.length c2] 40)).drewN n))
              cases hbg : Lib.hasPrefix (s.extract m s.size).data.toList t.data.toList
              · rw [hbg] at cB
                have CB := Lib.hid cB
                have HBG : Hid (fitT s m (t, xs) = false) := hbg
                clear cB hbg
                simp only [ixI]
                go_wp2_with fail
                go_quiet ((go_at_call 86; exact Calls.quiet_of_same (CB.out _)))
                go_wp2_with fail
                go_roundw
                case rel => exact ⟨j + 1, by omega, by go_num, by rw [fstJ_no HX.out HBS.out (okL_no HBG.out)], HG2.out.belowR (bel_drewN _ _ _)⟩
                case measure => (simp [intOf]; try omega)
              · rw [hbg] at cB
                have CB := Lib.hid cB
                have HBG : Hid (fitT s m (t, xs) = true) := hbg
                have hle := fitT_le HBG.out HPK.out.1
                have hle2 : m + t.size ≤ s.size := hle
                clear cB hbg hle
                obtain ⟨ob, hob⟩ : ∃ ob, (tblT ps s)[m + t.size]? = some ob := ⟨_, List.getElem?_eq_getElem (by unfold tblT; rw [dpL_len]; omega)⟩
                have HOB := Lib.hid hob
                have hcB := HCL.out (m + t.size) hle2
                rw [List.getD_eq_getElem?_getD, hob] at hcB
                simp only [Option.getD_some] at hcB
                clear hob
                have i1 : IntKind.i64.wrap ((m : Int) + (t.size : Int)) = (m : Int) + (t.size : Int) := wrap_in (by omega)
                have i2 : (0 : Int) ≤ (m : Int) + (t.size : Int) := by omega
                have i3 : (m : Int) + (t.size : Int) < (s.size : Int) + 1 := by omega
                have i4 : ((m : Int) + (t.size : Int)).toNat = m + t.size := by omega
                rcases ob with _ | vb
                · simp only [optI] at hcB
                  simp only [ixI]
                  go_wp2_with fail
                  go_quiet ((go_at_call 86; exact Calls.quiet_of_same (CB.out _)))
                  go_wp2_with fail
                  go_roundw
                  case rel => exact ⟨j + 1, by omega, by go_num, by rw [fstJ_no HX.out HBS.out (okL_none (by omega) HPK.out.1 HOB.out)], HG2.out.belowR (bel_drewN _ _ _)⟩
                  case measure => (simp [intOf]; try omega)
                · simp only [optI] at hcB
                  have hvb : (vb : Int) ≤ 120 := by
                    have := dpL_txt HBK.out s s.size (Nat.le_refl _) (m + t.size) vb HOB.out
                    omega
                  have nb : (0 : Int) ≤ (vb : Int) := by omega
                  have hcM := HCL.out m (by omega)
                  rw [HTM.out] at hcM
                  simp only [optI] at hcM
                  have HOK := Lib.hid (okL_some (len := txtLen) (cost := sigCost) (ps := ps) (c := c0) hltm HBG.out HPK.out.1 HOB.out)
                  have hx3 : xs.length ≤ 3 := (phrOk_sig (bookB_phr HBK.out (List.mem_of_getElem? HX.out))).2.1
                  have i5 : IntKind.i64.wrap ((xs.length : Int) + (vb : Int)) = (xs.length : Int) + (vb : Int) := wrap_in (by omega)
                  by_cases heq : xs.length + vb = c0
                  · have heq2 : (xs.length : Int) + (vb : Int) = (c0 : Int) := by omega
                    simp only [ixI]
                    go_wp2_with fail
                    go_quiet ((go_at_call 86; exact Calls.quiet_of_same (CB.out _)))
                    go_wp2_with fail
                    go_roundw
                    case rel => exact ⟨j + 1, by omega, by go_num, by rw [fstJ_yes HX.out HBS.out (by rw [HOK.out]; exact decide_eq_true heq)], HG2.out.belowR (bel_drewN _ _ _)⟩
                    case measure => (simp [intOf]; try omega)
                  · have heq2 : ¬ (xs.length : Int) + (vb : Int) = (c0 : Int) := by omega
                    simp only [ixI]
                    go_wp2_with fail
                    go_quiet ((go_at_call 86; exact Calls.quiet_of_same (CB.out _)))
                    go_wp2_with fail
                    go_roundw
                    case rel => exact ⟨j + 1, by omega, by go_num, by rw [fstJ_no HX.out HBS.out (by rw [HOK.out]; exact decide_eq_false heq)], HG2.out.belowR (bel_drewN _ _ _)⟩
                    case measure => (simp [intOf]; try omega)
            · have HBS := Lib.hid hbst
              clear hbst
              have hi0 : decide ((i0 : Int) < 0) = false := by rw [decide_eq_false_iff_not]; omega
              have hi1 : ¬ (i0 : Int) < 0 := by omega
              simp only [ixI]
              go_wp2_with fail
              go_quiet (fail)
              go_wp2_with fail
              go_roundw
              case rel => exact ⟨j + 1, by omega, by go_num, by rw [fstJ_old HX.out HBS.out], HG2.out.belowR (bel_drewN _ _ _)⟩
              case measure => (simp [intOf]; try omega)
          · obtain rfl : j = ps.length := by omega
            have hbst : fstJ (okL (fitT s) txtLen sigCost ps s.size m c0) ps ps.length = some ib := by rw [fstJ_end, nextL_ok HTM.out]; exact HNX.out
            have hibl : ib < ps.length := (List.getElem?_eq_some_iff.1 HPB.out).1
            obtain ⟨b1, o1, c1, a, t, xs, hv, hb1, hx, hcell1, hcell2, hra, hta⟩ := HA1.out.at_ hibl
            cases hv
            rw [HPB.out] at hx
            cases hx
            have hle := fitT_le HFB.out HLB.out
            have hle2 : m + t.size ≤ s.size := hle
            have HC5 := Lib.hid fun (w5 : World) (hb5 : Below w1.heap.size w1 w5) => (hb5.cell (p := ⟨b1, o1 + ib * 2, Option.none⟩) (by show b1 < _; omega)).trans hcell1
            have HC6 := Lib.hid fun (w5 : World) (hb5 : Below w1.heap.size w1 w5) => (hb5.cell (p := ⟨w.heap.size, 0, Option.none⟩) (by show w.heap.size < w1.heap.size; omega)).trans HCBX.out
            have hll : (waysI l).length ≤ 40 := by rw [waysI_len]; have := hpt.out.short; omega
            have i1 : IntKind.i64.wrap ((m : Int) + (t.size : Int)) = (m : Int) + (t.size : Int) := wrap_in (by omega)
            clear hcell1 hcell2 hra hle
            rw [hbst]
            clear hbst
            simp only [ixI]
            go_wp2_with (at_builtin; refine GrowI.app rfl (.tmp 73) (.tmp 75) rfl hg2.out (by omega) rfl rfl ?_; intro v' w5 hG'; have hb5 := HB12.out.trans (hG'.2.1.mono (by omega)); have d0 := HC6.out w5 hb5; have d1 := HC5.out w5 hb5; have HG6 := Lib.hid hG'; clear hG' hb5)
            go_roundw
            case rel =>
              refine ⟨m + t.size, l ++ [ib], vb, hle2, by go_num, ?_, HTB.out, ?_⟩
              · have h1 := hpt.out.on hltm HNX.out (by rw [lnOf_at HPB.out]; exact HLB.out)
                rw [lnOf_at HPB.out] at h1
                exact h1
              · show GrowI _ _ _ _ _
                rw [waysI_snoc]
                exact HG6.out
            case measure => have h1 : 1 ≤ t.size := HLB.out; show s.size - _ < s.size - _; simp [intOf]; omega
      · obtain rfl : m = s.size := by omega
        have HD := Lib.hid (hpt.out.done (Nat.le_refl _))
        go_wp2_with fail
        go_ret2
        show RetOwT _ _ _ _ _
        rw [show spellL ps s = waysI l by unfold spellL; rw [HO.out, show l = pathT ps s from HD.out], show spellQ ps s = true by unfold spellQ; rw [HO.out]; rfl]
        exact retOwT_from _ hg.out HB2.out (by omega)
end Go.Proofs.Ytjnkdjokbamibaa
