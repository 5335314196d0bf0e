/- Contracts: how many first letters can be spelled; of the program and of the reference. -/
import Derived.Test.YtfiipjdlleihhaaE12
import Derived.Test.YtfiipjdlleihhaaE11
import Derived.Lib.OthersKept
import Derived.StillTailTactics
namespace Go.Proofs.Ytfiipjdlleihhaa
open Go.RowKit
theorem small_lt {s : ByteArray} (h : smallB s.data.toList = true) {k : Nat} (hk : k < s.size) : (s[k]'hk).toNat < 128 := by
  unfold smallB at h
  rw [List.all_eq_true] at h
  have := h (s[k]'hk) (List.getElem_mem (l := s.data.toList) (by simpa using hk))
  simp only [Bool.and_eq_true, decide_eq_true_eq] at this
  omega
theorem own_headO {w : World} {lo hi : Nat} {v : Value} {ps : List Phr} {t : ByteArray} (h : OwI w lo hi v ((tblT ps t).map optI)) :
    ∃ b c, v = .slice (some ⟨b, 0, Option.none⟩) (t.size + 1) c ∧ w.cell? ⟨b, 0, Option.none⟩ = some (.int .i64 (optI ((tblT ps t).getD 0 Option.none))) := by
  have hl : ((tblT ps t).map optI).length = t.size + 1 := by simp [tblT, dpL_len]
  obtain ⟨b, off, c, y, hv, _, hy, hc⟩ := Rd.at_ h.rd (k := 0) (by rw [hl]; omega)
  rcases h.1.2 with ⟨rfl, _⟩ | ⟨g, cap, cur, hv2, _⟩
  · cases hv
  · rw [hv] at hv2
    cases hv2
    rw [hl] at hv
    refine ⟨b, c, hv, ?_⟩
    have e : y = optI ((tblT ps t).getD 0 Option.none) := by
      rw [List.getElem?_map] at hy
      rw [List.getD_eq_getElem?_getD]
      cases e : (tblT ps t)[0]? with
      | none => rw [e] at hy; cases hy
      | some m => rw [e] at hy; cases hy; rfl
    rw [e] at hc
    simpa using hc
theorem spellB_head {ps : List Phr} {s : ByteArray} {m : Nat} {o : Option Nat} (h : (tblT ps (s.extract 0 m)).getD 0 Option.none = o) : spellB ps s m = o.isSome := by unfold spellB; rw [h]
theorem partM_yes {ps : List Phr} {s : ByteArray} {k : Nat} (h : spellB ps s (k + 1) = true) : partM ps s (k + 1) = k + 1 := by unfold partM; rw [h]; rfl
theorem partM_no {ps : List Phr} {s : ByteArray} {k : Nat} (h : spellB ps s (k + 1) = false) : partM ps s (k + 1) = partM ps s k := by rw [partM, h]; rfl
def partV (ps : List Phr) (s : ByteArray) : Nat := partM ps s s.size
set_option maxRecDepth 100000 in
set_option maxHeartbeats 4000000 in
theorem sSpelledPart_any (ps : List Phr) (s : ByteArray) (v : Value) (hi : Nat) (w : World) (hs0 : s.size ≤ maxLen) (h : RdB w hi v ps) (hh : hi ≤ w.heap.size) :
    Calls Try.prog 46 #[v, .string s] w fun e w' => e = .returned (cntV (bookB ps && lettB s) (partV ps s)) ∧ Below w.heap.size w w' := by
  obtain ⟨a, rfl, ha⟩ := h
  obtain ⟨A, c, rfl, hc, hm⟩ := ha.form
  have hba : Below w.heap.size w (w.alloc (.cells #[.slice A ps.length c] 40)) := (Below.refl _ _).alloc (Nat.le_refl _) _
  have HB := Lib.hid hba
  have HA := Lib.hid (ha.below hba hh)
  have HG : Hid (RdB (w.alloc (.cells #[.slice A ps.length c] 40)) hi (.agg #[.slice A ps.length c]) ps) := ⟨_, rfl, HA.out⟩
  have hcb0 : (w.alloc (.cells #[.slice A ps.length c] 40)).cell? ⟨w.heap.size, 0, Option.none⟩ = some (.slice A ps.length c) := (Blk.new w 40 #[.slice A ps.length c]).cell 0
  have HCB := Lib.hid hcb0
  have hsz1 : hi ≤ (w.alloc (.cells #[.slice A ps.length c] 40)).heap.size := by simp; omega
  clear ha hba hcb0
  have cB := spAsked_any ps s (.agg #[.slice A ps.length c]) hi (w.alloc (.cells #[.slice A ps.length c] 40)) hs0 HG.out hsz1
  cases hbr : (bookB ps && lettB s)
  · rw [hbr] at cB
    have CB := Lib.hid cB
    clear cB
    go_enter Try.func46, Try.ntmps46
    go_wp2_with (go_at_call 79; refine CB.out.mono ?_; rintro e w1 ⟨rfl, hb1⟩)
    go_ret2
    exact ⟨ret_val rfl, HB.out.trans (hb1.mono (by simp))⟩
  · rw [hbr] at cB
    have CB := Lib.hid cB
    have HRB := Lib.hid hbr
    rw [Bool.and_eq_true] at hbr
    have HBK := Lib.hid hbr.1
    have hs40 : s.size ≤ 40 := by have := hbr.2; unfold lettB at this; rw [Bool.and_eq_true, decide_eq_true_eq] at this; exact this.2
    have HSM : Hid (smallB s.data.toList = true) := by have := hbr.2; unfold lettB at this; rw [Bool.and_eq_true] at this; exact this.1
    clear cB hbr
    go_enter Try.func46, Try.ntmps46
    go_wp2_with fail
    refine CB.out.mono ?_
    rintro e w1 ⟨rfl, hb1⟩
    have HCB1 := Lib.hid ((hb1.cell (p := ⟨w.heap.size, 0, Option.none⟩) (by simp)).trans HCB.out)
    have hs1 : w.heap.size + 1 ≤ w1.heap.size := by have := hb1.size; simpa using this
    have HA1 := Lib.hid (HA.out.below hb1 hsz1)
    have HB1 := Lib.hid (HB.out.trans (hb1.mono (by simp)))
    clear hb1
    go_wp2_with fail
    go_loopw [6] (fun q wr => ∃ k : Nat, k ≤ s.size ∧ q = .int .i64 ((partM ps s k : Nat) : Int) ∧ Hid (wr.heap[w1.heap.size]? = some (.stringIter s k)) ∧ Hid (Below w1.heap.size w1 wr)) (fun _ wr => s.size - wr.iterPos w1.heap.size)
    case atStart => exact ⟨0, Nat.zero_le _, rfl, World.iter_heap w1 s 0, (Below.refl _ _).alloc (Nat.le_refl _) _⟩
    case round =>
      obtain ⟨k, hk, rfl, hit, hbr⟩ := hrel
      by_cases hlt : k < s.size
      · have hnx := fun ty => Lib.run_next_ascii_at (P := Try.prog) wr w1.heap.size s k ty hit.out hlt (small_lt HSM.out hlt)
        have hb2 : Below w1.heap.size w1 (wr.iterAt w1.heap.size s (k + 1)) := Lib.below_iterAt hbr.out (Nat.le_refl _) s (k + 1)
        have HIT2 : Hid ((wr.iterAt w1.heap.size s (k + 1)).heap[w1.heap.size]? = some (.stringIter s (k + 1))) := Lib.iterAt_heap wr w1.heap.size s k (k + 1) hit.out
        have hcb2 := (hb2.cell (p := ⟨w.heap.size, 0, Option.none⟩) (by show w.heap.size < w1.heap.size; omega)).trans HCB1.out
        have hsz2 : w1.heap.size ≤ (wr.iterAt w1.heap.size s (k + 1)).heap.size := hb2.size
        have HB2 := Lib.hid hb2
        have HIT := Lib.hid hit.out
        clear hb2
        have i1 : IntKind.i64.wrap ((k : Int) + 1) = (k : Int) + 1 := wrap_in (by omega)
        have i2 : (0 : Int) ≤ (k : Int) + 1 := by omega
        have i3 : (k : Int) + 1 ≤ (s.size : Int) := by omega
        have i4 : ((k : Int) + 1).toNat = k + 1 := by omega
        have HHIT : Hid (wr.iterPos w1.heap.size = k) := iterPos_of hit.out
        go_wp2_with fail
        generalize (wr.iterAt w1.heap.size s (k + 1)) = wq at hcb2 hsz2 HB2 HIT2 ⊢
        clear hnx
        have cT := spTable_any ps (s.extract 0 (k + 1)) (.agg #[.slice A ps.length c]) hi wq.drew (show RdB wq.drew hi _ _ from ⟨_, rfl, (HA1.out.below HB2.out.drew (by omega))⟩) (show hi ≤ wq.heap.size by omega) HBK.out (by simp; omega)
        have CT := Lib.hid cT
        clear cT
        go_still_tail 5, (by kernel_rfl)
        change wpList _ _ _ _ _ wq.drew
        go_wp2_with fail
        refine CT.out.mono ?_
        rintro e w3 ⟨q, rfl, hq, hb3⟩
        obtain ⟨bq, cq, rfl, hcq⟩ := own_headO hq
        have hb3' : Below wq.heap.size wq w3 := (Below.refl wq.heap.size wq).drew.trans hb3
        have hlq : w1.heap.size < wq.heap.size := (Array.getElem?_eq_some_iff.1 HIT2.out).1
        have HIT3 : Hid (w3.heap[w1.heap.size]? = some (.stringIter s (k + 1))) := (hb3'.block _ hlq).trans HIT2.out
        have HB3 := Lib.hid (HB2.out.trans (hb3'.mono (by omega)))
        clear hq hb3 hb3' hcb2 i1 i2 i3 i4
        have hs1' : (s.extract 0 (k + 1)).size = k + 1 := by simp; omega
        have HS1' := Lib.hid hs1'
        clear hs1'
        rcases ho : (tblT ps (s.extract 0 (k + 1))).getD 0 Option.none with _ | vv
        · have HO := Lib.hid (spellB_head ho)
          rw [ho] at hcq
          simp only [optI] at hcq
          clear ho
          go_wp2_with fail
          go_roundw
          case rel => exact ⟨k + 1, by omega, by rw [partM_no HO.out], HIT3.out, HB3.out⟩
          case measure => rw [HHIT.out, iterPos_of HIT3.out]; omega
        · have HO := Lib.hid (spellB_head ho)
          rw [ho] at hcq
          simp only [optI] at hcq
          have hvv : (0 : Int) ≤ (vv : Int) := by omega
          clear ho
          go_wp2_with fail
          go_roundw
          case rel => exact ⟨k + 1, by omega, by rw [partM_yes HO.out]; go_num, HIT3.out, HB3.out⟩
          case measure => rw [HHIT.out, iterPos_of HIT3.out]; omega
      · obtain rfl : k = s.size := by omega
        have hnx := fun ty => Lib.run_next_end_at (P := Try.prog) wr w1.heap.size s s.size ty hit.out hlt
        go_wp2_with fail
        go_ret2
        exact ⟨ret_val (by first | rfl | (rw [HRB.out]; rfl)), HB1.out.trans (hbr.out.mono (by omega))⟩
def boolC (f : Nat → Bool) (n : Nat) : List Value := (List.range (n + 1)).map fun p => Value.bool (f p)
theorem boolC_at {f : Nat → Bool} {n p : Nat} (h : p ≤ n) : (boolC f n)[p]? = some (.bool (f p)) := by simp [boolC, show p < n + 1 by omega]
theorem boolC_set {f : Nat → Bool} {n p : Nat} (h : p ≤ n) : (boolC f n).set p (.bool true) = boolC (fun q => f q || q == p) n := by
  apply List.ext_getElem?
  intro i
  by_cases e : i = p
  · subst e
    rw [List.getElem?_set_self (by simp [boolC]; omega), boolC_at h]; simp
  · rw [List.getElem?_set_ne (fun e2 => e e2.symm)]
    by_cases hi : i ≤ n
    · rw [boolC_at hi, boolC_at hi]; simp [e]
    · rw [List.getElem?_eq_none (by simp [boolC]; omega), List.getElem?_eq_none (by simp [boolC]; omega)]
def falses (n : Nat) : Array Value := (List.replicate n (Value.bool false)).toArray
theorem falses_start (n : Nat) : ((falses (n + 1)).setIfInBounds 0 (.bool true)).toList = boolC (fun p => p == 0) n := by
  have e : (falses (n + 1)).toList = boolC (fun _ => false) n := by
    unfold falses boolC
    apply List.ext_getElem?
    intro i
    by_cases hi : i < n + 1 <;> simp [hi]
  rw [Array.toList_setIfInBounds, e, boolC_set (Nat.zero_le _)]
  simp
theorem info_bool : (Try.prog.info? 4).map (fun i => (i.zero, i.size, i.bytes)) = some (some (.bool false), 1, 1) := by kernel_rfl
theorem make_bools (n : Nat) (hn : n ≤ 1099511627776) (w : World) :
    (Instr.makeSlice 81 (.int .i64 (n : Int)) (.int .i64 (n : Int))).run Try.prog w = .ok (.slice (some ⟨w.heap.size, 0, Option.none⟩) n n) (w.alloc (.cells (falses n) 4)) := by
  obtain ⟨i, hi, hz0, hz1, hz2⟩ := info_parts info_bool
  have h := run_make_rowN (P := Try.prog) 81 4 i (.bool false) Try.underlying81 hi hz0 .i64 .i64 n n (Nat.le_refl _) (by rw [hz2]; omega) (by omega) w
  rw [h, hz1]
  have e : madeCells (Value.bool false).cells (n * 1) = falses n := by
    apply Array.ext
    · simp [madeCells, falses]
    · intro j h1 h2
      simp [madeCells, falses, Value.cells, Nat.mod_one]
  rw [e]
def FitsF (ps : List Phr) (s : ByteArray) (f : Nat → Bool) (at_ : Nat) (qs : List Phr) : Prop := ∀ p, p ≤ s.size → (f p = true ↔ RchTo ps s at_ qs p)
def MaxF (ps : List Phr) (s : ByteArray) (m at_ : Nat) (qs : List Phr) : Prop := RchTo ps s at_ qs m ∧ m ≤ s.size ∧ ∀ p, p ≤ s.size → RchTo ps s at_ qs p → p ≤ m
theorem FitsF.no {ps qs : List Phr} {s : ByteArray} {f : Nat → Bool} {at_ : Nat} {q : Phr} (h : FitsF ps s f at_ qs) (hn : ¬ (Rch ps s at_ ∧ fitT s at_ q = true)) : FitsF ps s f at_ (qs ++ [q]) := fun p hp => by rw [RchTo.no hn]; exact h p hp
theorem MaxF.no {ps qs : List Phr} {s : ByteArray} {m at_ : Nat} {q : Phr} (h : MaxF ps s m at_ qs) (hn : ¬ (Rch ps s at_ ∧ fitT s at_ q = true)) : MaxF ps s m at_ (qs ++ [q]) :=
  ⟨(RchTo.no hn).2 h.1, h.2.1, fun p hp hr => h.2.2 p hp ((RchTo.no hn).1 hr)⟩
theorem FitsF.yes {ps qs : List Phr} {s : ByteArray} {f : Nat → Bool} {at_ : Nat} {q : Phr} (h : FitsF ps s f at_ qs) (h1 : Rch ps s at_) (h2 : fitT s at_ q = true) : FitsF ps s (fun p => f p || p == at_ + q.1.size) at_ (qs ++ [q]) := fun p hp => by
  rw [RchTo.yes h1 h2, Bool.or_eq_true, h p hp, beq_iff_eq]
theorem MaxF.yes {ps qs : List Phr} {s : ByteArray} {m at_ : Nat} {q : Phr} (h : MaxF ps s m at_ qs) (h1 : Rch ps s at_) (h2 : fitT s at_ q = true) (hl : at_ + q.1.size ≤ s.size) : MaxF ps s (max m (at_ + q.1.size)) at_ (qs ++ [q]) := by
  refine ⟨(RchTo.yes h1 h2).2 ?_, by have := h.2.1; omega, fun p hp hr => ?_⟩
  · rcases Nat.le_total m (at_ + q.1.size) with e | e
    · rw [Nat.max_eq_right e]; exact .inr rfl
    · rw [Nat.max_eq_left e]; exact .inl h.1
  · rcases (RchTo.yes h1 h2).1 hr with e | e
    · have := h.2.2 p hp e; omega
    · omega
theorem RchTo.at_ {ps qs : List Phr} {s : ByteArray} {k : Nat} (hbk : bookB ps = true) (hq : ∀ q ∈ qs, q ∈ ps) : RchTo ps s k qs k ↔ Rch ps s k := by
  constructor
  · exact fun h => h.rch hq
  · intro h
    rcases h.to hbk (Nat.le_refl k) with e | e | ⟨_, q, e, _⟩
    · exact .inl e
    · exact .inr (.inl e)
    · cases e
theorem FitsF.turn {ps : List Phr} {s : ByteArray} {f : Nat → Bool} {k : Nat} (h : FitsF ps s f k ps) : FitsF ps s f (k + 1) [] := fun p hp => by rw [← RchTo.turn]; exact h p hp
theorem MaxF.turn {ps : List Phr} {s : ByteArray} {m k : Nat} (h : MaxF ps s m k ps) : MaxF ps s m (k + 1) [] := ⟨RchTo.turn.1 h.1, h.2.1, fun p hp hr => h.2.2 p hp (RchTo.turn.2 hr)⟩
theorem MaxF.part {ps : List Phr} {s : ByteArray} {m : Nat} (hbk : bookB ps = true) (h : MaxF ps s m s.size []) : partV ps s = m :=
  partM_eq hbk (Nat.le_refl _) (h.1.rch (fun q hq => by cases hq)) h.2.1 (fun p hp hr => h.2.2 p hp (hr.to hbk hp))
theorem FitsF.start (ps : List Phr) (s : ByteArray) : FitsF ps s (fun p => p == 0) 0 [] := fun p _ => by
  rw [beq_iff_eq]
  constructor
  · exact fun h => .inl h
  · rintro (h | ⟨a, _, h, _⟩ | ⟨_, q, h, _⟩)
    · exact h
    · omega
    · cases h
theorem MaxF.start (ps : List Phr) (s : ByteArray) : MaxF ps s 0 0 [] := ⟨.inl rfl, Nat.zero_le _, fun p hp h => by
  have := (FitsF.start ps s p hp).2 h
  rw [beq_iff_eq] at this; omega⟩
set_option maxRecDepth 100000 in
set_option maxHeartbeats 4000000 in
theorem SpelledPart_any (ps : List Phr) (s : ByteArray) (v : Value) (hi : Nat) (w : World) (hs0 : s.size ≤ maxLen) (h : RdB w hi v ps) (hh : hi ≤ w.heap.size) :
    Calls Try.prog 47 #[v, .string s] w fun e w' => e = .returned (cntV (bookB ps && lettB s) (partV ps s)) ∧ Below w.heap.size w w' := by
  obtain ⟨a, rfl, ha⟩ := h
  obtain ⟨A, c, rfl, hc, hm⟩ := ha.form
  have hba : Below w.heap.size w (w.alloc (.cells #[.slice A ps.length c] 40)) := (Below.refl _ _).alloc (Nat.le_refl _) _
  have HB := Lib.hid hba
  have HA := Lib.hid (ha.below hba hh)
  have HG : Hid (RdB (w.alloc (.cells #[.slice A ps.length c] 40)) hi (.agg #[.slice A ps.length c]) ps) := ⟨_, rfl, HA.out⟩
  have hcb0 : (w.alloc (.cells #[.slice A ps.length c] 40)).cell? ⟨w.heap.size, 0, Option.none⟩ = some (.slice A ps.length c) := (Blk.new w 40 #[.slice A ps.length c]).cell 0
  have HCB := Lib.hid hcb0
  have hsz1 : hi ≤ (w.alloc (.cells #[.slice A ps.length c] 40)).heap.size := by simp; omega
  clear ha hba hcb0
  have cB := IsBook_any ps (.agg #[.slice A ps.length c]) hi (w.alloc (.cells #[.slice A ps.length c] 40)) HG.out hsz1
  cases hbk : bookB ps
  · rw [hbk] at cB
    have CB := Lib.hid cB
    clear cB
    go_enter Try.func47, Try.ntmps47
    go_wp2_with (go_at_call 28; refine CB.out.mono ?_; rintro e w1 ⟨rfl, hb1⟩)
    go_ret2
    exact ⟨ret_val rfl, HB.out.trans (hb1.mono (by simp))⟩
  · rw [hbk] at cB
    have CB := Lib.hid cB
    have HBK := Lib.hid hbk
    clear cB
    go_enter Try.func47, Try.ntmps47
    go_wp2_with fail
    refine CB.out.mono ?_
    rintro e w1 ⟨rfl, hb1⟩
    have hcb := (hb1.cell (p := ⟨w.heap.size, 0, Option.none⟩) (by simp)).trans HCB.out
    have hs1 : w.heap.size + 1 ≤ w1.heap.size := by have := hb1.size; simpa using this
    have HA1 := Lib.hid (HA.out.below hb1 hsz1)
    have HG1 : Hid (RdB w1 hi (.agg #[.slice A ps.length c]) ps) := ⟨_, rfl, HA1.out⟩
    have HB1 := Lib.hid (HB.out.trans (hb1.mono (by simp)))
    clear hb1
    have HCB1 := Lib.hid hcb
    clear hcb
    have cR := isLetters_any s hs0 w1
    cases hrd : lettB s
    · rw [hrd] at cR
      have CR := Lib.hid cR
      have HC1 := HCB1.out
      clear cR
      go_wp2_with (go_at_call 81; refine (CR.out).mono ?_; rintro e w' ⟨rfl, rfl⟩)
      go_ret2
      exact ⟨ret_val (by rw [hrd]; rfl), HB1.out⟩
    · rw [hrd] at cR
      have CR := Lib.hid cR
      have HRB : Hid ((true && lettB s) = true) := hrd
      have hs40 : s.size ≤ 40 := by have := hrd; unfold lettB at this; rw [Bool.and_eq_true, decide_eq_true_eq] at this; exact this.2
      have HSM : Hid (smallB s.data.toList = true) := by have := hrd; unfold lettB at this; rw [Bool.and_eq_true] at this; exact this.1
      have hcb := HCB1.out
      clear cR hrd
      have hmk := make_bools (s.size + 1) (by omega)
      rw [show ((s.size + 1 : Nat) : Int) = (s.size : Int) + 1 from rfl] at hmk
      have HT0 : Hid (Blk ((w1.alloc (.cells ((falses (s.size + 1)).setIfInBounds 0 (.bool true)) 4)).iter s 0) w1.heap.size 4 (boolC (fun p => p == 0) s.size)) := by
        have := (Blk.new w1 4 ((falses (s.size + 1)).setIfInBounds 0 (.bool true))).alloc (.stringIter s 0)
        rw [falses_start] at this
        exact this
      have HI0 : Hid (((w1.alloc (.cells ((falses (s.size + 1)).setIfInBounds 0 (.bool true)) 4)).iter s 0).heap[w1.heap.size + 1]? = some (.stringIter s 0)) := by
        have := World.iter_heap (w1.alloc (.cells ((falses (s.size + 1)).setIfInBounds 0 (.bool true)) 4)) s 0
        simp only [World.size_alloc] at this
        exact this
      have HBI0 : Hid (Below w1.heap.size w1 ((w1.alloc (.cells ((falses (s.size + 1)).setIfInBounds 0 (.bool true)) 4)).iter s 0)) := ((Below.refl _ _).alloc (Nat.le_refl _) _).alloc (by simp) _
      have hz0 : (w1.alloc (.cells (falses (s.size + 1)) 4)).cell? ⟨w1.heap.size, 0, Option.none⟩ = some (.bool false) := by
        have := (Blk.new w1 4 (falses (s.size + 1))).cell 0
        rw [show (falses (s.size + 1)).toList[0]? = some (.bool false) by simp [falses]] at this
        exact this
      go_wp2_with (go_at_call 81; refine (CR.out).mono ?_; rintro e w' ⟨rfl, rfl⟩)
      go_loopw [7] (fun q wr => ∃ (k m : Nat) (f : Nat → Bool), k ≤ s.size ∧ q = .int .i64 (m : Int) ∧ Hid (Blk wr w1.heap.size 4 (boolC f s.size)) ∧ Hid (FitsF ps s f k []) ∧ Hid (MaxF ps s m k []) ∧ Hid (wr.heap[w1.heap.size + 1]? = some (.stringIter s k)) ∧ Hid (Below w1.heap.size w1 wr)) (fun _ wr => s.size - wr.iterPos (w1.heap.size + 1))
      case atStart => exact ⟨0, 0, fun p => p == 0, Nat.zero_le _, rfl, HT0.out, FitsF.start ps s, MaxF.start ps s, HI0.out, HBI0.out⟩
      case round =>
        obtain ⟨k, m, f, hk, rfl, hblk, hff, hmf, hit, hbr⟩ := hrel
        have hszr : w1.heap.size + 2 ≤ wr.heap.size := by have := (Array.getElem?_eq_some_iff.1 hit.out).1; omega
        by_cases hlt : k < s.size
        · have hnx := fun ty => Lib.run_next_ascii_at (P := Try.prog) wr (w1.heap.size + 1) s k ty hit.out hlt (small_lt HSM.out hlt)
          have hb2 : Below w1.heap.size w1 (wr.iterAt (w1.heap.size + 1) s (k + 1)) := Lib.below_iterAt hbr.out (by omega) s (k + 1)
          have HIT2 : Hid ((wr.iterAt (w1.heap.size + 1) s (k + 1)).heap[w1.heap.size + 1]? = some (.stringIter s (k + 1))) := Lib.iterAt_heap wr (w1.heap.size + 1) s k (k + 1) hit.out
          have hbl2 : Blk (wr.iterAt (w1.heap.size + 1) s (k + 1)) w1.heap.size 4 (boolC f s.size) := (Lib.iterAt_other wr (w1.heap.size + 1) w1.heap.size s (k + 1) (by omega)).trans hblk.out
          have hcb2 := (hb2.cell (p := ⟨w.heap.size, 0, Option.none⟩) (by show w.heap.size < w1.heap.size; omega)).trans HCB1.out
          have hsz2 : w1.heap.size + 2 ≤ (wr.iterAt (w1.heap.size + 1) s (k + 1)).heap.size := by rw [Lib.iterAt_size]; exact hszr
          have HB2 := Lib.hid hb2
          have HBL2 := Lib.hid hbl2
          have HHIT : Hid (wr.iterPos (w1.heap.size + 1) = k) := iterPos_of hit.out
          clear hb2 hbl2
          go_wp2_with fail
          clear hnx
          generalize (wr.iterAt (w1.heap.size + 1) s (k + 1)) = wq at hcb2 hsz2 HB2 HIT2 HBL2 ⊢
          go_loopw [7, 33] (fun q i wr => ∃ (j : Nat) (f : Nat → Bool) (m : Nat), j ≤ ps.length ∧ i = .int .i64 j ∧ q = .int .i64 (m : Int) ∧ Hid (Blk wr w1.heap.size 4 (boolC f s.size)) ∧ Hid (FitsF ps s f k (ps.take j)) ∧ Hid (MaxF ps s m k (ps.take j)) ∧ Hid (wr.heap[w1.heap.size + 1]? = some (.stringIter s (k + 1))) ∧ Hid (Below w1.heap.size w1 wr)) (fun _ i _ => ps.length - (intOf i).toNat)
          case atStart => exact ⟨0, f, m, Nat.zero_le _, rfl, rfl, HBL2.out, hff.out, hmf.out, HIT2.out, HB2.out⟩
          case round =>
            obtain ⟨j, f, m, hjl, rfl, rfl, hblk2, hff, hmf, hit2, hbr2⟩ := hrel
            have hszw : w1.heap.size + 2 ≤ wr.heap.size := by have := (Array.getElem?_eq_some_iff.1 hit2.out).1; omega
            by_cases hltj : j < ps.length
            · obtain ⟨b1, o1, c1, a, t, xs, hv, hb1, hx, hcell1, hcell2, hra, hta⟩ := (HA1.out.below hbr2.out (by omega)).at_ hltj
              cases hv
              obtain ⟨A2, c2, rfl, hc2, hm2⟩ := Rd.form hra
              have HX := Lib.hid hx
              have HBP := Lib.hid (hbr2.out.alloc (show w1.heap.size ≤ wr.heap.size by omega) (.cells #[.string t, .slice A2 xs.length c2] 66))
              have HBLP : Hid (Blk (wr.alloc (.cells #[.string t, .slice A2 xs.length c2] 66)) w1.heap.size 4 (boolC f s.size)) := hblk2.out.alloc _
              have HITP : Hid ((wr.alloc (.cells #[.string t, .slice A2 xs.length c2] 66)).heap[w1.heap.size + 1]? = some (.stringIter s (k + 1))) := (Below.heap_alloc wr _ _ (by omega)).trans hit2.out
              have cf := HBLP.out.cell k
              rw [boolC_at (by omega)] at cf
              have hqs : ∀ q ∈ ps.take j, q ∈ ps := fun q hq => List.mem_of_mem_take hq
              have hRk := (hff.out k (by omega)).trans (RchTo.at_ HBK.out hqs)
              have HRK := Lib.hid hRk
              have htm := List.mem_of_getElem? hx
              have htl := phrOk_txt (bookB_phr HBK.out htm)
              have hi0 : (0 : Int) ≤ (k : Int) := by omega
              have hi1 : (k : Int) < (s.size : Int) + 1 := by omega
              have HTL := Lib.hid htl
              clear hx hra hqs hRk htm htl
              have cB := fun n => Try.strings_HasPrefix (s.extract k s.size) t ((wr.alloc (.cells #[.string t, .slice A2 xs.length c2] 66)).drewN n)
              cases hfk : f k
              · rw [hfk] at cf
                have HNO : Hid (¬ (Rch ps s k ∧ fitT s k (t, xs) = true)) := fun h => by have := HRK.out.2 h.1; rw [hfk] at this; cases this
                clear cB
                go_wp2_with fail
                go_quiet (fail)
                go_wp2_with fail
                go_roundw
                case rel => exact ⟨j + 1, f, m, by omega, by go_num, rfl, HBLP.out, by show FitsF _ _ _ _ _; rw [take_snocN HX.out]; exact hff.out.no HNO.out, by show MaxF _ _ _ _ _; rw [take_snocN HX.out]; exact hmf.out.no HNO.out, HITP.out, HBP.out.trans (bel_drewN _ _ _)⟩
                case measure => (simp [intOf]; try omega)
              · rw [hfk] at cf
                have HR := Lib.hid (HRK.out.1 hfk)
                cases hbg : Lib.hasPrefix (s.extract k s.size).data.toList t.data.toList
                · rw [hbg] at cB
                  have CB := Lib.hid cB
                  have HNO : Hid (¬ (Rch ps s k ∧ fitT s k (t, xs) = true)) := fun h => by have := h.2; unfold fitT at this; rw [hbg] at this; cases this
                  clear cB hbg
                  go_wp2_with fail
                  go_quiet ((go_at_call 82; exact Calls.quiet_of_same (CB.out _)))
                  go_wp2_with fail
                  go_roundw
                  case rel => exact ⟨j + 1, f, m, by omega, by go_num, rfl, HBLP.out, by show FitsF _ _ _ _ _; rw [take_snocN HX.out]; exact hff.out.no HNO.out, by show MaxF _ _ _ _ _; rw [take_snocN HX.out]; exact hmf.out.no HNO.out, HITP.out, HBP.out.trans (bel_drewN _ _ _)⟩
                  case measure => (simp [intOf]; try omega)
                · rw [hbg] at cB
                  have CB := Lib.hid cB
                  have HFT : Hid (fitT s k (t, xs) = true) := hbg
                  have hle := fitT_le HFT.out HTL.out.1
                  have hle2 : k + t.size ≤ s.size := hle
                  have hmn : m ≤ s.size := hmf.out.2.1
                  clear cB hbg hle
                  have c9 := HBLP.out.cell (k + t.size)
                  rw [boolC_at hle2] at c9
                  have f9 := HBLP.out.frozen (k + t.size)
                  have i1 : IntKind.i64.wrap ((k : Int) + (t.size : Int)) = (k : Int) + (t.size : Int) := wrap_in (by omega)
                  have i2 : (0 : Int) ≤ (k : Int) + (t.size : Int) := by omega
                  have i3 : (k : Int) + (t.size : Int) < (s.size : Int) + 1 := by omega
                  have i4 : ((k : Int) + (t.size : Int)).toNat = k + t.size := by omega
                  have hst := fun n => (show Blk ((wr.alloc (.cells #[.string t, .slice A2 xs.length c2] 66)).drewN n) w1.heap.size 4 (boolC f s.size) from HBLP.out).set_ (k + t.size) (.bool true)
                  simp only [boolC_set hle2] at hst
                  have HST := Lib.hid hst
                  have HBS := Lib.hid fun n => (HBP.out.trans (bel_drewN w1.heap.size (wr.alloc (.cells #[.string t, .slice A2 xs.length c2] 66)) n)).setCell (p := ⟨w1.heap.size, k + t.size, Option.none⟩) (Nat.le_refl _) (.bool true)
                  have HIS : Hid (∀ n, (((wr.alloc (.cells #[.string t, .slice A2 xs.length c2] 66)).drewN n).setCell ⟨w1.heap.size, k + t.size, Option.none⟩ (.bool true)).heap[w1.heap.size + 1]? = some (.stringIter s (k + 1))) := fun n => (Below.heap_setCell _ _ _ _ (by show w1.heap.size + 1 ≠ w1.heap.size; omega)).trans (show ((wr.alloc (.cells #[.string t, .slice A2 xs.length c2] 66)).drewN n).heap[w1.heap.size + 1]? = _ from HITP.out)
                  clear hst
                  go_wp2_with fail
                  go_quiet ((go_at_call 82; exact Calls.quiet_of_same (CB.out _)))
                  go_wp2_with fail
                  go_roundw
                  case rel => exact ⟨j + 1, fun p => f p || p == k + t.size, max m (k + t.size), by omega, by go_num, by rw [show ((max m (k + t.size) : Nat) : Int) = max (m : Int) ((k : Int) + (t.size : Int)) by omega], HST.out _, by show FitsF _ _ _ _ _; rw [take_snocN HX.out]; exact hff.out.yes HR.out HFT.out, by show MaxF _ _ _ _ _; rw [take_snocN HX.out]; exact hmf.out.yes HR.out HFT.out hle2, HIS.out _, HBS.out _⟩
                  case measure => (simp [intOf]; try omega)
            · obtain rfl : j = ps.length := by omega
              go_wp2_with fail
              go_roundw
              case rel => exact ⟨k + 1, m, f, by omega, rfl, hblk2.out, by have := hff.out; rw [List.take_of_length_le (Nat.le_refl _)] at this; exact this.turn, by have := hmf.out; rw [List.take_of_length_le (Nat.le_refl _)] at this; exact this.turn, hit2.out, hbr2.out⟩
              case measure => rw [HHIT.out, iterPos_of hit2.out]; omega
        · obtain rfl : k = s.size := by omega
          have hnx := fun ty => Lib.run_next_end_at (P := Try.prog) wr (w1.heap.size + 1) s s.size ty hit.out hlt
          go_wp2_with fail
          go_ret2
          exact ⟨ret_val (by rw [hmf.out.part HBK.out]; first | rfl | (rw [HRB.out]; rfl)), HB1.out.trans (hbr.out.mono (by omega))⟩
end Go.Proofs.Ytfiipjdlleihhaa
