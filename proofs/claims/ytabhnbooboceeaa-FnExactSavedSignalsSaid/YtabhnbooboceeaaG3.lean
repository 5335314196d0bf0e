/- Contracts: the signals that are saved against letters one by one; of the program and of the reference. -/
import Derived.Test.YtabhnbooboceeaaG2
import Derived.Test.YtabhnbooboceeaaG4
import Derived.Lib.OthersKept
import Derived.StillTailTactics
namespace Go.Proofs.Ytabhnbooboceeaa
open Go.RowKit
theorem lettB_small {s : ByteArray} (h : lettB s = true) : smallB s.data.toList = true := by unfold lettB at h; rw [Bool.and_eq_true] at h; exact h.1
set_option maxRecDepth 100000 in
set_option maxHeartbeats 4000000 in
theorem SavedSignals_any (ps : List Phr) (s : ByteArray) (v : Value) (hi : Nat) (w : World) (hs0 : s.size ≤ maxLen) (h : RdB w hi v ps) (hh : hi ≤ w.heap.size) :
    Calls Try.prog 30 #[v, .string s] w fun e w' => e = .returned (savV (savedO ps s)) ∧ Below w.heap.size w w' := by
  obtain ⟨a, rfl, ha⟩ := h
  obtain ⟨A, c, rfl, hc, hm⟩ := ha.form
  have hba : Below w.heap.size w (w.alloc (.cells #[.slice A ps.length c] 30)) := (Below.refl _ _).alloc (Nat.le_refl _) _
  have HB := Lib.hid hba
  have HA := Lib.hid (ha.below hba hh)
  have HG : Hid (RdB (w.alloc (.cells #[.slice A ps.length c] 30)) hi (.agg #[.slice A ps.length c]) ps) := ⟨_, rfl, HA.out⟩
  have hcb0 : (w.alloc (.cells #[.slice A ps.length c] 30)).cell? ⟨w.heap.size, 0, Option.none⟩ = some (.slice A ps.length c) := (Blk.new w 30 #[.slice A ps.length c]).cell 0
  have HCB := Lib.hid hcb0
  have hsz1 : hi ≤ (w.alloc (.cells #[.slice A ps.length c] 30)).heap.size := by simp; omega
  clear ha hba hcb0
  have cS := LeastSignals_any ps s (.agg #[.slice A ps.length c]) hi (w.alloc (.cells #[.slice A ps.length c] 30)) hs0 HG.out hsz1
  rcases ho : leastO ps s with _ | n
  · rw [ho] at cS
    simp only [lstV] at cS
    have CS := Lib.hid cS
    have HO := Lib.hid ho
    clear cS ho
    go_enter Try.func30, Try.ntmps30
    go_wp2_with fail
    refine CS.out.mono ?_
    rintro e w1 ⟨rfl, hb1⟩
    have HB1 := Lib.hid (HB.out.trans (hb1.mono (by simp)))
    clear hb1
    go_wp2_with fail
    go_ret2
    exact ⟨ret_val (by rw [savedO_no HO.out]; rfl), HB1.out⟩
  · rw [ho] at cS
    simp only [lstV] at cS
    have CS := Lib.hid cS
    have HO := Lib.hid ho
    have hb := leastO_ask ho
    rw [Bool.and_eq_true] at hb
    have HBK := Lib.hid hb.1
    have hs40 := lettB_len hb.2
    have HSM := Lib.hid (lettB_small hb.2)
    have hn120 : n ≤ 120 := by have := enc_le ps s; rw [enc_len ho] at this; exact this
    clear cS ho hb
    go_enter Try.func30, Try.ntmps30
    go_wp2_with fail
    refine CS.out.mono ?_
    rintro e w1 ⟨rfl, hb1⟩
    have HCB1 := Lib.hid ((hb1.cell (p := ⟨w.heap.size, 0, Option.none⟩) (by simp)).trans HCB.out)
    have hs1 : w.heap.size + 1 ≤ w1.heap.size := by have := hb1.size; simpa using this
    have HA1 := Lib.hid (HA.out.below hb1 hsz1)
    have HB1 := Lib.hid (HB.out.trans (hb1.mono (by simp)))
    clear hb1
    go_wp2_with fail
    go_loopw [8] (fun q wr => ∃ k a : Nat, k ≤ s.size ∧ q = .int .i64 (a : Int) ∧ Hid (savK ps s k = some a) ∧ Hid (wr.heap[w1.heap.size]? = some (.stringIter s k)) ∧ Hid (Below w1.heap.size w1 wr)) (fun _ wr => s.size - wr.iterPos w1.heap.size)
    case atStart => exact ⟨0, 0, Nat.zero_le _, rfl, rfl, World.iter_heap w1 s 0, (Below.refl _ _).alloc (Nat.le_refl _) _⟩
    case round =>
      obtain ⟨k, a, hk, rfl, hsv, hit, hbr⟩ := hrel
      have ha3 := savK_bd HBK.out k a hsv.out
      by_cases hlt : k < s.size
      · have hnx := fun ty => Lib.run_next_ascii_at (P := Try.prog) wr w1.heap.size s k ty hit.out hlt (small_lt HSM.out hlt)
        have hb2 : Below w1.heap.size w1 (wr.iterAt w1.heap.size s (k + 1)) := Lib.below_iterAt hbr.out (Nat.le_refl _) s (k + 1)
        have HIT2 : Hid ((wr.iterAt w1.heap.size s (k + 1)).heap[w1.heap.size]? = some (.stringIter s (k + 1))) := Lib.iterAt_heap wr w1.heap.size s k (k + 1) hit.out
        have hcb2 := (hb2.cell (p := ⟨w.heap.size, 0, Option.none⟩) (by show w.heap.size < w1.heap.size; omega)).trans HCB1.out
        have hsz2 : w1.heap.size ≤ (wr.iterAt w1.heap.size s (k + 1)).heap.size := hb2.size
        have HB2 := Lib.hid hb2
        have HIT := Lib.hid hit.out
        clear hb2
        have i1 : IntKind.i64.wrap ((k : Int) + 1) = (k : Int) + 1 := wrap_in (by omega)
        have i2 : (0 : Int) ≤ (k : Int) + 1 := by omega
        have i3 : (k : Int) + 1 ≤ (s.size : Int) := by omega
        have i4 : ((k : Int) + 1).toNat = k + 1 := by omega
        have i5 : (k : Int) ≤ (k : Int) + 1 := by omega
        have HHIT : Hid (wr.iterPos w1.heap.size = k) := iterPos_of hit.out
        go_wp2_with fail
        generalize (wr.iterAt w1.heap.size s (k + 1)) = wq at hcb2 hsz2 HB2 HIT2 ⊢
        clear hnx
        have lb := later_cell (B := wq.heap.size) hcb2 (by omega)
        have cT := fun x : LaterW wq.heap.size wq => FindPhrase_any ps (s.extract k (k + 1)) (.agg #[.slice A ps.length c]) hi x.val (by unfold maxLen; simp; omega) ⟨_, rfl, (HA1.out.below (HB2.out.trans (x.bel.mono (by omega))) (by omega))⟩ (by have := x.bel.size; omega)
        simp only [HBK.out] at cT
        rcases hix : letIx ps s k with _ | j
        · simp only [show txtIx ps (s.extract k (k + 1)) = Option.none from hix, findV] at cT
          have CT := Lib.hid cT
          have HNO := Lib.hid (savK_no hix hlt)
          clear cT hix
          refine wp_region_later (wq.heap.size) (by kernel_rfl) (by kernel_rfl) ?_; (repeat (go_big_quiet_step ((go_at_call 71; exact later_of (Nat.le_refl _) (CT.out _))))); refine later_nil ?_; intro w2 hb2
          have hb3 := hb2
          clear hb2
          have HB3 := Lib.hid (HB2.out.trans (hb3.mono hsz2))
          clear hb3
          go_wp2_with fail
          go_ret2
          exact ⟨ret_val (by rw [savedO_stop HNO.out]; rfl), HB1.out.trans (HB3.out.mono (by omega))⟩
        · simp only [show txtIx ps (s.extract k (k + 1)) = some j from hix, findV] at cT
          have CT := Lib.hid cT
          clear cT
          refine wp_region_later (wq.heap.size) (by kernel_rfl) (by kernel_rfl) ?_; (repeat (go_big_quiet_step ((go_at_call 71; exact later_of (Nat.le_refl _) (CT.out _))))); refine later_nil ?_; intro w2 hb2
          have hb3 := hb2
          clear hb2
          have hb3' : Below wq.heap.size wq w2 := hb3
          have hlq : w1.heap.size < wq.heap.size := (Array.getElem?_eq_some_iff.1 HIT2.out).1
          have HIT3 : Hid (w2.heap[w1.heap.size]? = some (.stringIter s (k + 1))) := (hb3'.block _ hlq).trans HIT2.out
          have hcb3 := (hb3'.cell (p := ⟨w.heap.size, 0, Option.none⟩) (by show w.heap.size < wq.heap.size; omega)).trans hcb2
          have HB3 := Lib.hid (HB2.out.trans (hb3'.mono (by omega)))
          have hs3 := HB3.out.size
          clear hb3 hb3' hcb2 i1 i2 i3 i4 i5
          obtain ⟨p, hp, hpe⟩ := letIx_at hix
          have hjl : j < ps.length := (List.getElem?_eq_some_iff.1 hp).1
          have hx3 := (phrOk_sig (bookB_phr HBK.out (List.mem_of_getElem? hp))).2.1
          obtain ⟨b2, o2, c2, a2, t, xs, hv, _, hx, hcell2, hcell3, hra, hta⟩ := (HA1.out.below HB3.out (by omega)).at_ hjl
          injection hv with hv1 hv2 hv3
          subst hv1
          rw [hp] at hx
          cases hx
          obtain ⟨A3, c3, rfl, hc3, hm3⟩ := Rd.form hra
          have HST := Lib.hid (savK_step hsv.out hix hp)
          have hx32 : xs.length ≤ 3 := hx3
          clear hv2 hv3 hp hpe hra hcell2 hta hx3
          clear hix
          go_wp2_with fail
          go_roundw
          case rel => exact ⟨k + 1, a + xs.length, by omega, by go_num, HST.out, HIT3.out, HB3.out⟩
          case measure => rw [HHIT.out, iterPos_of HIT3.out]; omega
      · obtain rfl : k = s.size := by omega
        have hnx := fun ty => Lib.run_next_end_at (P := Try.prog) wr w1.heap.size s s.size ty hit.out hlt
        go_wp2_with fail
        go_ret2
        exact ⟨ret_val (by rw [savedO_yes HO.out hsv.out]; rfl), HB1.out.trans (hbr.out.mono (by omega))⟩
set_option maxRecDepth 100000 in
set_option maxHeartbeats 4000000 in
theorem sSavedSignals_any (ps : List Phr) (s : ByteArray) (v : Value) (hi : Nat) (w : World) (hs0 : s.size ≤ maxLen) (h : RdB w hi v ps) (hh : hi ≤ w.heap.size) :
    Calls Try.prog 29 #[v, .string s] w fun e w' => e = .returned (savV (savedO ps s)) ∧ Below w.heap.size w w' := by
  obtain ⟨a, rfl, ha⟩ := h
  obtain ⟨A, c, rfl, hc, hm⟩ := ha.form
  have hba : Below w.heap.size w (w.alloc (.cells #[.slice A ps.length c] 30)) := (Below.refl _ _).alloc (Nat.le_refl _) _
  have HB := Lib.hid hba
  have HA := Lib.hid (ha.below hba hh)
  have HG : Hid (RdB (w.alloc (.cells #[.slice A ps.length c] 30)) hi (.agg #[.slice A ps.length c]) ps) := ⟨_, rfl, HA.out⟩
  have hcb0 : (w.alloc (.cells #[.slice A ps.length c] 30)).cell? ⟨w.heap.size, 0, Option.none⟩ = some (.slice A ps.length c) := (Blk.new w 30 #[.slice A ps.length c]).cell 0
  have HCB := Lib.hid hcb0
  have hsz1 : hi ≤ (w.alloc (.cells #[.slice A ps.length c] 30)).heap.size := by simp; omega
  clear ha hba hcb0
  have cB := spAsked_any ps s (.agg #[.slice A ps.length c]) hi (w.alloc (.cells #[.slice A ps.length c] 30)) hs0 HG.out hsz1
  cases hbr : (bookB ps && lettB s)
  · rw [hbr] at cB
    have CB := Lib.hid cB
    have HRB := Lib.hid hbr
    clear cB hbr
    go_enter Try.func29, Try.ntmps29
    go_wp2_with (go_at_call 59; refine CB.out.mono ?_; rintro e w1 ⟨rfl, hb1⟩)
    go_ret2
    exact ⟨ret_val (by rw [savedO_no (leastO_no HRB.out)]; rfl), HB.out.trans (hb1.mono (by simp))⟩
  · rw [hbr] at cB
    have CB := Lib.hid cB
    have HRB := Lib.hid hbr
    rw [Bool.and_eq_true] at hbr
    have HBK := Lib.hid hbr.1
    have hs40 : s.size ≤ 40 := by have := hbr.2; unfold lettB at this; rw [Bool.and_eq_true, decide_eq_true_eq] at this; exact this.2
    clear cB hbr
    go_enter Try.func29, Try.ntmps29
    go_wp2_with fail
    refine CB.out.mono ?_
    rintro e w1 ⟨rfl, hb1⟩
    have hcb := (hb1.cell (p := ⟨w.heap.size, 0, Option.none⟩) (by simp)).trans HCB.out
    have hs1 : w.heap.size + 1 ≤ w1.heap.size := by have := hb1.size; simpa using this
    have HA1 := Lib.hid (HA.out.below hb1 hsz1)
    have HG1 : Hid (RdB w1 hi (.agg #[.slice A ps.length c]) ps) := ⟨_, rfl, HA1.out⟩
    have HB1 := Lib.hid (HB.out.trans (hb1.mono (by simp)))
    clear hb1
    go_wp2_with fail
    go_loopw [6, 7] (fun q i wr => ∃ k a : Nat, k ≤ s.size ∧ i = .int .i64 (k : Int) ∧ q = .int .i64 (a : Int) ∧ Hid (savK ps s k = some a) ∧ Hid (Below w1.heap.size w1 wr)) (fun _ i _ => s.size - (intOf i).toNat)
    case atStart => exact ⟨0, 0, Nat.zero_le _, rfl, rfl, rfl, Below.refl _ _⟩
    case round =>
      obtain ⟨k, a, hk, rfl, rfl, hsv, hbr⟩ := hrel
      have ha3 := savK_bd HBK.out k a hsv.out
      have hcbr := (hbr.out.cell (p := ⟨w.heap.size, 0, Option.none⟩) (by show w.heap.size < w1.heap.size; omega)).trans hcb
      have hszr := hbr.out.size
      by_cases hlt : k < s.size
      · skip
        have i1 : IntKind.i64.wrap ((k : Int) + 1) = (k : Int) + 1 := wrap_in (by omega)
        have i2 : (0 : Int) ≤ (k : Int) + 1 := by omega
        have i3 : (k : Int) + 1 ≤ (s.size : Int) := by omega
        have i4 : ((k : Int) + 1).toNat = k + 1 := by omega
        have i5 : (k : Int) ≤ (k : Int) + 1 := by omega
        have lb := later_cell (B := wr.heap.size) hcbr (by omega)
        have cT := fun x : LaterW wr.heap.size wr => bkFind_any ps (s.extract k (k + 1)) (.agg #[.slice A ps.length c]) hi x.val ⟨_, rfl, (HA1.out.below (hbr.out.trans (x.bel.mono (by omega))) (by omega))⟩ (by have := x.bel.size; omega)
        go_wp2_with fail
        rcases hix : letIx ps s k with _ | j
        · simp only [show txtIx ps (s.extract k (k + 1)) = Option.none from hix, ixI] at cT
          have CT := Lib.hid cT
          have HNO := Lib.hid (savK_no hix hlt)
          clear cT hix
          refine wp_region_later (wr.heap.size) (by kernel_rfl) (by kernel_rfl) ?_; (repeat (go_big_quiet_step ((go_at_call 70; exact later_of (Nat.le_refl _) (CT.out _))))); refine later_nil ?_; intro w2 hb2
          have hb3 := hb2
          clear hb2
          have HB3 := Lib.hid (hbr.out.trans (hb3.mono hszr))
          clear hb3
          go_wp2_with fail
          go_ret2
          exact ⟨ret_val (by rw [savedO_stop HNO.out]; rfl), HB1.out.trans (HB3.out.mono (by omega))⟩
        · simp only [show txtIx ps (s.extract k (k + 1)) = some j from hix, ixI] at cT
          have CT := Lib.hid cT
          clear cT
          refine wp_region_later (wr.heap.size) (by kernel_rfl) (by kernel_rfl) ?_; (repeat (go_big_quiet_step ((go_at_call 70; exact later_of (Nat.le_refl _) (CT.out _))))); refine later_nil ?_; intro w2 hb2
          have hb3 := hb2
          clear hb2
          have hb3' : Below wr.heap.size wr w2 := hb3
          have hcb3 := (hb3'.cell (p := ⟨w.heap.size, 0, Option.none⟩) (by show w.heap.size < wr.heap.size; omega)).trans hcbr
          have HB3 := Lib.hid (hbr.out.trans (hb3'.mono (by omega)))
          have hs3 := HB3.out.size
          clear hb3 hb3' hcbr i1 i2 i3 i4 i5
          obtain ⟨p, hp, hpe⟩ := letIx_at hix
          have hjl : j < ps.length := (List.getElem?_eq_some_iff.1 hp).1
          have hx3 := (phrOk_sig (bookB_phr HBK.out (List.mem_of_getElem? hp))).2.1
          obtain ⟨b2, o2, c2, a2, t, xs, hv, _, hx, hcell2, hcell3, hra, hta⟩ := (HA1.out.below HB3.out (by omega)).at_ hjl
          injection hv with hv1 hv2 hv3
          subst hv1
          rw [hp] at hx
          cases hx
          obtain ⟨A3, c3, rfl, hc3, hm3⟩ := Rd.form hra
          have HST := Lib.hid (savK_step hsv.out hix hp)
          have hx32 : xs.length ≤ 3 := hx3
          clear hv2 hv3 hp hpe hra hcell2 hta hx3
          clear hix
          have hj0 : ¬ (j : Int) < 0 := by omega
          go_wp2_with fail
          go_roundw
          case rel => exact ⟨k + 1, a + xs.length, by omega, by go_num, by go_num, HST.out, HB3.out⟩
          case measure => (simp [intOf]; try omega)
      · obtain rfl : k = s.size := by omega
        obtain ⟨n, hn⟩ := sav_least HRB.out hsv.out
        have hn120 : n ≤ 120 := by have := enc_le ps s; rw [enc_len hn] at this; exact this
        have cT := spTable_any ps s (.agg #[.slice A ps.length c]) hi wr ⟨_, rfl, HA1.out.below hbr.out (by omega)⟩ (by omega) HBK.out hs40
        have CT := Lib.hid cT
        have HN := Lib.hid hn
        clear cT hn
        go_wp2_with fail
        refine CT.out.mono ?_
        rintro e w3 ⟨q, rfl, hq, hb3⟩
        obtain ⟨bq, cq, rfl, hcq⟩ := own_headO hq
        rw [← leastO_yes HRB.out, HN.out] at hcq
        simp only [optI] at hcq
        have HB3 := Lib.hid (hbr.out.trans (hb3.mono hszr))
        clear hq hb3
        go_wp2_with fail
        go_ret2
        exact ⟨ret_val (by rw [savedO_yes HN.out hsv.out]; rfl), HB1.out.trans (HB3.out.mono (by omega))⟩
end Go.Proofs.Ytabhnbooboceeaa
