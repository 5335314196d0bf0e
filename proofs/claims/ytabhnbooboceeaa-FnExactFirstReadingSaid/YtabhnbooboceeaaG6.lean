/- Contracts: the first reading and the message of signals; of the program and of the reference. -/
import Derived.Test.YtabhnbooboceeaaG5
import Derived.Test.YtabhnbooboceeaaE7
import Derived.StillTailTactics
namespace Go.Proofs.Ytabhnbooboceeaa
open Go.RowKit
theorem begB_drop {xs sig : List Int} {m : Nat} (h : begB xs (sig.drop m) = true) (hm : m < sig.length) : m + xs.length ≤ sig.length := by
  rw [begB_iff] at h
  have := h.length_le
  rw [List.length_drop] at this
  omega
/-- The number in a box. -/
def boxN (w : World) (q : Value) : Nat := match q with
  | .pointer (some a) => match w.cell? a with
    | some v => (intOf v).toNat
    | Option.none => 0
  | _ => 0
theorem boxN_blk {w : World} {B m : Nat} {t : TypeId} (h : Blk w B t [.int .i64 (m : Int)]) : boxN w (.pointer (some ⟨B, 0, Option.none⟩)) = m := by
  unfold boxN
  dsimp only
  rw [show w.cell? ⟨B, 0, Option.none⟩ = some (.int .i64 (m : Int)) from h.cell 0]
  simp [intOf]
set_option maxRecDepth 100000 in
set_option maxHeartbeats 1600000 in
theorem firstReading1_any (x : Phr) (sig : List Int) (tb : List Nat) (u s : Value) (m B1 B2 B3 bq cq hi hj : Nat) (w : World) (h : RdI w hi u x.2) (g : RdI w hj s sig) (hh : hi ≤ w.heap.size) (hg : hj ≤ w.heap.size) (hB1 : B1 < w.heap.size) (hB2 : B2 < w.heap.size) (hB3 : B3 < w.heap.size) (hbq : bq < w.heap.size)
    (e1 : w.cell? ⟨B1, 0, Option.none⟩ = some s) (e2 : w.cell? ⟨B2, 0, Option.none⟩ = some (.int .i64 (m : Int))) (e3 : w.cell? ⟨B3, 0, Option.none⟩ = some (.slice (some ⟨bq, 0, Option.none⟩) (sig.length + 1) cq)) (ht : ∀ k, k ≤ sig.length → w.cell? ⟨bq, k, Option.none⟩ = some (.int .i64 ((tb.getD k 0 : Nat) : Int))) (hm : m < sig.length) (hlen : sig.length ≤ 60) :
    Calls Try.prog 106 #[.agg #[.string x.1, u], .pointer (some ⟨B1, 0, Option.none⟩), .pointer (some ⟨B2, 0, Option.none⟩), .pointer (some ⟨B3, 0, Option.none⟩)] w fun e w' => e = .returned (.bool (okW (fitS sig) sigLen tb m x)) ∧ Below w.heap.size w w' := by
  obtain ⟨A, c, rfl, hc1, hm1⟩ := Rd.form h
  obtain ⟨A', c', rfl, hc', hm'⟩ := Rd.form g
  obtain ⟨b3, o3, c3, y3, hv3, _, _, _⟩ := Rd.at_ g hm
  injection hv3 with hv4 hv5 hv6
  subst hv4
  clear hv5 hv6
  have hba : Below w.heap.size w (w.alloc (.cells #[.string x.1, .slice A x.2.length c] 54)) := (Below.refl _ _).alloc (Nat.le_refl _) _
  have HB := Lib.hid hba
  have HX : Hid (RdI (w.alloc (.cells #[.string x.1, .slice A x.2.length c] 54)) hi (.slice A x.2.length c) x.2) := RdI.below h hba hh
  have HGD : Hid (RdI (w.alloc (.cells #[.string x.1, .slice A x.2.length c] 54)) hj (.slice (some ⟨b3, o3 + m, Option.none⟩) (sig.length - m) (c' - m)) (sig.drop m)) := (RdI.below g hba hg).drop hm
  have d1 := (hba.cell (p := ⟨B1, 0, Option.none⟩) hB1).trans e1
  have d2 := (hba.cell (p := ⟨B2, 0, Option.none⟩) hB2).trans e2
  have d3 := (hba.cell (p := ⟨B3, 0, Option.none⟩) hB3).trans e3
  have HT := Lib.hid fun k (hk : k ≤ sig.length) => (hba.cell (p := ⟨bq, k, Option.none⟩) hbq).trans (ht k hk)
  clear h g hba e1 e2 e3 ht
  have cB := fun n => begins_any x.2 (sig.drop m) (.slice A x.2.length c) (.slice (some ⟨b3, o3 + m, Option.none⟩) (sig.length - m) (c' - m)) hi hj ((w.alloc (.cells #[.string x.1, .slice A x.2.length c] 54)).drewN n) (show RdI ((w.alloc (.cells #[.string x.1, .slice A x.2.length c] 54)).drewN n) hi _ _ from HX.out) (show RdI ((w.alloc (.cells #[.string x.1, .slice A x.2.length c] 54)).drewN n) hj _ _ from HGD.out)
  cases hbg : begB x.2 (sig.drop m)
  · rw [hbg] at cB
    have CB := Lib.hid cB
    have HBG : Hid (fitS sig m x = false) := hbg
    clear cB hbg
    go_enter Try.func106, Try.ntmps106
    go_wp2_with fail
    go_quiet ((go_at_call 100; exact Calls.quiet_of (CB.out _)))
    go_wp2_with fail
    go_ret
    exact ⟨ret_bool (okW_no HBG.out).symm, HB.out.trans (bel_drewN _ _ _)⟩
  · rw [hbg] at cB
    have CB := Lib.hid cB
    have HBG : Hid (fitS sig m x = true) := hbg
    have hle := begB_drop hbg hm
    clear cB hbg
    have hcB := HT.out (m + x.2.length) hle
    have HOK := Lib.hid (okW_yes (len := sigLen) (tb := tb) HBG.out)
    have i1 : IntKind.i64.wrap ((m : Int) + (x.2.length : Int)) = (m : Int) + (x.2.length : Int) := wrap_in (by omega)
    have i2 : (0 : Int) ≤ (m : Int) + (x.2.length : Int) := by omega
    have i3 : (m : Int) + (x.2.length : Int) < (sig.length : Int) + 1 := by omega
    have i4 : ((m : Int) + (x.2.length : Int)).toNat = m + x.2.length := by omega
    obtain ⟨vb, hvb⟩ : ∃ vb, vb = tb.getD (m + x.2.length) 0 := ⟨_, rfl⟩
    rw [← hvb] at hcB
    have HVB := Lib.hid hvb
    clear hvb
    by_cases hpos : 0 < vb
    · have hp1 : decide ((0 : Int) < (vb : Int)) = true := by rw [decide_eq_true_eq]; omega
      have hp2 : (0 : Int) < (vb : Int) := by omega
      go_enter Try.func106, Try.ntmps106
      go_wp2_with fail
      go_quiet ((go_at_call 100; exact Calls.quiet_of (CB.out _)))
      go_wp2_with fail
      go_ret
      exact ⟨ret_bool (by rw [HOK.out]; exact (decide_eq_true (by show 0 < tb.getD (m + x.2.length) 0; rw [← HVB.out]; exact hpos)).symm), HB.out.trans (bel_drewN _ _ _)⟩
    · have hp1 : decide ((0 : Int) < (vb : Int)) = false := by rw [decide_eq_false_iff_not]; omega
      have hp2 : ¬ (0 : Int) < (vb : Int) := by omega
      go_enter Try.func106, Try.ntmps106
      go_wp2_with fail
      go_quiet ((go_at_call 100; exact Calls.quiet_of (CB.out _)))
      go_wp2_with fail
      go_ret
      exact ⟨ret_bool (by rw [HOK.out]; exact (decide_eq_false (by show ¬ 0 < tb.getD (m + x.2.length) 0; rw [← HVB.out]; exact hpos)).symm), HB.out.trans (bel_drewN _ _ _)⟩
set_option maxRecDepth 100000 in
set_option maxHeartbeats 4000000 in
theorem firstReading_any (ps : List Phr) (sig : List Int) (v u : Value) (hi hj : Nat) (w : World) (h : RdB w hi v ps) (g : RdI w hj u sig) (hh : hi ≤ w.heap.size) (hg : hj ≤ w.heap.size) (hbk : bookB ps = true) (hlen : sig.length ≤ 60) :
    Calls Try.prog 64 #[v, u] w (RetOwT (waysI (readN ps sig)) (readQ ps sig) w) := by
  obtain ⟨A', c', rfl, hc', hm'⟩ := Rd.form g
  have G := Lib.hid g
  clear g
  obtain ⟨a, rfl, ha⟩ := h
  obtain ⟨A, c, rfl, hc, hm⟩ := ha.form
  have hba : Below w.heap.size w (w.alloc (.cells #[.slice A ps.length c] 30)) := (Below.refl _ _).alloc (Nat.le_refl _) _
  have HB := Lib.hid hba
  have HA := Lib.hid (ha.below hba hh)
  have HG : Hid (RdB (w.alloc (.cells #[.slice A ps.length c] 30)) hi (.agg #[.slice A ps.length c]) ps) := ⟨_, rfl, HA.out⟩
  have hcb0 : (w.alloc (.cells #[.slice A ps.length c] 30)).cell? ⟨w.heap.size, 0, Option.none⟩ = some (.slice A ps.length c) := (Blk.new w 30 #[.slice A ps.length c]).cell 0
  have HCB := Lib.hid hcb0
  have hsz1 : hi ≤ (w.alloc (.cells #[.slice A ps.length c] 30)).heap.size := by simp; omega
  clear ha hba hcb0
  have HBK := Lib.hid hbk
  clear hbk
  have HB01 : Hid (Below w.heap.size w ((w.alloc (.cells #[.slice A ps.length c] 30)).alloc (.cells #[.slice A' sig.length c'] 37))) := HB.out.alloc (by simp) _
  have HA1 : Hid (RdPS ((w.alloc (.cells #[.slice A ps.length c] 30)).alloc (.cells #[.slice A' sig.length c'] 37)) hi (.slice A ps.length c) ps) := HA.out.below ((Below.refl (w.alloc (.cells #[.slice A ps.length c] 30)).heap.size (w.alloc (.cells #[.slice A ps.length c] 30))).alloc (Nat.le_refl _) _) (by simp; omega)
  have HG1 : Hid (RdB ((w.alloc (.cells #[.slice A ps.length c] 30)).alloc (.cells #[.slice A' sig.length c'] 37)) hi (.agg #[.slice A ps.length c]) ps) := ⟨_, rfl, HA1.out⟩
  have G1 : Hid (RdI ((w.alloc (.cells #[.slice A ps.length c] 30)).alloc (.cells #[.slice A' sig.length c'] 37)) hj (.slice A' sig.length c') sig) := RdI.below G.out HB01.out hg
  have hcb1 : ((w.alloc (.cells #[.slice A ps.length c] 30)).alloc (.cells #[.slice A' sig.length c'] 37)).cell? ⟨w.heap.size, 0, Option.none⟩ = some (.slice A ps.length c) := (((Below.refl (w.alloc (.cells #[.slice A ps.length c] 30)).heap.size (w.alloc (.cells #[.slice A ps.length c] 30))).alloc (Nat.le_refl _) (.cells #[.slice A' sig.length c'] 37)).cell (p := ⟨w.heap.size, 0, Option.none⟩) (by simp)).trans HCB.out
  have hcs1 : ((w.alloc (.cells #[.slice A ps.length c] 30)).alloc (.cells #[.slice A' sig.length c'] 37)).cell? ⟨w.heap.size + 1, 0, Option.none⟩ = some (.slice A' sig.length c') := by
    have := (Blk.new (w.alloc (.cells #[.slice A ps.length c] 30)) 37 #[.slice A' sig.length c']).cell 0
    simp at this ⊢
  have HCB1 := Lib.hid hcb1
  have HCS1 := Lib.hid hcs1
  have hsz2 : w.heap.size + 2 ≤ ((w.alloc (.cells #[.slice A ps.length c] 30)).alloc (.cells #[.slice A' sig.length c'] 37)).heap.size := by simp
  clear hcb1 hcs1
  go_enter Try.func64, Try.ntmps64
  go_wp2_with fail
  have hcb1 := HCB1.out
  have hcs1 := HCS1.out
  generalize ((w.alloc (.cells #[.slice A ps.length c] 30)).alloc (.cells #[.slice A' sig.length c'] 37)) = w1 at HB01 HA1 HG1 G1 HCB1 HCS1 hcb1 hcs1 hsz2 ⊢
  have cT := readings_any ps sig (.agg #[.slice A ps.length c]) (.slice A' sig.length c') hi hj w1 HG1.out G1.out (by omega) (by omega) HBK.out hlen
  have CT := Lib.hid cT
  clear cT
  go_wp2_with fail
  refine CT.out.mono ?_
  rintro e w2 ⟨q, rfl, hq, hb2⟩
  obtain ⟨bq, cq, rfl, hbq, htc⟩ := own_cellsW (tbS_len ps sig) hq
  have hs2 := hb2.size
  have hb3 : Below w2.heap.size w2 (w2.alloc (.cells #[.slice (some ⟨bq, 0, Option.none⟩) (sig.length + 1) cq] 37)) := (Below.refl _ _).alloc (Nat.le_refl _) _
  have hb13 : Below w1.heap.size w1 (w2.alloc (.cells #[.slice (some ⟨bq, 0, Option.none⟩) (sig.length + 1) cq] 37)) := hb2.trans (hb3.mono hs2)
  have htc3 := fun k (hk : k ≤ sig.length) => (hb3.cell (p := ⟨bq, k, Option.none⟩) hbq).trans (htc k hk)
  have hcq := htc3 0 (Nat.zero_le _)
  have HTC := Lib.hid htc3
  have hcb3 := (hb13.cell (p := ⟨w.heap.size, 0, Option.none⟩) (by show w.heap.size < w1.heap.size; omega)).trans hcb1
  have hcs3 := (hb13.cell (p := ⟨w.heap.size + 1, 0, Option.none⟩) (by show w.heap.size + 1 < w1.heap.size; omega)).trans hcs1
  have hcw3 : (w2.alloc (.cells #[.slice (some ⟨bq, 0, Option.none⟩) (sig.length + 1) cq] 37)).cell? ⟨w2.heap.size, 0, Option.none⟩ = some (.slice (some ⟨bq, 0, Option.none⟩) (sig.length + 1) cq) := (Blk.new w2 37 #[.slice (some ⟨bq, 0, Option.none⟩) (sig.length + 1) cq]).cell 0
  have hs3 : w2.heap.size + 1 = (w2.alloc (.cells #[.slice (some ⟨bq, 0, Option.none⟩) (sig.length + 1) cq] 37)).heap.size := by simp
  have HB13 := Lib.hid hb13
  have HCB3 := Lib.hid hcb3
  have HCS3 := Lib.hid hcs3
  have HCW3 := Lib.hid hcw3
  have G3 := Lib.hid (RdI.below G1.out hb13 (by omega))
  have HA3 := Lib.hid (HA1.out.below hb13 (by omega))
  have HB3 := Lib.hid (HB01.out.trans (hb13.mono (by omega)))
  clear hq hb2 hb3 hb13 htc htc3 hcb1 hcs1 hcb3 hcs3
  obtain ⟨vv, hvv⟩ : ∃ vv, vv = (tbS ps sig).getD 0 0 := ⟨_, rfl⟩
  rw [← hvv] at hcq
  have HVV := Lib.hid hvv
  clear hvv
  by_cases hz : vv = 0
  · have hz0 : ((((vv : Nat) : Int)) == 0) = true := by rw [beq_iff_eq]; omega
    have HZ : Hid ((tbS ps sig).getD 0 0 = 0) := by show _ = 0; rw [← HVV.out]; exact hz
    clear hz
    go_wp2_with fail
    go_ret2
    show RetOwT _ _ _ _ _
    rw [readN_no HZ.out, readQ_no HZ.out]
    exact retOwT _ (GrowI.nil HB3.out)
  · have hz0 : ((((vv : Nat) : Int)) == 0) = false := by rw [beq_eq_false_iff_ne]; omega
    have HZ : Hid (0 < (tbS ps sig).getD 0 0) := by show 0 < _; rw [← HVV.out]; omega
    clear hz
    have HN0 : Hid (Blk ((w2.alloc (.cells #[.slice (some ⟨bq, 0, Option.none⟩) (sig.length + 1) cq] 37)).alloc (.cells #[.int .i64 0] 3)) (w2.alloc (.cells #[.slice (some ⟨bq, 0, Option.none⟩) (sig.length + 1) cq] 37)).heap.size 3 [.int .i64 ((0 : Nat) : Int)]) := by
      exact Blk.new (w2.alloc (.cells #[.slice (some ⟨bq, 0, Option.none⟩) (sig.length + 1) cq] 37)) 3 #[.int .i64 0]
    have HS0 : Hid (GrowI (w2.alloc (.cells #[.slice (some ⟨bq, 0, Option.none⟩) (sig.length + 1) cq] 37)) (w2.alloc (.cells #[.slice (some ⟨bq, 0, Option.none⟩) (sig.length + 1) cq] 37)).heap.size ((w2.alloc (.cells #[.slice (some ⟨bq, 0, Option.none⟩) (sig.length + 1) cq] 37)).alloc (.cells #[.int .i64 0] 3)) (.slice Option.none 0 0) []) := (GrowI.start (w2.alloc (.cells #[.slice (some ⟨bq, 0, Option.none⟩) (sig.length + 1) cq] 37))).belowR ((Below.refl _ _).alloc (Nat.le_refl _) _)
    go_wp2_with fail
    generalize hw3 : (w2.alloc (.cells #[.slice (some ⟨bq, 0, Option.none⟩) (sig.length + 1) cq] 37)) = w3 at HB13 HCB3 HCS3 HCW3 G3 HA3 HB3 HTC HN0 HS0 hcq hcw3 hs3 ⊢
    clear hw3 hcq hcw3
    go_wp2_with fail
    go_loopw [7, 8] (fun q i wr => ∃ (m : Nat) (l : List Nat) (B : Nat), m ≤ sig.length ∧ i = .pointer (some ⟨B, 0, Option.none⟩) ∧ Hid (PathR ps sig l m) ∧ Hid (0 < (tbS ps sig).getD m 0) ∧ Hid (GrowI w3 w3.heap.size wr q (waysI l)) ∧ Hid (waysI l = [] → q = .slice Option.none 0 0) ∧ Hid (Blk wr B 3 [.int .i64 (m : Int)]) ∧ Hid (q.ownBlock ≠ some B) ∧ Hid (w3.heap.size ≤ B)) (fun _ i wr => sig.length - boxN wr i)
    case atStart => exact ⟨0, [], w3.heap.size, Nat.zero_le _, rfl, PathTo.start, HZ.out, HS0.out, fun _ => rfl, HN0.out, (by intro e; cases e), Nat.le_refl _⟩
    case round =>
      obtain ⟨m, l, B, hm, rfl, hpt, htm, hg, hnil, hblk, hne, hB3⟩ := hrel
      have HTM := Lib.hid htm.out
      have hs0r := hg.out.2.1.size
      have hBlt := hblk.out.lt
      have hB3o := hB3.out
      have hat := hblk.out.cell 0
      have hcbr := (hg.out.2.1.cell (p := ⟨w.heap.size, 0, Option.none⟩) (by show w.heap.size < w3.heap.size; omega)).trans HCB3.out
      have hcsr := (hg.out.2.1.cell (p := ⟨w.heap.size + 1, 0, Option.none⟩) (by show w.heap.size + 1 < w3.heap.size; omega)).trans HCS3.out
      have hcwr := (hg.out.2.1.cell (p := ⟨w2.heap.size, 0, Option.none⟩) (by show w2.heap.size < w3.heap.size; omega)).trans HCW3.out
      by_cases hltm : m < sig.length
      · obtain ⟨ib, pb, hnx, hpb, hfb, htb⟩ := nextW_some hltm (fitS_hyp HBK.out sig m) HTM.out
        have HNX := Lib.hid hnx
        have HPB := Lib.hid hpb
        have HFB := Lib.hid hfb
        have HTB := Lib.hid htb
        clear hnx hpb hfb htb
        have HAR := Lib.hid (HA3.out.below hg.out.2.1 (by omega))
        have HGR := Lib.hid (RdI.below G3.out hg.out.2.1 (by omega))
        have HTR := Lib.hid fun k (hk : k ≤ sig.length) => (hg.out.2.1.cell (p := ⟨bq, k, Option.none⟩) (by show bq < w3.heap.size; omega)).trans (HTC.out k hk)
        have hpred : PredP 106 #[.pointer (some ⟨w.heap.size + 1, 0, Option.none⟩), .pointer (some ⟨B, 0, Option.none⟩), .pointer (some ⟨w2.heap.size, 0, Option.none⟩)] hi (okW (fitS sig) sigLen (tbS ps sig) m) wr := by
          intro W x u hb hu _
          have hs := hb.size
          refine firstReading1_any x sig (tbS ps sig) u (.slice A' sig.length c') m (w.heap.size + 1) B w2.heap.size bq cq hi hj W hu (RdI.below HGR.out hb (by omega)) (by omega) (by omega) (by omega) (by omega) (by omega) (by omega) ?_ ?_ ?_ ?_ hltm hlen
          · exact (hb.cell (p := ⟨w.heap.size + 1, 0, Option.none⟩) (by show w.heap.size + 1 < _; omega)).trans hcsr
          · exact (hb.cell (p := ⟨B, 0, Option.none⟩) (by show B < _; omega)).trans hat
          · exact (hb.cell (p := ⟨w2.heap.size, 0, Option.none⟩) (by show w2.heap.size < _; omega)).trans hcwr
          · exact fun k hk => (hb.cell (p := ⟨bq, k, Option.none⟩) (by show bq < _; omega)).trans (HTR.out k hk)
        have cI := indexP_any ps _ hi wr _ _ _ HAR.out (by omega) hpred (enters_of Try.func106 (by kernel_rfl) rfl)
        rw [show ps.findIdx? (okW (fitS sig) sigLen (tbS ps sig) m) = some ib from HNX.out] at cI
        simp only [ixI] at cI
        have CI := Lib.hid cI
        clear hpred cI
        go_wp2_with fail
        refine CI.out.mono ?_
        rintro e w5 ⟨rfl, hb5⟩
        have HG5 := Lib.hid (hg.out.belowR hb5)
        have HK5 := Lib.hid (hblk.out.below hb5 hBlt)
        have hs5 := hb5.size
        clear hb5 hcbr hcsr hcwr hat
        have hibl : ib < ps.length := (List.getElem?_eq_some_iff.1 HPB.out).1
        obtain ⟨b1, o1, c1, a, t, xs, hv, hb1, hx, hcell1, hcell2, hra, hta⟩ := HA3.out.at_ hibl
        injection hv with hv1 hv2 hv3
        subst hv1
        rw [HPB.out] at hx
        cases hx
        obtain ⟨A2, c2, rfl, hc2, hm2⟩ := Rd.form hra
        have hpk := phrOk_sig (bookB_phr HBK.out (List.mem_of_getElem? HPB.out))
        have hxs1 : 1 ≤ xs.length := hpk.1
        have hle := fitS_le HFB.out hpk.1
        have hle2 : m + xs.length ≤ sig.length := hle
        have HC5 := Lib.hid fun (w6 : World) (hb6 : Below w3.heap.size w3 w6) => (hb6.cell (p := ⟨b1, o1 + ib * 2 + 1, Option.none⟩) (by show b1 < _; omega)).trans hcell2
        have HC6 := Lib.hid fun (w6 : World) (hb6 : Below w3.heap.size w3 w6) => (hb6.cell (p := ⟨w.heap.size, 0, Option.none⟩) (by show w.heap.size < w3.heap.size; omega)).trans HCB3.out
        have hll : (waysI l).length ≤ 60 := by rw [waysI_len]; have := hpt.out.short; omega
        have i1 : IntKind.i64.wrap ((m : Int) + (xs.length : Int)) = (m : Int) + (xs.length : Int) := wrap_in (by omega)
        clear hcell1 hcell2 hra hle hpk hv2 hv3
        go_wp2_with (at_builtin; refine GrowI.appB rfl (.tmp 25) (.tmp 27) rfl HG5.out hnil.out HK5.out hne.out (by omega) rfl rfl ?_; intro v' w6 hG6 hK6 hne6)
        have d0 := HC6.out w6 hG6.2.1
        have d1 := HC5.out w6 hG6.2.1
        have d2 := hK6.cell 0
        have d3 : w6.drew.cell? ⟨B, 0, Option.none⟩ = some (.int .i64 (m : Int)) := d2
        have d4 : w6.drew.frozen? ⟨B, 0, Option.none⟩ = false := hK6.frozen 0
        have HG6 := Lib.hid hG6
        have HK6 := Lib.hid hK6
        have HNE6 := Lib.hid hne6
        have hs6 := hG6.2.2
        clear hG6 hK6 hne6
        go_still_tail 9, (by kernel_rfl)
        change wpList _ _ _ _ _ w6.drew
        go_wp2_with fail
        go_roundw
        case rel =>
          have hk7 := (Only.refl (some B) w6.drew).setCell (p := ⟨B, 0, Option.none⟩) rfl (.int .i64 ((m : Int) + (xs.length : Int)))
          have hown : OwI (w6.drew.setCell ⟨B, 0, Option.none⟩ (.int .i64 ((m : Int) + (xs.length : Int)))) w3.heap.size w6.heap.size v' (waysI l ++ [(ib : Int)]) := OwI.only (show OwI w6.drew w3.heap.size w6.heap.size v' (waysI l ++ [(ib : Int)]) from HG6.out.own) hk7 (fun g hg e => HNE6.out (by rw [hg, e]))
          have hbel : Below w3.heap.size w3 (w6.drew.setCell ⟨B, 0, Option.none⟩ (.int .i64 ((m : Int) + (xs.length : Int)))) := HG6.out.2.1.drew.setCell hB3o _
          have hsz7 : (w6.drew.setCell ⟨B, 0, Option.none⟩ (.int .i64 ((m : Int) + (xs.length : Int)))).heap.size = w6.heap.size := hk7.size
          have hgr : GrowI w3 w3.heap.size (w6.drew.setCell ⟨B, 0, Option.none⟩ (.int .i64 ((m : Int) + (xs.length : Int)))) v' (waysI l ++ [(ib : Int)]) := ⟨hown.1, hbel, by omega⟩
          refine ⟨m + xs.length, l ++ [ib], w6.heap.size, hle2, by simp, ?_, HTB.out, ?_, ?_, ?_, ?_, ?_⟩
          · have h1 := hpt.out.on hltm HNX.out (by rw [lnOf_at HPB.out]; exact hxs1)
            rw [lnOf_at HPB.out] at h1
            exact h1
          · show GrowI _ _ _ _ _
            rw [waysI_snoc]
            exact hgr.belowR ((Below.refl _ _).alloc (Nat.le_refl _) _)
          · rw [waysI_snoc]; intro e; exact absurd e (by simp)
          · have := Blk.new (w6.drew.setCell ⟨B, 0, Option.none⟩ (.int .i64 ((m : Int) + (xs.length : Int)))) 3 #[.int .i64 ((m + xs.length : Nat) : Int)]
            rw [hsz7] at this
            exact this
          · show v'.ownBlock ≠ _
            intro e
            have := HG6.out.own.2 _ e
            omega
          · show w3.heap.size ≤ _; omega
        case measure =>
          have hsz7 : (w6.setCell ⟨B, 0, Option.none⟩ (.int .i64 ((m : Int) + (xs.length : Int)))).heap.size = w6.heap.size := ((Only.refl (some B) w6).setCell (p := ⟨B, 0, Option.none⟩) rfl _).size
          have h1 : Blk ((w6.setCell ⟨B, 0, Option.none⟩ (.int .i64 ((m : Int) + (xs.length : Int)))).alloc (.cells #[.int .i64 ((m : Int) + (xs.length : Int))] 3)).drew w6.heap.size 3 [.int .i64 ((m + xs.length : Nat) : Int)] := by
            have := Blk.new (w6.setCell ⟨B, 0, Option.none⟩ (.int .i64 ((m : Int) + (xs.length : Int)))) 3 #[.int .i64 ((m + xs.length : Nat) : Int)]
            rw [hsz7] at this
            exact this
          have h2 := boxN_blk h1
          have h3 := boxN_blk hblk.out
          rw [h3]
          have h4 : ∀ z, z = m + xs.length → sig.length - z < sig.length - m := fun z hz => by omega
          exact h4 _ h2
      · obtain rfl : m = sig.length := by omega
        have HD := Lib.hid (hpt.out.done (Nat.le_refl _))
        go_wp2_with fail
        go_ret2
        show RetOwT _ _ _ _ _
        rw [readN_yes HZ.out, readQ_yes HZ.out, show pathR ps sig = l from HD.out.symm]
        exact retOwT_from _ hg.out HB3.out (by omega)
end Go.Proofs.Ytabhnbooboceeaa
