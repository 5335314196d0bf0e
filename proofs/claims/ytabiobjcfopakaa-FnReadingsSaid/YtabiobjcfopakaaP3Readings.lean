/- Texts of one claim, joined: G5, G6, G7, H1, H6, G2, U5, R1, R2, R4, B6, R5, R6, R7. -/
import Derived.BigQuiet
import Derived.StillTailTactics
import Derived.BigRegion
import Derived.Deep.QuietTactic
import Derived.Test.YtabiobjcfopakaaShelf
import Derived.Shelf.Abstract
import Derived.Test.YtabiobjcfopakaaP2Readings
/- Contracts: the first reading of signals; of the program and of the reference. -/
namespace Go.Proofs.Ytabiobjcfopakaa
open Go.RowKit
/-- A table of ways that a call has made: its cells. -/
theorem own_cellsW {w : World} {lo hi n : Nat} {v : Value} {tb : List Nat} (hn : tb.length = n + 1) (h : OwI w lo hi v (waysI tb)) :
    ∃ b c, v = .slice (some ⟨b, 0, Option.none⟩) (n + 1) c ∧ b < hi ∧ ∀ k, k ≤ n → w.cell? ⟨b, k, Option.none⟩ = some (.int .i64 ((tb.getD k 0 : Nat) : Int)) := by
  have hl : (waysI tb).length = n + 1 := by rw [waysI_len, hn]
  have hat := fun k (hk : k ≤ n) => Rd.at_ h.rd (k := k) (by rw [hl]; omega)
  rcases h.1.2 with ⟨rfl, _⟩ | ⟨g, cap, cur, hv2, _⟩
  · obtain ⟨b, off, c, y, hv, _⟩ := hat 0 (Nat.zero_le _)
    cases hv
  · subst hv2
    rw [hl] at hat
    obtain ⟨b, off, c, y, hv, hb, _⟩ := hat 0 (Nat.zero_le _)
    rw [hl]
    cases hv
    refine ⟨_, _, rfl, hb, fun k hk => ?_⟩
    obtain ⟨b, off, c, y, hv, hb, hy, hc⟩ := hat k hk
    cases hv
    have e : y = ((tb.getD k 0 : Nat) : Int) := by
      unfold waysI at hy
      rw [List.getElem?_map] at hy
      rw [List.getD_eq_getElem?_getD]
      cases e : tb[k]? with
      | none => rw [e] at hy; cases hy
      | some m => rw [e] at hy; cases hy; rfl
    rw [e] at hc
    simpa using hc
theorem tbS_len (ps : List Phr) (sig : List Int) : (tbS ps sig).length = sig.length + 1 := dpW_len _ _ _ _ _
theorem okW_no {fit : Nat → Phr → Bool} {len : Phr → Nat} {tb : List Nat} {m : Nat} {p : Phr} (h : fit m p = false) : okW fit len tb m p = false := by unfold okW; rw [h]; rfl
theorem okW_yes {fit : Nat → Phr → Bool} {len : Phr → Nat} {tb : List Nat} {m : Nat} {p : Phr} (h : fit m p = true) : okW fit len tb m p = decide (0 < tb.getD (m + len p) 0) := by unfold okW; rw [h, Bool.true_and]
theorem readQ_eq {ps : List Phr} {sig : List Int} : readQ ps sig = decide (0 < (tbS ps sig).getD 0 0) := rfl
theorem readN_yes {ps : List Phr} {sig : List Int} (h : 0 < (tbS ps sig).getD 0 0) : readN ps sig = pathR ps sig := if_pos h
theorem readN_no {ps : List Phr} {sig : List Int} (h : (tbS ps sig).getD 0 0 = 0) : readN ps sig = [] := if_neg (by show ¬ 0 < (tbS ps sig).getD 0 0; omega)
theorem readQ_no {ps : List Phr} {sig : List Int} (h : (tbS ps sig).getD 0 0 = 0) : readQ ps sig = false := by rw [readQ_eq, h]; rfl
theorem readQ_yes {ps : List Phr} {sig : List Int} (h : 0 < (tbS ps sig).getD 0 0) : readQ ps sig = true := by rw [readQ_eq]; exact decide_eq_true h
/-- One number more behind a row of the call's own; a block of one cell beside it stands. -/
theorem GrowI.appB {w wr : World} {B g : Nat} {v u : Value} {xs : List Int} {ops : Array Oper} {rest : List Oper} {o : Oper} {a : Act} {Q : Exit → Act → World → Prop} {y : Int} (hgd : o.guard = Option.none) (s x : Operand)
    (ho : o.op = .call { callee := .builtin .append, args := #[s, x], argTypes := #[29, 29] }) (hG : GrowI w B wr v xs) (hnil : xs = [] → v = .slice Option.none 0 0) (hblk : Blk wr g 3 [u]) (hne : v.ownBlock ≠ some g) (hlen : xs.length < 1099511627776)
    (hs : a.eval s = v) (hx : a.eval x = .slice (some ⟨wr.heap.size, 0, Option.none⟩) 1 1)
    (h : ∀ v' w', GrowI w B w' v' (xs ++ [y]) → Blk w' g 3 [u] → v'.ownBlock ≠ some g → wpList Try.prog ops Q rest (a.put o.dst v') w') : wpList Try.prog ops Q (o :: rest) a (wr.alloc (.cells #[.int .i64 y] 3)) := by
  obtain ⟨i, hi, hz0, hz1, hz2⟩ := info_parts info_int
  have hg := hblk.lt
  have hblk2 := hblk.alloc (.cells #[.int .i64 y] 3)
  rcases xs with _ | ⟨x0, xs⟩
  · obtain rfl := hnil rfl
    refine wpList_append_own _ hgd s x 29 ho (wr.alloc (.cells #[.int .i64 y] 3)).heap.size 3 i (.int .i64 0) 1 8 Try.underlying29 hi hz0 hz1 hz2 rfl (by decide) _ 0 [] hs (World.ownsRow_nil _ _ _ _) ⟨wr.heap.size, 0, Option.none⟩ 1 1 [.int .i64 y] hx rfl
      (one_cell _ _ _) (by intro u hu; simp at hu; subst hu; rfl) (by unfold maxLen; omega) (by omega) (Nat.le_refl _) ?_
    intro v' w' hown hgr _
    have hB := hG.2.2
    have hsz : (wr.alloc (.cells #[.int .i64 y] 3)).heap.size = wr.heap.size + 1 := by simp
    refine h v' w' ⟨?_, ?_, ?_⟩ ?_ ?_
    · refine ⟨hown.1, ?_⟩
      rcases hown.2 with hn | ⟨k, cap, cur, rfl, hl, rest⟩
      · exact .inl hn
      · exact .inr ⟨k, cap, cur, rfl, by omega, rest⟩
    · exact (hG.2.1.alloc hG.2.2 _).grown hgr (by omega) (fun k hk => by cases hk)
    · have h1 := hgr.size; omega
    · exact (hgr.block g (by omega) (by intro e; cases e)).trans hblk2
    · intro e
      have := (hown.lt g e).1
      omega
  · refine wpList_append_own _ hgd s x 29 ho B 3 i (.int .i64 0) 1 8 Try.underlying29 hi hz0 hz1 hz2 rfl (by decide) v (x0 :: xs).length (ints (x0 :: xs)) hs (hG.1.alloc _) ⟨wr.heap.size, 0, Option.none⟩ 1 1 [.int .i64 y] hx rfl
      (one_cell _ _ _) (by intro u hu; simp at hu; subst hu; rfl) (by unfold maxLen; omega) (by omega) (by simp; have := hG.2.2; omega) ?_
    intro v' w' hown hgr _
    have hb2 : Blk w' g 3 [u] := (hgr.block g (by simp; omega) (fun e => hne e.symm)).trans hblk2
    refine h v' w' ⟨?_, ?_, ?_⟩ hb2 ?_
    · simpa [ints] using hown
    · exact (hG.2.1.alloc hG.2.2 _).grown hgr (by simp; have := hG.2.2; omega) (fun k hk => ((hG.1.alloc (.cells #[.int .i64 y] 3)).lt k hk).1)
    · have h1 := hgr.size; have h2 := hG.2.2; simp at h1; omega
    · intro e
      rcases hown.2 with ⟨rfl, _⟩ | ⟨k, cap, cur, rfl, _, hk, hn, _, hs2, _⟩
      · cases e
      · cases e
        unfold Blk at hb2
        rw [hb2] at hk
        simp at hk
        subst hk
        simp at hn hs2
        omega
set_option maxRecDepth 100000 in
set_option maxHeartbeats 4000000 in
theorem spDecode_any (ps : List Phr) (sig : List Int) (v u : Value) (hi hj : Nat) (w : World) (h : RdB w hi v ps) (g : RdI w hj u sig) (hh : hi ≤ w.heap.size) (hg : hj ≤ w.heap.size) (hbk : bookB ps = true) (hlen : sig.length ≤ 60) :
    Calls Try.prog 176 #[v, u] w (RetOwT (waysI (readN ps sig)) (readQ ps sig) w) := by
  obtain ⟨A', c', rfl, hc', hm'⟩ := Rd.form g
  have G := Lib.hid g
  clear g
  obtain ⟨a, rfl, ha⟩ := h
  obtain ⟨A, c, rfl, hc, hm⟩ := ha.form
  have hba : Below w.heap.size w (w.alloc (.cells #[.slice A ps.length c] 48)) := (Below.refl _ _).alloc (Nat.le_refl _) _
  have HB := Lib.hid hba
  have HA := Lib.hid (ha.below hba hh)
  have HG : Hid (RdB (w.alloc (.cells #[.slice A ps.length c] 48)) hi (.agg #[.slice A ps.length c]) ps) := ⟨_, rfl, HA.out⟩
  have hcb0 : (w.alloc (.cells #[.slice A ps.length c] 48)).cell? ⟨w.heap.size, 0, Option.none⟩ = some (.slice A ps.length c) := (Blk.new w 48 #[.slice A ps.length c]).cell 0
  have HCB := Lib.hid hcb0
  have hsz1 : hi ≤ (w.alloc (.cells #[.slice A ps.length c] 48)).heap.size := by simp; omega
  clear ha hba hcb0
  have HBK := Lib.hid hbk
  have G0 := Lib.hid (RdI.below G.out HB.out hg)
  clear hbk
  go_enter Try.func176, Try.ntmps176
  go_wp2_with fail
  have HA1 := HA
  have HG1 := HG
  have HB1 := HB
  have G1 := G0
  have hcb := HCB.out
  have hs1 : w.heap.size + 1 ≤ (w.alloc (.cells #[.slice A ps.length c] 48)).heap.size := by simp
  generalize (w.alloc (.cells #[.slice A ps.length c] 48)) = w1 at HA HG HB HCB HA1 HG1 HB1 G0 G1 hcb hsz1 hs1 ⊢
  clear HA HG HB HCB G G0
  have cT := spWays_any ps sig (.agg #[.slice A ps.length c]) _ hi hj w1 HG1.out G1.out (by omega) (by omega) HBK.out hlen
  have CT := Lib.hid cT
  clear cT
  go_wp2_with fail
  refine CT.out.mono ?_
  rintro e w2 ⟨q, rfl, hq, hb2⟩
  obtain ⟨bq, cq, rfl, hbq, htc⟩ := own_cellsW (tbS_len ps sig) hq
  have HTC := Lib.hid htc
  have hs2 := hb2.size
  have hcq := htc 0 (Nat.zero_le _)
  have hcb2 := (hb2.cell (p := ⟨w.heap.size, 0, Option.none⟩) (by show w.heap.size < w1.heap.size; omega)).trans hcb
  have HB12 := Lib.hid hb2
  have HCBX := Lib.hid hcb
  have G2 := Lib.hid (RdI.below G1.out hb2 (by omega))
  have HB2 := Lib.hid (HB1.out.trans (hb2.mono (by omega)))
  clear hq hb2 hcb htc
  obtain ⟨vv, hvv⟩ : ∃ vv, vv = (tbS ps sig).getD 0 0 := ⟨_, rfl⟩
  rw [← hvv] at hcq
  have HVV := Lib.hid hvv
  clear hvv
  by_cases hz : vv = 0
  · have hz0 : ((((vv : Nat) : Int)) == 0) = true := by rw [beq_iff_eq]; omega
    have HZ : Hid ((tbS ps sig).getD 0 0 = 0) := by show _ = 0; rw [← HVV.out]; exact hz
    clear hz
    go_wp2_with fail
    go_ret2
    show RetOwT _ _ _ _ _
    rw [readN_no HZ.out, readQ_no HZ.out]
    exact retOwT _ (GrowI.nil HB2.out)
  · have hz0 : ((((vv : Nat) : Int)) == 0) = false := by rw [beq_eq_false_iff_ne]; omega
    have HZ : Hid (0 < (tbS ps sig).getD 0 0) := by show 0 < _; rw [← HVV.out]; omega
    clear hz
    go_wp2_with fail
    go_loopw [7, 8] (fun q i wr => ∃ (m : Nat) (l : List Nat), m ≤ sig.length ∧ i = .int .i64 (m : Int) ∧ Hid (PathR ps sig l m) ∧ Hid (0 < (tbS ps sig).getD m 0) ∧ Hid (GrowI w2 w2.heap.size wr q (waysI l))) (fun _ i _ => sig.length - (intOf i).toNat)
    case atStart => exact ⟨0, [], Nat.zero_le _, rfl, PathTo.start, HZ.out, GrowI.start w2⟩
    case round =>
      obtain ⟨m, l, hm, rfl, hpt, htm, hg⟩ := hrel
      have HTM := Lib.hid htm.out
      have hs0r := hg.out.2.1.size
      have hs1r := hg.out.2.2
      by_cases hltm : m < sig.length
      · obtain ⟨ib, pb, hnx, hpb, hfb, htb⟩ := nextW_some hltm (fitS_hyp HBK.out sig m) HTM.out
        have HNX := Lib.hid hnx
        have HPB := Lib.hid hpb
        have HFB := Lib.hid hfb
        have HTB := Lib.hid htb
        have hcbr := (hg.out.2.1.cell (p := ⟨w.heap.size, 0, Option.none⟩) (by show w.heap.size < w2.heap.size; omega)).trans hcb2
        obtain ⟨b3, o3, c3, y3, hv3, _, _, _⟩ := Rd.at_ G2.out hltm
        injection hv3 with hv4 hv5 hv6
        subst hv4
        clear hv5 hv6
        clear hnx hpb hfb htb
        go_wp2_with fail
        go_loopw [9, 26] (fun b i wr => ∃ j : Nat, j ≤ ps.length ∧ i = .int .i64 j ∧ b = .int .i64 (ixI (fstJ (okW (fitS sig) sigLen (tbS ps sig) m) ps j)) ∧ Hid (GrowI w2 w2.heap.size wr u7 (waysI l))) (fun _ i _ => ps.length - (intOf i).toNat)
        case atStart => exact ⟨0, Nat.zero_le _, rfl, rfl, hg.out⟩
        case round =>
          obtain ⟨j, hjl, rfl, rfl, hg2⟩ := hrel
          have hs2 := hg2.out.2.1.size
          have hs3 := hg2.out.2.2
          by_cases hltj : j < ps.length
          · obtain ⟨b1, o1, c1, a, t, xs, hv, hb1, hx, hcell1, hcell2, hra, hta⟩ := (HA1.out.below (HB12.out.trans (hg2.out.2.1.mono (by omega))) (by omega)).at_ hltj
            cases hv
            obtain ⟨A2, c2, rfl, hc2, hm2⟩ := Rd.form hra
            have HX := Lib.hid hx
            have hpk := phrOk_sig (bookB_phr HBK.out (List.mem_of_getElem? hx))
            have HPK := Lib.hid hpk
            have HG2 := Lib.hid (hg2.out.belowR ((Below.refl wr.heap.size wr).alloc (Nat.le_refl _) (.cells #[.string t, .slice A2 xs.length c2] 60)))
            have HCL := Lib.hid fun k (hk : k ≤ sig.length) => (HG2.out.2.1.cell (p := ⟨bq, k, Option.none⟩) (by show bq < w2.heap.size; omega)).trans (HTC.out k hk)
            have HGD : Hid (RdI (wr.alloc (.cells #[.string t, .slice A2 xs.length c2] 60)) hj (.slice (some ⟨b3, o3 + m, Option.none⟩) (sig.length - m) (c' - m)) (sig.drop m)) := (RdI.below G2.out HG2.out.2.1 (by omega)).drop hltm
            have HRX : Hid (RdI (wr.alloc (.cells #[.string t, .slice A2 xs.length c2] 60)) hi (.slice A2 xs.length c2) xs) := RdI.below hra ((Below.refl wr.heap.size wr).alloc (Nat.le_refl _) _) (by omega)
            clear hx hra hpk
            rcases hbst : fstJ (okW (fitS sig) sigLen (tbS ps sig) m) ps j with _ | i0
            · have HBS := Lib.hid hbst
              clear hbst
              have cB := fun n => bkBegins_any xs (sig.drop m) (.slice A2 xs.length c2) (.slice (some ⟨b3, o3 + m, Option.none⟩) (sig.length - m) (c' - m)) hi hj ((wr.alloc (.cells #[.string t, .slice A2 xs.length c2] 60)).drewN n) (show RdI ((wr.alloc (.cells #[.string t, .slice A2 xs.length c2] 60)).drewN n) hi _ _ from HRX.out) (show RdI ((wr.alloc (.cells #[.string t, .slice A2 xs.length c2] 60)).drewN n) hj _ _ from HGD.out)
              cases hbg : begB xs (sig.drop m)
              · rw [hbg] at cB
                have CB := Lib.hid cB
                have HBG : Hid (fitS sig m (t, xs) = false) := hbg
                clear cB hbg
                simp only [ixI]
                go_wp2_with fail
                go_quiet ((go_at_call 209; exact Calls.quiet_of (CB.out _)))
                go_wp2_with fail
                go_roundw
                case rel => exact ⟨j + 1, by omega, by go_num, by rw [fstJ_no HX.out HBS.out (okW_no HBG.out)], HG2.out.belowR (bel_drewN _ _ _)⟩
                case measure => (simp [intOf]; try omega)
              · rw [hbg] at cB
                have CB := Lib.hid cB
                have HBG : Hid (fitS sig m (t, xs) = true) := hbg
                have hle := fitS_le HBG.out HPK.out.1
                have hle2 : m + xs.length ≤ sig.length := hle
                clear cB hbg hle
                have hcB := HCL.out (m + xs.length) hle2
                have HOK := Lib.hid (okW_yes (len := sigLen) (tb := tbS ps sig) HBG.out)
                have i1 : IntKind.i64.wrap ((m : Int) + (xs.length : Int)) = (m : Int) + (xs.length : Int) := wrap_in (by omega)
                have i2 : (0 : Int) ≤ (m : Int) + (xs.length : Int) := by omega
                have i3 : (m : Int) + (xs.length : Int) < (sig.length : Int) + 1 := by omega
                have i4 : ((m : Int) + (xs.length : Int)).toNat = m + xs.length := by omega
                obtain ⟨vb, hvb⟩ : ∃ vb, vb = (tbS ps sig).getD (m + xs.length) 0 := ⟨_, rfl⟩
                rw [← hvb] at hcB
                have HVB := Lib.hid hvb
                clear hvb
                by_cases hpos : 0 < vb
                · have hp1 : decide ((0 : Int) < (vb : Int)) = true := by rw [decide_eq_true_eq]; omega
                  have hp2 : (0 : Int) < (vb : Int) := by omega
                  simp only [ixI]
                  go_wp2_with fail
                  go_quiet ((go_at_call 209; exact Calls.quiet_of (CB.out _)))
                  go_wp2_with fail
                  go_roundw
                  case rel => exact ⟨j + 1, by omega, by go_num, by rw [fstJ_yes HX.out HBS.out (by rw [HOK.out]; exact decide_eq_true (by show 0 < (tbS ps sig).getD (m + xs.length) 0; rw [← HVB.out]; exact hpos))], HG2.out.belowR (bel_drewN _ _ _)⟩
                  case measure => (simp [intOf]; try omega)
                · have hp1 : decide ((0 : Int) < (vb : Int)) = false := by rw [decide_eq_false_iff_not]; omega
                  have hp2 : ¬ (0 : Int) < (vb : Int) := by omega
                  simp only [ixI]
                  go_wp2_with fail
                  go_quiet ((go_at_call 209; exact Calls.quiet_of (CB.out _)))
                  go_wp2_with fail
                  go_roundw
                  case rel => exact ⟨j + 1, by omega, by go_num, by rw [fstJ_no HX.out HBS.out (by rw [HOK.out]; exact decide_eq_false (by show ¬ 0 < (tbS ps sig).getD (m + xs.length) 0; rw [← HVB.out]; exact hpos))], HG2.out.belowR (bel_drewN _ _ _)⟩
                  case measure => (simp [intOf]; try omega)
            · have HBS := Lib.hid hbst
              clear hbst
              have hi0 : decide ((i0 : Int) < 0) = false := by rw [decide_eq_false_iff_not]; omega
              have hi1 : ¬ (i0 : Int) < 0 := by omega
              simp only [ixI]
              go_wp2_with fail
              go_quiet (fail)
              go_wp2_with fail
              go_roundw
              case rel => exact ⟨j + 1, by omega, by go_num, by rw [fstJ_old HX.out HBS.out], HG2.out.belowR (bel_drewN _ _ _)⟩
              case measure => (simp [intOf]; try omega)
          · obtain rfl : j = ps.length := by omega
            have hbst : fstJ (okW (fitS sig) sigLen (tbS ps sig) m) ps ps.length = some ib := by rw [fstJ_end]; exact HNX.out
            have hibl : ib < ps.length := (List.getElem?_eq_some_iff.1 HPB.out).1
            obtain ⟨b1, o1, c1, a, t, xs, hv, hb1, hx, hcell1, hcell2, hra, hta⟩ := HA1.out.at_ hibl
            cases hv
            rw [HPB.out] at hx
            cases hx
            obtain ⟨A2, c2, rfl, hc2, hm2⟩ := Rd.form hra
            have hpk := phrOk_sig (bookB_phr HBK.out (List.mem_of_getElem? HPB.out))
            have hxs1 : 1 ≤ xs.length := hpk.1
            have hle := fitS_le HFB.out hpk.1
            have hle2 : m + xs.length ≤ sig.length := hle
            have HC5 := Lib.hid fun (w5 : World) (hb5 : Below w1.heap.size w1 w5) => (hb5.cell (p := ⟨b1, o1 + ib * 2 + 1, Option.none⟩) (by show b1 < _; omega)).trans hcell2
            have HC6 := Lib.hid fun (w5 : World) (hb5 : Below w1.heap.size w1 w5) => (hb5.cell (p := ⟨w.heap.size, 0, Option.none⟩) (by show w.heap.size < w1.heap.size; omega)).trans HCBX.out
            have hll : (waysI l).length ≤ 60 := by rw [waysI_len]; have := hpt.out.short; omega
            have i1 : IntKind.i64.wrap ((m : Int) + (xs.length : Int)) = (m : Int) + (xs.length : Int) := wrap_in (by omega)
            clear hcell1 hcell2 hra hle hpk
            rw [hbst]
            clear hbst
            simp only [ixI]
            go_wp2_with (at_builtin; refine GrowI.app rfl (.tmp 54) (.tmp 56) rfl hg2.out (by omega) rfl rfl ?_; intro v' w5 hG'; have hb5 := HB12.out.trans (hG'.2.1.mono (by omega)); have d0 := HC6.out w5 hb5; have d1 := HC5.out w5 hb5; have HG6 := Lib.hid hG'; clear hG' hb5)
            go_roundw
            case rel =>
              refine ⟨m + xs.length, l ++ [ib], hle2, by go_num, ?_, HTB.out, ?_⟩
              · have h1 := hpt.out.on hltm HNX.out (by rw [lnOf_at HPB.out]; exact hxs1)
                rw [lnOf_at HPB.out] at h1
                exact h1
              · show GrowI _ _ _ _ _
                rw [waysI_snoc]
                exact HG6.out
            case measure => show sig.length - _ < sig.length - _; simp [intOf]; omega
      · obtain rfl : m = sig.length := by omega
        have HD := Lib.hid (hpt.out.done (Nat.le_refl _))
        go_wp2_with fail
        go_ret2
        show RetOwT _ _ _ _ _
        rw [readN_yes HZ.out, readQ_yes HZ.out, show pathR ps sig = l from HD.out.symm]
        exact retOwT_from _ hg.out HB2.out (by omega)
end Go.Proofs.Ytabiobjcfopakaa
/- Contracts: the first reading and the message of signals; of the program and of the reference. -/
namespace Go.Proofs.Ytabiobjcfopakaa
open Go.RowKit
theorem begB_drop {xs sig : List Int} {m : Nat} (h : begB xs (sig.drop m) = true) (hm : m < sig.length) : m + xs.length ≤ sig.length := by
  rw [begB_iff] at h
  have := h.length_le
  rw [List.length_drop] at this
  omega
/-- The number in a box. -/
def boxN (w : World) (q : Value) : Nat := match q with
  | .pointer (some a) => match w.cell? a with
    | some v => (intOf v).toNat
    | Option.none => 0
  | _ => 0
theorem boxN_blk {w : World} {B m : Nat} {t : TypeId} (h : Blk w B t [.int .i64 (m : Int)]) : boxN w (.pointer (some ⟨B, 0, Option.none⟩)) = m := by
  unfold boxN
  dsimp only
  rw [show w.cell? ⟨B, 0, Option.none⟩ = some (.int .i64 (m : Int)) from h.cell 0]
  simp [intOf]
set_option maxRecDepth 100000 in
set_option maxHeartbeats 1600000 in
theorem firstReading1_any (x : Phr) (sig : List Int) (tb : List Nat) (u s : Value) (m B1 B2 B3 bq cq hi hj : Nat) (w : World) (h : RdI w hi u x.2) (g : RdI w hj s sig) (hh : hi ≤ w.heap.size) (hg : hj ≤ w.heap.size) (hB1 : B1 < w.heap.size) (hB2 : B2 < w.heap.size) (hB3 : B3 < w.heap.size) (hbq : bq < w.heap.size)
    (e1 : w.cell? ⟨B1, 0, Option.none⟩ = some s) (e2 : w.cell? ⟨B2, 0, Option.none⟩ = some (.int .i64 (m : Int))) (e3 : w.cell? ⟨B3, 0, Option.none⟩ = some (.slice (some ⟨bq, 0, Option.none⟩) (sig.length + 1) cq)) (ht : ∀ k, k ≤ sig.length → w.cell? ⟨bq, k, Option.none⟩ = some (.int .i64 ((tb.getD k 0 : Nat) : Int))) (hm : m < sig.length) (hlen : sig.length ≤ 60) :
    Calls Try.prog 240 #[.agg #[.string x.1, u], .pointer (some ⟨B1, 0, Option.none⟩), .pointer (some ⟨B2, 0, Option.none⟩), .pointer (some ⟨B3, 0, Option.none⟩)] w fun e w' => e = .returned (.bool (okW (fitS sig) sigLen tb m x)) ∧ Below w.heap.size w w' := by
  obtain ⟨A, c, rfl, hc1, hm1⟩ := Rd.form h
  obtain ⟨A', c', rfl, hc', hm'⟩ := Rd.form g
  obtain ⟨b3, o3, c3, y3, hv3, _, _, _⟩ := Rd.at_ g hm
  injection hv3 with hv4 hv5 hv6
  subst hv4
  clear hv5 hv6
  have hba : Below w.heap.size w (w.alloc (.cells #[.string x.1, .slice A x.2.length c] 60)) := (Below.refl _ _).alloc (Nat.le_refl _) _
  have HB := Lib.hid hba
  have HX : Hid (RdI (w.alloc (.cells #[.string x.1, .slice A x.2.length c] 60)) hi (.slice A x.2.length c) x.2) := RdI.below h hba hh
  have HGD : Hid (RdI (w.alloc (.cells #[.string x.1, .slice A x.2.length c] 60)) hj (.slice (some ⟨b3, o3 + m, Option.none⟩) (sig.length - m) (c' - m)) (sig.drop m)) := (RdI.below g hba hg).drop hm
  have d1 := (hba.cell (p := ⟨B1, 0, Option.none⟩) hB1).trans e1
  have d2 := (hba.cell (p := ⟨B2, 0, Option.none⟩) hB2).trans e2
  have d3 := (hba.cell (p := ⟨B3, 0, Option.none⟩) hB3).trans e3
  have HT := Lib.hid fun k (hk : k ≤ sig.length) => (hba.cell (p := ⟨bq, k, Option.none⟩) hbq).trans (ht k hk)
  clear h g hba e1 e2 e3 ht
  have cB := fun n => begins_any x.2 (sig.drop m) (.slice A x.2.length c) (.slice (some ⟨b3, o3 + m, Option.none⟩) (sig.length - m) (c' - m)) hi hj ((w.alloc (.cells #[.string x.1, .slice A x.2.length c] 60)).drewN n) (show RdI ((w.alloc (.cells #[.string x.1, .slice A x.2.length c] 60)).drewN n) hi _ _ from HX.out) (show RdI ((w.alloc (.cells #[.string x.1, .slice A x.2.length c] 60)).drewN n) hj _ _ from HGD.out)
  cases hbg : begB x.2 (sig.drop m)
  · rw [hbg] at cB
    have CB := Lib.hid cB
    have HBG : Hid (fitS sig m x = false) := hbg
    clear cB hbg
    go_enter Try.func240, Try.ntmps240
    go_wp2_with fail
    go_quiet ((go_at_call 208; exact Calls.quiet_of (CB.out _)))
    go_wp2_with fail
    go_ret
    exact ⟨ret_bool (okW_no HBG.out).symm, HB.out.trans (bel_drewN _ _ _)⟩
  · rw [hbg] at cB
    have CB := Lib.hid cB
    have HBG : Hid (fitS sig m x = true) := hbg
    have hle := begB_drop hbg hm
    clear cB hbg
    have hcB := HT.out (m + x.2.length) hle
    have HOK := Lib.hid (okW_yes (len := sigLen) (tb := tb) HBG.out)
    have i1 : IntKind.i64.wrap ((m : Int) + (x.2.length : Int)) = (m : Int) + (x.2.length : Int) := wrap_in (by omega)
    have i2 : (0 : Int) ≤ (m : Int) + (x.2.length : Int) := by omega
    have i3 : (m : Int) + (x.2.length : Int) < (sig.length : Int) + 1 := by omega
    have i4 : ((m : Int) + (x.2.length : Int)).toNat = m + x.2.length := by omega
    obtain ⟨vb, hvb⟩ : ∃ vb, vb = tb.getD (m + x.2.length) 0 := ⟨_, rfl⟩
    rw [← hvb] at hcB
    have HVB := Lib.hid hvb
    clear hvb
    by_cases hpos : 0 < vb
    · have hp1 : decide ((0 : Int) < (vb : Int)) = true := by rw [decide_eq_true_eq]; omega
      have hp2 : (0 : Int) < (vb : Int) := by omega
      go_enter Try.func240, Try.ntmps240
      go_wp2_with fail
      go_quiet ((go_at_call 208; exact Calls.quiet_of (CB.out _)))
      go_wp2_with fail
      go_ret
      exact ⟨ret_bool (by rw [HOK.out]; exact (decide_eq_true (by show 0 < tb.getD (m + x.2.length) 0; rw [← HVB.out]; exact hpos)).symm), HB.out.trans (bel_drewN _ _ _)⟩
    · have hp1 : decide ((0 : Int) < (vb : Int)) = false := by rw [decide_eq_false_iff_not]; omega
      have hp2 : ¬ (0 : Int) < (vb : Int) := by omega
      go_enter Try.func240, Try.ntmps240
      go_wp2_with fail
      go_quiet ((go_at_call 208; exact Calls.quiet_of (CB.out _)))
      go_wp2_with fail
      go_ret
      exact ⟨ret_bool (by rw [HOK.out]; exact (decide_eq_false (by show ¬ 0 < tb.getD (m + x.2.length) 0; rw [← HVB.out]; exact hpos)).symm), HB.out.trans (bel_drewN _ _ _)⟩
set_option maxRecDepth 100000 in
set_option maxHeartbeats 4000000 in
theorem firstReading_any (ps : List Phr) (sig : List Int) (v u : Value) (hi hj : Nat) (w : World) (h : RdB w hi v ps) (g : RdI w hj u sig) (hh : hi ≤ w.heap.size) (hg : hj ≤ w.heap.size) (hbk : bookB ps = true) (hlen : sig.length ≤ 60) :
    Calls Try.prog 174 #[v, u] w (RetOwT (waysI (readN ps sig)) (readQ ps sig) w) := by
  obtain ⟨A', c', rfl, hc', hm'⟩ := Rd.form g
  have G := Lib.hid g
  clear g
  obtain ⟨a, rfl, ha⟩ := h
  obtain ⟨A, c, rfl, hc, hm⟩ := ha.form
  have hba : Below w.heap.size w (w.alloc (.cells #[.slice A ps.length c] 48)) := (Below.refl _ _).alloc (Nat.le_refl _) _
  have HB := Lib.hid hba
  have HA := Lib.hid (ha.below hba hh)
  have HG : Hid (RdB (w.alloc (.cells #[.slice A ps.length c] 48)) hi (.agg #[.slice A ps.length c]) ps) := ⟨_, rfl, HA.out⟩
  have hcb0 : (w.alloc (.cells #[.slice A ps.length c] 48)).cell? ⟨w.heap.size, 0, Option.none⟩ = some (.slice A ps.length c) := (Blk.new w 48 #[.slice A ps.length c]).cell 0
  have HCB := Lib.hid hcb0
  have hsz1 : hi ≤ (w.alloc (.cells #[.slice A ps.length c] 48)).heap.size := by simp; omega
  clear ha hba hcb0
  have HBK := Lib.hid hbk
  clear hbk
  have HB01 : Hid (Below w.heap.size w ((w.alloc (.cells #[.slice A ps.length c] 48)).alloc (.cells #[.slice A' sig.length c'] 29))) := HB.out.alloc (by simp) _
  have HA1 : Hid (RdPS ((w.alloc (.cells #[.slice A ps.length c] 48)).alloc (.cells #[.slice A' sig.length c'] 29)) hi (.slice A ps.length c) ps) := HA.out.below ((Below.refl (w.alloc (.cells #[.slice A ps.length c] 48)).heap.size (w.alloc (.cells #[.slice A ps.length c] 48))).alloc (Nat.le_refl _) _) (by simp; omega)
  have HG1 : Hid (RdB ((w.alloc (.cells #[.slice A ps.length c] 48)).alloc (.cells #[.slice A' sig.length c'] 29)) hi (.agg #[.slice A ps.length c]) ps) := ⟨_, rfl, HA1.out⟩
  have G1 : Hid (RdI ((w.alloc (.cells #[.slice A ps.length c] 48)).alloc (.cells #[.slice A' sig.length c'] 29)) hj (.slice A' sig.length c') sig) := RdI.below G.out HB01.out hg
  have hcb1 : ((w.alloc (.cells #[.slice A ps.length c] 48)).alloc (.cells #[.slice A' sig.length c'] 29)).cell? ⟨w.heap.size, 0, Option.none⟩ = some (.slice A ps.length c) := (((Below.refl (w.alloc (.cells #[.slice A ps.length c] 48)).heap.size (w.alloc (.cells #[.slice A ps.length c] 48))).alloc (Nat.le_refl _) (.cells #[.slice A' sig.length c'] 29)).cell (p := ⟨w.heap.size, 0, Option.none⟩) (by simp)).trans HCB.out
  have hcs1 : ((w.alloc (.cells #[.slice A ps.length c] 48)).alloc (.cells #[.slice A' sig.length c'] 29)).cell? ⟨w.heap.size + 1, 0, Option.none⟩ = some (.slice A' sig.length c') := by
    have := (Blk.new (w.alloc (.cells #[.slice A ps.length c] 48)) 29 #[.slice A' sig.length c']).cell 0
    simp at this ⊢
  have HCB1 := Lib.hid hcb1
  have HCS1 := Lib.hid hcs1
  have hsz2 : w.heap.size + 2 ≤ ((w.alloc (.cells #[.slice A ps.length c] 48)).alloc (.cells #[.slice A' sig.length c'] 29)).heap.size := by simp
  clear hcb1 hcs1
  go_enter Try.func174, Try.ntmps174
  go_wp2_with fail
  have hcb1 := HCB1.out
  have hcs1 := HCS1.out
  generalize ((w.alloc (.cells #[.slice A ps.length c] 48)).alloc (.cells #[.slice A' sig.length c'] 29)) = w1 at HB01 HA1 HG1 G1 HCB1 HCS1 hcb1 hcs1 hsz2 ⊢
  have cT := readings_any ps sig (.agg #[.slice A ps.length c]) (.slice A' sig.length c') hi hj w1 HG1.out G1.out (by omega) (by omega) HBK.out hlen
  have CT := Lib.hid cT
  clear cT
  go_wp2_with fail
  refine CT.out.mono ?_
  rintro e w2 ⟨q, rfl, hq, hb2⟩
  obtain ⟨bq, cq, rfl, hbq, htc⟩ := own_cellsW (tbS_len ps sig) hq
  have hs2 := hb2.size
  have hb3 : Below w2.heap.size w2 (w2.alloc (.cells #[.slice (some ⟨bq, 0, Option.none⟩) (sig.length + 1) cq] 29)) := (Below.refl _ _).alloc (Nat.le_refl _) _
  have hb13 : Below w1.heap.size w1 (w2.alloc (.cells #[.slice (some ⟨bq, 0, Option.none⟩) (sig.length + 1) cq] 29)) := hb2.trans (hb3.mono hs2)
  have htc3 := fun k (hk : k ≤ sig.length) => (hb3.cell (p := ⟨bq, k, Option.none⟩) hbq).trans (htc k hk)
  have hcq := htc3 0 (Nat.zero_le _)
  have HTC := Lib.hid htc3
  have hcb3 := (hb13.cell (p := ⟨w.heap.size, 0, Option.none⟩) (by show w.heap.size < w1.heap.size; omega)).trans hcb1
  have hcs3 := (hb13.cell (p := ⟨w.heap.size + 1, 0, Option.none⟩) (by show w.heap.size + 1 < w1.heap.size; omega)).trans hcs1
  have hcw3 : (w2.alloc (.cells #[.slice (some ⟨bq, 0, Option.none⟩) (sig.length + 1) cq] 29)).cell? ⟨w2.heap.size, 0, Option.none⟩ = some (.slice (some ⟨bq, 0, Option.none⟩) (sig.length + 1) cq) := (Blk.new w2 29 #[.slice (some ⟨bq, 0, Option.none⟩) (sig.length + 1) cq]).cell 0
  have hs3 : w2.heap.size + 1 = (w2.alloc (.cells #[.slice (some ⟨bq, 0, Option.none⟩) (sig.length + 1) cq] 29)).heap.size := by simp
  have HB13 := Lib.hid hb13
  have HCB3 := Lib.hid hcb3
  have HCS3 := Lib.hid hcs3
  have HCW3 := Lib.hid hcw3
  have G3 := Lib.hid (RdI.below G1.out hb13 (by omega))
  have HA3 := Lib.hid (HA1.out.below hb13 (by omega))
  have HB3 := Lib.hid (HB01.out.trans (hb13.mono (by omega)))
  clear hq hb2 hb3 hb13 htc htc3 hcb1 hcs1 hcb3 hcs3
  obtain ⟨vv, hvv⟩ : ∃ vv, vv = (tbS ps sig).getD 0 0 := ⟨_, rfl⟩
  rw [← hvv] at hcq
  have HVV := Lib.hid hvv
  clear hvv
  by_cases hz : vv = 0
  · have hz0 : ((((vv : Nat) : Int)) == 0) = true := by rw [beq_iff_eq]; omega
    have HZ : Hid ((tbS ps sig).getD 0 0 = 0) := by show _ = 0; rw [← HVV.out]; exact hz
    clear hz
    go_wp2_with fail
    go_ret2
    show RetOwT _ _ _ _ _
    rw [readN_no HZ.out, readQ_no HZ.out]
    exact retOwT _ (GrowI.nil HB3.out)
  · have hz0 : ((((vv : Nat) : Int)) == 0) = false := by rw [beq_eq_false_iff_ne]; omega
    have HZ : Hid (0 < (tbS ps sig).getD 0 0) := by show 0 < _; rw [← HVV.out]; omega
    clear hz
    have HN0 : Hid (Blk ((w2.alloc (.cells #[.slice (some ⟨bq, 0, Option.none⟩) (sig.length + 1) cq] 29)).alloc (.cells #[.int .i64 0] 3)) (w2.alloc (.cells #[.slice (some ⟨bq, 0, Option.none⟩) (sig.length + 1) cq] 29)).heap.size 3 [.int .i64 ((0 : Nat) : Int)]) := by
      exact Blk.new (w2.alloc (.cells #[.slice (some ⟨bq, 0, Option.none⟩) (sig.length + 1) cq] 29)) 3 #[.int .i64 0]
    have HS0 : Hid (GrowI (w2.alloc (.cells #[.slice (some ⟨bq, 0, Option.none⟩) (sig.length + 1) cq] 29)) (w2.alloc (.cells #[.slice (some ⟨bq, 0, Option.none⟩) (sig.length + 1) cq] 29)).heap.size ((w2.alloc (.cells #[.slice (some ⟨bq, 0, Option.none⟩) (sig.length + 1) cq] 29)).alloc (.cells #[.int .i64 0] 3)) (.slice Option.none 0 0) []) := (GrowI.start (w2.alloc (.cells #[.slice (some ⟨bq, 0, Option.none⟩) (sig.length + 1) cq] 29))).belowR ((Below.refl _ _).alloc (Nat.le_refl _) _)
    go_wp2_with fail
    generalize hw3 : (w2.alloc (.cells #[.slice (some ⟨bq, 0, Option.none⟩) (sig.length + 1) cq] 29)) = w3 at HB13 HCB3 HCS3 HCW3 G3 HA3 HB3 HTC HN0 HS0 hcq hcw3 hs3 ⊢
    clear hw3 hcq hcw3
    go_wp2_with fail
    go_loopw [7, 8] (fun q i wr => ∃ (m : Nat) (l : List Nat) (B : Nat), m ≤ sig.length ∧ i = .pointer (some ⟨B, 0, Option.none⟩) ∧ Hid (PathR ps sig l m) ∧ Hid (0 < (tbS ps sig).getD m 0) ∧ Hid (GrowI w3 w3.heap.size wr q (waysI l)) ∧ Hid (waysI l = [] → q = .slice Option.none 0 0) ∧ Hid (Blk wr B 3 [.int .i64 (m : Int)]) ∧ Hid (q.ownBlock ≠ some B) ∧ Hid (w3.heap.size ≤ B)) (fun _ i wr => sig.length - boxN wr i)
    case atStart => exact ⟨0, [], w3.heap.size, Nat.zero_le _, rfl, PathTo.start, HZ.out, HS0.out, fun _ => rfl, HN0.out, (by intro e; cases e), Nat.le_refl _⟩
    case round =>
      obtain ⟨m, l, B, hm, rfl, hpt, htm, hg, hnil, hblk, hne, hB3⟩ := hrel
      have HTM := Lib.hid htm.out
      have hs0r := hg.out.2.1.size
      have hBlt := hblk.out.lt
      have hB3o := hB3.out
      have hat := hblk.out.cell 0
      have hcbr := (hg.out.2.1.cell (p := ⟨w.heap.size, 0, Option.none⟩) (by show w.heap.size < w3.heap.size; omega)).trans HCB3.out
      have hcsr := (hg.out.2.1.cell (p := ⟨w.heap.size + 1, 0, Option.none⟩) (by show w.heap.size + 1 < w3.heap.size; omega)).trans HCS3.out
      have hcwr := (hg.out.2.1.cell (p := ⟨w2.heap.size, 0, Option.none⟩) (by show w2.heap.size < w3.heap.size; omega)).trans HCW3.out
      by_cases hltm : m < sig.length
      · obtain ⟨ib, pb, hnx, hpb, hfb, htb⟩ := nextW_some hltm (fitS_hyp HBK.out sig m) HTM.out
        have HNX := Lib.hid hnx
        have HPB := Lib.hid hpb
        have HFB := Lib.hid hfb
        have HTB := Lib.hid htb
        clear hnx hpb hfb htb
        have HAR := Lib.hid (HA3.out.below hg.out.2.1 (by omega))
        have HGR := Lib.hid (RdI.below G3.out hg.out.2.1 (by omega))
        have HTR := Lib.hid fun k (hk : k ≤ sig.length) => (hg.out.2.1.cell (p := ⟨bq, k, Option.none⟩) (by show bq < w3.heap.size; omega)).trans (HTC.out k hk)
        have hpred : PredP 240 #[.pointer (some ⟨w.heap.size + 1, 0, Option.none⟩), .pointer (some ⟨B, 0, Option.none⟩), .pointer (some ⟨w2.heap.size, 0, Option.none⟩)] hi (okW (fitS sig) sigLen (tbS ps sig) m) wr := by
          intro W x u hb hu _
          have hs := hb.size
          refine firstReading1_any x sig (tbS ps sig) u (.slice A' sig.length c') m (w.heap.size + 1) B w2.heap.size bq cq hi hj W hu (RdI.below HGR.out hb (by omega)) (by omega) (by omega) (by omega) (by omega) (by omega) (by omega) ?_ ?_ ?_ ?_ hltm hlen
          · exact (hb.cell (p := ⟨w.heap.size + 1, 0, Option.none⟩) (by show w.heap.size + 1 < _; omega)).trans hcsr
          · exact (hb.cell (p := ⟨B, 0, Option.none⟩) (by show B < _; omega)).trans hat
          · exact (hb.cell (p := ⟨w2.heap.size, 0, Option.none⟩) (by show w2.heap.size < _; omega)).trans hcwr
          · exact fun k hk => (hb.cell (p := ⟨bq, k, Option.none⟩) (by show bq < _; omega)).trans (HTR.out k hk)
        have cI := indexP_any ps _ hi wr _ _ _ HAR.out (by omega) hpred (enters_of Try.func240 (by kernel_rfl) rfl)
        rw [show ps.findIdx? (okW (fitS sig) sigLen (tbS ps sig) m) = some ib from HNX.out] at cI
        simp only [ixI] at cI
        have CI := Lib.hid cI
        clear hpred cI
        go_wp2_with fail
        refine CI.out.mono ?_
        rintro e w5 ⟨rfl, hb5⟩
        have HG5 := Lib.hid (hg.out.belowR hb5)
        have HK5 := Lib.hid (hblk.out.below hb5 hBlt)
        have hs5 := hb5.size
        clear hb5 hcbr hcsr hcwr hat
        have hibl : ib < ps.length := (List.getElem?_eq_some_iff.1 HPB.out).1
        obtain ⟨b1, o1, c1, a, t, xs, hv, hb1, hx, hcell1, hcell2, hra, hta⟩ := HA3.out.at_ hibl
        injection hv with hv1 hv2 hv3
        subst hv1
        rw [HPB.out] at hx
        cases hx
        obtain ⟨A2, c2, rfl, hc2, hm2⟩ := Rd.form hra
        have hpk := phrOk_sig (bookB_phr HBK.out (List.mem_of_getElem? HPB.out))
        have hxs1 : 1 ≤ xs.length := hpk.1
        have hle := fitS_le HFB.out hpk.1
        have hle2 : m + xs.length ≤ sig.length := hle
        have HC5 := Lib.hid fun (w6 : World) (hb6 : Below w3.heap.size w3 w6) => (hb6.cell (p := ⟨b1, o1 + ib * 2 + 1, Option.none⟩) (by show b1 < _; omega)).trans hcell2
        have HC6 := Lib.hid fun (w6 : World) (hb6 : Below w3.heap.size w3 w6) => (hb6.cell (p := ⟨w.heap.size, 0, Option.none⟩) (by show w.heap.size < w3.heap.size; omega)).trans HCB3.out
        have hll : (waysI l).length ≤ 60 := by rw [waysI_len]; have := hpt.out.short; omega
        have i1 : IntKind.i64.wrap ((m : Int) + (xs.length : Int)) = (m : Int) + (xs.length : Int) := wrap_in (by omega)
        clear hcell1 hcell2 hra hle hpk hv2 hv3
        go_wp2_with (at_builtin; refine GrowI.appB rfl (.tmp 25) (.tmp 27) rfl HG5.out hnil.out HK5.out hne.out (by omega) rfl rfl ?_; intro v' w6 hG6 hK6 hne6)
        have d0 := HC6.out w6 hG6.2.1
        have d1 := HC5.out w6 hG6.2.1
        have d2 := hK6.cell 0
        have d3 : w6.drew.cell? ⟨B, 0, Option.none⟩ = some (.int .i64 (m : Int)) := d2
        have d4 : w6.drew.frozen? ⟨B, 0, Option.none⟩ = false := hK6.frozen 0
        have HG6 := Lib.hid hG6
        have HK6 := Lib.hid hK6
        have HNE6 := Lib.hid hne6
        have hs6 := hG6.2.2
        clear hG6 hK6 hne6
        go_still_tail 9, (by kernel_rfl)
        change wpList _ _ _ _ _ w6.drew
        go_wp2_with fail
        go_roundw
        case rel =>
          have hk7 := (Only.refl (some B) w6.drew).setCell (p := ⟨B, 0, Option.none⟩) rfl (.int .i64 ((m : Int) + (xs.length : Int)))
          have hown : OwI (w6.drew.setCell ⟨B, 0, Option.none⟩ (.int .i64 ((m : Int) + (xs.length : Int)))) w3.heap.size w6.heap.size v' (waysI l ++ [(ib : Int)]) := OwI.only (show OwI w6.drew w3.heap.size w6.heap.size v' (waysI l ++ [(ib : Int)]) from HG6.out.own) hk7 (fun g hg e => HNE6.out (by rw [hg, e]))
          have hbel : Below w3.heap.size w3 (w6.drew.setCell ⟨B, 0, Option.none⟩ (.int .i64 ((m : Int) + (xs.length : Int)))) := HG6.out.2.1.drew.setCell hB3o _
          have hsz7 : (w6.drew.setCell ⟨B, 0, Option.none⟩ (.int .i64 ((m : Int) + (xs.length : Int)))).heap.size = w6.heap.size := hk7.size
          have hgr : GrowI w3 w3.heap.size (w6.drew.setCell ⟨B, 0, Option.none⟩ (.int .i64 ((m : Int) + (xs.length : Int)))) v' (waysI l ++ [(ib : Int)]) := ⟨hown.1, hbel, by omega⟩
          refine ⟨m + xs.length, l ++ [ib], w6.heap.size, hle2, by simp, ?_, HTB.out, ?_, ?_, ?_, ?_, ?_⟩
          · have h1 := hpt.out.on hltm HNX.out (by rw [lnOf_at HPB.out]; exact hxs1)
            rw [lnOf_at HPB.out] at h1
            exact h1
          · show GrowI _ _ _ _ _
            rw [waysI_snoc]
            exact hgr.belowR ((Below.refl _ _).alloc (Nat.le_refl _) _)
          · rw [waysI_snoc]; intro e; exact absurd e (by simp)
          · have := Blk.new (w6.drew.setCell ⟨B, 0, Option.none⟩ (.int .i64 ((m : Int) + (xs.length : Int)))) 3 #[.int .i64 ((m + xs.length : Nat) : Int)]
            rw [hsz7] at this
            exact this
          · show v'.ownBlock ≠ _
            intro e
            have := HG6.out.own.2 _ e
            omega
          · show w3.heap.size ≤ _; omega
        case measure =>
          have hsz7 : (w6.setCell ⟨B, 0, Option.none⟩ (.int .i64 ((m : Int) + (xs.length : Int)))).heap.size = w6.heap.size := ((Only.refl (some B) w6).setCell (p := ⟨B, 0, Option.none⟩) rfl _).size
          have h1 : Blk ((w6.setCell ⟨B, 0, Option.none⟩ (.int .i64 ((m : Int) + (xs.length : Int)))).alloc (.cells #[.int .i64 ((m : Int) + (xs.length : Int))] 3)).drew w6.heap.size 3 [.int .i64 ((m + xs.length : Nat) : Int)] := by
            have := Blk.new (w6.setCell ⟨B, 0, Option.none⟩ (.int .i64 ((m : Int) + (xs.length : Int)))) 3 #[.int .i64 ((m + xs.length : Nat) : Int)]
            rw [hsz7] at this
            exact this
          have h2 := boxN_blk h1
          have h3 := boxN_blk hblk.out
          rw [h3]
          have h4 : ∀ z, z = m + xs.length → sig.length - z < sig.length - m := fun z hz => by omega
          exact h4 _ h2
      · obtain rfl : m = sig.length := by omega
        have HD := Lib.hid (hpt.out.done (Nat.le_refl _))
        go_wp2_with fail
        go_ret2
        show RetOwT _ _ _ _ _
        rw [readN_yes HZ.out, readQ_yes HZ.out, show pathR ps sig = l from HD.out.symm]
        exact retOwT_from _ hg.out HB3.out (by omega)
end Go.Proofs.Ytabiobjcfopakaa
/- Contracts: the first reading and the message of signals, asked for; of the program and of the reference. -/
namespace Go.Proofs.Ytabiobjcfopakaa
open Go.RowKit
def frN (ps : List Phr) (sig : List Int) : List Nat := if bookB ps && readB sig then readN ps sig else []
def frQ (ps : List Phr) (sig : List Int) : Bool := (bookB ps && readB sig) && readQ ps sig
theorem frN_no {ps : List Phr} {sig : List Int} (h : (bookB ps && readB sig) = false) : frN ps sig = [] := by unfold frN; rw [h]; rfl
theorem frQ_no {ps : List Phr} {sig : List Int} (h : (bookB ps && readB sig) = false) : frQ ps sig = false := by unfold frQ; rw [h]; rfl
theorem frN_yes {ps : List Phr} {sig : List Int} (h : (bookB ps && readB sig) = true) : frN ps sig = readN ps sig := by unfold frN; rw [h]; rfl
theorem frQ_yes {ps : List Phr} {sig : List Int} (h : (bookB ps && readB sig) = true) : frQ ps sig = readQ ps sig := by unfold frQ; rw [h]; rfl
theorem readB_len {sig : List Int} (h : readB sig = true) : sig.length ≤ 60 := by unfold readB at h; rw [Bool.and_eq_true, decide_eq_true_eq] at h; exact h.1
/-- The message. -/
def msgV (ps : List Phr) (sig : List Int) : Value := if (bookB ps && readB sig) && decide (cntS ps sig = 1) then .tuple #[.string ⟨(textL ps (waysI (readN ps sig))).toArray⟩, .bool true] else .tuple #[.string ⟨#[]⟩, .bool false]
theorem msgV_no {ps : List Phr} {sig : List Int} (h : (bookB ps && readB sig) = false) : msgV ps sig = .tuple #[.string ⟨#[]⟩, .bool false] := by unfold msgV; rw [h]; rfl
theorem msgV_more {ps : List Phr} {sig : List Int} (h : (tbS ps sig).getD 0 0 ≠ 1) : msgV ps sig = .tuple #[.string ⟨#[]⟩, .bool false] := by
  unfold msgV
  rw [decide_eq_false (show ¬ cntS ps sig = 1 from h), Bool.and_false]
  rfl
theorem msgV_one {ps : List Phr} {sig : List Int} (h : (bookB ps && readB sig) = true) (h1 : (tbS ps sig).getD 0 0 = 1) : msgV ps sig = .tuple #[.string ⟨(textL ps (waysI (readN ps sig))).toArray⟩, .bool true] := by
  unfold msgV
  rw [decide_eq_true (show cntS ps sig = 1 from h1), h]
  rfl
set_option maxRecDepth 100000 in
set_option maxHeartbeats 4000000 in
theorem FirstReading_any (ps : List Phr) (sig : List Int) (v u : Value) (hi hj : Nat) (w : World) (h : RdB w hi v ps) (g : RdI w hj u sig) (hh : hi ≤ w.heap.size) (hg : hj ≤ w.heap.size) :
    Calls Try.prog 73 #[v, u] w (RetOwT (waysI (frN ps sig)) (frQ ps sig) w) := by
  obtain ⟨A', c', rfl, hc', hm'⟩ := Rd.form g
  have G := Lib.hid g
  clear g
  obtain ⟨a, rfl, ha⟩ := h
  obtain ⟨A, c, rfl, hc, hm⟩ := ha.form
  have hba : Below w.heap.size w (w.alloc (.cells #[.slice A ps.length c] 48)) := (Below.refl _ _).alloc (Nat.le_refl _) _
  have HB := Lib.hid hba
  have HA := Lib.hid (ha.below hba hh)
  have HG : Hid (RdB (w.alloc (.cells #[.slice A ps.length c] 48)) hi (.agg #[.slice A ps.length c]) ps) := ⟨_, rfl, HA.out⟩
  have hcb0 : (w.alloc (.cells #[.slice A ps.length c] 48)).cell? ⟨w.heap.size, 0, Option.none⟩ = some (.slice A ps.length c) := (Blk.new w 48 #[.slice A ps.length c]).cell 0
  have HCB := Lib.hid hcb0
  have hsz1 : hi ≤ (w.alloc (.cells #[.slice A ps.length c] 48)).heap.size := by simp; omega
  clear ha hba hcb0
  have cB := IsBook_any ps (.agg #[.slice A ps.length c]) hi (w.alloc (.cells #[.slice A ps.length c] 48)) HG.out hsz1
  cases hbk : bookB ps
  · rw [hbk] at cB
    have CB := Lib.hid cB
    clear cB
    go_enter Try.func73, Try.ntmps73
    go_wp2_with (go_at_call 137; refine CB.out.mono ?_; rintro e w1 ⟨rfl, hb1⟩)
    go_ret2
    exact (by show RetOwT _ _ _ _ _; rw [frN_no (show (bookB ps && readB sig) = false by rw [hbk]; rfl), frQ_no (show (bookB ps && readB sig) = false by rw [hbk]; rfl)]; exact retOwT _ (GrowI.nil (HB.out.trans (hb1.mono (by simp)))))
  · rw [hbk] at cB
    have CB := Lib.hid cB
    have HBK := Lib.hid hbk
    clear cB
    go_enter Try.func73, Try.ntmps73
    go_wp2_with fail
    refine CB.out.mono ?_
    rintro e w1 ⟨rfl, hb1⟩
    have hcb := (hb1.cell (p := ⟨w.heap.size, 0, Option.none⟩) (by simp)).trans HCB.out
    have hs1 : w.heap.size + 1 ≤ w1.heap.size := by have := hb1.size; simpa using this
    have HA1 := Lib.hid (HA.out.below hb1 hsz1)
    have HG1 : Hid (RdB w1 hi (.agg #[.slice A ps.length c]) ps) := ⟨_, rfl, HA1.out⟩
    have HB1 := Lib.hid (HB.out.trans (hb1.mono (by simp)))
    clear hb1
    have G1 := Lib.hid (RdI.below G.out HB1.out hg)
    have cR := areRead_any sig _ hj w1 G1.out
    cases hrd : readB sig
    · rw [hrd] at cR
      have CR := Lib.hid cR
      have HRB : Hid ((bookB ps && readB sig) = false) := by show (bookB ps && readB sig) = false; rw [hrd, Bool.and_false]
      clear cR hrd
      go_wp2_with (go_at_call 173; refine (CR.out).mono ?_; rintro e w' ⟨rfl, rfl⟩)
      go_ret2
      exact (by show RetOwT _ _ _ _ _; rw [frN_no HRB.out, frQ_no HRB.out]; exact retOwT _ (GrowI.nil (HB1.out)))
    · rw [hrd] at cR
      have CR := Lib.hid cR
      have HRB : Hid ((bookB ps && readB sig) = true) := by show (bookB ps && readB sig) = true; rw [hrd, HBK.out]; rfl
      have hlen := readB_len hrd
      clear cR hrd
      have cF := firstReading_any ps sig (.agg #[.slice A ps.length c]) _ hi hj w1 HG1.out G1.out (by omega) (by omega) HBK.out hlen
      have CF := Lib.hid cF
      clear cF
      go_wp2_with (go_at_call 173; refine (CR.out).mono ?_; rintro e w' ⟨rfl, rfl⟩)
      refine CF.out.mono ?_
      rintro e w2 ⟨q, rfl, hq, hb2⟩
      have HQ := Lib.hid hq
      have HB2 := Lib.hid hb2
      clear hq hb2
      go_wp2_with fail
      go_ret2
      show RetOwT _ _ _ _ _
      rw [frN_yes HRB.out, frQ_yes HRB.out]
      exact retOwT_pass HQ.out HB1.out HB2.out
set_option maxRecDepth 100000 in
set_option maxHeartbeats 4000000 in
theorem sFirstReading_any (ps : List Phr) (sig : List Int) (v u : Value) (hi hj : Nat) (w : World) (h : RdB w hi v ps) (g : RdI w hj u sig) (hh : hi ≤ w.heap.size) (hg : hj ≤ w.heap.size) :
    Calls Try.prog 74 #[v, u] w (RetOwT (waysI (frN ps sig)) (frQ ps sig) w) := by
  obtain ⟨A', c', rfl, hc', hm'⟩ := Rd.form g
  have G := Lib.hid g
  clear g
  obtain ⟨a, rfl, ha⟩ := h
  obtain ⟨A, c, rfl, hc, hm⟩ := ha.form
  have hba : Below w.heap.size w (w.alloc (.cells #[.slice A ps.length c] 48)) := (Below.refl _ _).alloc (Nat.le_refl _) _
  have HB := Lib.hid hba
  have HA := Lib.hid (ha.below hba hh)
  have HG : Hid (RdB (w.alloc (.cells #[.slice A ps.length c] 48)) hi (.agg #[.slice A ps.length c]) ps) := ⟨_, rfl, HA.out⟩
  have hcb0 : (w.alloc (.cells #[.slice A ps.length c] 48)).cell? ⟨w.heap.size, 0, Option.none⟩ = some (.slice A ps.length c) := (Blk.new w 48 #[.slice A ps.length c]).cell 0
  have HCB := Lib.hid hcb0
  have hsz1 : hi ≤ (w.alloc (.cells #[.slice A ps.length c] 48)).heap.size := by simp; omega
  clear ha hba hcb0
  have G0 := Lib.hid (RdI.below G.out HB.out hg)
  have cB := spSignals_any ps sig (.agg #[.slice A ps.length c]) _ hi hj (w.alloc (.cells #[.slice A ps.length c] 48)) HG.out G0.out hsz1 (by simp; omega)
  cases hbr : (bookB ps && readB sig)
  · rw [hbr] at cB
    have CB := Lib.hid cB
    have HRB := Lib.hid hbr
    clear cB hbr
    go_enter Try.func74, Try.ntmps74
    go_wp2_with (go_at_call 175; refine CB.out.mono ?_; rintro e w1 ⟨rfl, hb1⟩)
    go_ret2
    exact (by show RetOwT _ _ _ _ _; rw [frN_no HRB.out, frQ_no HRB.out]; exact retOwT _ (GrowI.nil (HB.out.trans (hb1.mono (by simp)))))
  · rw [hbr] at cB
    have CB := Lib.hid cB
    have HRB := Lib.hid hbr
    rw [Bool.and_eq_true] at hbr
    have HBK := Lib.hid hbr.1
    have hlen := readB_len hbr.2
    clear cB hbr
    go_enter Try.func74, Try.ntmps74
    go_wp2_with fail
    refine CB.out.mono ?_
    rintro e w1 ⟨rfl, hb1⟩
    have hcb := (hb1.cell (p := ⟨w.heap.size, 0, Option.none⟩) (by simp)).trans HCB.out
    have hs1 : w.heap.size + 1 ≤ w1.heap.size := by have := hb1.size; simpa using this
    have HA1 := Lib.hid (HA.out.below hb1 hsz1)
    have HG1 : Hid (RdB w1 hi (.agg #[.slice A ps.length c]) ps) := ⟨_, rfl, HA1.out⟩
    have HB1 := Lib.hid (HB.out.trans (hb1.mono (by simp)))
    have G1 := Lib.hid (RdI.below G.out HB1.out hg)
    clear hb1
    have cF := spDecode_any ps sig (.agg #[.slice A ps.length c]) _ hi hj w1 HG1.out G1.out (by omega) (by omega) HBK.out hlen
    have CF := Lib.hid cF
    clear cF
    go_wp2_with fail
    refine CF.out.mono ?_
    rintro e w2 ⟨q, rfl, hq, hb2⟩
    have HQ := Lib.hid hq
    have HB2 := Lib.hid hb2
    clear hq hb2
    go_wp2_with fail
    go_ret2
    show RetOwT _ _ _ _ _
    rw [frN_yes HRB.out, frQ_yes HRB.out]
    exact retOwT_pass HQ.out HB1.out HB2.out
set_option maxRecDepth 100000 in
set_option maxHeartbeats 4000000 in
theorem ReadMessage_any (ps : List Phr) (sig : List Int) (v u : Value) (hi hj : Nat) (w : World) (h : RdB w hi v ps) (g : RdI w hj u sig) (hh : hi ≤ w.heap.size) (hg : hj ≤ w.heap.size) :
    Calls Try.prog 77 #[v, u] w fun e w' => e = .returned (msgV ps sig) ∧ Below w.heap.size w w' := by
  obtain ⟨A', c', rfl, hc', hm'⟩ := Rd.form g
  have G := Lib.hid g
  clear g
  obtain ⟨a, rfl, ha⟩ := h
  obtain ⟨A, c, rfl, hc, hm⟩ := ha.form
  have hba : Below w.heap.size w (w.alloc (.cells #[.slice A ps.length c] 48)) := (Below.refl _ _).alloc (Nat.le_refl _) _
  have HB := Lib.hid hba
  have HA := Lib.hid (ha.below hba hh)
  have HG : Hid (RdB (w.alloc (.cells #[.slice A ps.length c] 48)) hi (.agg #[.slice A ps.length c]) ps) := ⟨_, rfl, HA.out⟩
  have hcb0 : (w.alloc (.cells #[.slice A ps.length c] 48)).cell? ⟨w.heap.size, 0, Option.none⟩ = some (.slice A ps.length c) := (Blk.new w 48 #[.slice A ps.length c]).cell 0
  have HCB := Lib.hid hcb0
  have hsz1 : hi ≤ (w.alloc (.cells #[.slice A ps.length c] 48)).heap.size := by simp; omega
  clear ha hba hcb0
  have cB := IsBook_any ps (.agg #[.slice A ps.length c]) hi (w.alloc (.cells #[.slice A ps.length c] 48)) HG.out hsz1
  cases hbk : bookB ps
  · rw [hbk] at cB
    have CB := Lib.hid cB
    clear cB
    go_enter Try.func77, Try.ntmps77
    go_wp2_with (go_at_call 137; refine CB.out.mono ?_; rintro e w1 ⟨rfl, hb1⟩)
    go_ret2
    exact ⟨ret_val (by rw [msgV_no (show (bookB ps && readB sig) = false by rw [hbk]; rfl)]; rfl), HB.out.trans (hb1.mono (by simp))⟩
  · rw [hbk] at cB
    have CB := Lib.hid cB
    have HBK := Lib.hid hbk
    clear cB
    go_enter Try.func77, Try.ntmps77
    go_wp2_with fail
    refine CB.out.mono ?_
    rintro e w1 ⟨rfl, hb1⟩
    have hcb := (hb1.cell (p := ⟨w.heap.size, 0, Option.none⟩) (by simp)).trans HCB.out
    have hs1 : w.heap.size + 1 ≤ w1.heap.size := by have := hb1.size; simpa using this
    have HA1 := Lib.hid (HA.out.below hb1 hsz1)
    have HG1 : Hid (RdB w1 hi (.agg #[.slice A ps.length c]) ps) := ⟨_, rfl, HA1.out⟩
    have HB1 := Lib.hid (HB.out.trans (hb1.mono (by simp)))
    clear hb1
    have G1 := Lib.hid (RdI.below G.out HB1.out hg)
    have cR := areRead_any sig _ hj w1 G1.out
    cases hrd : readB sig
    · rw [hrd] at cR
      have CR := Lib.hid cR
      have HRB : Hid ((bookB ps && readB sig) = false) := by show (bookB ps && readB sig) = false; rw [hrd, Bool.and_false]
      clear cR hrd
      go_wp2_with (go_at_call 173; refine (CR.out).mono ?_; rintro e w' ⟨rfl, rfl⟩)
      go_ret2
      exact ⟨ret_val (by rw [msgV_no HRB.out]; rfl), HB1.out⟩
    · rw [hrd] at cR
      have CR := Lib.hid cR
      have HRB : Hid ((bookB ps && readB sig) = true) := by show (bookB ps && readB sig) = true; rw [hrd, HBK.out]; rfl
      have hlen := readB_len hrd
      clear cR hrd
      have cT := readings_any ps sig (.agg #[.slice A ps.length c]) _ hi hj w1 HG1.out G1.out (by omega) (by omega) HBK.out hlen
      have CT := Lib.hid cT
      clear cT
      go_wp2_with (go_at_call 173; refine (CR.out).mono ?_; rintro e w' ⟨rfl, rfl⟩)
      refine CT.out.mono ?_
      rintro e w2 ⟨q, rfl, hq, hb2⟩
      obtain ⟨bq, cq, rfl, hbq, htc⟩ := own_cellsW (tbS_len ps sig) hq
      have hcq := htc 0 (Nat.zero_le _)
      have hs2 := hb2.size
      have hcb2 := (hb2.cell (p := ⟨w.heap.size, 0, Option.none⟩) (by show w.heap.size < w1.heap.size; omega)).trans hcb
      have G2 := Lib.hid (RdI.below G1.out hb2 (by omega))
      have HG2 := Lib.hid (HG1.out.below hb2 (by omega))
      have HB2 := Lib.hid (HB1.out.trans (hb2.mono (by omega)))
      clear hq hb2 htc
      obtain ⟨vv, hvv⟩ : ∃ vv, vv = (tbS ps sig).getD 0 0 := ⟨_, rfl⟩
      rw [← hvv] at hcq
      have HVV := Lib.hid hvv
      clear hvv
      by_cases hz : vv = 1
      · have hz0 : ((((vv : Nat) : Int)) != 1) = false := by subst hz; rfl
        have HZ : Hid ((tbS ps sig).getD 0 0 = 1) := by show _ = 1; rw [← HVV.out]; exact hz
        clear hz
        have cF := firstReading_any ps sig (.agg #[.slice A ps.length c]) _ hi hj w2 HG2.out G2.out (by omega) (by omega) HBK.out hlen
        have CF := Lib.hid cF
        clear cF
        go_wp2_with fail
        refine CF.out.mono ?_
        rintro e w3 ⟨q3, rfl, hq3, hb3⟩
        have hcb3 := (hb3.cell (p := ⟨w.heap.size, 0, Option.none⟩) (by show w.heap.size < w2.heap.size; omega)).trans hcb2
        have hs3 := hb3.size
        have HG3 := Lib.hid (HG2.out.below hb3 (by omega))
        have HB3 := Lib.hid (HB2.out.trans (hb3.mono (by omega)))
        have cX := textOf_any ps (waysI (readN ps sig)) (.agg #[.slice A ps.length c]) q3 hi w3.heap.size w3 HG3.out hq3.rd (by omega) (Nat.le_refl _) HBK.out (ixok_of (readN_lt ps sig)) (by rw [waysI_len]; have := readN_len ps sig; omega)
        have CX := Lib.hid cX
        clear cX hq3 hb3 hcb2 hcq
        go_wp2_with fail
        refine CX.out.mono ?_
        rintro e w4 ⟨rfl, hb4⟩
        have HB4 := Lib.hid (HB3.out.trans (hb4.mono (by omega)))
        clear hb4
        go_wp2_with fail
        go_ret2
        exact ⟨ret_val (by rw [msgV_one HRB.out HZ.out]; rfl), HB4.out⟩
      · have hz0 : ((((vv : Nat) : Int)) != 1) = true := by rw [bne_iff_ne]; omega
        have HZ : Hid ((tbS ps sig).getD 0 0 ≠ 1) := by show _ ≠ 1; rw [← HVV.out]; exact hz
        clear hz
        go_wp2_with fail
        go_ret2
        exact ⟨ret_val (by rw [msgV_more HZ.out]; rfl), HB2.out⟩
set_option maxRecDepth 100000 in
set_option maxHeartbeats 4000000 in
theorem sReadMessage_any (ps : List Phr) (sig : List Int) (v u : Value) (hi hj : Nat) (w : World) (h : RdB w hi v ps) (g : RdI w hj u sig) (hh : hi ≤ w.heap.size) (hg : hj ≤ w.heap.size) :
    Calls Try.prog 78 #[v, u] w fun e w' => e = .returned (msgV ps sig) ∧ Below w.heap.size w w' := by
  obtain ⟨A', c', rfl, hc', hm'⟩ := Rd.form g
  have G := Lib.hid g
  clear g
  obtain ⟨a, rfl, ha⟩ := h
  obtain ⟨A, c, rfl, hc, hm⟩ := ha.form
  have hba : Below w.heap.size w (w.alloc (.cells #[.slice A ps.length c] 48)) := (Below.refl _ _).alloc (Nat.le_refl _) _
  have HB := Lib.hid hba
  have HA := Lib.hid (ha.below hba hh)
  have HG : Hid (RdB (w.alloc (.cells #[.slice A ps.length c] 48)) hi (.agg #[.slice A ps.length c]) ps) := ⟨_, rfl, HA.out⟩
  have hcb0 : (w.alloc (.cells #[.slice A ps.length c] 48)).cell? ⟨w.heap.size, 0, Option.none⟩ = some (.slice A ps.length c) := (Blk.new w 48 #[.slice A ps.length c]).cell 0
  have HCB := Lib.hid hcb0
  have hsz1 : hi ≤ (w.alloc (.cells #[.slice A ps.length c] 48)).heap.size := by simp; omega
  clear ha hba hcb0
  have G0 := Lib.hid (RdI.below G.out HB.out hg)
  have cB := spSignals_any ps sig (.agg #[.slice A ps.length c]) _ hi hj (w.alloc (.cells #[.slice A ps.length c] 48)) HG.out G0.out hsz1 (by simp; omega)
  cases hbr : (bookB ps && readB sig)
  · rw [hbr] at cB
    have CB := Lib.hid cB
    have HRB := Lib.hid hbr
    clear cB hbr
    go_enter Try.func78, Try.ntmps78
    go_wp2_with (go_at_call 175; refine CB.out.mono ?_; rintro e w1 ⟨rfl, hb1⟩)
    go_ret2
    exact ⟨ret_val (by rw [msgV_no HRB.out]; rfl), HB.out.trans (hb1.mono (by simp))⟩
  · rw [hbr] at cB
    have CB := Lib.hid cB
    have HRB := Lib.hid hbr
    rw [Bool.and_eq_true] at hbr
    have HBK := Lib.hid hbr.1
    have hlen := readB_len hbr.2
    clear cB hbr
    go_enter Try.func78, Try.ntmps78
    go_wp2_with fail
    refine CB.out.mono ?_
    rintro e w1 ⟨rfl, hb1⟩
    have hcb := (hb1.cell (p := ⟨w.heap.size, 0, Option.none⟩) (by simp)).trans HCB.out
    have hs1 : w.heap.size + 1 ≤ w1.heap.size := by have := hb1.size; simpa using this
    have HA1 := Lib.hid (HA.out.below hb1 hsz1)
    have HG1 : Hid (RdB w1 hi (.agg #[.slice A ps.length c]) ps) := ⟨_, rfl, HA1.out⟩
    have HB1 := Lib.hid (HB.out.trans (hb1.mono (by simp)))
    have G1 := Lib.hid (RdI.below G.out HB1.out hg)
    clear hb1
    have cT := spWays_any ps sig (.agg #[.slice A ps.length c]) _ hi hj w1 HG1.out G1.out (by omega) (by omega) HBK.out hlen
    have CT := Lib.hid cT
    clear cT
    go_wp2_with fail
    refine CT.out.mono ?_
    rintro e w2 ⟨q, rfl, hq, hb2⟩
    obtain ⟨bq, cq, rfl, hbq, htc⟩ := own_cellsW (tbS_len ps sig) hq
    have hcq := htc 0 (Nat.zero_le _)
    have hs2 := hb2.size
    have hcb2 := (hb2.cell (p := ⟨w.heap.size, 0, Option.none⟩) (by show w.heap.size < w1.heap.size; omega)).trans hcb
    have G2 := Lib.hid (RdI.below G1.out hb2 (by omega))
    have HG2 := Lib.hid (HG1.out.below hb2 (by omega))
    have HB2 := Lib.hid (HB1.out.trans (hb2.mono (by omega)))
    clear hq hb2 htc
    obtain ⟨vv, hvv⟩ : ∃ vv, vv = (tbS ps sig).getD 0 0 := ⟨_, rfl⟩
    rw [← hvv] at hcq
    have HVV := Lib.hid hvv
    clear hvv
    by_cases hz : vv = 1
    · have hz0 : ((((vv : Nat) : Int)) != 1) = false := by subst hz; rfl
      have HZ : Hid ((tbS ps sig).getD 0 0 = 1) := by show _ = 1; rw [← HVV.out]; exact hz
      clear hz
      have cF := spDecode_any ps sig (.agg #[.slice A ps.length c]) _ hi hj w2 HG2.out G2.out (by omega) (by omega) HBK.out hlen
      have CF := Lib.hid cF
      clear cF
      go_wp2_with fail
      refine CF.out.mono ?_
      rintro e w3 ⟨q3, rfl, hq3, hb3⟩
      have hcb3 := (hb3.cell (p := ⟨w.heap.size, 0, Option.none⟩) (by show w.heap.size < w2.heap.size; omega)).trans hcb2
      have hs3 := hb3.size
      have HG3 := Lib.hid (HG2.out.below hb3 (by omega))
      have HB3 := Lib.hid (HB2.out.trans (hb3.mono (by omega)))
      have cX := spText_any ps (waysI (readN ps sig)) (.agg #[.slice A ps.length c]) q3 hi w3.heap.size w3 HG3.out hq3.rd (by omega) (Nat.le_refl _) HBK.out (ixok_of (readN_lt ps sig)) (by rw [waysI_len]; have := readN_len ps sig; omega)
      have CX := Lib.hid cX
      clear cX hq3 hb3 hcb2 hcq
      go_wp2_with fail
      refine CX.out.mono ?_
      rintro e w4 ⟨rfl, hb4⟩
      have HB4 := Lib.hid (HB3.out.trans (hb4.mono (by omega)))
      clear hb4
      go_wp2_with fail
      go_ret2
      exact ⟨ret_val (by rw [msgV_one HRB.out HZ.out]; rfl), HB4.out⟩
    · have hz0 : ((((vv : Nat) : Int)) != 1) = true := by rw [bne_iff_ne]; omega
      have HZ : Hid ((tbS ps sig).getD 0 0 ≠ 1) := by show _ ≠ 1; rw [← HVV.out]; exact hz
      clear hz
      go_wp2_with fail
      go_ret2
      exact ⟨ret_val (by rw [msgV_more HZ.out]; rfl), HB2.out⟩
end Go.Proofs.Ytabiobjcfopakaa
/- Plain laws: the rests that stick out where two lists of phrases have the same signals so far. -/
namespace Go.Proofs.Ytabiobjcfopakaa
open Go.RowKit
/-- A rest is put to the others, once. -/
def putR (L : List (List Int)) (r : List Int) : List (List Int) := if r ∈ L then L else L ++ [r]
theorem putR_old {L : List (List Int)} {r : List Int} (h : r ∈ L) : putR L r = L := by unfold putR; rw [if_pos h]
theorem putR_new {L : List (List Int)} {r : List Int} (h : r ∉ L) : putR L r = L ++ [r] := by unfold putR; rw [if_neg h]
theorem putR_mem {L : List (List Int)} {r : List Int} : r ∈ putR L r := by unfold putR; split <;> simp_all
theorem putR_pre {L : List (List Int)} {r : List Int} : L <+: putR L r := by
  unfold putR; split
  · exact List.prefix_refl _
  · exact List.prefix_append _ _
theorem putR_nodup {L : List (List Int)} {r : List Int} (h : L.Nodup) : (putR L r).Nodup := by
  unfold putR; split
  · exact h
  · rename_i hn
    rw [List.nodup_append]
    refine ⟨h, by simp, fun a ha b hb => ?_⟩
    rw [List.mem_singleton] at hb
    rintro rfl
    exact hn (hb ▸ ha)
/-- One pair of phrases. -/
def seed1 (ps : List Phr) (i : Nat) (x : Phr) (L : List (List Int)) (k : Nat) : List (List Int) := match ps[k]? with
  | some y => if i ≠ k ∧ begB x.2 y.2 = true then putR L (y.2.drop x.2.length) else L
  | Option.none => L
/-- One phrase with the first j others, the first i phrases with all others. -/
def seedK (ps : List Phr) (i : Nat) (x : Phr) (L : List (List Int)) (j : Nat) : List (List Int) := (List.range j).foldl (seed1 ps i x) L
def seedI (ps : List Phr) : Nat → List (List Int)
  | 0 => []
  | i + 1 => match ps[i]? with
    | some x => seedK ps i x (seedI ps i) ps.length
    | Option.none => seedI ps i
def seedR (ps : List Phr) : List (List Int) := seedI ps ps.length
theorem seedK_succ {ps : List Phr} {i j : Nat} {x : Phr} {L : List (List Int)} : seedK ps i x L (j + 1) = seed1 ps i x (seedK ps i x L j) j := by
  unfold seedK; rw [List.range_succ, List.foldl_append]; rfl
theorem seedI_succ {ps : List Phr} {i : Nat} {x : Phr} (h : ps[i]? = some x) : seedI ps (i + 1) = seedK ps i x (seedI ps i) ps.length := by rw [seedI, h]
theorem seed1_yes {ps : List Phr} {i k : Nat} {x y : Phr} {L : List (List Int)} (hy : ps[k]? = some y) (h : i ≠ k) (hb : begB x.2 y.2 = true) : seed1 ps i x L k = putR L (y.2.drop x.2.length) := by
  unfold seed1; rw [hy]; exact if_pos ⟨h, hb⟩
theorem seed1_no {ps : List Phr} {i k : Nat} {x y : Phr} {L : List (List Int)} (hy : ps[k]? = some y) (h : ¬ (i ≠ k ∧ begB x.2 y.2 = true)) : seed1 ps i x L k = L := by
  unfold seed1; rw [hy]; exact if_neg h
/-- One phrase behind, or ahead of, a rest. -/
def turn1 (x : List Int) (L : List (List Int)) (y : Phr) : List (List Int) :=
  let L1 := if begB x y.2 then putR L (y.2.drop x.length) else L
  if begB y.2 x then putR L1 (x.drop y.2.length) else L1
def turnR (ps : List Phr) (x : List Int) (L : List (List Int)) (j : Nat) : List (List Int) := (ps.take j).foldl (turn1 x) L
theorem turnR_succ {ps : List Phr} {x : List Int} {L : List (List Int)} {j : Nat} {y : Phr} (h : ps[j]? = some y) : turnR ps x L (j + 1) = turn1 x (turnR ps x L j) y := by
  unfold turnR; rw [take_snocN h, List.foldl_append]; rfl
/-- From the n-th rest on, until nothing new is left. -/
def runR (ps : List Phr) : Nat → Nat → List (List Int) → List (List Int)
  | 0, _, L => L
  | f + 1, n, L => match L[n]? with
    | Option.none => L
    | some x => runR ps f (n + 1) (turnR ps x L ps.length)
/-- All rests. -/
def restsR (ps : List Phr) : List (List Int) := runR ps 200 0 (seedR ps)
def oneB (ps : List Phr) : Bool := decide ([] ∉ restsR ps)
theorem runR_on {ps : List Phr} {f n : Nat} {L : List (List Int)} {x : List Int} (h : L[n]? = some x) : runR ps (f + 1) n L = runR ps f (n + 1) (turnR ps x L ps.length) := by rw [runR, h]
theorem runR_end {ps : List Phr} {f n : Nat} {L : List (List Int)} (h : L.length ≤ n) : runR ps f n L = L := by
  cases f with
  | zero => rfl
  | succ f => rw [runR, List.getElem?_eq_none h]
theorem turn1_pre {x : List Int} {L : List (List Int)} {y : Phr} : L <+: turn1 x L y := by
  unfold turn1
  dsimp only
  split <;> split
  · exact putR_pre.trans putR_pre
  · exact putR_pre
  · exact putR_pre
  · exact List.prefix_refl _
theorem turn_pre {x : List Int} : ∀ (qs : List Phr) (L : List (List Int)), L <+: qs.foldl (turn1 x) L
  | [], L => List.prefix_refl _
  | q :: qs, L => by rw [List.foldl_cons]; exact turn1_pre.trans (turn_pre qs _)
theorem turnR_pre {ps : List Phr} {x : List Int} {L : List (List Int)} {j : Nat} : L <+: turnR ps x L j := turn_pre _ _
theorem turnR_mono {ps : List Phr} {x : List Int} {L : List (List Int)} {j k : Nat} (h : j ≤ k) : turnR ps x L j <+: turnR ps x L k := by
  unfold turnR
  have : ps.take k = ps.take j ++ (ps.take k).drop j := by
    have e := List.take_append_drop j (ps.take k)
    rw [List.take_take, Nat.min_eq_left h] at e
    exact e.symm
  rw [this, List.foldl_append]
  exact turn_pre _ _
theorem runR_pre {ps : List Phr} : ∀ (f n : Nat) (L : List (List Int)), L <+: runR ps f n L
  | 0, _, L => List.prefix_refl _
  | f + 1, n, L => by
    rw [runR]
    split
    · exact List.prefix_refl _
    · exact turnR_pre.trans (runR_pre f _ _)
/-- The ends of the signals of phrases. -/
def endsP (p : Phr) : List (List Int) := (List.range (p.2.length + 1)).map fun k => p.2.drop k
def endsB (ps : List Phr) : List (List Int) := ps.flatMap endsP
theorem ends_drop {ps : List Phr} {p : Phr} (h : p ∈ ps) {k : Nat} (hk : k ≤ p.2.length) : p.2.drop k ∈ endsB ps := by
  unfold endsB endsP
  rw [List.mem_flatMap]
  exact ⟨p, h, List.mem_map.2 ⟨k, List.mem_range.2 (by omega), rfl⟩⟩
theorem ends_again {ps : List Phr} {r : List Int} (h : r ∈ endsB ps) {k : Nat} (hk : k ≤ r.length) : r.drop k ∈ endsB ps := by
  unfold endsB endsP at h
  rw [List.mem_flatMap] at h
  obtain ⟨p, hp, h⟩ := h
  rw [List.mem_map] at h
  obtain ⟨j, hj, rfl⟩ := h
  rw [List.mem_range] at hj
  rw [List.drop_drop]
  rw [List.length_drop] at hk
  exact ends_drop hp (by omega)
theorem ends_len {ps : List Phr} (h : bookB ps = true) : (endsB ps).length ≤ 160 := by
  have h1 := bookB_len h
  have h2 : ∀ p ∈ ps, p.2.length ≤ 3 := fun p hp => (phrOk_sig (bookB_phr h hp)).2.1
  have h3 : (endsB ps).length ≤ 4 * ps.length := by
    unfold endsB
    clear h h1
    induction ps with
    | nil => simp
    | cons p l ih =>
      have := ih (fun q hq => h2 q (List.mem_cons_of_mem _ hq))
      have h4 := h2 p (by simp)
      rw [List.flatMap_cons, List.length_append, List.length_cons]
      unfold endsP at this ⊢
      rw [List.length_map, List.length_range]
      omega
  omega
theorem nodup_len {α : Type} [DecidableEq α] : ∀ (L E : List α), L.Nodup → (∀ x ∈ L, x ∈ E) → L.length ≤ E.length
  | [], E, _, _ => by simp
  | a :: L, E, h, hs => by
    rw [List.nodup_cons] at h
    have ha := hs a (by simp)
    have h1 := nodup_len L (E.erase a) h.2 (fun x hx => by
      have hne : x ≠ a := by rintro rfl; exact h.1 hx
      exact (List.mem_erase_of_ne hne).2 (hs x (List.mem_cons_of_mem _ hx)))
    have h2 := List.length_erase_of_mem ha
    have h3 : 0 < E.length := List.length_pos_of_mem ha
    rw [List.length_cons]
    omega
/-- A list of rests: none twice, all of them ends of phrases. -/
structure RestOk (ps : List Phr) (L : List (List Int)) : Prop where
  nodup : L.Nodup
  ends : ∀ r ∈ L, r ∈ endsB ps
theorem RestOk.nil (ps : List Phr) : RestOk ps [] := ⟨List.nodup_nil, fun r h => by cases h⟩
theorem RestOk.put {ps : List Phr} {L : List (List Int)} {r : List Int} (h : RestOk ps L) (hr : r ∈ endsB ps) : RestOk ps (putR L r) := by
  refine ⟨putR_nodup h.nodup, fun x hx => ?_⟩
  unfold putR at hx
  split at hx
  · exact h.ends x hx
  · rw [List.mem_append, List.mem_singleton] at hx
    rcases hx with hx | rfl
    · exact h.ends x hx
    · exact hr
theorem RestOk.len {ps : List Phr} {L : List (List Int)} (h : RestOk ps L) (hb : bookB ps = true) : L.length ≤ 160 := Nat.le_trans (nodup_len L _ h.nodup h.ends) (ends_len hb)
theorem begB_le {xs ys : List Int} (h : begB xs ys = true) : xs.length ≤ ys.length := by rw [begB_iff] at h; exact h.length_le
theorem RestOk.seed1 {ps : List Phr} {L : List (List Int)} (h : RestOk ps L) (i : Nat) (x : Phr) (k : Nat) : RestOk ps (seed1 ps i x L k) := by
  unfold Go.Proofs.Ytabiobjcfopakaa.seed1
  split
  · rename_i y hy
    split
    · rename_i hc
      exact h.put (ends_drop (List.mem_of_getElem? hy) (begB_le hc.2))
    · exact h
  · exact h
theorem RestOk.seedK {ps : List Phr} {L : List (List Int)} (h : RestOk ps L) (i : Nat) (x : Phr) : ∀ j, RestOk ps (seedK ps i x L j)
  | 0 => h
  | j + 1 => by rw [seedK_succ]; exact (RestOk.seedK h i x j).seed1 i x j
theorem RestOk.seedI (ps : List Phr) : ∀ i, RestOk ps (seedI ps i)
  | 0 => RestOk.nil ps
  | i + 1 => by
    rw [Go.Proofs.Ytabiobjcfopakaa.seedI]
    split
    · exact (RestOk.seedI ps i).seedK _ _ _
    · exact RestOk.seedI ps i
theorem RestOk.turn1 {ps : List Phr} {L : List (List Int)} {x : List Int} {y : Phr} (h : RestOk ps L) (hx : x ∈ endsB ps) (hy : y ∈ ps) : RestOk ps (turn1 x L y) := by
  unfold Go.Proofs.Ytabiobjcfopakaa.turn1
  dsimp only
  have h1 : RestOk ps (if begB x y.2 then putR L (y.2.drop x.length) else L) := by
    split
    · rename_i hb; exact h.put (ends_drop hy (begB_le hb))
    · exact h
  split
  · rename_i hb; exact h1.put (ends_again hx (begB_le hb))
  · exact h1
theorem RestOk.turnR {ps : List Phr} {L : List (List Int)} {x : List Int} (h : RestOk ps L) (hx : x ∈ endsB ps) (j : Nat) : RestOk ps (turnR ps x L j) := by
  unfold Go.Proofs.Ytabiobjcfopakaa.turnR
  have : ∀ (qs : List Phr), (∀ q ∈ qs, q ∈ ps) → ∀ L, RestOk ps L → RestOk ps (qs.foldl (Go.Proofs.Ytabiobjcfopakaa.turn1 x) L) := by
    intro qs
    induction qs with
    | nil => intro _ L h; exact h
    | cons q qs ih =>
      intro hq L h
      rw [List.foldl_cons]
      exact ih (fun r hr => hq r (List.mem_cons_of_mem _ hr)) _ (h.turn1 hx (hq q (by simp)))
  exact this _ (fun q hq => List.mem_of_mem_take hq) L h
/-- So far: the n-th rest is next. -/
def RunTo (ps : List Phr) (n : Nat) (L : List (List Int)) : Prop := RestOk ps L ∧ n ≤ L.length ∧ runR ps (200 - n) n L = restsR ps
theorem RunTo.start (ps : List Phr) : RunTo ps 0 (seedR ps) := ⟨RestOk.seedI ps ps.length, Nat.zero_le _, rfl⟩
theorem RunTo.bd {ps : List Phr} {n : Nat} {L : List (List Int)} (h : RunTo ps n L) (hb : bookB ps = true) : L.length ≤ 160 ∧ n ≤ 160 := by
  have h1 := h.1.len hb
  have h2 := h.2.1
  omega
theorem RunTo.on {ps : List Phr} {n : Nat} {L : List (List Int)} {x : List Int} (h : RunTo ps n L) (hb : bookB ps = true) (hx : L[n]? = some x) : RunTo ps (n + 1) (turnR ps x L ps.length) := by
  have h0 := h.bd hb
  have hn := (List.getElem?_eq_some_iff.1 hx).1
  have hr := h.1.turnR (h.1.ends x (List.mem_of_getElem? hx)) ps.length
  have hp : L.length ≤ (turnR ps x L ps.length).length := (turnR_pre).length_le
  refine ⟨hr, by omega, ?_⟩
  have h3 := h.2.2
  rw [show 200 - n = (200 - (n + 1)) + 1 by omega, runR_on hx] at h3
  exact h3
theorem RunTo.fin {ps : List Phr} {n : Nat} {L : List (List Int)} (h : RunTo ps n L) (hl : L.length ≤ n) : L = restsR ps := by
  have h3 := h.2.2
  rwa [runR_end hl] at h3
theorem RunTo.sub {ps : List Phr} {n : Nat} {L : List (List Int)} (h : RunTo ps n L) : L <+: restsR ps := by
  rw [← h.2.2]; exact runR_pre _ _ _
/-- While the n-th rest is held against the phrases. -/
theorem RunTo.mid {ps : List Phr} {n : Nat} {L : List (List Int)} {x : List Int} (h : RunTo ps n L) (hb : bookB ps = true) (hx : L[n]? = some x) {j : Nat} (hj : j ≤ ps.length) : turnR ps x L j <+: restsR ps ∧ RestOk ps (turnR ps x L j) ∧ (turnR ps x L j).length ≤ 160 ∧ (turnR ps x L j)[n]? = some x := by
  have hr := h.1.turnR (h.1.ends x (List.mem_of_getElem? hx)) j
  refine ⟨(turnR_mono hj).trans (h.on hb hx).sub, hr, hr.len hb, ?_⟩
  obtain ⟨t, ht⟩ := turnR_pre (ps := ps) (x := x) (L := L) (j := j)
  rw [← ht, List.getElem?_append_left (List.getElem?_eq_some_iff.1 hx).1]
  exact hx
/-- A rest that is a phrase: nothing is left of it. -/
theorem turn1_same {x : List Int} {L : List (List Int)} {y : Phr} (h : x = y.2) : [] ∈ turn1 x L y := by
  unfold turn1
  have hb : begB y.2 x = true := by rw [h]; exact begB_iff.2 (List.prefix_refl _)
  dsimp only
  rw [if_pos hb, show x.drop y.2.length = [] by rw [h]; exact List.drop_length]
  exact putR_mem
theorem turn1_fore {x : List Int} {L : List (List Int)} {y : Phr} (h : x ≠ y.2) (hb : begB x y.2 = true) : turn1 x L y = putR L (y.2.drop x.length) ∧ y.2.drop x.length ≠ [] := by
  have hp := begB_iff.1 hb
  have hlt : x.length < y.2.length := by
    rcases Nat.lt_or_ge x.length y.2.length with h1 | h1
    · exact h1
    · exact absurd (hp.eq_of_length (Nat.le_antisymm hp.length_le h1)) h
  have hn : begB y.2 x = false := by
    cases e : begB y.2 x
    · rfl
    · have := begB_le e; omega
  unfold turn1
  refine ⟨by dsimp only; rw [if_pos hb, hn]; rfl, fun e => ?_⟩
  have := congrArg List.length e
  rw [List.length_drop, List.length_nil] at this
  omega
theorem turn1_aft {x : List Int} {L : List (List Int)} {y : Phr} (hb : begB x y.2 = false) (hb2 : begB y.2 x = true) : turn1 x L y = putR L (x.drop y.2.length) ∧ x.drop y.2.length ≠ [] := by
  have hp := begB_iff.1 hb2
  unfold turn1
  refine ⟨by dsimp only; rw [hb, if_pos hb2]; rfl, fun e => ?_⟩
  have h1 := congrArg List.length e
  rw [List.length_drop, List.length_nil] at h1
  have h2 := hp.eq_of_length (Nat.le_antisymm hp.length_le (by omega))
  rw [h2, begB_iff.2 (List.prefix_refl _)] at hb
  cases hb
theorem turn1_no {x : List Int} {L : List (List Int)} {y : Phr} (hb : begB x y.2 = false) (hb2 : begB y.2 x = false) : turn1 x L y = L := by
  unfold turn1; dsimp only; rw [hb, hb2]; rfl
theorem put_ne {L : List (List Int)} {r : List Int} (h : [] ∉ L) (hr : r ≠ []) : [] ∉ putR L r := by
  unfold putR; split
  · exact h
  · rw [List.mem_append, List.mem_singleton]
    rintro (h1 | h1)
    · exact h h1
    · exact hr h1.symm
theorem seed1_ne {ps : List Phr} (hb : bookB ps = true) {i k : Nat} {x : Phr} {L : List (List Int)} (hx : ps[i]? = some x) (h : [] ∉ L) : [] ∉ seed1 ps i x L k := by
  unfold seed1
  split
  · rename_i y hy
    split
    · rename_i hc
      refine put_ne h fun e => ?_
      have hp := begB_iff.1 hc.2
      have h1 := congrArg List.length e
      rw [List.length_drop, List.length_nil] at h1
      have h2 := hp.eq_of_length (Nat.le_antisymm hp.length_le (by omega))
      rcases Nat.lt_or_gt_of_ne hc.1 with hlt | hlt
      · exact book_sigs hb hx hy hlt h2
      · exact book_sigs hb hy hx hlt h2.symm
    · exact h
  · exact h
theorem seedK_ne {ps : List Phr} (hb : bookB ps = true) {i : Nat} {x : Phr} {L : List (List Int)} (hx : ps[i]? = some x) (h : [] ∉ L) : ∀ j, [] ∉ seedK ps i x L j
  | 0 => h
  | j + 1 => by rw [seedK_succ]; exact seed1_ne hb hx (seedK_ne hb hx h j)
theorem seedI_ne {ps : List Phr} (hb : bookB ps = true) : ∀ i, [] ∉ seedI ps i
  | 0 => by simp [seedI]
  | i + 1 => by
    rw [seedI]
    split
    · rename_i x hx; exact seedK_ne hb hx (seedI_ne hb i) _
    · exact seedI_ne hb i
end Go.Proofs.Ytabiobjcfopakaa
/- Plain laws: where no rest is empty, signals are read in one way alone. -/
namespace Go.Proofs.Ytabiobjcfopakaa
open Go.RowKit
/-- The first n rests have been held against all phrases. -/
def CloN (ps : List Phr) (n : Nat) (L : List (List Int)) : Prop :=
  ∀ (j : Nat) (r : List Int) (y : Phr), j < n → L[j]? = some r → y ∈ ps → (begB r y.2 = true → y.2.drop r.length ∈ L) ∧ (begB y.2 r = true → r.drop y.2.length ∈ L)
theorem turn1_mem {x : List Int} {L : List (List Int)} {y : Phr} : (begB x y.2 = true → y.2.drop x.length ∈ turn1 x L y) ∧ (begB y.2 x = true → x.drop y.2.length ∈ turn1 x L y) := by
  unfold turn1
  dsimp only
  constructor
  · intro h
    rw [if_pos h]
    split
    · exact putR_pre.subset putR_mem
    · exact putR_mem
  · intro h
    rw [if_pos h]
    exact putR_mem
theorem turnR_mem {ps : List Phr} {x : List Int} {L : List (List Int)} {y : Phr} (hy : y ∈ ps) : (begB x y.2 = true → y.2.drop x.length ∈ turnR ps x L ps.length) ∧ (begB y.2 x = true → x.drop y.2.length ∈ turnR ps x L ps.length) := by
  obtain ⟨j, hj, rfl⟩ := List.getElem_of_mem hy
  have hs := turnR_succ (ps := ps) (x := x) (L := L) (j := j) (y := ps[j]) (List.getElem?_eq_getElem hj)
  have hm := turnR_mono (ps := ps) (x := x) (L := L) (j := j + 1) (k := ps.length) (by omega)
  rw [hs] at hm
  exact ⟨fun h => hm.subset (turn1_mem.1 h), fun h => hm.subset (turn1_mem.2 h)⟩
theorem clo_run {ps : List Phr} (hb : bookB ps = true) : ∀ (f n : Nat) (L : List (List Int)), f = 200 - n → RunTo ps n L → CloN ps n L → CloN ps (restsR ps).length (restsR ps)
  | 0, n, L, hf, hr, _ => by have := hr.bd hb; omega
  | f + 1, n, L, hf, hr, hc => by
    have hn := hr.2.1
    rcases Nat.lt_or_ge n L.length with h | h
    · have hx : L[n]? = some L[n] := List.getElem?_eq_getElem h
      obtain ⟨x, hxe⟩ : ∃ x, x = L[n] := ⟨_, rfl⟩
      rw [← hxe] at hx
      obtain ⟨T, hT⟩ := turnR_pre (ps := ps) (x := x) (L := L) (j := ps.length)
      refine clo_run hb f (n + 1) (turnR ps x L ps.length) (by omega) (hr.on hb hx) ?_
      intro j r y hj hjr hy
      rw [← hT, List.getElem?_append_left (by omega)] at hjr
      by_cases e : j = n
      · subst e
        rw [hx] at hjr; cases hjr
        exact turnR_mem hy
      · have h2 := hc j r y (by omega) hjr hy
        have hp := turnR_pre (ps := ps) (x := x) (L := L) (j := ps.length)
        exact ⟨fun h => hp.subset (h2.1 h), fun h => hp.subset (h2.2 h)⟩
    · have e := hr.fin h
      have : n = L.length := by omega
      rw [← e, ← this]; exact hc
theorem rests_turn {ps : List Phr} (hb : bookB ps = true) {r : List Int} {y : Phr} (hr : r ∈ restsR ps) (hy : y ∈ ps) : (begB r y.2 = true → y.2.drop r.length ∈ restsR ps) ∧ (begB y.2 r = true → r.drop y.2.length ∈ restsR ps) := by
  have h := clo_run hb 200 0 (seedR ps) rfl (RunTo.start ps) (fun j r y hj => by omega)
  obtain ⟨j, hj, rfl⟩ := List.getElem_of_mem hr
  exact h j _ y hj (List.getElem?_eq_getElem hj) hy
theorem seed1_pre {ps : List Phr} {i : Nat} {x : Phr} {L : List (List Int)} {k : Nat} : L <+: seed1 ps i x L k := by
  unfold seed1
  split
  · split
    · exact putR_pre
    · exact List.prefix_refl _
  · exact List.prefix_refl _
theorem seedK_mono {ps : List Phr} {i : Nat} {x : Phr} {L : List (List Int)} {j : Nat} : ∀ d, seedK ps i x L j <+: seedK ps i x L (j + d)
  | 0 => List.prefix_refl _
  | d + 1 => by rw [show j + (d + 1) = (j + d) + 1 by omega, seedK_succ]; exact (seedK_mono d).trans seed1_pre
theorem seedI_mono {ps : List Phr} {i : Nat} : ∀ d, seedI ps i <+: seedI ps (i + d)
  | 0 => List.prefix_refl _
  | d + 1 => by
    rw [show i + (d + 1) = (i + d) + 1 by omega, seedI]
    split
    · have := seedK_mono (ps := ps) (i := i + d) (x := (by assumption)) (L := seedI ps (i + d)) (j := 0) ps.length
      rw [Nat.zero_add] at this
      exact (seedI_mono d).trans this
    · exact seedI_mono d
theorem rests_seed {ps : List Phr} {i k : Nat} {x y : Phr} (hx : ps[i]? = some x) (hy : ps[k]? = some y) (hne : i ≠ k) (h : begB x.2 y.2 = true) : y.2.drop x.2.length ∈ restsR ps := by
  have hi := (List.getElem?_eq_some_iff.1 hx).1
  have hk := (List.getElem?_eq_some_iff.1 hy).1
  have h1 : y.2.drop x.2.length ∈ seedK ps i x (seedI ps i) (k + 1) := by rw [seedK_succ, seed1_yes hy hne h]; exact putR_mem
  have h2 := (seedK_mono (ps := ps) (i := i) (x := x) (L := seedI ps i) (j := k + 1) (ps.length - (k + 1))).subset h1
  rw [show k + 1 + (ps.length - (k + 1)) = ps.length by omega, ← seedI_succ hx] at h2
  have h3 := (seedI_mono (ps := ps) (i := i + 1) (ps.length - (i + 1))).subset h2
  rw [show i + 1 + (ps.length - (i + 1)) = ps.length by omega] at h3
  exact (RunTo.start ps).sub.subset h3
/-- Signals that phrases have, one after the other. -/
def Rdb (ps : List Phr) (xs : List Int) : Prop := ∃ l : List Nat, (∀ i ∈ l, i < ps.length) ∧ sigsOf ps l = xs
theorem sigsOf_cons {ps : List Phr} {l : List Nat} {i : Nat} {p : Phr} (h : ps[i]? = some p) : sigsOf ps (i :: l) = p.2 ++ sigsOf ps l := by
  unfold sigsOf; rw [List.flatMap_cons, h]; rfl
theorem Rdb.nil (ps : List Phr) : Rdb ps [] := ⟨[], by simp, rfl⟩
theorem Rdb.cons {ps : List Phr} {xs : List Int} {p : Phr} (hp : p ∈ ps) (h : Rdb ps xs) : Rdb ps (p.2 ++ xs) := by
  obtain ⟨l, h1, h2⟩ := h
  obtain ⟨i, hi, rfl⟩ := List.getElem_of_mem hp
  refine ⟨i :: l, fun j hj => ?_, by rw [sigsOf_cons (List.getElem?_eq_getElem hi), h2]⟩
  rcases List.mem_cons.1 hj with rfl | hj
  · exact hi
  · exact h1 j hj
theorem begB_pre (a t : List Int) : begB a (a ++ t) = true := begB_iff.2 (List.prefix_append _ _)
theorem no_bad {ps : List Phr} (hb : bookB ps = true) (ho : oneB ps = true) : ∀ (n : Nat) (r zs : List Int), (r ++ zs).length ≤ n → r ∈ restsR ps → Rdb ps (r ++ zs) → Rdb ps zs → False := by
  have ho' : [] ∉ restsR ps := by unfold oneB at ho; exact of_decide_eq_true ho
  intro n
  induction n with
  | zero =>
    intro r zs hl hr _ _
    have : r = [] := by
      rw [List.length_append] at hl
      exact List.eq_nil_of_length_eq_zero (by omega)
    rw [this] at hr
    exact ho' hr
  | succ n ih =>
    intro r zs hl hr h1 h2
    have hr0 : 1 ≤ r.length := by
      rcases Nat.eq_zero_or_pos r.length with h | h
      · rw [List.eq_nil_of_length_eq_zero h] at hr; exact absurd hr ho'
      · exact h
    obtain ⟨l, hv, he⟩ := h1
    cases l with
    | nil =>
      have := congrArg List.length he
      simp [sigsOf] at this
      omega
    | cons i l =>
      have hi := hv i (by simp)
      obtain ⟨p, hp⟩ : ∃ p, ps[i]? = some p := ⟨_, List.getElem?_eq_getElem hi⟩
      have hpm := List.mem_of_getElem? hp
      have hp1 := (phrOk_sig (bookB_phr hb hpm)).1
      rw [sigsOf_cons hp] at he
      have hrl : Rdb ps (sigsOf ps l) := ⟨l, fun j hj => hv j (by simp [hj]), rfl⟩
      rw [List.length_append] at hl
      rcases List.append_eq_append_iff.1 he with ⟨t, e1, e2⟩ | ⟨t, e1, e2⟩
      · subst e1
        have ht := (rests_turn hb hr hpm).2 (begB_pre _ _)
        rw [List.drop_left] at ht
        refine ih t zs (by rw [List.length_append]; rw [List.length_append] at hl; omega) ht ?_ h2
        rw [← e2]; exact hrl
      · have ht := (rests_turn hb hr hpm).1 (by rw [e1]; exact begB_pre _ _)
        rw [e1, List.drop_left] at ht
        refine ih t (sigsOf ps l) ?_ ht (by rw [← e2]; exact h2) hrl
        rw [← e2]; omega
/-- Two different phrases at one place. -/
theorem no_two {ps : List Phr} (hb : bookB ps = true) (ho : oneB ps = true) {i k : Nat} {x y : Phr} (hx : ps[i]? = some x) (hy : ps[k]? = some y) (hne : i ≠ k) {a b : List Int} (ha : Rdb ps a) (hbb : Rdb ps b) (he : x.2 ++ a = y.2 ++ b) : False := by
  rcases List.append_eq_append_iff.1 he with ⟨t, e1, e2⟩ | ⟨t, e1, e2⟩
  · have ht := rests_seed hx hy hne (by rw [e1]; exact begB_pre _ _)
    rw [e1, List.drop_left] at ht
    exact no_bad hb ho _ t b (Nat.le_refl _) ht (by rw [← e2]; exact ha) hbb
  · have ht := rests_seed hy hx (fun h => hne h.symm) (by rw [e1]; exact begB_pre _ _)
    rw [e1, List.drop_left] at ht
    exact no_bad hb ho _ t a (Nat.le_refl _) ht (by rw [← e2]; exact hbb) ha
theorem sum_le_one : ∀ (l : List Nat), (∀ x ∈ l, x ≤ 1) → (∀ (i k : Nat), i ≠ k → l[i]? = some 1 → l[k]? = some 1 → False) → l.sum ≤ 1
  | [], _, _ => by simp
  | x :: l, h1, h2 => by
    have hx := h1 x (by simp)
    have ih := sum_le_one l (fun y hy => h1 y (by simp [hy])) (fun i k hne a b => h2 (i + 1) (k + 1) (by omega) (by simpa using a) (by simpa using b))
    rw [List.sum_cons]
    rcases Nat.eq_zero_or_pos x with e | e
    · omega
    · have e1 : x = 1 := by omega
      have hz : ∀ y ∈ l, y = 0 := by
        intro y hy
        obtain ⟨k, hk, rfl⟩ := List.getElem_of_mem hy
        have hy1 := h1 l[k] (by simp)
        rcases Nat.eq_zero_or_pos l[k] with e2 | e2
        · exact e2
        · exact absurd (h2 0 (k + 1) (by omega) (by simp [e1]) (by rw [List.getElem?_cons_succ, List.getElem?_eq_getElem hk]; congr 1; omega)) id
      have : l.sum = 0 := by
        clear ih h1 h2
        induction l with
        | nil => rfl
        | cons y l ih => rw [List.sum_cons, hz y (by simp), ih (fun z hz' => hz z (by simp [hz']))]
      omega
/-- Each place has one way at most, and where it has one, the signals from there on can be read. -/
theorem ways_one {ps : List Phr} (hb : bookB ps = true) (ho : oneB ps = true) (sig : List Int) : ∀ k, k ≤ sig.length →
    ∀ j, j ≤ k → (dpW (fitS sig) (fun p => p.2.length) ps sig.length j).getD 0 0 ≤ 1 ∧ (0 < (dpW (fitS sig) (fun p => p.2.length) ps sig.length j).getD 0 0 → Rdb ps (sig.drop (sig.length - j)))
  | 0, _, j, hj => by
    obtain rfl : j = 0 := by omega
    refine ⟨by simp [dpW], fun _ => ?_⟩
    rw [Nat.sub_zero, List.drop_length]; exact Rdb.nil ps
  | k + 1, hk, j, hj => by
    have ih := ways_one hb ho sig k (by omega)
    rcases Nat.lt_or_ge k j with h | h
    · obtain rfl : j = k + 1 := by omega
      obtain ⟨tb, htb⟩ : ∃ tb, tb = dpW (fitS sig) (fun p => p.2.length) ps sig.length k := ⟨_, rfl⟩
      have hd : ∀ d, d ≤ k → tb.getD d 0 = (dpW (fitS sig) (fun p => p.2.length) ps sig.length (k - d)).getD 0 0 := by
        intro d hd
        have := dpW_drop (fitS sig) (fun p => p.2.length) ps sig.length k d hd
        rw [← this, ← htb]
        simp [List.getD_eq_getElem?_getD]
      have hap := apart_sig hb sig (sig.length - (k + 1))
      rw [show sig.length - (sig.length - (k + 1)) = k + 1 by omega] at hap
      have hone : ∀ p ∈ ps, fitS sig (sig.length - (k + 1)) p = true → tb.getD (p.2.length - 1) 0 ≤ 1 ∧ (0 < tb.getD (p.2.length - 1) 0 → Rdb ps (sig.drop (sig.length - (k + 1) + p.2.length)) ∧ sig.drop (sig.length - (k + 1)) = p.2 ++ sig.drop (sig.length - (k + 1) + p.2.length)) := by
        intro p hp hf
        have hl := hap.2 p hp hf
        have hl1 : 1 ≤ p.2.length ∧ p.2.length ≤ k + 1 := hl
        rw [hd (p.2.length - 1) (by omega)]
        have := ih (k - (p.2.length - 1)) (by omega)
        refine ⟨this.1, fun h0 => ⟨?_, ?_⟩⟩
        · have h3 := this.2 h0
          rwa [show sig.length - (k - (p.2.length - 1)) = sig.length - (k + 1) + p.2.length by omega] at h3
        · unfold fitS at hf
          obtain ⟨t, ht⟩ := begB_iff.1 hf
          rw [← List.drop_drop, ← ht, List.drop_left]
      rw [dpW, ← htb]
      simp only [List.getD_cons_zero]
      constructor
      · unfold wayAt
        refine sum_le_one _ ?_ ?_
        · intro x hx
          obtain ⟨p, hp, rfl⟩ := List.mem_map.1 hx
          split
          · rename_i hf; exact (hone p hp hf).1
          · omega
        · intro i l hne h1 h2
          rw [List.getElem?_map] at h1 h2
          cases hpi : ps[i]? with
          | none => rw [hpi] at h1; cases h1
          | some p =>
            cases hql : ps[l]? with
            | none => rw [hql] at h2; cases h2
            | some q =>
              rw [hpi] at h1
              rw [hql] at h2
              simp only [Option.map_some, Option.some.injEq] at h1 h2
              split at h1
              · rename_i hf
                split at h2
                · rename_i hg
                  have a1 := (hone p (List.mem_of_getElem? hpi) hf).2 (by omega)
                  have a2 := (hone q (List.mem_of_getElem? hql) hg).2 (by omega)
                  exact no_two hb ho hpi hql hne a1.1 a2.1 (by rw [← a1.2, ← a2.2])
                · omega
              · omega
      · intro h0
        obtain ⟨p, hp, hf, h1⟩ := wayAt_pos h0
        have a1 := (hone p hp hf).2 h1
        rw [a1.2]
        exact Rdb.cons hp a1.1
    · exact ih j h
end Go.Proofs.Ytabiobjcfopakaa
/- Contracts: the signals of what spells letters, one after the other, and how many; of the program and of the reference. -/
namespace Go.Proofs.Ytabiobjcfopakaa
open Go.RowKit
/-- What the loop over the phrases' numbers leans on. -/
structure NumsOk (ps : List Phr) (l : List Nat) : Prop where
  lt : ∀ i ∈ l, i < ps.length
  len : l.length ≤ 40
  book : 0 < l.length → bookB ps = true
theorem NumsOk.at_ {ps : List Phr} {l : List Nat} (h : NumsOk ps l) {k : Nat} (hk : k < l.length) : ∃ i p, l[k]? = some i ∧ ps[i]? = some p ∧ i < ps.length ∧ (sigsOf ps (l.take k)).length + p.2.length ≤ 1000 := by
  have hi := h.lt l[k] (List.getElem_mem hk)
  have hb := h.book (by omega)
  refine ⟨l[k], ps[l[k]], List.getElem?_eq_getElem hk, List.getElem?_eq_getElem hi, hi, ?_⟩
  have h1 := sigsOf_bd hb (l.take k)
  have h2 := (phrOk_sig (bookB_phr hb (List.getElem_mem hi))).2.1
  have h3 := h.len
  rw [List.length_take] at h1
  omega
end Go.Proofs.Ytabiobjcfopakaa
/- For the law of readings: the first reading has the signals; at most one reading where books are read in one way. -/
namespace Go.Proofs.Ytabiobjcfopakaa
open Go.RowKit
theorem sameInts_sameB (xs : List Int) (v u : Value) (hi hj : Nat) (w : World) (h : RdI w hi v xs) (g : RdI w hj u xs) : Calls Try.prog 25 #[v, u] w fun e w' => e = .returned (.bool true) ∧ Below w.heap.size w w' :=
  (sameInts_same xs v u hi hj w h g).mono fun _ _ ⟨he, n, hw⟩ => ⟨he, by rw [hw]; exact bel_drewN _ _ _⟩
theorem path_sigs {ps : List Phr} {sig : List Int} (hb : bookB ps = true) : ∀ (f m : Nat), sig.length - m ≤ f → m ≤ sig.length → (m < sig.length → 0 < (tbS ps sig).getD m 0) →
    sigsOf ps (pathF sig.length (nextW (fitS sig) sigLen ps (tbS ps sig)) (lnOf sigLen ps) f m) = sig.drop m
  | 0, m, h1, h2, _ => by
    obtain rfl : m = sig.length := by omega
    rw [pathF_end (Nat.le_refl _), List.drop_length]; rfl
  | f + 1, m, h1, h2, h3 => by
    rcases Nat.lt_or_ge m sig.length with hm | hm
    · obtain ⟨i, p, hn, hp, hf, hpos⟩ := nextW_some hm (fitS_hyp hb sig m) (h3 hm)
      have hn2 : nextW (fitS sig) sigLen ps (tbS ps sig) m = some i := hn
      have hl := fitS_hyp hb sig m p (List.mem_of_getElem? hp) hf
      have hle := fitS_le hf hl
      rw [pathF_on hm hn2, sigsOf_cons hp, lnOf_at hp, path_sigs hb f (m + sigLen p) (by omega) hle (fun _ => hpos)]
      have hpre : p.2 <+: sig.drop m := by unfold fitS at hf; exact begB_iff.1 hf
      obtain ⟨t, ht⟩ := hpre
      have hd : sig.drop (m + sigLen p) = t := by rw [← List.drop_drop, ← ht, List.drop_left]
      rw [hd, ht]
    · obtain rfl : m = sig.length := by omega
      rw [pathF_end (Nat.le_refl _), List.drop_length]; rfl
theorem read_sigs {ps : List Phr} {sig : List Int} (hb : bookB ps = true) (h : 0 < cntS ps sig) : sigsOf ps (readN ps sig) = sig := by
  unfold readN
  rw [if_pos h]
  have := path_sigs (sig := sig) hb sig.length 0 (by omega) (by omega) (fun _ => h)
  rwa [List.drop_zero] at this
theorem one_read {ps : List Phr} {sig : List Int} (hb : bookB ps = true) (ho : oneB ps = true) : cntS ps sig ≤ 1 := (ways_one hb ho sig sig.length (Nat.le_refl _) sig.length (Nat.le_refl _)).1
theorem sigs_len {ps : List Phr} (hb : bookB ps = true) : ∀ l : List Nat, (sigsOf ps l).length ≤ 3 * l.length
  | [] => by simp [sigsOf]
  | i :: l => by
    have ih := sigs_len hb l
    cases hp : ps[i]? with
    | none =>
      rw [show sigsOf ps (i :: l) = sigsOf ps l by unfold sigsOf; rw [List.flatMap_cons, hp]; rfl, List.length_cons]
      omega
    | some p =>
      rw [sigsOf_cons hp, List.length_append, List.length_cons]
      have := (phrOk_sig (bookB_phr hb (List.mem_of_getElem? hp))).2.1
      omega
theorem ixB_read {ps : List Phr} {sig : List Int} (h : (readN ps sig).length ≤ 40) : ixB ps (waysI (readN ps sig)) = true := by
  unfold ixB
  rw [Bool.and_eq_true, decide_eq_true_eq, waysI_len]
  refine ⟨h, ?_⟩
  unfold allB
  rw [List.all_eq_true]
  intro y hy
  have := ixok_of (readN_lt ps sig) y hy
  exact inB_iff.2 (by omega)
end Go.Proofs.Ytabiobjcfopakaa
/- Plain laws: an order by insertion; the indices in groups of one length each; the words of a canonical code. -/
namespace Go.Proofs.Ytabiobjcfopakaa
open Go.RowKit
/-- A number's digits to the base r, as many as told. -/
def digL (r : Nat) : Nat → Nat → List Int
  | _, 0 => []
  | n, k + 1 => digL r (n / r) k ++ [((n % r : Nat) : Int)]
/-- The next word, the last length, the words so far. -/
structure CanS where
  next : Nat
  last : Nat
  rows : List (List Int)
end Go.Proofs.Ytabiobjcfopakaa
/- Plain laws: the search of the least lengths, and the table of least costs level by level. -/
namespace Go.Proofs.Ytabiobjcfopakaa
open Go.RowKit
/-- A list of lengths with its cost, or none. -/
abbrev Cand := Option (List Nat × Int)
/-- The first one, unless the second one costs less. -/
def pickC : Cand → Cand → Cand
  | Option.none, b => b
  | some x, Option.none => some x
  | some x, some y => if y.2 < x.2 then some y else some x
def addC (l : List Nat) (k : Int) (c : Cand) : Cand := c.map fun x => (l ++ x.1, k + x.2)
theorem pickC_none (a : Cand) : pickC a Option.none = a := by cases a <;> rfl
theorem pickC_assoc (a b c : Cand) : pickC (pickC a b) c = pickC a (pickC b c) := by
  cases a with
  | none => rfl
  | some x =>
    cases b with
    | none => rfl
    | some y =>
      cases c with
      | none => rw [pickC_none, pickC_none]
      | some z =>
        simp only [pickC]
        by_cases h1 : y.2 < x.2
        · by_cases h2 : z.2 < y.2
          · simp only [h1, h2, if_true]; rw [if_pos (by omega)]
          · simp only [h1, h2, if_true, if_false]
        · by_cases h2 : z.2 < y.2
          · simp only [h1, h2, if_true, if_false]
          · simp only [h1, h2, if_false]; rw [if_neg (by omega)]
theorem addC_pick (l : List Nat) (k : Int) (a b : Cand) : addC l k (pickC a b) = pickC (addC l k a) (addC l k b) := by
  cases a with
  | none => rfl
  | some x =>
    cases b with
    | none => rfl
    | some y =>
      simp only [pickC, addC, Option.map]
      by_cases h : y.2 < x.2
      · rw [if_pos h, if_pos (by omega)]
      · rw [if_neg h, if_neg (by omega)]
theorem addC_add (l m : List Nat) (k j : Int) (c : Cand) : addC l k (addC m j c) = addC (l ++ m) (k + j) c := by
  cases c with
  | none => rfl
  | some x => simp only [addC, Option.map, List.append_assoc, Int.add_assoc]
theorem addC_nil (c : Cand) : addC [] 0 c = c := by
  cases c with
  | none => rfl
  | some x => simp [addC]
/-- Of all lists of lengths that 1000000000er fall, from one length on, for which there is room: the first one of the least cost. -/
def bst (r L : Nat) : List Int → Nat → Nat → Cand
  | [], _, _ => some ([], 0)
  | w :: ws, fr, room => (List.range' fr (L + 1 - fr)).foldl (fun c n => pickC c (if r ^ (L - n) ≤ room then addC [n] (w * (n : Int)) (bst r L ws n (room - r ^ (L - n))) else Option.none)) Option.none
theorem pick_fold {f : Nat → Cand} : ∀ (l : List Nat) (a : Cand), l.foldl (fun c n => pickC c (f n)) a = pickC a (l.foldl (fun c n => pickC c (f n)) Option.none)
  | [], a => (pickC_none a).symm
  | n :: l, a => by
    rw [List.foldl_cons, List.foldl_cons, pick_fold l (pickC a (f n)), pick_fold l (pickC Option.none (f n)), pickC_assoc]; rfl
theorem bst_end {r L : Nat} {w : Int} {ws : List Int} {fr room : Nat} (h : L < fr) : bst r L (w :: ws) fr room = Option.none := by
  rw [bst, show L + 1 - fr = 0 by omega]; rfl
theorem bst_step {r L : Nat} {w : Int} {ws : List Int} {fr room : Nat} (h : fr ≤ L) :
    bst r L (w :: ws) fr room = pickC (if r ^ (L - fr) ≤ room then addC [fr] (w * (fr : Int)) (bst r L ws fr (room - r ^ (L - fr))) else Option.none) (bst r L (w :: ws) (fr + 1) room) := by
  rw [bst, bst, show L + 1 - fr = (L + 1 - (fr + 1)) + 1 by omega, List.range'_succ, List.foldl_cons, pick_fold]
  rfl
/-- All weights together. -/
def sumW : List Int → Int
  | [] => 0
  | w :: ws => w + sumW ws
theorem sumW_nonneg {ws : List Int} (h : ∀ w ∈ ws, 0 ≤ w) : 0 ≤ sumW ws := by
  induction ws with
  | nil => exact Int.le_refl _
  | cons w ws ih =>
    have h1 := h w (by simp)
    have h2 := ih (fun x hx => h x (by simp [hx]))
    simp only [sumW]; omega
theorem sumW_app (a b : List Int) : sumW (a ++ b) = sumW a + sumW b := by
  induction a with
  | nil => simp [sumW]
  | cons w ws ih => simp only [List.cons_append, sumW, ih]; omega
theorem pickC_some {a b : Cand} {x : List Nat × Int} (h : pickC a b = some x) : a = some x ∨ b = some x := by
  cases a with
  | none => exact .inr h
  | some y =>
    cases b with
    | none => exact .inl h
    | some z =>
      simp only [pickC] at h
      split at h
      · exact .inr h
      · exact .inl h
theorem addC_some {l : List Nat} {k : Int} {c : Cand} {x : List Nat × Int} (h : addC l k c = some x) : ∃ y, c = some y ∧ x = (l ++ y.1, k + y.2) := by
  cases c with
  | none => cases h
  | some y => exact ⟨y, rfl, by unfold addC at h; simp at h; exact h.symm⟩
/-- Induction over what is found: the lists are as long as the weights, and the cost lies between that of the least and that of the greatest length. -/
theorem bst_bd {r L : Nat} : ∀ (ws : List Int), (∀ w ∈ ws, 0 ≤ w) → ∀ (q fr room : Nat), q = L + 1 - fr → ∀ x, bst r L ws fr room = some x →
    x.1.length = ws.length ∧ (fr : Int) * sumW ws ≤ x.2 ∧ x.2 ≤ (L : Int) * sumW ws ∧ ∀ n ∈ x.1, fr ≤ n ∧ n ≤ L
  | [], _, q, fr, room, _, x, hx => by
    rw [bst] at hx; cases hx
    refine ⟨rfl, by simp [sumW], by simp [sumW], by simp⟩
  | w :: ws, hw, 0, fr, room, hq, x, hx => by
    rw [bst_end (by omega)] at hx; cases hx
  | w :: ws, hw, q + 1, fr, room, hq, x, hx => by
    have hw0 := hw w (by simp)
    have hws : ∀ x ∈ ws, 0 ≤ x := fun x hx => hw x (by simp [hx])
    have hs := sumW_nonneg hws
    rw [bst_step (by omega)] at hx
    rcases pickC_some hx with h | h
    · split at h
      · obtain ⟨y, hy, rfl⟩ := addC_some h
        have ih := bst_bd ws hws _ fr _ rfl y hy
        have hL : (fr : Int) ≤ (L : Int) := by omega
        have h5 : w * (fr : Int) ≤ w * (L : Int) := Int.mul_le_mul_of_nonneg_left hL hw0
        have e1 : (fr : Int) * (w + sumW ws) = w * (fr : Int) + (fr : Int) * sumW ws := by rw [Int.mul_add, Int.mul_comm]
        have e2 : (L : Int) * (w + sumW ws) = w * (L : Int) + (L : Int) * sumW ws := by rw [Int.mul_add, Int.mul_comm]
        refine ⟨by simp [ih.1], ?_, ?_, ?_⟩
        · simp only [sumW]; rw [e1]; have := ih.2.1; omega
        · simp only [sumW]; rw [e2]; have := ih.2.2.1; omega
        · intro n hn
          rcases List.mem_append.1 hn with h1 | h1
          · simp at h1; subst h1; exact ⟨Nat.le_refl _, by omega⟩
          · exact ih.2.2.2 n h1
      · cases h
    · have ih := bst_bd (w :: ws) hw q (fr + 1) room (by omega) x h
      have h0 := sumW_nonneg hw
      have e : ((fr + 1 : Nat) : Int) * sumW (w :: ws) = (fr : Int) * sumW (w :: ws) + sumW (w :: ws) := by rw [Int.natCast_add, Int.add_mul]; simp
      refine ⟨ih.1, by have := ih.2.1; omega, ih.2.2.1, fun n hn => ?_⟩
      have := ih.2.2.2 n hn
      omega
/-- With some free places at a level. -/
def lvl (r L : Nat) (ws : List Int) (level free : Nat) : Cand := bst r L ws level (free * r ^ (L - level))
theorem lvl_nil {r L level free : Nat} : lvl r L [] level free = some ([], 0) := by unfold lvl; rw [bst]
theorem lvl_end {r L level free : Nat} {ws : List Int} (hw : ws ≠ []) (h : L < level) : lvl r L ws level free = Option.none := by
  cases ws with
  | nil => exact absurd rfl hw
  | cons w ws => exact bst_end h
theorem lvl_next {r L level free : Nat} {w : Int} {ws : List Int} (h : level ≤ L) : bst r L (w :: ws) (level + 1) (free * r ^ (L - level)) = lvl r L (w :: ws) (level + 1) (free * r) := by
  rcases Nat.lt_or_ge level L with h1 | h1
  · unfold lvl
    rw [show L - level = (L - (level + 1)) + 1 by omega, Nat.pow_succ, Nat.mul_assoc, Nat.mul_comm (r ^ (L - (level + 1))) r]
  · rw [lvl_end (by simp) (by omega), bst_end (by omega)]
theorem lvl_step {r L level free : Nat} {w : Int} {ws : List Int} (hr : 1 ≤ r) (h : level ≤ L) :
    lvl r L (w :: ws) level (free + 1) = pickC (addC [level] (w * (level : Int)) (lvl r L ws level free)) (lvl r L (w :: ws) (level + 1) ((free + 1) * r)) := by
  have hp : 1 ≤ r ^ (L - level) := Nat.one_le_pow _ _ hr
  conv => lhs; unfold lvl
  rw [bst_step h, lvl_next h, if_pos (by rw [Nat.add_mul]; omega)]
  unfold lvl
  rw [show (free + 1) * r ^ (L - level) - r ^ (L - level) = free * r ^ (L - level) by rw [Nat.add_mul]; omega]
theorem lvl_none {r L : Nat} {w : Int} {ws : List Int} (hr : 1 ≤ r) : ∀ (q level : Nat), q = L + 1 - level → lvl r L (w :: ws) level 0 = Option.none
  | 0, level, hq => lvl_end (by simp) (by omega)
  | q + 1, level, hq => by
    have hp : 1 ≤ r ^ (L - level) := Nat.one_le_pow _ _ hr
    have ih := lvl_none (L := L) (w := w) (ws := ws) hr q (level + 1) (by omega)
    have h2 := lvl_next (r := r) (L := L) (free := 0) (w := w) (ws := ws) (show level ≤ L by omega)
    unfold lvl
    rw [Nat.zero_mul] at h2 ⊢
    rw [bst_step (by omega), if_neg (by omega), h2, Nat.zero_mul, ih]; rfl
/-- Enough places for all. -/
theorem lvl_all {r L : Nat} (hr : 1 ≤ r) : ∀ (ws : List Int), (∀ w ∈ ws, 0 ≤ w) → ∀ (level free : Nat), level ≤ L → ws.length ≤ free →
    lvl r L ws level free = some (List.replicate ws.length level, (level : Int) * sumW ws)
  | [], _, level, free, _, _ => by rw [lvl_nil]; simp [sumW]
  | w :: ws, hw, level, free, hl, hf => by
    obtain ⟨f, rfl⟩ : ∃ f, free = f + 1 := ⟨free - 1, by simp at hf; omega⟩
    have hws : ∀ x ∈ ws, 0 ≤ x := fun x hx => hw x (by simp [hx])
    rw [lvl_step hr hl, lvl_all hr ws hws level f hl (by simp at hf; omega)]
    have e1 : (level : Int) * (w + sumW ws) = w * (level : Int) + (level : Int) * sumW ws := by rw [Int.mul_add, Int.mul_comm]
    have e2 : addC [level] (w * (level : Int)) (some (List.replicate ws.length level, (level : Int) * sumW ws)) = some (List.replicate (w :: ws).length level, (level : Int) * sumW (w :: ws)) := by
      simp only [addC, Option.map, sumW, e1]; rfl
    rw [e2]
    cases hc : lvl r L (w :: ws) (level + 1) ((f + 1) * r) with
    | none => rfl
    | some y =>
      have hb := (bst_bd (w :: ws) hw _ (level + 1) _ rfl y hc).2.1
      have h0 := sumW_nonneg hw
      have e : ((level + 1 : Nat) : Int) * sumW (w :: ws) = (level : Int) * sumW (w :: ws) + sumW (w :: ws) := by rw [Int.natCast_add, Int.add_mul]; simp
      simp only [pickC]
      rw [if_neg (by omega)]
/-- More places than words help no more. -/
theorem lvl_clip {r L : Nat} (hr : 1 ≤ r) {ws : List Int} (hw : ∀ w ∈ ws, 0 ≤ w) {level f g : Nat} (hf : ws.length ≤ f) (hg : ws.length ≤ g) : lvl r L ws level f = lvl r L ws level g := by
  rcases Nat.lt_or_ge L level with h | h
  · cases ws with
    | nil => rw [lvl_nil, lvl_nil]
    | cons w ws => rw [lvl_end (by simp) h, lvl_end (by simp) h]
  · rw [lvl_all hr ws hw level f h hf, lvl_all hr ws hw level g h hg]
theorem lvl_min {r L : Nat} (hr : 1 ≤ r) {ws : List Int} (hw : ∀ w ∈ ws, 0 ≤ w) {level f : Nat} : lvl r L ws level (min f ws.length) = lvl r L ws level f := by
  rcases Nat.le_total f ws.length with h | h
  · rw [Nat.min_eq_left h]
  · exact lvl_clip hr hw (by omega) h
/-- The first of the least ones from f down to 0. -/
def pickDown (g : Nat → Cand) : Nat → Cand
  | 0 => g 0
  | f + 1 => pickC (g (f + 1)) (pickDown g f)
theorem pickDown_congr {g h : Nat → Cand} : ∀ f, (∀ t, t ≤ f → g t = h t) → pickDown g f = pickDown h f
  | 0, e => e 0 (Nat.le_refl _)
  | f + 1, e => by rw [pickDown, pickDown, e (f + 1) (Nat.le_refl _), pickDown_congr f (fun t ht => e t (by omega))]
theorem pickDown_add {g : Nat → Cand} {l : List Nat} {k : Int} : ∀ f, addC l k (pickDown g f) = pickDown (fun t => addC l k (g t)) f
  | 0 => rfl
  | f + 1 => by rw [pickDown, pickDown, addC_pick, pickDown_add f]
theorem pickDown_up {g : Nat → Cand} : ∀ f, pickDown g (f + 1) = pickC (pickDown (fun t => g (t + 1)) f) (g 0)
  | 0 => rfl
  | f + 1 => by
    rw [pickDown, pickDown_up f, pickDown, ← pickC_assoc]
/-- As many words as told end at a level. -/
def cand (r L : Nat) (ws : List Int) (level f take : Nat) : Cand := addC (List.replicate take level) ((level : Int) * sumW (ws.take take)) (lvl r L (ws.drop take) (level + 1) ((f - take) * r))
theorem lvl_take {r L : Nat} (hr : 1 ≤ r) {level : Nat} (hl : level ≤ L) : ∀ (ws : List Int) (f : Nat), f ≤ ws.length → lvl r L ws level f = pickDown (cand r L ws level f) f
  | [], f, hf => by
    obtain rfl : f = 0 := by simpa using hf
    simp only [pickDown, cand]
    rw [List.take_nil, List.drop_nil, lvl_nil, lvl_nil]; simp [addC, sumW]
  | w :: ws, 0, _ => by
    simp only [pickDown, cand]
    rw [List.take_zero, List.drop_zero, Nat.zero_mul, lvl_none hr _ _ rfl, lvl_none hr _ _ rfl]; rfl
  | w :: ws, f + 1, hf => by
    rw [lvl_step hr hl, lvl_take hr hl ws f (by simp at hf; omega), pickDown_add, pickDown_up]
    have e0 : cand r L (w :: ws) level (f + 1) 0 = lvl r L (w :: ws) (level + 1) ((f + 1) * r) := by
      simp only [cand]
      rw [List.take_zero, List.drop_zero, Nat.sub_zero]
      simp only [List.replicate_zero, sumW, Int.mul_zero]
      exact addC_nil _
    rw [e0]
    congr 1
    refine pickDown_congr f (fun t _ => ?_)
    simp only [cand]
    rw [addC_add, List.take_succ_cons, List.drop_succ_cons, show f + 1 - (t + 1) = f - t by omega]
    have e1 : (level : Int) * (w + sumW (ws.take t)) = w * (level : Int) + (level : Int) * sumW (ws.take t) := by rw [Int.mul_add, Int.mul_comm]
    rw [show List.replicate (t + 1) level = [level] ++ List.replicate t level from rfl]
    simp only [sumW]
    rw [e1]
/-- The cost of what is still to be given lengths of at least some level, if each weight costs its own for each level. -/
def relC (r L : Nat) (ws : List Int) (level free : Nat) : Int := match lvl r L ws level free with
  | Option.none => 1000000000
  | some x => x.2 - ((level : Int) - 1) * sumW ws
def withC (r L : Nat) (ws : List Int) (level f take : Nat) : Int := min 1000000000 (sumW ws + relC r L (ws.drop take) (level + 1) ((f - take) * r))
/-- What is found is cheap. -/
theorem lvl_cheap {r L : Nat} {ws : List Int} (hw : ∀ w ∈ ws, 0 ≤ w) {level free : Nat} {x : List Nat × Int} (h : lvl r L ws level free = some x) : (level : Int) * sumW ws ≤ x.2 ∧ x.2 ≤ (L : Int) * sumW ws :=
  ⟨(bst_bd ws hw _ level _ rfl x h).2.1, (bst_bd ws hw _ level _ rfl x h).2.2.1⟩
theorem sum_split (ws : List Int) (t : Nat) : sumW ws = sumW (ws.take t) + sumW (ws.drop t) := by rw [← sumW_app, List.take_append_drop]
/-- The cost of a candidate. -/
theorem cand_cost {r L : Nat} {ws : List Int} (hw : ∀ w ∈ ws, 0 ≤ w) {level f t : Nat} (h1 : 1 ≤ level) (hl : 1 ≤ L) (hL : (L : Int) * sumW ws < 1000000000) :
    withC r L ws level f t = match cand r L ws level f t with
      | Option.none => 1000000000
      | some x => x.2 - ((level : Int) - 1) * sumW ws := by
  have hwd : ∀ w ∈ ws.drop t, 0 ≤ w := fun w hm => hw w (List.mem_of_mem_drop hm)
  have hwt : ∀ w ∈ ws.take t, 0 ≤ w := fun w hm => hw w (List.mem_of_mem_take hm)
  have h0 := sumW_nonneg hw
  have hd0 := sumW_nonneg hwd
  have ht0 := sumW_nonneg hwt
  have hsp := sum_split ws t
  unfold withC relC cand
  cases hc : lvl r L (ws.drop t) (level + 1) ((f - t) * r) with
  | none =>
    show min 1000000000 (sumW ws + 1000000000) = 1000000000
    omega
  | some y =>
    have hb := lvl_cheap hwd hc
    simp only [addC, Option.map]
    have e1 : (((level + 1 : Nat) : Int) - 1) * sumW (ws.drop t) = (level : Int) * sumW (ws.drop t) := by congr 1; omega
    have e2 : ((level : Int) - 1) * sumW ws = (level : Int) * sumW (ws.take t) + (level : Int) * sumW (ws.drop t) - sumW ws := by rw [Int.sub_mul, Int.one_mul, hsp, Int.mul_add]
    have e3 : ((level + 1 : Nat) : Int) * sumW (ws.drop t) = (level : Int) * sumW (ws.drop t) + sumW (ws.drop t) := by rw [Int.natCast_add, Int.add_mul]; simp
    have h3 : (L : Int) * sumW ws = (L : Int) * sumW (ws.take t) + (L : Int) * sumW (ws.drop t) := by rw [hsp, Int.mul_add]
    have h4 : 0 ≤ (L : Int) * sumW (ws.take t) := Int.mul_nonneg (by omega) ht0
    have h5 : 0 ≤ (level : Int) * sumW (ws.drop t) := Int.mul_nonneg (by omega) hd0
    have h6 : sumW (ws.take t) ≤ (L : Int) * sumW (ws.take t) := by
      have := Int.mul_le_mul_of_nonneg_right (show (1 : Int) ≤ (L : Int) by omega) ht0
      omega
    have h7 : sumW (ws.drop t) ≤ (level : Int) * sumW (ws.drop t) := by
      have := Int.mul_le_mul_of_nonneg_right (show (1 : Int) ≤ (level : Int) by omega) hd0
      omega
    rw [e1, e2, Int.min_eq_right (by omega)]
    show _ = (level : Int) * sumW (ws.take t) + y.2 - ((level : Int) * sumW (ws.take t) + (level : Int) * sumW (ws.drop t) - sumW ws)
    omega
theorem pickDown_some {g : Nat → Cand} : ∀ (f : Nat) (x : List Nat × Int), pickDown g f = some x →
    ∃ t, t ≤ f ∧ g t = some x ∧ (∀ s, s ≤ f → ∀ y, g s = some y → x.2 ≤ y.2) ∧ (∀ s, t < s → s ≤ f → ∀ y, g s = some y → x.2 < y.2)
  | 0, x, h => ⟨0, Nat.le_refl _, h, fun s hs y hy => by
      obtain rfl : s = 0 := by omega
      rw [pickDown] at h; rw [h] at hy; cases hy; exact Int.le_refl _, fun s h1 h2 => by omega⟩
  | f + 1, x, h => by
    rw [pickDown] at h
    cases hg : g (f + 1) with
    | none =>
      rw [hg] at h
      obtain ⟨t, h1, h2, h3, h4⟩ := pickDown_some f x h
      refine ⟨t, by omega, h2, fun s hs y hy => ?_, fun s h5 h6 y hy => ?_⟩
      · rcases Nat.lt_or_ge f s with h7 | h7
        · obtain rfl : s = f + 1 := by omega
          rw [hg] at hy; cases hy
        · exact h3 s h7 y hy
      · rcases Nat.lt_or_ge f s with h7 | h7
        · obtain rfl : s = f + 1 := by omega
          rw [hg] at hy; cases hy
        · exact h4 s h5 h7 y hy
    | some z =>
      rw [hg] at h
      cases hp : pickDown g f with
      | none =>
        rw [hp] at h
        cases h
        refine ⟨f + 1, Nat.le_refl _, hg, fun s hs y hy => ?_, fun s h5 h6 => by omega⟩
        rcases Nat.lt_or_ge f s with h7 | h7
        · obtain rfl : s = f + 1 := by omega
          rw [hg] at hy; cases hy; exact Int.le_refl _
        · exact absurd hy (by rw [pickDown_none f hp s h7]; simp)
      | some u =>
        rw [hp] at h
        obtain ⟨t, h1, h2, h3, h4⟩ := pickDown_some f u hp
        simp only [pickC] at h
        split at h
        · rename_i hlt
          cases h
          refine ⟨t, by omega, h2, fun s hs y hy => ?_, fun s h5 h6 y hy => ?_⟩
          · rcases Nat.lt_or_ge f s with h7 | h7
            · obtain rfl : s = f + 1 := by omega
              rw [hg] at hy; cases hy; omega
            · exact h3 s h7 y hy
          · rcases Nat.lt_or_ge f s with h7 | h7
            · obtain rfl : s = f + 1 := by omega
              rw [hg] at hy; cases hy; omega
            · exact h4 s h5 h7 y hy
        · rename_i hlt
          cases h
          refine ⟨f + 1, Nat.le_refl _, hg, fun s hs y hy => ?_, fun s h5 h6 => by omega⟩
          rcases Nat.lt_or_ge f s with h7 | h7
          · obtain rfl : s = f + 1 := by omega
            rw [hg] at hy; cases hy; exact Int.le_refl _
          · have := h3 s h7 y hy
            omega
where pickDown_none {g : Nat → Cand} : ∀ (f : Nat), pickDown g f = Option.none → ∀ s, s ≤ f → g s = Option.none
  | 0, h, s, hs => by obtain rfl : s = 0 := by omega
                      exact h
  | f + 1, h, s, hs => by
    rw [pickDown] at h
    cases hg : g (f + 1) with
    | none =>
      rw [hg] at h
      rcases Nat.lt_or_ge f s with h7 | h7
      · obtain rfl : s = f + 1 := by omega
        exact hg
      · exact pickDown_none f h s h7
    | some z =>
      rw [hg] at h
      cases hp : pickDown g f with
      | none => rw [hp] at h; cases h
      | some u =>
        rw [hp] at h
        simp only [pickC] at h
        split at h <;> cases h
/-- One level of the list: as many words as can end there at the least cost. -/
theorem lvl_greedy {r L : Nat} (hr : 1 ≤ r) {ws : List Int} (hw : ∀ w ∈ ws, 0 ≤ w) {level f : Nat} (hf : f ≤ ws.length) (h1 : 1 ≤ level) (h2 : level ≤ L) (hL : (L : Int) * sumW ws < 1000000000)
    {x : List Nat × Int} (hx : lvl r L ws level f = some x) :
    ∃ t y, t ≤ f ∧ withC r L ws level f t = relC r L ws level f ∧ (∀ s, t < s → s ≤ f → relC r L ws level f < withC r L ws level f s) ∧ lvl r L (ws.drop t) (level + 1) ((f - t) * r) = some y ∧ x.1 = List.replicate t level ++ y.1 := by
  have hcc := fun t => cand_cost (r := r) (f := f) (t := t) hw h1 (show 1 ≤ L by omega) hL
  have hb := lvl_cheap hw hx
  have h0 := sumW_nonneg hw
  have hrel : relC r L ws level f = x.2 - ((level : Int) - 1) * sumW ws := by unfold relC; rw [hx]
  have hp := hx
  rw [lvl_take hr h2 ws f hf] at hp
  obtain ⟨t, ht, hc, hmin, hlt⟩ := pickDown_some f x hp
  have hy := hc
  unfold cand at hy
  obtain ⟨y, hy1, hy2⟩ := addC_some hy
  refine ⟨t, y, ht, ?_, fun s hs1 hs2 => ?_, hy1, by rw [hy2]⟩
  · rw [hcc t, hc, hrel]
  · rw [hcc s, hrel]
    have h3 : 0 ≤ ((level : Int) - 1) * sumW ws := Int.mul_nonneg (by omega) h0
    cases hd : cand r L ws level f s with
    | none => show _ < (1000000000 : Int); omega
    | some z =>
      have := hlt s hs1 hs2 z hd
      show _ < z.2 - ((level : Int) - 1) * sumW ws
      omega
end Go.Proofs.Ytabiobjcfopakaa
/- Contracts: a stable sort of at most twenty indices by a comparison that only reads. -/
namespace Go.Proofs.Ytabiobjcfopakaa
open Go.RowKit
theorem Only.trans {b : Option Nat} {a v w : World} (h : Only b a v) (k : Only b v w) : Only b a w :=
  ⟨k.os.trans h.os, k.tape.trans h.tape, k.output.trans h.output, k.size.trans h.size, fun i hi => (k.block i hi).trans (h.block i hi)⟩
end Go.Proofs.Ytabiobjcfopakaa
/- Contracts of the costs and the Kraft sums of lengths, of the program and of the reference. -/
namespace Go.Proofs.Ytabiobjcfopakaa
open Go.RowKit
theorem l1Most_any (a b : Int) (w : World) : Calls Try.prog 183 #[.int .i64 a, .int .i64 b] w fun e w' => e = .returned (.int .i64 (max a b)) ∧ w = w' := by
  by_cases h : b < a
  · have e : max a b = a := by omega
    rw [e]; clear e
    go_enter Try.func183, Try.ntmps183
    go_wp2
    go_ret
    exact ⟨rfl, rfl⟩
  · have e : max a b = b := by omega
    rw [e]; clear e
    go_enter Try.func183, Try.ntmps183
    go_wp2
    go_ret
    exact ⟨rfl, rfl⟩
end Go.Proofs.Ytabiobjcfopakaa
/- Contracts: the stable sort of a program's order, its comparison of lengths; the digits of a number. -/
namespace Go.Proofs.Ytabiobjcfopakaa
open Go.RowKit
theorem RdI.getD {w : World} {hi : Nat} {v : Value} {xs : List Int} (h : RdI w hi v xs) {k : Nat} (hk : k < xs.length) :
    ∃ b off c, v = .slice (some ⟨b, off, Option.none⟩) xs.length c ∧ b < hi ∧ w.cell? ⟨b, off + k, Option.none⟩ = some (.int .i64 (xs.getD k 0)) := by
  obtain ⟨b, off, c, y, hv, hb, hy, hc⟩ := Rd.at_ h hk
  refine ⟨b, off, c, hv, hb, ?_⟩
  rw [hc, List.getD_eq_getElem?_getD, hy]; rfl
/-- The last digits of a number stand, the number is cut. -/
def DigTo (r n len k m : Nat) (D : List Int) : Prop := digL r n len = digL r m k ++ D ∧ m ≤ n
theorem DigTo.start (r n len : Nat) : DigTo r n len len n [] := ⟨by simp, Nat.le_refl _⟩
theorem DigTo.step {r n len k m : Nat} {D : List Int} (h : DigTo r n len (k + 1) m D) : DigTo r n len k (m / r) (((m % r : Nat) : Int) :: D) := by
  refine ⟨?_, Nat.le_trans (Nat.div_le_self _ _) h.2⟩
  rw [h.1, digL]; simp
theorem DigTo.done {r n len m : Nat} {D : List Int} (h : DigTo r n len 0 m D) : D = digL r n len := by rw [h.1, digL]; rfl
end Go.Proofs.Ytabiobjcfopakaa
/- Contracts: CanonicalCode of the reference. -/
namespace Go.Proofs.Ytabiobjcfopakaa
open Go.RowKit
/-- One row is put in the place of another one. -/
theorem RowsO.put {w : World} {lo mid hi j : Nat} {us : List Value} {xss : List (List Int)} {u : Value} {xs : List Int} (h : RowsO w lo mid us xss) (hu : OwI w mid hi u xs) (h1 : lo ≤ mid) (h2 : mid ≤ hi) : RowsO w lo hi (us.set j u) (xss.set j xs) := by
  have hl := h.1
  refine ⟨by simp [hl], fun i a b ha hb => ?_, fun i k a b hik ha hb g hg => ?_⟩
  · by_cases e : j = i
    · subst e
      rcases Nat.lt_or_ge j us.length with hi2 | hi2
      · rw [List.getElem?_set_self hi2] at ha
        rw [List.getElem?_set_self (by omega)] at hb
        cases ha; cases hb
        exact hu.mono h1 (Nat.le_refl _)
      · rw [List.getElem?_eq_none (by simpa using hi2)] at ha; cases ha
    · rw [List.getElem?_set_ne e] at ha hb
      exact (h.2.1 i a b ha hb).mono (Nat.le_refl _) h2
  · have hold : ∀ (i : Nat) (a : Value), us[i]? = some a → ∀ g, a.ownBlock = some g → g < mid := by
      intro i a ha g hg
      have hil := (List.getElem?_eq_some_iff.1 ha).1
      exact ((h.2.1 i a xss[i] ha (List.getElem?_eq_getElem (by omega))).range g hg).2
    have hget : ∀ (i : Nat) (a : Value), (us.set j u)[i]? = some a → (i = j ∧ a = u) ∨ (i ≠ j ∧ us[i]? = some a) := by
      intro i a ha
      by_cases e : j = i
      · subst e
        rcases Nat.lt_or_ge j us.length with hi2 | hi2
        · rw [List.getElem?_set_self hi2] at ha; cases ha; exact .inl ⟨rfl, rfl⟩
        · rw [List.getElem?_eq_none (by simpa using hi2)] at ha; cases ha
      · rw [List.getElem?_set_ne e] at ha
        exact .inr ⟨fun e2 => e e2.symm, ha⟩
    intro hg2
    rcases hget i a ha with ⟨rfl, rfl⟩ | ⟨_, ha2⟩
    · rcases hget k b hb with ⟨rfl, rfl⟩ | ⟨_, hb2⟩
      · omega
      · have := hold k b hb2 g hg2
        have := (hu.range g hg).1
        omega
    · rcases hget k b hb with ⟨rfl, rfl⟩ | ⟨_, hb2⟩
      · have := hold i a ha2 g hg
        have := (hu.range g hg2).1
        omega
      · exact h.2.2 i k a b hik ha2 hb2 g hg hg2
/-- Rows that are all empty. -/
theorem RowsO.empty (w : World) (lo hi n : Nat) : RowsO w lo hi (List.replicate n (.slice Option.none 0 0)) (List.replicate n []) := by
  refine ⟨by simp, fun i u xs hu hx => ?_, fun i k a b _ ha _ g hg => ?_⟩
  · rw [List.getElem?_replicate] at hu hx
    split at hu
    · rw [if_pos (by assumption)] at hx
      cases hu; cases hx
      exact owI_nil _ _ _
    · cases hu
  · rw [List.getElem?_replicate] at ha
    split at ha
    · cases ha; cases hg
    · cases ha
theorem RowsO.form {w : World} {lo hi i : Nat} {us : List Value} {xss : List (List Int)} (h : RowsO w lo hi us xss) (hi2 : i < us.length) : ∃ A n c, us[i]? = some (.slice A n c) := by
  have hl := h.1
  obtain ⟨A, c, hv, _⟩ := (h.2.1 i us[i] xss[i] (List.getElem?_eq_getElem hi2) (List.getElem?_eq_getElem (by omega))).form
  exact ⟨A, _, c, by rw [List.getElem?_eq_getElem hi2, hv]⟩
end Go.Proofs.Ytabiobjcfopakaa
/- Contracts: CanonicalCode of the program. -/
namespace Go.Proofs.Ytabiobjcfopakaa
open Go.RowKit
theorem Only.bel {w w' : World} {g lo : Nat} (h : Only (some g) w w') (hl : lo ≤ g) : Below lo w w' :=
  ⟨h.os, h.tape, h.output, Nat.le_of_eq h.size.symm, fun k hk => h.block k (by intro e; cases e; omega)⟩
end Go.Proofs.Ytabiobjcfopakaa
