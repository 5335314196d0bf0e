/- Contracts: the first reading of signals; of the program and of the reference. -/
import Derived.Test.YtabhnbooboceeaaG4
import Derived.Test.YtabhnbooboceeaaD5
import Derived.Test.YtabhnbooboceeaaE6
import Derived.BigQuiet
namespace Go.Proofs.Ytabhnbooboceeaa
open Go.RowKit
/-- A table of ways that a call has made: its cells. -/
theorem own_cellsW {w : World} {lo hi n : Nat} {v : Value} {tb : List Nat} (hn : tb.length = n + 1) (h : OwI w lo hi v (waysI tb)) :
    ∃ b c, v = .slice (some ⟨b, 0, Option.none⟩) (n + 1) c ∧ b < hi ∧ ∀ k, k ≤ n → w.cell? ⟨b, k, Option.none⟩ = some (.int .i64 ((tb.getD k 0 : Nat) : Int)) := by
  have hl : (waysI tb).length = n + 1 := by rw [waysI_len, hn]
  have hat := fun k (hk : k ≤ n) => Rd.at_ h.rd (k := k) (by rw [hl]; omega)
  rcases h.1.2 with ⟨rfl, _⟩ | ⟨g, cap, cur, hv2, _⟩
  · obtain ⟨b, off, c, y, hv, _⟩ := hat 0 (Nat.zero_le _)
    cases hv
  · subst hv2
    rw [hl] at hat
    obtain ⟨b, off, c, y, hv, hb, _⟩ := hat 0 (Nat.zero_le _)
    rw [hl]
    cases hv
    refine ⟨_, _, rfl, hb, fun k hk => ?_⟩
    obtain ⟨b, off, c, y, hv, hb, hy, hc⟩ := hat k hk
    cases hv
    have e : y = ((tb.getD k 0 : Nat) : Int) := by
      unfold waysI at hy
      rw [List.getElem?_map] at hy
      rw [List.getD_eq_getElem?_getD]
      cases e : tb[k]? with
      | none => rw [e] at hy; cases hy
      | some m => rw [e] at hy; cases hy; rfl
    rw [e] at hc
    simpa using hc
theorem tbS_len (ps : List Phr) (sig : List Int) : (tbS ps sig).length = sig.length + 1 := dpW_len _ _ _ _ _
theorem okW_no {fit : Nat → Phr → Bool} {len : Phr → Nat} {tb : List Nat} {m : Nat} {p : Phr} (h : fit m p = false) : okW fit len tb m p = false := by unfold okW; rw [h]; rfl
theorem okW_yes {fit : Nat → Phr → Bool} {len : Phr → Nat} {tb : List Nat} {m : Nat} {p : Phr} (h : fit m p = true) : okW fit len tb m p = decide (0 < tb.getD (m + len p) 0) := by unfold okW; rw [h, Bool.true_and]
theorem readQ_eq {ps : List Phr} {sig : List Int} : readQ ps sig = decide (0 < (tbS ps sig).getD 0 0) := rfl
theorem readN_yes {ps : List Phr} {sig : List Int} (h : 0 < (tbS ps sig).getD 0 0) : readN ps sig = pathR ps sig := if_pos h
theorem readN_no {ps : List Phr} {sig : List Int} (h : (tbS ps sig).getD 0 0 = 0) : readN ps sig = [] := if_neg (by show ¬ 0 < (tbS ps sig).getD 0 0; omega)
theorem readQ_no {ps : List Phr} {sig : List Int} (h : (tbS ps sig).getD 0 0 = 0) : readQ ps sig = false := by rw [readQ_eq, h]; rfl
theorem readQ_yes {ps : List Phr} {sig : List Int} (h : 0 < (tbS ps sig).getD 0 0) : readQ ps sig = true := by rw [readQ_eq]; exact decide_eq_true h
/-- One number more behind a row of the call's own; a block of one cell beside it stands. -/
theorem GrowI.appB {w wr : World} {B g : Nat} {v u : Value} {xs : List Int} {ops : Array Oper} {rest : List Oper} {o : Oper} {a : Act} {Q : Exit → Act → World → Prop} {y : Int} (hgd : o.guard = Option.none) (s x : Operand)
    (ho : o.op = .call { callee := .builtin .append, args := #[s, x], argTypes := #[37, 37] }) (hG : GrowI w B wr v xs) (hnil : xs = [] → v = .slice Option.none 0 0) (hblk : Blk wr g 3 [u]) (hne : v.ownBlock ≠ some g) (hlen : xs.length < 1099511627776)
    (hs : a.eval s = v) (hx : a.eval x = .slice (some ⟨wr.heap.size, 0, Option.none⟩) 1 1)
    (h : ∀ v' w', GrowI w B w' v' (xs ++ [y]) → Blk w' g 3 [u] → v'.ownBlock ≠ some g → wpList Try.prog ops Q rest (a.put o.dst v') w') : wpList Try.prog ops Q (o :: rest) a (wr.alloc (.cells #[.int .i64 y] 3)) := by
  obtain ⟨i, hi, hz0, hz1, hz2⟩ := info_parts info_int
  have hg := hblk.lt
  have hblk2 := hblk.alloc (.cells #[.int .i64 y] 3)
  rcases xs with _ | ⟨x0, xs⟩
  · obtain rfl := hnil rfl
    refine wpList_append_own _ hgd s x 37 ho (wr.alloc (.cells #[.int .i64 y] 3)).heap.size 3 i (.int .i64 0) 1 8 Try.underlying37 hi hz0 hz1 hz2 rfl (by decide) _ 0 [] hs (World.ownsRow_nil _ _ _ _) ⟨wr.heap.size, 0, Option.none⟩ 1 1 [.int .i64 y] hx rfl
      (one_cell _ _ _) (by intro u hu; simp at hu; subst hu; rfl) (by unfold maxLen; omega) (by omega) (Nat.le_refl _) ?_
    intro v' w' hown hgr _
    have hB := hG.2.2
    have hsz : (wr.alloc (.cells #[.int .i64 y] 3)).heap.size = wr.heap.size + 1 := by simp
    refine h v' w' ⟨?_, ?_, ?_⟩ ?_ ?_
    · refine ⟨hown.1, ?_⟩
      rcases hown.2 with hn | ⟨k, cap, cur, rfl, hl, rest⟩
      · exact .inl hn
      · exact .inr ⟨k, cap, cur, rfl, by omega, rest⟩
    · exact (hG.2.1.alloc hG.2.2 _).grown hgr (by omega) (fun k hk => by cases hk)
    · have h1 := hgr.size; omega
    · exact (hgr.block g (by omega) (by intro e; cases e)).trans hblk2
    · intro e
      have := (hown.lt g e).1
      omega
  · refine wpList_append_own _ hgd s x 37 ho B 3 i (.int .i64 0) 1 8 Try.underlying37 hi hz0 hz1 hz2 rfl (by decide) v (x0 :: xs).length (ints (x0 :: xs)) hs (hG.1.alloc _) ⟨wr.heap.size, 0, Option.none⟩ 1 1 [.int .i64 y] hx rfl
      (one_cell _ _ _) (by intro u hu; simp at hu; subst hu; rfl) (by unfold maxLen; omega) (by omega) (by simp; have := hG.2.2; omega) ?_
    intro v' w' hown hgr _
    have hb2 : Blk w' g 3 [u] := (hgr.block g (by simp; omega) (fun e => hne e.symm)).trans hblk2
    refine h v' w' ⟨?_, ?_, ?_⟩ hb2 ?_
    · simpa [ints] using hown
    · exact (hG.2.1.alloc hG.2.2 _).grown hgr (by simp; have := hG.2.2; omega) (fun k hk => ((hG.1.alloc (.cells #[.int .i64 y] 3)).lt k hk).1)
    · have h1 := hgr.size; have h2 := hG.2.2; simp at h1; omega
    · intro e
      rcases hown.2 with ⟨rfl, _⟩ | ⟨k, cap, cur, rfl, _, hk, hn, _, hs2, _⟩
      · cases e
      · cases e
        unfold Blk at hb2
        rw [hb2] at hk
        simp at hk
        subst hk
        simp at hn hs2
        omega
set_option maxRecDepth 100000 in
set_option maxHeartbeats 4000000 in
theorem spDecode_any (ps : List Phr) (sig : List Int) (v u : Value) (hi hj : Nat) (w : World) (h : RdB w hi v ps) (g : RdI w hj u sig) (hh : hi ≤ w.heap.size) (hg : hj ≤ w.heap.size) (hbk : bookB ps = true) (hlen : sig.length ≤ 60) :
    Calls Try.prog 62 #[v, u] w (RetOwT (waysI (readN ps sig)) (readQ ps sig) w) := by
  obtain ⟨A', c', rfl, hc', hm'⟩ := Rd.form g
  have G := Lib.hid g
  clear g
  obtain ⟨a, rfl, ha⟩ := h
  obtain ⟨A, c, rfl, hc, hm⟩ := ha.form
  have hba : Below w.heap.size w (w.alloc (.cells #[.slice A ps.length c] 30)) := (Below.refl _ _).alloc (Nat.le_refl _) _
  have HB := Lib.hid hba
  have HA := Lib.hid (ha.below hba hh)
  have HG : Hid (RdB (w.alloc (.cells #[.slice A ps.length c] 30)) hi (.agg #[.slice A ps.length c]) ps) := ⟨_, rfl, HA.out⟩
  have hcb0 : (w.alloc (.cells #[.slice A ps.length c] 30)).cell? ⟨w.heap.size, 0, Option.none⟩ = some (.slice A ps.length c) := (Blk.new w 30 #[.slice A ps.length c]).cell 0
  have HCB := Lib.hid hcb0
  have hsz1 : hi ≤ (w.alloc (.cells #[.slice A ps.length c] 30)).heap.size := by simp; omega
  clear ha hba hcb0
  have HBK := Lib.hid hbk
  have G0 := Lib.hid (RdI.below G.out HB.out hg)
  clear hbk
  go_enter Try.func62, Try.ntmps62
  go_wp2_with fail
  have HA1 := HA
  have HG1 := HG
  have HB1 := HB
  have G1 := G0
  have hcb := HCB.out
  have hs1 : w.heap.size + 1 ≤ (w.alloc (.cells #[.slice A ps.length c] 30)).heap.size := by simp
  generalize (w.alloc (.cells #[.slice A ps.length c] 30)) = w1 at HA HG HB HCB HA1 HG1 HB1 G0 G1 hcb hsz1 hs1 ⊢
  clear HA HG HB HCB G G0
  have cT := spWays_any ps sig (.agg #[.slice A ps.length c]) _ hi hj w1 HG1.out G1.out (by omega) (by omega) HBK.out hlen
  have CT := Lib.hid cT
  clear cT
  go_wp2_with fail
  refine CT.out.mono ?_
  rintro e w2 ⟨q, rfl, hq, hb2⟩
  obtain ⟨bq, cq, rfl, hbq, htc⟩ := own_cellsW (tbS_len ps sig) hq
  have HTC := Lib.hid htc
  have hs2 := hb2.size
  have hcq := htc 0 (Nat.zero_le _)
  have hcb2 := (hb2.cell (p := ⟨w.heap.size, 0, Option.none⟩) (by show w.heap.size < w1.heap.size; omega)).trans hcb
  have HB12 := Lib.hid hb2
  have HCBX := Lib.hid hcb
  have G2 := Lib.hid (RdI.below G1.out hb2 (by omega))
  have HB2 := Lib.hid (HB1.out.trans (hb2.mono (by omega)))
  clear hq hb2 hcb htc
  obtain ⟨vv, hvv⟩ : ∃ vv, vv = (tbS ps sig).getD 0 0 := ⟨_, rfl⟩
  rw [← hvv] at hcq
  have HVV := Lib.hid hvv
  clear hvv
  by_cases hz : vv = 0
  · have hz0 : ((((vv : Nat) : Int)) == 0) = true := by rw [beq_iff_eq]; omega
    have HZ : Hid ((tbS ps sig).getD 0 0 = 0) := by show _ = 0; rw [← HVV.out]; exact hz
    clear hz
    go_wp2_with fail
    go_ret2
    show RetOwT _ _ _ _ _
    rw [readN_no HZ.out, readQ_no HZ.out]
    exact retOwT _ (GrowI.nil HB2.out)
  · have hz0 : ((((vv : Nat) : Int)) == 0) = false := by rw [beq_eq_false_iff_ne]; omega
    have HZ : Hid (0 < (tbS ps sig).getD 0 0) := by show 0 < _; rw [← HVV.out]; omega
    clear hz
    go_wp2_with fail
    go_loopw [7, 8] (fun q i wr => ∃ (m : Nat) (l : List Nat), m ≤ sig.length ∧ i = .int .i64 (m : Int) ∧ Hid (PathR ps sig l m) ∧ Hid (0 < (tbS ps sig).getD m 0) ∧ Hid (GrowI w2 w2.heap.size wr q (waysI l))) (fun _ i _ => sig.length - (intOf i).toNat)
    case atStart => exact ⟨0, [], Nat.zero_le _, rfl, PathTo.start, HZ.out, GrowI.start w2⟩
    case round =>
      obtain ⟨m, l, hm, rfl, hpt, htm, hg⟩ := hrel
      have HTM := Lib.hid htm.out
      have hs0r := hg.out.2.1.size
      have hs1r := hg.out.2.2
      by_cases hltm : m < sig.length
      · obtain ⟨ib, pb, hnx, hpb, hfb, htb⟩ := nextW_some hltm (fitS_hyp HBK.out sig m) HTM.out
        have HNX := Lib.hid hnx
        have HPB := Lib.hid hpb
        have HFB := Lib.hid hfb
        have HTB := Lib.hid htb
        have hcbr := (hg.out.2.1.cell (p := ⟨w.heap.size, 0, Option.none⟩) (by show w.heap.size < w2.heap.size; omega)).trans hcb2
        obtain ⟨b3, o3, c3, y3, hv3, _, _, _⟩ := Rd.at_ G2.out hltm
        injection hv3 with hv4 hv5 hv6
        subst hv4
        clear hv5 hv6
        clear hnx hpb hfb htb
        go_wp2_with fail
        go_loopw [9, 26] (fun b i wr => ∃ j : Nat, j ≤ ps.length ∧ i = .int .i64 j ∧ b = .int .i64 (ixI (fstJ (okW (fitS sig) sigLen (tbS ps sig) m) ps j)) ∧ Hid (GrowI w2 w2.heap.size wr u7 (waysI l))) (fun _ i _ => ps.length - (intOf i).toNat)
        case atStart => exact ⟨0, Nat.zero_le _, rfl, rfl, hg.out⟩
        case round =>
          obtain ⟨j, hjl, rfl, rfl, hg2⟩ := hrel
          have hs2 := hg2.out.2.1.size
          have hs3 := hg2.out.2.2
          by_cases hltj : j < ps.length
          · obtain ⟨b1, o1, c1, a, t, xs, hv, hb1, hx, hcell1, hcell2, hra, hta⟩ := (HA1.out.below (HB12.out.trans (hg2.out.2.1.mono (by omega))) (by omega)).at_ hltj
            cases hv
            obtain ⟨A2, c2, rfl, hc2, hm2⟩ := Rd.form hra
            have HX := Lib.hid hx
            have hpk := phrOk_sig (bookB_phr HBK.out (List.mem_of_getElem? hx))
            have HPK := Lib.hid hpk
            have HG2 := Lib.hid (hg2.out.belowR ((Below.refl wr.heap.size wr).alloc (Nat.le_refl _) (.cells #[.string t, .slice A2 xs.length c2] 54)))
            have HCL := Lib.hid fun k (hk : k ≤ sig.length) => (HG2.out.2.1.cell (p := ⟨bq, k, Option.none⟩) (by show bq < w2.heap.size; omega)).trans (HTC.out k hk)
            have HGD : Hid (RdI (wr.alloc (.cells #[.string t, .slice A2 xs.length c2] 54)) hj (.slice (some ⟨b3, o3 + m, Option.none⟩) (sig.length - m) (c' - m)) (sig.drop m)) := (RdI.below G2.out HG2.out.2.1 (by omega)).drop hltm
            have HRX : Hid (RdI (wr.alloc (.cells #[.string t, .slice A2 xs.length c2] 54)) hi (.slice A2 xs.length c2) xs) := RdI.below hra ((Below.refl wr.heap.size wr).alloc (Nat.le_refl _) _) (by omega)
            clear hx hra hpk
            rcases hbst : fstJ (okW (fitS sig) sigLen (tbS ps sig) m) ps j with _ | i0
            · have HBS := Lib.hid hbst
              clear hbst
              have cB := fun n => bkBegins_any xs (sig.drop m) (.slice A2 xs.length c2) (.slice (some ⟨b3, o3 + m, Option.none⟩) (sig.length - m) (c' - m)) hi hj ((wr.alloc (.cells #[.string t, .slice A2 xs.length c2] 54)).drewN n) (show RdI ((wr.alloc (.cells #[.string t, .slice A2 xs.length c2] 54)).drewN n) hi _ _ from HRX.out) (show RdI ((wr.alloc (.cells #[.string t, .slice A2 xs.length c2] 54)).drewN n) hj _ _ from HGD.out)
              cases hbg : begB xs (sig.drop m)
              · rw [hbg] at cB
                have CB := Lib.hid cB
                have HBG : Hid (fitS sig m (t, xs) = false) := hbg
                clear cB hbg
                simp only [ixI]
                go_wp2_with fail
                go_quiet ((go_at_call 92; exact Calls.quiet_of (CB.out _)))
                go_wp2_with fail
                go_roundw
                case rel => exact ⟨j + 1, by omega, by go_num, by rw [fstJ_no HX.out HBS.out (okW_no HBG.out)], HG2.out.belowR (bel_drewN _ _ _)⟩
                case measure => (simp [intOf]; try omega)
              · rw [hbg] at cB
                have CB := Lib.hid cB
                have HBG : Hid (fitS sig m (t, xs) = true) := hbg
                have hle := fitS_le HBG.out HPK.out.1
                have hle2 : m + xs.length ≤ sig.length := hle
                clear cB hbg hle
                have hcB := HCL.out (m + xs.length) hle2
                have HOK := Lib.hid (okW_yes (len := sigLen) (tb := tbS ps sig) HBG.out)
                have i1 : IntKind.i64.wrap ((m : Int) + (xs.length : Int)) = (m : Int) + (xs.length : Int) := wrap_in (by omega)
                have i2 : (0 : Int) ≤ (m : Int) + (xs.length : Int) := by omega
                have i3 : (m : Int) + (xs.length : Int) < (sig.length : Int) + 1 := by omega
                have i4 : ((m : Int) + (xs.length : Int)).toNat = m + xs.length := by omega
                obtain ⟨vb, hvb⟩ : ∃ vb, vb = (tbS ps sig).getD (m + xs.length) 0 := ⟨_, rfl⟩
                rw [← hvb] at hcB
                have HVB := Lib.hid hvb
                clear hvb
                by_cases hpos : 0 < vb
                · have hp1 : decide ((0 : Int) < (vb : Int)) = true := by rw [decide_eq_true_eq]; omega
                  have hp2 : (0 : Int) < (vb : Int) := by omega
                  simp only [ixI]
                  go_wp2_with fail
                  go_quiet ((go_at_call 92; exact Calls.quiet_of (CB.out _)))
                  go_wp2_with fail
                  go_roundw
                  case rel => exact ⟨j + 1, by omega, by go_num, by rw [fstJ_yes HX.out HBS.out (by rw [HOK.out]; exact decide_eq_true (by show 0 < (tbS ps sig).getD (m + xs.length) 0; rw [← HVB.out]; exact hpos))], HG2.out.belowR (bel_drewN _ _ _)⟩
                  case measure => (simp [intOf]; try omega)
                · have hp1 : decide ((0 : Int) < (vb : Int)) = false := by rw [decide_eq_false_iff_not]; omega
                  have hp2 : ¬ (0 : Int) < (vb : Int) := by omega
                  simp only [ixI]
                  go_wp2_with fail
                  go_quiet ((go_at_call 92; exact Calls.quiet_of (CB.out _)))
                  go_wp2_with fail
                  go_roundw
                  case rel => exact ⟨j + 1, by omega, by go_num, by rw [fstJ_no HX.out HBS.out (by rw [HOK.out]; exact decide_eq_false (by show ¬ 0 < (tbS ps sig).getD (m + xs.length) 0; rw [← HVB.out]; exact hpos))], HG2.out.belowR (bel_drewN _ _ _)⟩
                  case measure => (simp [intOf]; try omega)
            · have HBS := Lib.hid hbst
              clear hbst
              have hi0 : decide ((i0 : Int) < 0) = false := by rw [decide_eq_false_iff_not]; omega
              have hi1 : ¬ (i0 : Int) < 0 := by omega
              simp only [ixI]
              go_wp2_with fail
              go_quiet (fail)
              go_wp2_with fail
              go_roundw
              case rel => exact ⟨j + 1, by omega, by go_num, by rw [fstJ_old HX.out HBS.out], HG2.out.belowR (bel_drewN _ _ _)⟩
              case measure => (simp [intOf]; try omega)
          · obtain rfl : j = ps.length := by omega
            have hbst : fstJ (okW (fitS sig) sigLen (tbS ps sig) m) ps ps.length = some ib := by rw [fstJ_end]; exact HNX.out
            have hibl : ib < ps.length := (List.getElem?_eq_some_iff.1 HPB.out).1
            obtain ⟨b1, o1, c1, a, t, xs, hv, hb1, hx, hcell1, hcell2, hra, hta⟩ := HA1.out.at_ hibl
            cases hv
            rw [HPB.out] at hx
            cases hx
            obtain ⟨A2, c2, rfl, hc2, hm2⟩ := Rd.form hra
            have hpk := phrOk_sig (bookB_phr HBK.out (List.mem_of_getElem? HPB.out))
            have hxs1 : 1 ≤ xs.length := hpk.1
            have hle := fitS_le HFB.out hpk.1
            have hle2 : m + xs.length ≤ sig.length := hle
            have HC5 := Lib.hid fun (w5 : World) (hb5 : Below w1.heap.size w1 w5) => (hb5.cell (p := ⟨b1, o1 + ib * 2 + 1, Option.none⟩) (by show b1 < _; omega)).trans hcell2
            have HC6 := Lib.hid fun (w5 : World) (hb5 : Below w1.heap.size w1 w5) => (hb5.cell (p := ⟨w.heap.size, 0, Option.none⟩) (by show w.heap.size < w1.heap.size; omega)).trans HCBX.out
            have hll : (waysI l).length ≤ 60 := by rw [waysI_len]; have := hpt.out.short; omega
            have i1 : IntKind.i64.wrap ((m : Int) + (xs.length : Int)) = (m : Int) + (xs.length : Int) := wrap_in (by omega)
            clear hcell1 hcell2 hra hle hpk
            rw [hbst]
            clear hbst
            simp only [ixI]
            go_wp2_with (at_builtin; refine GrowI.app rfl (.tmp 54) (.tmp 56) rfl hg2.out (by omega) rfl rfl ?_; intro v' w5 hG'; have hb5 := HB12.out.trans (hG'.2.1.mono (by omega)); have d0 := HC6.out w5 hb5; have d1 := HC5.out w5 hb5; have HG6 := Lib.hid hG'; clear hG' hb5)
            go_roundw
            case rel =>
              refine ⟨m + xs.length, l ++ [ib], hle2, by go_num, ?_, HTB.out, ?_⟩
              · have h1 := hpt.out.on hltm HNX.out (by rw [lnOf_at HPB.out]; exact hxs1)
                rw [lnOf_at HPB.out] at h1
                exact h1
              · show GrowI _ _ _ _ _
                rw [waysI_snoc]
                exact HG6.out
            case measure => show sig.length - _ < sig.length - _; simp [intOf]; omega
      · obtain rfl : m = sig.length := by omega
        have HD := Lib.hid (hpt.out.done (Nat.le_refl _))
        go_wp2_with fail
        go_ret2
        show RetOwT _ _ _ _ _
        rw [readN_yes HZ.out, readQ_yes HZ.out, show pathR ps sig = l from HD.out.symm]
        exact retOwT_from _ hg.out HB2.out (by omega)
end Go.Proofs.Ytabhnbooboceeaa
