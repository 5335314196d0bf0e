/- Contracts: the first list of phrases of the least length, of the reference. -/
import Derived.Test.YtabhnbooboceeaaF3
import Derived.Test.YtabhnbooboceeaaE6
import Derived.BigQuiet
namespace Go.Proofs.Ytabhnbooboceeaa
open Go.RowKit
/-- A table of least lengths that a call has made: its cells. -/
theorem own_cellsO {w : World} {lo hi : Nat} {v : Value} {ps : List Phr} {t : ByteArray} (h : OwI w lo hi v ((tblT ps t).map optI)) :
    ∃ b c, v = .slice (some ⟨b, 0, Option.none⟩) (t.size + 1) c ∧ b < hi ∧ ∀ k, k ≤ t.size → w.cell? ⟨b, k, Option.none⟩ = some (.int .i64 (optI ((tblT ps t).getD k Option.none))) := by
  have hl : ((tblT ps t).map optI).length = t.size + 1 := by simp [tblT, dpL_len]
  have hat := fun k (hk : k ≤ t.size) => Rd.at_ h.rd (k := k) (by rw [hl]; omega)
  rcases h.1.2 with ⟨rfl, _⟩ | ⟨g, cap, cur, hv2, _⟩
  · obtain ⟨b, off, c, y, hv, _⟩ := hat 0 (Nat.zero_le _)
    cases hv
  · subst hv2
    rw [hl] at hat
    obtain ⟨b, off, c, y, hv, hb, _⟩ := hat 0 (Nat.zero_le _)
    rw [hl]
    cases hv
    refine ⟨_, _, rfl, hb, fun k hk => ?_⟩
    obtain ⟨b, off, c, y, hv, hb, hy, hc⟩ := hat k hk
    cases hv
    have e : y = optI ((tblT ps t).getD k Option.none) := by
      rw [List.getElem?_map] at hy
      rw [List.getD_eq_getElem?_getD]
      cases e : (tblT ps t)[k]? with
      | none => rw [e] at hy; cases hy
      | some m => rw [e] at hy; cases hy; rfl
    rw [e] at hc
    simpa using hc
/-- The path of the first list of the least length. -/
def pathT (ps : List Phr) (s : ByteArray) : List Nat := pathF s.size (nextL (fitT s) txtLen sigCost ps s.size) (lnOf txtLen ps) s.size 0
def spellL (ps : List Phr) (s : ByteArray) : List Int := match (tblT ps s).getD 0 Option.none with
  | some _ => waysI (pathT ps s)
  | Option.none => []
def spellQ (ps : List Phr) (s : ByteArray) : Bool := ((tblT ps s).getD 0 Option.none).isSome
abbrev PathT (ps : List Phr) (s : ByteArray) (l : List Nat) (m : Nat) : Prop := PathTo s.size (nextL (fitT s) txtLen sigCost ps s.size) (lnOf txtLen ps) l m
theorem fit_hyp {ps : List Phr} (h : bookB ps = true) (s : ByteArray) (m : Nat) : ∀ p ∈ ps, fitT s m p = true → 1 ≤ txtLen p := fun _ hp _ => (phrOk_txt (bookB_phr h hp)).1
theorem waysI_snoc {l : List Nat} {i : Nat} : waysI (l ++ [i]) = waysI l ++ [(i : Int)] := by simp [waysI]
theorem retOwT_from {w w2 wr : World} {v : Value} {xs : List Int} (b : Bool) (h : GrowI w2 w2.heap.size wr v xs) (hb : Below w.heap.size w w2) (hs : w.heap.size ≤ w2.heap.size) : RetOwT xs b w (.returned (.tuple #[v, .bool b])) wr := by
  refine ⟨v, rfl, ⟨⟨h.1.1, ?_⟩, h.own.2⟩, hb.trans (h.2.1.mono hs)⟩
  rcases h.1.2 with hn | ⟨g, cap, cur, rfl, hl, rest⟩
  · exact .inl hn
  · exact .inr ⟨g, cap, cur, rfl, by omega, rest⟩
theorem waysI_len {l : List Nat} : (waysI l).length = l.length := by simp [waysI]
set_option maxRecDepth 100000 in
set_option maxHeartbeats 4000000 in
theorem spSpell_any (ps : List Phr) (s : ByteArray) (v : Value) (hi : Nat) (w : World) (h : RdB w hi v ps) (hh : hi ≤ w.heap.size) (hbk : bookB ps = true) (hs40 : s.size ≤ 40) :
    Calls Try.prog 72 #[v, .string s] w (RetOwT (spellL ps s) (spellQ ps s) w) := by
  obtain ⟨a, rfl, ha⟩ := h
  obtain ⟨A, c, rfl, hc, hm⟩ := ha.form
  have hba : Below w.heap.size w (w.alloc (.cells #[.slice A ps.length c] 30)) := (Below.refl _ _).alloc (Nat.le_refl _) _
  have HB := Lib.hid hba
  have HA := Lib.hid (ha.below hba hh)
  have HG : Hid (RdB (w.alloc (.cells #[.slice A ps.length c] 30)) hi (.agg #[.slice A ps.length c]) ps) := ⟨_, rfl, HA.out⟩
  have hcb0 : (w.alloc (.cells #[.slice A ps.length c] 30)).cell? ⟨w.heap.size, 0, Option.none⟩ = some (.slice A ps.length c) := (Blk.new w 30 #[.slice A ps.length c]).cell 0
  have HCB := Lib.hid hcb0
  have hsz1 : hi ≤ (w.alloc (.cells #[.slice A ps.length c] 30)).heap.size := by simp; omega
  clear ha hba hcb0
  have HBK := Lib.hid hbk
  go_enter Try.func72, Try.ntmps72
  go_wp2_with fail
  have HA1 := HA
  have HG1 := HG
  have HB1 := HB
  have hcb := HCB.out
  have hs1 : w.heap.size + 1 ≤ (w.alloc (.cells #[.slice A ps.length c] 30)).heap.size := by simp
  generalize (w.alloc (.cells #[.slice A ps.length c] 30)) = w1 at HA HG HB HCB HA1 HG1 HB1 hcb hsz1 hs1 ⊢
  clear HA HG HB HCB
  have cT := spTable_any ps s (.agg #[.slice A ps.length c]) hi w1 HG1.out (by omega) HBK.out hs40
  have CT := Lib.hid cT
  clear cT
  go_wp2_with fail
  refine CT.out.mono ?_
  rintro e w2 ⟨q, rfl, hq, hb2⟩
  obtain ⟨bq, cq, rfl, hbq, htc⟩ := own_cellsO hq
  have HTC := Lib.hid htc
  have hs2 := hb2.size
  have hcq := htc 0 (Nat.zero_le _)
  have hcb2 := (hb2.cell (p := ⟨w.heap.size, 0, Option.none⟩) (by show w.heap.size < w1.heap.size; omega)).trans hcb
  have HB12 := Lib.hid hb2
  have HCBX := Lib.hid hcb
  have HB2 := Lib.hid (HB1.out.trans (hb2.mono (by omega)))
  clear hq hb2 hcb htc
  rcases ho : (tblT ps s).getD 0 Option.none with _ | vv
  · have HO := Lib.hid ho
    rw [ho] at hcq
    simp only [optI] at hcq
    clear ho
    go_wp2_with fail
    go_ret2
    show RetOwT _ _ _ _ _
    rw [show spellL ps s = [] by unfold spellL; rw [HO.out], show spellQ ps s = false by unfold spellQ; rw [HO.out]; rfl]
    exact retOwT _ (GrowI.nil HB2.out)
  · have HO := Lib.hid ho
    rw [ho] at hcq
    simp only [optI] at hcq
    have hvv : ¬ (vv : Int) < 0 := by omega
    clear ho
    go_wp2_with fail
    go_loopw [7, 8] (fun q i wr => ∃ (m : Nat) (l : List Nat) (c0 : Nat), m ≤ s.size ∧ i = .int .i64 (m : Int) ∧ Hid (PathT ps s l m) ∧ Hid ((tblT ps s).getD m Option.none = some c0) ∧ Hid (GrowI w2 w2.heap.size wr q (waysI l))) (fun _ i _ => s.size - (intOf i).toNat)
    case atStart => exact ⟨0, [], vv, Nat.zero_le _, rfl, PathTo.start, HO.out, GrowI.start w2⟩
    case round =>
      obtain ⟨m, l, c0, hm, rfl, hpt, htm, hg⟩ := hrel
      have HTM := Lib.hid htm.out
      have hs0r := hg.out.2.1.size
      have hs1r := hg.out.2.2
      by_cases hltm : m < s.size
      · obtain ⟨ib, pb, vb, hnx, hpb, hfb, hlb, htb, _⟩ := nextL_some hltm (fit_hyp HBK.out s m) HTM.out
        have HNX := Lib.hid hnx
        have HPB := Lib.hid hpb
        have HFB := Lib.hid hfb
        have HLB := Lib.hid hlb
        have HTB := Lib.hid htb
        have hcbr := (hg.out.2.1.cell (p := ⟨w.heap.size, 0, Option.none⟩) (by show w.heap.size < w2.heap.size; omega)).trans hcb2
        clear hnx hpb hfb hlb htb
        go_wp2_with fail
        go_loopw [9, 26] (fun b i wr => ∃ j : Nat, j ≤ ps.length ∧ i = .int .i64 j ∧ b = .int .i64 (ixI (fstJ (okL (fitT s) txtLen sigCost ps s.size m c0) ps j)) ∧ Hid (GrowI w2 w2.heap.size wr u7 (waysI l))) (fun _ i _ => ps.length - (intOf i).toNat)
        case atStart => exact ⟨0, Nat.zero_le _, rfl, rfl, hg.out⟩
        case round =>
          obtain ⟨j, hjl, rfl, rfl, hg2⟩ := hrel
          have hs2 := hg2.out.2.1.size
          have hs3 := hg2.out.2.2
          by_cases hltj : j < ps.length
          · obtain ⟨b1, o1, c1, a, t, xs, hv, hb1, hx, hcell1, hcell2, hra, hta⟩ := (HA1.out.below (HB12.out.trans (hg2.out.2.1.mono (by omega))) (by omega)).at_ hltj
            cases hv
            obtain ⟨A2, c2, rfl, hc2, hm2⟩ := Rd.form hra
            have HX := Lib.hid hx
            have hpk := phrOk_txt (bookB_phr HBK.out (List.mem_of_getElem? hx))
            have HPK := Lib.hid hpk
            have HG2 := Lib.hid (hg2.out.belowR ((Below.refl wr.heap.size wr).alloc (Nat.le_refl _) (.cells #[.string t, .slice A2 xs.length c2] 54)))
            have HCL := Lib.hid fun k (hk : k ≤ s.size) => (HG2.out.2.1.cell (p := ⟨bq, k, Option.none⟩) (by show bq < w2.heap.size; omega)).trans (HTC.out k hk)
            clear hx hra hpk
            rcases hbst : fstJ (okL (fitT s) txtLen sigCost ps s.size m c0) ps j with _ | i0
            · have HBS := Lib.hid hbst
              clear hbst
              have cB := fun n => still_of (spBegins_any (s.extract m s.size) t (by simp; omega) hta ((wr.alloc (.cells #[.string t, .slice A2 xs.length c2] 54)).drewN n))
              cases hbg : Lib.hasPrefix (s.extract m s.size).data.toList t.data.toList
              · rw [hbg] at cB
                have CB := Lib.hid cB
                have HBG : Hid (fitT s m (t, xs) = false) := hbg
                clear cB hbg
                simp only [ixI]
                go_wp2_with fail
                go_quiet ((go_at_call 102; exact Calls.quiet_of_same (CB.out _)))
                go_wp2_with fail
                go_roundw
                case rel => exact ⟨j + 1, by omega, by go_num, by rw [fstJ_no HX.out HBS.out (okL_no HBG.out)], HG2.out.belowR (bel_drewN _ _ _)⟩
                case measure => (simp [intOf]; try omega)
              · rw [hbg] at cB
                have CB := Lib.hid cB
                have HBG : Hid (fitT s m (t, xs) = true) := hbg
                have hle := fitT_le HBG.out HPK.out.1
                have hle2 : m + t.size ≤ s.size := hle
                clear cB hbg hle
                obtain ⟨ob, hob⟩ : ∃ ob, (tblT ps s)[m + t.size]? = some ob := ⟨_, List.getElem?_eq_getElem (by unfold tblT; rw [dpL_len]; omega)⟩
                have HOB := Lib.hid hob
                have hcB := HCL.out (m + t.size) hle2
                rw [List.getD_eq_getElem?_getD, hob] at hcB
                simp only [Option.getD_some] at hcB
                clear hob
                have i1 : IntKind.i64.wrap ((m : Int) + (t.size : Int)) = (m : Int) + (t.size : Int) := wrap_in (by omega)
                have i2 : (0 : Int) ≤ (m : Int) + (t.size : Int) := by omega
                have i3 : (m : Int) + (t.size : Int) < (s.size : Int) + 1 := by omega
                have i4 : ((m : Int) + (t.size : Int)).toNat = m + t.size := by omega
                rcases ob with _ | vb
                · simp only [optI] at hcB
                  simp only [ixI]
                  go_wp2_with fail
                  go_quiet ((go_at_call 102; exact Calls.quiet_of_same (CB.out _)))
                  go_wp2_with fail
                  go_roundw
                  case rel => exact ⟨j + 1, by omega, by go_num, by rw [fstJ_no HX.out HBS.out (okL_none (by omega) HPK.out.1 HOB.out)], HG2.out.belowR (bel_drewN _ _ _)⟩
                  case measure => (simp [intOf]; try omega)
                · simp only [optI] at hcB
                  have hvb : (vb : Int) ≤ 120 := by
                    have := dpL_txt HBK.out s s.size (Nat.le_refl _) (m + t.size) vb HOB.out
                    omega
                  have nb : (0 : Int) ≤ (vb : Int) := by omega
                  have hcM := HCL.out m (by omega)
                  rw [HTM.out] at hcM
                  simp only [optI] at hcM
                  have HOK := Lib.hid (okL_some (len := txtLen) (cost := sigCost) (ps := ps) (c := c0) hltm HBG.out HPK.out.1 HOB.out)
                  have hx3 : xs.length ≤ 3 := (phrOk_sig (bookB_phr HBK.out (List.mem_of_getElem? HX.out))).2.1
                  have i5 : IntKind.i64.wrap ((xs.length : Int) + (vb : Int)) = (xs.length : Int) + (vb : Int) := wrap_in (by omega)
                  by_cases heq : xs.length + vb = c0
                  · have heq2 : (xs.length : Int) + (vb : Int) = (c0 : Int) := by omega
                    simp only [ixI]
                    go_wp2_with fail
                    go_quiet ((go_at_call 102; exact Calls.quiet_of_same (CB.out _)))
                    go_wp2_with fail
                    go_roundw
                    case rel => exact ⟨j + 1, by omega, by go_num, by rw [fstJ_yes HX.out HBS.out (by rw [HOK.out]; exact decide_eq_true heq)], HG2.out.belowR (bel_drewN _ _ _)⟩
                    case measure => (simp [intOf]; try omega)
                  · have heq2 : ¬ (xs.length : Int) + (vb : Int) = (c0 : Int) := by omega
                    simp only [ixI]
                    go_wp2_with fail
                    go_quiet ((go_at_call 102; exact Calls.quiet_of_same (CB.out _)))
                    go_wp2_with fail
                    go_roundw
                    case rel => exact ⟨j + 1, by omega, by go_num, by rw [fstJ_no HX.out HBS.out (by rw [HOK.out]; exact decide_eq_false heq)], HG2.out.belowR (bel_drewN _ _ _)⟩
                    case measure => (simp [intOf]; try omega)
            · have HBS := Lib.hid hbst
              clear hbst
              have hi0 : decide ((i0 : Int) < 0) = false := by rw [decide_eq_false_iff_not]; omega
              have hi1 : ¬ (i0 : Int) < 0 := by omega
              simp only [ixI]
              go_wp2_with fail
              go_quiet (fail)
              go_wp2_with fail
              go_roundw
              case rel => exact ⟨j + 1, by omega, by go_num, by rw [fstJ_old HX.out HBS.out], HG2.out.belowR (bel_drewN _ _ _)⟩
              case measure => (simp [intOf]; try omega)
          · obtain rfl : j = ps.length := by omega
            have hbst : fstJ (okL (fitT s) txtLen sigCost ps s.size m c0) ps ps.length = some ib := by rw [fstJ_end, nextL_ok HTM.out]; exact HNX.out
            have hibl : ib < ps.length := (List.getElem?_eq_some_iff.1 HPB.out).1
            obtain ⟨b1, o1, c1, a, t, xs, hv, hb1, hx, hcell1, hcell2, hra, hta⟩ := HA1.out.at_ hibl
            cases hv
            rw [HPB.out] at hx
            cases hx
            have hle := fitT_le HFB.out HLB.out
            have hle2 : m + t.size ≤ s.size := hle
            have HC5 := Lib.hid fun (w5 : World) (hb5 : Below w1.heap.size w1 w5) => (hb5.cell (p := ⟨b1, o1 + ib * 2, Option.none⟩) (by show b1 < _; omega)).trans hcell1
            have HC6 := Lib.hid fun (w5 : World) (hb5 : Below w1.heap.size w1 w5) => (hb5.cell (p := ⟨w.heap.size, 0, Option.none⟩) (by show w.heap.size < w1.heap.size; omega)).trans HCBX.out
            have hll : (waysI l).length ≤ 40 := by rw [waysI_len]; have := hpt.out.short; omega
            have i1 : IntKind.i64.wrap ((m : Int) + (t.size : Int)) = (m : Int) + (t.size : Int) := wrap_in (by omega)
            clear hcell1 hcell2 hra hle
            rw [hbst]
            clear hbst
            simp only [ixI]
            go_wp2_with (at_builtin; refine GrowI.app rfl (.tmp 73) (.tmp 75) rfl hg2.out (by omega) rfl rfl ?_; intro v' w5 hG'; have hb5 := HB12.out.trans (hG'.2.1.mono (by omega)); have d0 := HC6.out w5 hb5; have d1 := HC5.out w5 hb5; have HG6 := Lib.hid hG'; clear hG' hb5)
            go_roundw
            case rel =>
              refine ⟨m + t.size, l ++ [ib], vb, hle2, by go_num, ?_, HTB.out, ?_⟩
              · have h1 := hpt.out.on hltm HNX.out (by rw [lnOf_at HPB.out]; exact HLB.out)
                rw [lnOf_at HPB.out] at h1
                exact h1
              · show GrowI _ _ _ _ _
                rw [waysI_snoc]
                exact HG6.out
            case measure => have h1 : 1 ≤ t.size := HLB.out; show s.size - _ < s.size - _; simp [intOf]; omega
      · obtain rfl : m = s.size := by omega
        have HD := Lib.hid (hpt.out.done (Nat.le_refl _))
        go_wp2_with fail
        go_ret2
        show RetOwT _ _ _ _ _
        rw [show spellL ps s = waysI l by unfold spellL; rw [HO.out, show l = pathT ps s from HD.out], show spellQ ps s = true by unfold spellQ; rw [HO.out]; rfl]
        exact retOwT_from _ hg.out HB2.out (by omega)
end Go.Proofs.Ytabhnbooboceeaa
