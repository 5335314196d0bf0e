/- Texts of one claim, joined: F5, G0, G1, G2, U3, C2, E8. -/
import Derived.Test.YtabiobjcfopakaaC5ReadOneWay
/- Contract: the program's search for the first list of phrases of the least length. -/
namespace Go.Proofs.Ytabiobjcfopakaa
open Go.RowKit
theorem bigI_bd {o : Option Nat} (h : ∀ v, o = some v → v ≤ 1000000) : 0 ≤ bigI o ∧ bigI o ≤ 1073741824 := by
  cases o with
  | none => exact ⟨by decide, by decide⟩
  | some v => have := h v rfl; simp only [bigI]; omega
theorem bigZ_zero {tb : List (Option Nat)} {m : Nat} (h : m < tb.length) : (bigZ 0 tb)[m]? = some (.int .i64 (bigI (tb.getD m Option.none))) := by
  unfold bigZ; simp [List.getD_eq_getElem?_getD, List.getElem?_eq_getElem h]
theorem tblZ_zeroAt {tb : List Nat} {m : Nat} (h : m < tb.length) : (tblZ 0 tb)[m]? = some (.int .i64 ((tb.getD m 0 : Nat) : Int)) := by
  unfold tblZ; simp [List.getD_eq_getElem?_getD, List.getElem?_eq_getElem h]
theorem big_keep {fit : Phr → Bool} {len cost : Phr → Nat} {ps : List Phr} {tb : List (Option Nat)} {j : Nat} {p : Phr} {ob : Option Nat} (hp : ps[j]? = some p) (hf : fit p = true) (ht : tb[len p - 1]? = some ob) (hob : ∀ v, ob = some v → v + cost p ≤ 1000000)
    (h : ¬ bigI ob + (cost p : Int) < bigI (lsJ fit len cost ps tb j)) : lsJ fit len cost ps tb (j + 1) = lsJ fit len cost ps tb j ∧ fsJ fit len cost ps tb (j + 1) = fsJ fit len cost ps tb j := by
  refine lsJ_keep hp fun v hv => ?_
  cases ob with
  | none => rw [valP_none ht] at hv; cases hv
  | some b =>
    rw [valP_yes hf ht] at hv
    cases hv
    have := hob b rfl
    cases hc : lsJ fit len cost ps tb j with
    | none => rw [hc] at h; simp only [bigI] at h; omega
    | some c => rw [hc] at h; simp only [bigI] at h; exact ⟨c, rfl, by omega⟩
theorem big_new {fit : Phr → Bool} {len cost : Phr → Nat} {ps : List Phr} {tb : List (Option Nat)} {j : Nat} {p : Phr} {ob : Option Nat} (hp : ps[j]? = some p) (hf : fit p = true) (ht : tb[len p - 1]? = some ob) (hcur : bigI (lsJ fit len cost ps tb j) ≤ 1073741824)
    (h : bigI ob + (cost p : Int) < bigI (lsJ fit len cost ps tb j)) : ∃ v : Nat, bigI ob + (cost p : Int) = bigI (some v) ∧ lsJ fit len cost ps tb (j + 1) = some v ∧ fsJ fit len cost ps tb (j + 1) = j := by
  cases ob with
  | none => simp only [bigI] at h hcur; omega
  | some b =>
    refine ⟨cost p + b, by simp only [bigI]; omega, lsJ_new hp (valP_yes hf ht) fun c hc => ?_⟩
    rw [hc] at h
    simp only [bigI] at h
    omega
theorem lsJ_bd {ps : List Phr} (h : bookB ps = true) (s : ByteArray) {m k j : Nat} (hm : m + (k + 1) = s.size) (hs : s.size ≤ 40) : ∀ v, lsJ (fitT s m) txtLen sigCost ps (dpL (fitT s) txtLen sigCost ps s.size k) j = some v → v ≤ 1000000 := by
  intro v hv
  have e : s.size - (k + 1) = m := by omega
  have h1 := lsAt_le (fit := fitT s m) (len := txtLen) (cost := sigCost) (tb := dpL (fitT s) txtLen sigCost ps s.size k) (r := k + 1) (ps := ps.take j) (fun p hp hf => tblT_hyp h s k (by omega) p (List.mem_of_mem_take hp) (by rw [e]; exact hf))
    (fun i q hq => by have := dpL_txt h s k (by omega) i q hq; omega) Option.none (fun q hq => by cases hq) v hv
  omega
set_option maxRecDepth 100000 in
set_option maxHeartbeats 4000000 in
theorem spell_any (ps : List Phr) (s : ByteArray) (v : Value) (hi : Nat) (w : World) (h : RdB w hi v ps) (hh : hi ≤ w.heap.size) (hbk : bookB ps = true) (hs40 : s.size ≤ 40) :
    Calls Try.prog 194 #[v, .string s] w (RetOwT (spellL ps s) (spellQ ps s) w) := by
  obtain ⟨a, rfl, ha⟩ := h
  obtain ⟨A, c, rfl, hc, hm⟩ := ha.form
  have HA0 := Lib.hid ha
  have hba : Below w.heap.size w (w.alloc (.cells #[.slice A ps.length c] 48)) := (Below.refl _ _).alloc (Nat.le_refl _) _
  have HB := Lib.hid hba
  have HA := Lib.hid (ha.below hba hh)
  have HG : Hid (RdB (w.alloc (.cells #[.slice A ps.length c] 48)) hi (.agg #[.slice A ps.length c]) ps) := ⟨_, rfl, HA.out⟩
  have hcb0 : (w.alloc (.cells #[.slice A ps.length c] 48)).cell? ⟨w.heap.size, 0, Option.none⟩ = some (.slice A ps.length c) := (Blk.new w 48 #[.slice A ps.length c]).cell 0
  have HCB := Lib.hid hcb0
  have hsz1 : hi ≤ (w.alloc (.cells #[.slice A ps.length c] 48)).heap.size := by simp; omega
  clear ha hba hcb0
  have HBK := Lib.hid hbk
  clear hbk
  have hmk := make_ints (s.size + 1) (by omega)
  rw [show ((s.size + 1 : Nat) : Int) = (s.size : Int) + 1 from rfl] at hmk
  have HBW : Hid (Below w.heap.size w ((w.alloc (.cells #[.slice A ps.length c] 48)).alloc (.cells (zeros (s.size + 1)) 3))) := ((Below.refl _ _).alloc (Nat.le_refl _) _).alloc (by simp) _
  have HTB0 : Hid (Blk (((w.alloc (.cells #[.slice A ps.length c] 48)).alloc (.cells (zeros (s.size + 1)) 3)).alloc (.cells (zeros (s.size + 1)) 3)) (w.heap.size + 1) 3 (bigZ s.size (dpL (fitT s) txtLen sigCost ps s.size 0))) := by
    have := (Blk.new (w.alloc (.cells #[.slice A ps.length c] 48)) 3 (zeros (s.size + 1))).alloc (.cells (zeros (s.size + 1)) 3)
    rw [bigZ_start] at this
    simp at this
    exact this
  have HTF0 : Hid (Blk (((w.alloc (.cells #[.slice A ps.length c] 48)).alloc (.cells (zeros (s.size + 1)) 3)).alloc (.cells (zeros (s.size + 1)) 3)) (w.heap.size + 1 + 1) 3 (tblZ s.size (fstD (fitT s) txtLen sigCost ps s.size 0))) := by
    have := Blk.new ((w.alloc (.cells #[.slice A ps.length c] 48)).alloc (.cells (zeros (s.size + 1)) 3)) 3 (zeros (s.size + 1))
    rw [tblZ_zero] at this
    simp at this
    exact this
  have HCBX : Hid (((w.alloc (.cells #[.slice A ps.length c] 48)).alloc (.cells (zeros (s.size + 1)) 3)).cell? ⟨w.heap.size, 0, Option.none⟩ = some (.slice A ps.length c)) :=
    (((Below.refl (w.alloc (.cells #[.slice A ps.length c] 48)).heap.size (w.alloc (.cells #[.slice A ps.length c] 48))).alloc (Nat.le_refl _) (.cells (zeros (s.size + 1)) 3)).cell (p := ⟨w.heap.size, 0, Option.none⟩) (by simp)).trans HCB.out
  go_enter Try.func194, Try.ntmps194
  go_wp2_with fail
  go_loopw [8] (fun i wr => ∃ (m k : Nat) (z : Int), Hid (m + k = s.size) ∧ Hid (z = (m : Int) - 1) ∧ i = .int .i64 z ∧ Hid (Blk wr (w.heap.size + 1) 3 (bigZ m (dpL (fitT s) txtLen sigCost ps s.size k))) ∧ Hid (Blk wr (w.heap.size + 1 + 1) 3 (tblZ m (fstD (fitT s) txtLen sigCost ps s.size k))) ∧ Hid (Below (w.heap.size + 1) ((w.alloc (.cells #[.slice A ps.length c] 48)).alloc (.cells (zeros (s.size + 1)) 3)) wr)) (fun i _ => (intOf i + 1).toNat)
  case atStart => exact ⟨s.size, 0, (s.size : Int) - 1, rfl, rfl, rfl, HTB0.out, HTF0.out, (Below.refl _ _).alloc (by simp) _⟩
  case round =>
    obtain ⟨m, k, z, hmk1, hz, rfl, hblk, hblf, hbr⟩ := hrel
    have hs : (w.heap.size + 1 + 1) + 1 ≤ wr.heap.size := by have := hblf.out.lt; omega
    rcases m with _ | m
    · obtain rfl : z = -1 := by have := hz.out; omega
      have HK : Hid (k = s.size) := by have := hmk1.out; show k = _; omega
      have hB := hblk.out
      have hF := hblf.out
      rw [HK.out] at hB hF
      have hc0 := hB.cell 0
      rw [bigZ_zero (by rw [dpL_len]; omega)] at hc0
      change _ = some (Value.int .i64 (bigI ((tblT ps s).getD 0 Option.none))) at hc0
      have HFC := Lib.hid fun m (hm : m < s.size) => (hF.cell m).trans (tblZ_zeroAt (by rw [fstD_len]; omega))
      have HBE := Lib.hid (HBW.out.trans (hbr.out.mono (by omega)))
      have hboxr := (hbr.out.cell (p := ⟨w.heap.size, 0, Option.none⟩) (by show w.heap.size < (w.heap.size + 1); omega)).trans HCBX.out
      clear hB hF
      rcases ho : (tblT ps s).getD 0 Option.none with _ | vv
      · have HO := Lib.hid ho
        rw [ho] at hc0
        simp only [bigI] at hc0
        clear ho
        go_wp2_with fail
        go_ret2
        show RetOwT _ _ _ _ _
        rw [show spellL ps s = [] by unfold spellL; rw [HO.out], show spellQ ps s = false by unfold spellQ; rw [HO.out]; rfl]
        exact retOwT _ (GrowI.nil HBE.out)
      · have HO := Lib.hid ho
        rw [ho] at hc0
        simp only [bigI] at hc0
        have hvv : vv ≤ 120 := by
          have := dpL_txt HBK.out s s.size (Nat.le_refl _) 0 vv (by
            rw [List.getD_eq_getElem?_getD] at ho
            unfold tblT at ho
            cases e : (dpL (fitT s) txtLen sigCost ps s.size s.size)[0]? with
            | none => rw [e] at ho; cases ho
            | some q => rw [e] at ho; simp at ho; rw [ho])
          omega
        have hvv2 : ¬ (1073741824 : Int) ≤ (vv : Int) := by omega
        clear ho
        rename World => wo
        have hs9 : (w.heap.size + 1 + 1) + 1 ≤ wo.heap.size := by have := hblf.out.lt; omega
        go_wp2_with fail
        go_loopw [12, 13] (fun q i wr => ∃ (m : Nat) (l : List Nat) (c0 : Nat), m ≤ s.size ∧ i = .int .i64 (m : Int) ∧ Hid (PathT ps s l m) ∧ Hid ((tblT ps s).getD m Option.none = some c0) ∧ Hid (GrowI wo wo.heap.size wr q (waysI l))) (fun _ i _ => s.size - (intOf i).toNat)
        case atStart => exact ⟨0, [], vv, Nat.zero_le _, rfl, PathTo.start, HO.out, GrowI.start wo⟩
        case round =>
          obtain ⟨m, l, c0, hm, rfl, hpt, htm, hg⟩ := hrel
          have hsr0 := hg.out.2.1.size
          have hsr1 := hg.out.2.2
          by_cases hltm : m < s.size
          · obtain ⟨ib, pb, vb, hnx, hpb, hfb, hlb, htb, _⟩ := nextL_some hltm (fit_hyp HBK.out s m) htm.out
            have HNX := Lib.hid hnx
            have HPB := Lib.hid hpb
            have HFB := Lib.hid hfb
            have HLB := Lib.hid hlb
            have HTB := Lib.hid htb
            have hfc := HFC.out m hltm
            rw [List.getD_eq_getElem?_getD, fstD_at hltm, hnx] at hfc
            simp only [Option.getD_some] at hfc
            have hibl : ib < ps.length := (List.getElem?_eq_some_iff.1 hpb).1
            obtain ⟨b1, o1, c1, a, t, xs, hv, hb1, hx, hcell1, hcell2, hra, hta⟩ := (HA0.out.below HBE.out hh).at_ hibl
            cases hv
            rw [hpb] at hx
            cases hx
            have hle := fitT_le HFB.out HLB.out
            have hle2 : m + t.size ≤ s.size := hle
            have HC5 := Lib.hid fun (w5 : World) (hb5 : Below wo.heap.size wo w5) => (hb5.cell (p := ⟨b1, o1 + ib * 2, Option.none⟩) (by show b1 < _; omega)).trans hcell1
            have HC6 := Lib.hid fun (w5 : World) (hb5 : Below wo.heap.size wo w5) => (hb5.cell (p := ⟨w.heap.size, 0, Option.none⟩) (by show w.heap.size < wo.heap.size; omega)).trans hboxr
            have HC7 := Lib.hid fun (w5 : World) (hb5 : Below wo.heap.size wo w5) => (hb5.cell (p := ⟨(w.heap.size + 1 + 1), m, Option.none⟩) (by show (w.heap.size + 1 + 1) < wo.heap.size; omega)).trans hfc
            have hll : (waysI l).length ≤ 40 := by rw [waysI_len]; have := hpt.out.short; omega
            have i1 : IntKind.i64.wrap ((m : Int) + (t.size : Int)) = (m : Int) + (t.size : Int) := wrap_in (by omega)
            have hcr := HC7.out _ hg.out.2.1
            clear hcell1 hcell2 hra hle hnx hpb hfb hlb htb hfc
            go_wp2_with (at_builtin; refine GrowI.app rfl (.tmp 82) (.tmp 87) rfl hg.out (by omega) rfl rfl ?_; intro v' w5 hG')
            have d0 := HC6.out w5 hG'.2.1
            have d1 := HC5.out w5 hG'.2.1
            have d2 := HC7.out w5 hG'.2.1
            have HG6 := Lib.hid hG'
            clear hG' hcr
            go_quiet (fail)
            go_wp2_with fail
            go_roundw
            case rel =>
              refine ⟨m + t.size, l ++ [ib], vb, hle2, by go_num, ?_, HTB.out, ?_⟩
              · have h1 := hpt.out.on hltm HNX.out (by rw [lnOf_at HPB.out]; exact HLB.out)
                rw [lnOf_at HPB.out] at h1
                exact h1
              · show GrowI _ _ _ _ _
                rw [waysI_snoc]
                exact HG6.out.belowR (bel_drewN _ _ _)
            case measure => have h1 : 1 ≤ t.size := HLB.out; show s.size - _ < s.size - _; simp [intOf]; omega
          · obtain rfl : m = s.size := by omega
            have HD := Lib.hid (hpt.out.done (Nat.le_refl _))
            go_wp2_with fail
            go_ret2
            show RetOwT _ _ _ _ _
            rw [show spellL ps s = waysI l by unfold spellL; rw [HO.out, show l = pathT ps s from HD.out], show spellQ ps s = true by unfold spellQ; rw [HO.out]; rfl]
            exact retOwT_from _ hg.out HBE.out (by omega)
    · obtain rfl : z = (m : Int) := by have := hz.out; omega
      have hm1 : m < s.size := by have := hmk1.out; omega
      have hboxr := (hbr.out.cell (p := ⟨w.heap.size, 0, Option.none⟩) (by show w.heap.size < (w.heap.size + 1); omega)).trans HCBX.out
      have hz0 := hblk.out.cell m
      rw [bigZ_below] at hz0
      have hf0 := hblk.out.frozen m
      rename World => wo
      go_wp2_with fail
      go_loopw [35] (fun i wr => ∃ j : Nat, j ≤ ps.length ∧ i = .int .i64 j ∧ Hid (Blk wr (w.heap.size + 1) 3 (bigZ m ((lsJ (fitT s m) txtLen sigCost ps (dpL (fitT s) txtLen sigCost ps s.size k) j) :: (dpL (fitT s) txtLen sigCost ps s.size k)))) ∧ Hid (Blk wr (w.heap.size + 1 + 1) 3 (tblC m (fsJ (fitT s m) txtLen sigCost ps (dpL (fitT s) txtLen sigCost ps s.size k) j) (fstD (fitT s) txtLen sigCost ps s.size k))) ∧ Hid (Below (w.heap.size + 1) ((w.alloc (.cells #[.slice A ps.length c] 48)).alloc (.cells (zeros (s.size + 1)) 3)) wr)) (fun i _ => ps.length - (intOf i).toNat)
      case atStart => exact ⟨0, Nat.zero_le _, rfl, by have := hblk.out.set_ m (.int .i64 1073741824); rw [bigZ_down] at this; exact this, (by have := hblf.out; rw [tblZ_down] at this; exact (Below.heap_setCell _ _ _ _ (by show (w.heap.size + 1 + 1) ≠ (w.heap.size + 1); omega)).trans this), hbr.out.setCell (Nat.le_refl _) _⟩
      case round =>
        obtain ⟨j, hjl, rfl, hblk2, hblf2, hbr2⟩ := hrel
        have hs2 : (w.heap.size + 1 + 1) + 1 ≤ wr.heap.size := by have := hblf2.out.lt; omega
        have HBR := Lib.hid (HBW.out.trans (hbr2.out.mono (by omega)))
        clear hz0 hf0
        by_cases hlt : j < ps.length
        · obtain ⟨b1, o1, c1, a, t, xs, hv, hb1, hx, hcell1, hcell2, hra, hta⟩ := (HA0.out.below HBR.out (by omega)).at_ hlt
          cases hv
          obtain ⟨A2, c2, rfl, hc2, hm2⟩ := Rd.form hra
          have HX := Lib.hid hx
          have HAP := Lib.hid (tblT_hyp HBK.out s k (by have := hmk1.out; omega) (t, xs) (List.mem_of_getElem? HX.out))
          have HBP := Lib.hid (hbr2.out.alloc (show (w.heap.size + 1) ≤ wr.heap.size by omega) (.cells #[.string t, .slice A2 xs.length c2] 60))
          have HBLP : Hid (Blk (wr.alloc (.cells #[.string t, .slice A2 xs.length c2] 60)) (w.heap.size + 1) 3 (bigZ m ((lsJ (fitT s m) txtLen sigCost ps (dpL (fitT s) txtLen sigCost ps s.size k) j) :: (dpL (fitT s) txtLen sigCost ps s.size k)))) := hblk2.out.alloc _
          have HBFP : Hid (Blk (wr.alloc (.cells #[.string t, .slice A2 xs.length c2] 60)) (w.heap.size + 1 + 1) 3 (tblC m (fsJ (fitT s m) txtLen sigCost ps (dpL (fitT s) txtLen sigCost ps s.size k) j) (fstD (fitT s) txtLen sigCost ps s.size k))) := hblf2.out.alloc _
          clear hx hra
          have cB := fun n => Try.strings_HasPrefix (s.extract m s.size) t ((wr.alloc (.cells #[.string t, .slice A2 xs.length c2] 60)).drewN n)
          cases hbg : Lib.hasPrefix (s.extract m s.size).data.toList t.data.toList
          · rw [hbg] at cB
            have CB := Lib.hid cB
            have HKP := Lib.hid (lsJ_keep (fit := fitT s m) (len := txtLen) (cost := sigCost) (tb := (dpL (fitT s) txtLen sigCost ps s.size k)) HX.out (fun v hv => by rw [valP_no (show fitT s m (t, xs) = false from hbg)] at hv; cases hv))
            clear cB hbg
            go_wp2_with fail
            go_quiet ((go_at_call 199; exact Calls.quiet_of_same (CB.out _)))
            go_wp2_with fail
            go_roundw
            case rel => exact ⟨j + 1, by omega, by go_num, by rw [HKP.out.1]; exact HBLP.out, by rw [HKP.out.2]; exact HBFP.out, HBP.out.trans (bel_drewN _ _ _)⟩
            case measure => (simp [intOf]; try omega)
          · rw [hbg] at cB
            have CB := Lib.hid cB
            have HF1 : Hid (fitT s m (t, xs) = true) := hbg
            have hl := HAP.out (by rw [show s.size - (k + 1) = m by have := hmk1.out; omega]; exact HF1.out)
            have hl1 : 1 ≤ t.size := hl.1
            have hl2 : t.size ≤ k + 1 := hl.2.1
            have hl3 : xs.length ≤ 3 := hl.2.2
            have hmk2 := hmk1.out
            obtain ⟨ob, hvb⟩ : ∃ ob, (dpL (fitT s) txtLen sigCost ps s.size k)[t.size - 1]? = some ob := ⟨_, List.getElem?_eq_getElem (by rw [dpL_len]; omega)⟩
            have hvb2 : ∀ q, ob = some q → q ≤ 120 := fun q e => by
              have := dpL_txt HBK.out s k (by omega) (t.size - 1) q (by rw [← e]; exact hvb)
              omega
            have c1' := HBLP.out.cell (m + t.size)
            rw [show m + t.size = m + 1 + (t.size - 1) by omega, bigZ_on hvb, show m + 1 + (t.size - 1) = m + t.size by omega] at c1'
            have c0 := HBLP.out.cell m
            rw [bigZ_at] at c0
            have c9 := HBFP.out.cell m
            rw [tblC_at] at c9
            have hbo := bigI_bd (o := ob) fun v hv => by have := hvb2 v hv; omega
            have hbc := bigI_bd (o := (lsJ (fitT s m) txtLen sigCost ps (dpL (fitT s) txtLen sigCost ps s.size k) j)) (lsJ_bd HBK.out s (show m + (k + 1) = s.size by omega) hs40)
            have HVB := Lib.hid hvb
            have HVB2 := Lib.hid hvb2
            have HBC := Lib.hid hbc.2
            obtain ⟨bo, hbo1⟩ : ∃ z, z = bigI ob := ⟨_, rfl⟩
            obtain ⟨bc, hbc1⟩ : ∃ z, z = bigI (lsJ (fitT s m) txtLen sigCost ps (dpL (fitT s) txtLen sigCost ps s.size k) j) := ⟨_, rfl⟩
            obtain ⟨f0, hf0⟩ : ∃ z, z = (fsJ (fitT s m) txtLen sigCost ps (dpL (fitT s) txtLen sigCost ps s.size k) j) := ⟨_, rfl⟩
            rw [← hbo1] at c1' hbo
            rw [← hbc1] at c0 hbc
            rw [← hf0] at c9
            have HBO1 := Lib.hid hbo1
            have HBC1 := Lib.hid hbc1
            clear hbo1 hbc1 hf0 hvb hvb2 cB hbg hl
            have i1 : IntKind.i64.wrap ((m : Int) + (t.size : Int)) = (m : Int) + (t.size : Int) := wrap_in (by omega)
            have i2 : (0 : Int) ≤ (m : Int) + (t.size : Int) := by omega
            have i3 : (m : Int) + (t.size : Int) < (s.size : Int) + 1 := by omega
            have i4 : ((m : Int) + (t.size : Int)).toNat = m + t.size := by omega
            have i5 : IntKind.i64.wrap (bo + (xs.length : Int)) = bo + (xs.length : Int) := wrap_in (by omega)
            go_wp2_with fail
            go_quiet ((go_at_call 199; exact Calls.quiet_of_same (CB.out _)))
            go_wp2_with fail
            have d0 : ((wr.alloc (.cells #[.string t, .slice A2 xs.length c2] 60)).drewN nq).cell? ⟨(w.heap.size + 1), m, Option.none⟩ = some (.int .i64 bc) := c0
            have d1 : ((wr.alloc (.cells #[.string t, .slice A2 xs.length c2] 60)).drewN nq).cell? ⟨(w.heap.size + 1), m + t.size, Option.none⟩ = some (.int .i64 bo) := c1'
            have d2 : ((wr.alloc (.cells #[.string t, .slice A2 xs.length c2] 60)).drewN nq).frozen? ⟨(w.heap.size + 1), m, Option.none⟩ = false := HBLP.out.frozen m
            have d3 : ((wr.alloc (.cells #[.string t, .slice A2 xs.length c2] 60)).drewN nq).cell? ⟨wr.heap.size, 0, Option.none⟩ = some (.string t) := (Blk.new wr 60 #[.string t, .slice A2 xs.length c2]).cell 0
            have d4 : ((wr.alloc (.cells #[.string t, .slice A2 xs.length c2] 60)).drewN nq).cell? ⟨wr.heap.size, 1, Option.none⟩ = some (.slice A2 xs.length c2) := (Blk.new wr 60 #[.string t, .slice A2 xs.length c2]).cell 1
            have d8 : ((wr.alloc (.cells #[.string t, .slice A2 xs.length c2] 60)).drewN nq).cell? ⟨(w.heap.size + 1 + 1), m, Option.none⟩ = some (.int .i64 (f0 : Int)) := c9
            have d9 : ((wr.alloc (.cells #[.string t, .slice A2 xs.length c2] 60)).drewN nq).frozen? ⟨(w.heap.size + 1 + 1), m, Option.none⟩ = false := HBFP.out.frozen m
            have HBQ := Lib.hid (HBP.out.trans (bel_drewN (w.heap.size + 1) (wr.alloc (.cells #[.string t, .slice A2 xs.length c2] 60)) nq))
            have HBLQ : Hid (Blk ((wr.alloc (.cells #[.string t, .slice A2 xs.length c2] 60)).drewN nq) (w.heap.size + 1) 3 (bigZ m ((lsJ (fitT s m) txtLen sigCost ps (dpL (fitT s) txtLen sigCost ps s.size k) j) :: (dpL (fitT s) txtLen sigCost ps s.size k)))) := HBLP.out
            have HBFQ : Hid (Blk ((wr.alloc (.cells #[.string t, .slice A2 xs.length c2] 60)).drewN nq) (w.heap.size + 1 + 1) 3 (tblC m (fsJ (fitT s m) txtLen sigCost ps (dpL (fitT s) txtLen sigCost ps s.size k) j) (fstD (fitT s) txtLen sigCost ps s.size k))) := HBFP.out
            clear c0 c1' c9
            generalize (wr.alloc (.cells #[.string t, .slice A2 xs.length c2] 60)).drewN nq = wq at d0 d1 d2 d3 d4 d8 d9 HBQ HBLQ HBFQ ⊢
            by_cases hlt2 : bo + (xs.length : Int) < bc
            · go_quiet (fail)
              have e0 : (wq.drewN nq).cell? ⟨(w.heap.size + 1), m, Option.none⟩ = some (.int .i64 bc) := d0
              have e2 : (wq.drewN nq).frozen? ⟨(w.heap.size + 1), m, Option.none⟩ = false := d2
              have e8 : (wq.drewN nq).cell? ⟨(w.heap.size + 1 + 1), m, Option.none⟩ = some (.int .i64 (f0 : Int)) := d8
              have e9 : (wq.drewN nq).frozen? ⟨(w.heap.size + 1 + 1), m, Option.none⟩ = false := d9
              have HBQ2 := Lib.hid (HBQ.out.trans (bel_drewN (w.heap.size + 1) wq nq))
              have HBLQ2 : Hid (Blk (wq.drewN nq) (w.heap.size + 1) 3 (bigZ m ((lsJ (fitT s m) txtLen sigCost ps (dpL (fitT s) txtLen sigCost ps s.size k) j) :: (dpL (fitT s) txtLen sigCost ps s.size k)))) := HBLQ.out
              have HBFQ2 : Hid (Blk (wq.drewN nq) (w.heap.size + 1 + 1) 3 (tblC m (fsJ (fitT s m) txtLen sigCost ps (dpL (fitT s) txtLen sigCost ps s.size k) j) (fstD (fitT s) txtLen sigCost ps s.size k))) := HBFQ.out
              clear d0 d1 d2 d3 d4 d8 d9 HBQ HBLQ HBFQ i1 i2 i3 i4
              generalize wq.drewN nq = wp at e0 e2 e8 e9 HBQ2 HBLQ2 HBFQ2 ⊢
              have HNEW := Lib.hid (big_new HX.out HF1.out HVB.out HBC.out (by rw [← HBO1.out, ← HBC1.out]; exact hlt2))
              have HB1S := Lib.hid (HBLQ2.out.set_ m (.int .i64 (bo + (xs.length : Int))))
              have e10 : (wp.setCell ⟨(w.heap.size + 1), m, Option.none⟩ (.int .i64 (bo + (xs.length : Int)))).cell? ⟨(w.heap.size + 1 + 1), m, Option.none⟩ = some (.int .i64 (f0 : Int)) := (World.cell?_setCell_other _ ⟨(w.heap.size + 1), m, Option.none⟩ ⟨(w.heap.size + 1 + 1), m, Option.none⟩ _ (by simp)).trans e8
              have e11 : (wp.setCell ⟨(w.heap.size + 1), m, Option.none⟩ (.int .i64 (bo + (xs.length : Int)))).frozen? ⟨(w.heap.size + 1 + 1), m, Option.none⟩ = false := by simpa using e9
              go_wp2_with fail
              go_roundw
              case rel =>
                obtain ⟨nv, hn1, hn2, hn3⟩ := HNEW.out
                refine ⟨j + 1, by omega, by go_num, ?_, ?_, (HBQ2.out.setCell (Nat.le_refl _) _).setCell (by show (w.heap.size + 1) ≤ (w.heap.size + 1 + 1); omega) _⟩
                · show Blk _ _ _ (bigZ m ((lsJ (fitT s m) txtLen sigCost ps (dpL (fitT s) txtLen sigCost ps s.size k) (j + 1)) :: (dpL (fitT s) txtLen sigCost ps s.size k)))
                  rw [hn2]
                  have h1 := HB1S.out
                  rw [show bo + (xs.length : Int) = bigI (some nv) by rw [HBO1.out]; exact hn1, bigZ_set] at h1
                  rw [show bo + (xs.length : Int) = bigI (some nv) by rw [HBO1.out]; exact hn1]
                  exact (Below.heap_setCell _ _ _ _ (by show (w.heap.size + 1) ≠ (w.heap.size + 1 + 1); omega)).trans h1
                · show Blk _ _ _ (tblC m (fsJ (fitT s m) txtLen sigCost ps (dpL (fitT s) txtLen sigCost ps s.size k) (j + 1)) (fstD (fitT s) txtLen sigCost ps s.size k))
                  rw [hn3]
                  have h2 := Blk.set_ (show Blk (wp.setCell ⟨(w.heap.size + 1), m, Option.none⟩ (.int .i64 (bo + (xs.length : Int)))) (w.heap.size + 1 + 1) 3 (tblC m (fsJ (fitT s m) txtLen sigCost ps (dpL (fitT s) txtLen sigCost ps s.size k) j) (fstD (fitT s) txtLen sigCost ps s.size k)) from (Below.heap_setCell _ _ _ _ (by show (w.heap.size + 1 + 1) ≠ (w.heap.size + 1); omega)).trans HBFQ2.out) m (.int .i64 ((j : Nat) : Int))
                  rw [tblC_set] at h2
                  exact h2
              case measure => (simp [intOf]; try omega)
            · go_quiet (fail)
              have e0 : (wq.drewN nq).cell? ⟨(w.heap.size + 1), m, Option.none⟩ = some (.int .i64 bc) := d0
              have e2 : (wq.drewN nq).frozen? ⟨(w.heap.size + 1), m, Option.none⟩ = false := d2
              have e8 : (wq.drewN nq).cell? ⟨(w.heap.size + 1 + 1), m, Option.none⟩ = some (.int .i64 (f0 : Int)) := d8
              have e9 : (wq.drewN nq).frozen? ⟨(w.heap.size + 1 + 1), m, Option.none⟩ = false := d9
              have HBQ2 := Lib.hid (HBQ.out.trans (bel_drewN (w.heap.size + 1) wq nq))
              have HBLQ2 : Hid (Blk (wq.drewN nq) (w.heap.size + 1) 3 (bigZ m ((lsJ (fitT s m) txtLen sigCost ps (dpL (fitT s) txtLen sigCost ps s.size k) j) :: (dpL (fitT s) txtLen sigCost ps s.size k)))) := HBLQ.out
              have HBFQ2 : Hid (Blk (wq.drewN nq) (w.heap.size + 1 + 1) 3 (tblC m (fsJ (fitT s m) txtLen sigCost ps (dpL (fitT s) txtLen sigCost ps s.size k) j) (fstD (fitT s) txtLen sigCost ps s.size k))) := HBFQ.out
              clear d0 d1 d2 d3 d4 d8 d9 HBQ HBLQ HBFQ i1 i2 i3 i4
              generalize wq.drewN nq = wp at e0 e2 e8 e9 HBQ2 HBLQ2 HBFQ2 ⊢
              have HKP := Lib.hid (big_keep (len := txtLen) (cost := sigCost) HX.out HF1.out HVB.out (fun v hv => by have := HVB2.out v hv; show v + sigCost (t, xs) ≤ _; show v + xs.length ≤ _; omega) (by rw [← HBO1.out, ← HBC1.out]; exact hlt2) : lsJ (fitT s m) txtLen sigCost ps _ (j + 1) = _ ∧ fsJ (fitT s m) txtLen sigCost ps _ (j + 1) = _)
              have hlt3 : bc ≤ bo + (xs.length : Int) := by omega
              have hlt4 : decide (bo + (xs.length : Int) < bc) = false := decide_eq_false hlt2
              go_wp2_with fail
              go_roundw
              case rel => exact ⟨j + 1, by omega, by go_num, by rw [HKP.out.1]; exact HBLQ2.out, by rw [HKP.out.2]; exact HBFQ2.out, HBQ2.out⟩
              case measure => (simp [intOf]; try omega)
        · obtain rfl : j = ps.length := by omega
          go_wp2_with fail
          go_roundw
          case rel => exact ⟨m, k + 1, (m : Int) - 1, by have := hmk1.out; show m + (k + 1) = _; omega, rfl, rfl, by
            have h1 := hblk2.out
            show Blk _ _ _ (bigZ m (dpL _ _ _ _ _ (k + 1)))
            rw [← (lsJ_end (fit := fitT s) (len := txtLen) (cost := sigCost) (ps := ps) (show m + (k + 1) = s.size by have := hmk1.out; omega)).1]; exact h1, by
            have h1 := hblf2.out
            show Blk _ _ _ (tblZ m (fstD _ _ _ _ _ (k + 1)))
            rw [← (lsJ_end (fit := fitT s) (len := txtLen) (cost := sigCost) (ps := ps) (show m + (k + 1) = s.size by have := hmk1.out; omega)).2]; exact h1, hbr2⟩
          case measure => (simp [intOf]; try omega)
end Go.Proofs.Ytabiobjcfopakaa
/- Plain laws: the phrases that spell letters, as numbers; their signals. -/
namespace Go.Proofs.Ytabiobjcfopakaa
open Go.RowKit
/-- The phrases of the least length, as numbers, if letters can be asked for and spelled. -/
def spellN (ps : List Phr) (s : ByteArray) : List Nat := match leastO ps s with
  | some _ => pathT ps s
  | Option.none => []
theorem spellN_no {ps : List Phr} {s : ByteArray} (h : leastO ps s = Option.none) : spellN ps s = [] := by unfold spellN; rw [h]
theorem spellN_yes {ps : List Phr} {s : ByteArray} {n : Nat} (h : leastO ps s = some n) : spellN ps s = pathT ps s := by unfold spellN; rw [h]
theorem leastO_ask {ps : List Phr} {s : ByteArray} {n : Nat} (h : leastO ps s = some n) : (bookB ps && lettB s) = true := by
  cases hb : (bookB ps && lettB s)
  · rw [leastO_no hb] at h; cases h
  · rfl
theorem spellL_N {ps : List Phr} {s : ByteArray} (h : (bookB ps && lettB s) = true) : spellL ps s = waysI (spellN ps s) := by
  unfold spellL spellN
  rw [leastO_yes h]
  cases (tblT ps s).getD 0 Option.none <;> rfl
theorem spellQ_O {ps : List Phr} {s : ByteArray} (h : (bookB ps && lettB s) = true) : spellQ ps s = (leastO ps s).isSome := by
  unfold spellQ; rw [leastO_yes h]
theorem lettB_len {s : ByteArray} (h : lettB s = true) : s.size ≤ 40 := by
  unfold lettB at h; rw [Bool.and_eq_true, decide_eq_true_eq] at h; exact h.2
theorem fstAt_lt {val : Phr → Option Nat} {ps : List Phr} {cur : Option Nat} {i : Nat} (h : fstAt val ps cur = some i) : i < ps.length := by
  unfold fstAt at h
  split at h
  · cases h
  · rw [List.findIdx?_eq_some_iff_getElem] at h
    obtain ⟨hi, _⟩ := h
    exact hi
theorem spellN_lt (ps : List Phr) (s : ByteArray) : ∀ i ∈ spellN ps s, i < ps.length := by
  unfold spellN
  split
  · intro i hi
    exact path_mem (P := fun i => i < ps.length) (fun m i h => fstAt_lt h) _ _ i hi
  · intro i hi; cases hi
theorem spellN_len (ps : List Phr) (s : ByteArray) : (spellN ps s).length ≤ 40 := by
  cases h : leastO ps s with
  | none => rw [spellN_no h]; simp
  | some n =>
    have hb := leastO_ask h
    rw [Bool.and_eq_true] at hb
    rw [spellN_yes h]
    exact Nat.le_trans (pathF_len _ _) (lettB_len hb.2)
/-- The signals of what spells letters are as many as told. -/
theorem enc_len {ps : List Phr} {s : ByteArray} {n : Nat} (h : leastO ps s = some n) : (sigsOf ps (spellN ps s)).length = n := by
  have hb := leastO_ask h
  rw [leastO_yes hb] at h
  rw [Bool.and_eq_true] at hb
  rw [spellN_yes (by rw [leastO_yes (by rw [hb.1, hb.2]; rfl)]; exact h), sigsOf_len]
  exact path_cost (fun m p hp hf => fit_hyp hb.1 s m p hp hf) _ _ _ (by omega) h
theorem enc_none {ps : List Phr} {s : ByteArray} (h : leastO ps s = Option.none) : sigsOf ps (spellN ps s) = [] := by rw [spellN_no h]; rfl
theorem sigsOf_bd {ps : List Phr} (h : bookB ps = true) : ∀ l : List Nat, (sigsOf ps l).length ≤ 3 * l.length
  | [] => by simp [sigsOf]
  | i :: l => by
    have ih := sigsOf_bd h l
    unfold sigsOf at ih ⊢
    rw [List.flatMap_cons, List.length_append, List.length_cons]
    cases e : ps[i]? with
    | none => simp only [Option.map_none, Option.getD_none, List.length_nil]; omega
    | some p =>
      have := (phrOk_sig (bookB_phr h (List.mem_of_getElem? e))).2.1
      simp only [Option.map_some, Option.getD_some]; omega
theorem waysI_at {l : List Nat} {k i : Nat} (h : l[k]? = some i) : (waysI l)[k]? = some (i : Int) := by unfold waysI; rw [List.getElem?_map, h]; rfl
theorem retOwT_pass {w w1 w2 : World} {v : Value} {xs : List Int} {b : Bool} (h : OwI w2 w1.heap.size w2.heap.size v xs) (hb1 : Below w.heap.size w w1) (hb2 : Below w1.heap.size w1 w2) : RetOwT xs b w (.returned (.tuple #[v, .bool b])) w2 :=
  ⟨v, rfl, h.mono hb1.size (Nat.le_refl _), hb1.trans (hb2.mono hb1.size)⟩
end Go.Proofs.Ytabiobjcfopakaa
/- Contracts: the phrases that spell letters, asked for; of the program and of the reference. -/
namespace Go.Proofs.Ytabiobjcfopakaa
open Go.RowKit
set_option maxRecDepth 100000 in
set_option maxHeartbeats 4000000 in
theorem sSpellMessage_any (ps : List Phr) (s : ByteArray) (v : Value) (hi : Nat) (w : World) (hs0 : s.size ≤ maxLen) (h : RdB w hi v ps) (hh : hi ≤ w.heap.size) :
    Calls Try.prog 93 #[v, .string s] w (RetOwT (waysI (spellN ps s)) (leastO ps s).isSome w) := by
  obtain ⟨a, rfl, ha⟩ := h
  obtain ⟨A, c, rfl, hc, hm⟩ := ha.form
  have hba : Below w.heap.size w (w.alloc (.cells #[.slice A ps.length c] 48)) := (Below.refl _ _).alloc (Nat.le_refl _) _
  have HB := Lib.hid hba
  have HA := Lib.hid (ha.below hba hh)
  have HG : Hid (RdB (w.alloc (.cells #[.slice A ps.length c] 48)) hi (.agg #[.slice A ps.length c]) ps) := ⟨_, rfl, HA.out⟩
  have hcb0 : (w.alloc (.cells #[.slice A ps.length c] 48)).cell? ⟨w.heap.size, 0, Option.none⟩ = some (.slice A ps.length c) := (Blk.new w 48 #[.slice A ps.length c]).cell 0
  have HCB := Lib.hid hcb0
  have hsz1 : hi ≤ (w.alloc (.cells #[.slice A ps.length c] 48)).heap.size := by simp; omega
  clear ha hba hcb0
  have cB := spAsked_any ps s (.agg #[.slice A ps.length c]) hi (w.alloc (.cells #[.slice A ps.length c] 48)) hs0 HG.out hsz1
  cases hbr : (bookB ps && lettB s)
  · rw [hbr] at cB
    have CB := Lib.hid cB
    have HRB := Lib.hid hbr
    clear cB hbr
    go_enter Try.func93, Try.ntmps93
    go_wp2_with (go_at_call 195; refine CB.out.mono ?_; rintro e w1 ⟨rfl, hb1⟩)
    go_ret2
    exact (by show RetOwT _ _ _ _ _; rw [spellN_no (leastO_no HRB.out), (leastO_no HRB.out)]; exact retOwT _ (GrowI.nil (HB.out.trans (hb1.mono (by simp)))))
  · rw [hbr] at cB
    have CB := Lib.hid cB
    have HRB := Lib.hid hbr
    rw [Bool.and_eq_true] at hbr
    have HBK := Lib.hid hbr.1
    have hs40 : s.size ≤ 40 := by have := hbr.2; unfold lettB at this; rw [Bool.and_eq_true, decide_eq_true_eq] at this; exact this.2
    clear cB hbr
    go_enter Try.func93, Try.ntmps93
    go_wp2_with fail
    refine CB.out.mono ?_
    rintro e w1 ⟨rfl, hb1⟩
    have hcb := (hb1.cell (p := ⟨w.heap.size, 0, Option.none⟩) (by simp)).trans HCB.out
    have hs1 : w.heap.size + 1 ≤ w1.heap.size := by have := hb1.size; simpa using this
    have HA1 := Lib.hid (HA.out.below hb1 hsz1)
    have HG1 : Hid (RdB w1 hi (.agg #[.slice A ps.length c]) ps) := ⟨_, rfl, HA1.out⟩
    have HB1 := Lib.hid (HB.out.trans (hb1.mono (by simp)))
    clear hb1
    have cS := spSpell_any ps s (.agg #[.slice A ps.length c]) hi w1 HG1.out (by omega) HBK.out hs40
    have CS := Lib.hid cS
    clear cS
    go_wp2_with fail
    refine CS.out.mono ?_
    rintro e w2 ⟨q, rfl, hq, hb2⟩
    have HQ := Lib.hid hq
    have HB2 := Lib.hid hb2
    clear hq hb2
    go_wp2_with fail
    go_ret2
    show RetOwT _ _ _ _ _
    rw [← spellL_N HRB.out, ← spellQ_O HRB.out]
    exact retOwT_pass HQ.out HB1.out HB2.out
set_option maxRecDepth 100000 in
set_option maxHeartbeats 4000000 in
theorem SpellMessage_any (ps : List Phr) (s : ByteArray) (v : Value) (hi : Nat) (w : World) (hs0 : s.size ≤ maxLen) (h : RdB w hi v ps) (hh : hi ≤ w.heap.size) :
    Calls Try.prog 92 #[v, .string s] w (RetOwT (waysI (spellN ps s)) (leastO ps s).isSome w) := by
  obtain ⟨a, rfl, ha⟩ := h
  obtain ⟨A, c, rfl, hc, hm⟩ := ha.form
  have hba : Below w.heap.size w (w.alloc (.cells #[.slice A ps.length c] 48)) := (Below.refl _ _).alloc (Nat.le_refl _) _
  have HB := Lib.hid hba
  have HA := Lib.hid (ha.below hba hh)
  have HG : Hid (RdB (w.alloc (.cells #[.slice A ps.length c] 48)) hi (.agg #[.slice A ps.length c]) ps) := ⟨_, rfl, HA.out⟩
  have hcb0 : (w.alloc (.cells #[.slice A ps.length c] 48)).cell? ⟨w.heap.size, 0, Option.none⟩ = some (.slice A ps.length c) := (Blk.new w 48 #[.slice A ps.length c]).cell 0
  have HCB := Lib.hid hcb0
  have hsz1 : hi ≤ (w.alloc (.cells #[.slice A ps.length c] 48)).heap.size := by simp; omega
  clear ha hba hcb0
  have cB := IsBook_any ps (.agg #[.slice A ps.length c]) hi (w.alloc (.cells #[.slice A ps.length c] 48)) HG.out hsz1
  cases hbk : bookB ps
  · rw [hbk] at cB
    have CB := Lib.hid cB
    clear cB
    go_enter Try.func92, Try.ntmps92
    go_wp2_with (go_at_call 137; refine CB.out.mono ?_; rintro e w1 ⟨rfl, hb1⟩)
    go_ret2
    exact (by show RetOwT _ _ _ _ _; rw [spellN_no (leastO_no (by rw [hbk]; rfl)), (leastO_no (by rw [hbk]; rfl))]; exact retOwT _ (GrowI.nil (HB.out.trans (hb1.mono (by simp)))))
  · rw [hbk] at cB
    have CB := Lib.hid cB
    have HBK := Lib.hid hbk
    clear cB
    go_enter Try.func92, Try.ntmps92
    go_wp2_with fail
    refine CB.out.mono ?_
    rintro e w1 ⟨rfl, hb1⟩
    have hcb := (hb1.cell (p := ⟨w.heap.size, 0, Option.none⟩) (by simp)).trans HCB.out
    have hs1 : w.heap.size + 1 ≤ w1.heap.size := by have := hb1.size; simpa using this
    have HA1 := Lib.hid (HA.out.below hb1 hsz1)
    have HG1 : Hid (RdB w1 hi (.agg #[.slice A ps.length c]) ps) := ⟨_, rfl, HA1.out⟩
    have HB1 := Lib.hid (HB.out.trans (hb1.mono (by simp)))
    clear hb1
    have cL := isLetters_any s hs0 w1
    cases hls : lettB s
    · rw [hls] at cL
      have CL := Lib.hid cL
      have HLS : Hid ((bookB ps && lettB s) = false) := by show (bookB ps && lettB s) = false; rw [hls, Bool.and_false]
      clear cL hls
      go_wp2_with (go_at_call 193; refine (CL.out).mono ?_; rintro e w' ⟨rfl, rfl⟩)
      go_ret2
      exact (by show RetOwT _ _ _ _ _; rw [spellN_no (leastO_no HLS.out), (leastO_no HLS.out)]; exact retOwT _ (GrowI.nil (HB1.out)))
    · rw [hls] at cL
      have CL := Lib.hid cL
      have HRB : Hid ((bookB ps && lettB s) = true) := by show (bookB ps && lettB s) = true; rw [hls, HBK.out]; rfl
      have hs40 := lettB_len hls
      clear cL hls
      have cS := spell_any ps s (.agg #[.slice A ps.length c]) hi w1 HG1.out (by omega) HBK.out hs40
      have CS := Lib.hid cS
      clear cS
      go_wp2_with (go_at_call 193; refine (CL.out).mono ?_; rintro e w' ⟨rfl, rfl⟩)
      refine CS.out.mono ?_
      rintro e w2 ⟨q, rfl, hq, hb2⟩
      have HQ := Lib.hid hq
      have HB2 := Lib.hid hb2
      clear hq hb2
      go_wp2_with fail
      go_ret2
      show RetOwT _ _ _ _ _
      rw [← spellL_N HRB.out, ← spellQ_O HRB.out]
      exact retOwT_pass HQ.out HB1.out HB2.out
end Go.Proofs.Ytabiobjcfopakaa
/- Contracts: the signals of what spells letters, one after the other, and how many; of the program and of the reference. -/
namespace Go.Proofs.Ytabiobjcfopakaa
open Go.RowKit
theorem spellN_book {ps : List Phr} {s : ByteArray} (h : 0 < (spellN ps s).length) : bookB ps = true := by
  cases hl : leastO ps s with
  | none => rw [spellN_no hl] at h; simp at h
  | some n => have := leastO_ask hl; rw [Bool.and_eq_true] at this; exact this.1
/-- What the loop over the phrases' numbers leans on. -/
structure NumsOk (ps : List Phr) (l : List Nat) : Prop where
  lt : ∀ i ∈ l, i < ps.length
  len : l.length ≤ 40
  book : 0 < l.length → bookB ps = true
theorem spellN_ok (ps : List Phr) (s : ByteArray) : NumsOk ps (spellN ps s) := ⟨spellN_lt ps s, spellN_len ps s, spellN_book⟩
theorem NumsOk.at_ {ps : List Phr} {l : List Nat} (h : NumsOk ps l) {k : Nat} (hk : k < l.length) : ∃ i p, l[k]? = some i ∧ ps[i]? = some p ∧ i < ps.length ∧ (sigsOf ps (l.take k)).length + p.2.length ≤ 1000 := by
  have hi := h.lt l[k] (List.getElem_mem hk)
  have hb := h.book (by omega)
  refine ⟨l[k], ps[l[k]], List.getElem?_eq_getElem hk, List.getElem?_eq_getElem hi, hi, ?_⟩
  have h1 := sigsOf_bd hb (l.take k)
  have h2 := (phrOk_sig (bookB_phr hb (List.getElem_mem hi))).2.1
  have h3 := h.len
  rw [List.length_take] at h1
  omega
theorem enc_le (ps : List Phr) (s : ByteArray) : (sigsOf ps (spellN ps s)).length ≤ 120 := by
  cases h : leastO ps s with
  | none => rw [enc_none h]; simp
  | some n =>
    have hb := leastO_ask h
    rw [Bool.and_eq_true] at hb
    have h1 := sigsOf_bd hb.1 (spellN ps s)
    have h2 := spellN_len ps s
    omega
theorem spellI_len (ps : List Phr) (s : ByteArray) : (waysI (spellN ps s)).length ≤ 40 := by rw [waysI_len]; exact spellN_len ps s
theorem enc_val {ps : List Phr} {s : ByteArray} : Value.tuple #[.int .i64 ((sigsOf ps (spellN ps s)).length : Nat), .bool (leastO ps s).isSome] = lstV (leastO ps s) := by
  cases h : leastO ps s with
  | none => rw [enc_none h]; rfl
  | some n => rw [enc_len h]; rfl
set_option maxRecDepth 100000 in
set_option maxHeartbeats 4000000 in
theorem EncodeMessage_any (ps : List Phr) (s : ByteArray) (v : Value) (hi : Nat) (w : World) (hs0 : s.size ≤ maxLen) (h : RdB w hi v ps) (hh : hi ≤ w.heap.size) :
    Calls Try.prog 94 #[v, .string s] w (RetOwT (sigsOf ps (spellN ps s)) (leastO ps s).isSome w) := by
  obtain ⟨a, rfl, ha⟩ := h
  obtain ⟨A, c, rfl, hc, hm⟩ := ha.form
  have hba : Below w.heap.size w (w.alloc (.cells #[.slice A ps.length c] 48)) := (Below.refl _ _).alloc (Nat.le_refl _) _
  have HB := Lib.hid hba
  have HA := Lib.hid (ha.below hba hh)
  have HG : Hid (RdB (w.alloc (.cells #[.slice A ps.length c] 48)) hi (.agg #[.slice A ps.length c]) ps) := ⟨_, rfl, HA.out⟩
  have hcb0 : (w.alloc (.cells #[.slice A ps.length c] 48)).cell? ⟨w.heap.size, 0, Option.none⟩ = some (.slice A ps.length c) := (Blk.new w 48 #[.slice A ps.length c]).cell 0
  have HCB := Lib.hid hcb0
  have hsz1 : hi ≤ (w.alloc (.cells #[.slice A ps.length c] 48)).heap.size := by simp; omega
  clear ha hba hcb0
  have cS := SpellMessage_any ps s (.agg #[.slice A ps.length c]) hi (w.alloc (.cells #[.slice A ps.length c] 48)) hs0 HG.out hsz1
  have hn := spellN_ok ps s
  obtain ⟨l, hl⟩ : ∃ l, l = spellN ps s := ⟨_, rfl⟩
  obtain ⟨bq, hbq⟩ : ∃ b, b = (leastO ps s).isSome := ⟨_, rfl⟩
  rw [← hl, ← hbq] at cS ⊢
  rw [← hl] at hn
  have HN := Lib.hid hn
  have CS := Lib.hid cS
  have hl40 := hn.len
  clear cS hn hl hbq
  go_enter Try.func94, Try.ntmps94
  go_wp2_with fail
  refine CS.out.mono ?_
  rintro e w1 ⟨q, rfl, hq, hb1⟩
  obtain ⟨Aq, cq, hqv, hqm⟩ := hq.form
  rw [waysI_len] at hqv hqm
  subst hqv
  have hcb := (hb1.cell (p := ⟨w.heap.size, 0, Option.none⟩) (by simp)).trans HCB.out
  have hs1 : w.heap.size + 1 ≤ w1.heap.size := by have := hb1.size; simpa using this
  have HA1 := Lib.hid (HA.out.below hb1 hsz1)
  have HB1 := Lib.hid (HB.out.trans (hb1.mono (by simp)))
  have HQ := Lib.hid hq
  clear hq hb1
  go_wp2_with fail
  go_loopw [8, 19] (fun v i wr => ∃ k : Nat, k ≤ l.length ∧ i = .int .i64 k ∧ Hid (GrowI w1 w1.heap.size wr v (sigsOf ps (l.take k)))) (fun _ i _ => l.length - (intOf i).toNat)
  case atStart => exact ⟨0, Nat.zero_le _, rfl, GrowI.start w1⟩
  case round =>
    obtain ⟨k, hk, rfl, hg⟩ := hrel
    have hsr0 := hg.out.2.1.size
    have hsr1 := hg.out.2.2
    by_cases hlt : k < l.length
    · obtain ⟨i, p, hik, hp, hil, hbd⟩ := HN.out.at_ hlt
      obtain ⟨b1, o1, c1, y, hv, _, hy, hcell1⟩ := Rd.at_ (RdI.below HQ.out.rd hg.out.2.1 (Nat.le_refl _)) (k := k) (by rw [waysI_len]; exact hlt)
      rw [waysI_len] at hv
      injection hv with hv1 hv2 hv3
      subst hv1
      rw [waysI_at hik] at hy
      cases hy
      obtain ⟨b2, o2, c2, a2, t, xs, hv, _, hx, hcell2, hcell3, hra, hta⟩ := (HA1.out.below hg.out.2.1 (by omega)).at_ hil
      injection hv with hv1 hv2 hv3
      subst hv1
      rw [hp] at hx
      cases hx
      have hcbr := (hg.out.2.1.cell (p := ⟨w.heap.size, 0, Option.none⟩) (by show w.heap.size < w1.heap.size; omega)).trans hcb
      have HIK := Lib.hid hik
      have HP := Lib.hid hp
      have HRA := Lib.hid hra
      have hbd2 : (sigsOf ps (l.take k)).length + xs.length ≤ 1000 := hbd
      clear hv2 hv3 hik hp hra hcell2 hbd
      go_wp2_with (at_builtin; refine GrowI.appI rfl (.tmp 23) (.tmp 29) rfl hg.out HRA.out (by omega) rfl rfl ?_; intro v' w5 hG')
      go_roundw
      case rel =>
        refine ⟨_, _, _, ⟨k + 1, by omega, ?_, ?_⟩, rfl, rfl, rfl⟩
        · go_num
        · show GrowI _ _ _ _ _
          rw [take_snocN HIK.out, sigsOf_snoc HP.out]; exact hG'
      case measure => simp [intOf]; omega
    · obtain rfl : k = l.length := by omega
      go_wp2_with fail
      go_ret2
      show RetOwT _ _ _ _ _
      have hgo := hg.out
      rw [List.take_of_length_le (Nat.le_refl _)] at hgo
      exact retOwT_from _ hgo HB1.out (by omega)
set_option maxRecDepth 100000 in
set_option maxHeartbeats 4000000 in
theorem spEncode_any (ps : List Phr) (s : ByteArray) (v : Value) (hi : Nat) (w : World) (h : RdB w hi v ps) (hh : hi ≤ w.heap.size) (hbr : (bookB ps && lettB s) = true) :
    Calls Try.prog 197 #[v, .string s] w (RetOwT (sigsOf ps (spellN ps s)) (leastO ps s).isSome w) := by
  obtain ⟨a, rfl, ha⟩ := h
  obtain ⟨A, c, rfl, hc, hm⟩ := ha.form
  have hba : Below w.heap.size w (w.alloc (.cells #[.slice A ps.length c] 48)) := (Below.refl _ _).alloc (Nat.le_refl _) _
  have HB := Lib.hid hba
  have HA := Lib.hid (ha.below hba hh)
  have HG : Hid (RdB (w.alloc (.cells #[.slice A ps.length c] 48)) hi (.agg #[.slice A ps.length c]) ps) := ⟨_, rfl, HA.out⟩
  have hcb0 : (w.alloc (.cells #[.slice A ps.length c] 48)).cell? ⟨w.heap.size, 0, Option.none⟩ = some (.slice A ps.length c) := (Blk.new w 48 #[.slice A ps.length c]).cell 0
  have HCB := Lib.hid hcb0
  have hsz1 : hi ≤ (w.alloc (.cells #[.slice A ps.length c] 48)).heap.size := by simp; omega
  clear ha hba hcb0
  have hbr2 := hbr
  rw [Bool.and_eq_true] at hbr2
  have cS := spSpell_any ps s (.agg #[.slice A ps.length c]) hi (w.alloc (.cells #[.slice A ps.length c] 48)) HG.out hsz1 hbr2.1 (lettB_len hbr2.2)
  rw [spellL_N hbr, spellQ_O hbr] at cS
  have hn := spellN_ok ps s
  have hnone : (leastO ps s).isSome = false → spellN ps s = [] := fun h => spellN_no (by simpa using h)
  obtain ⟨l, hl⟩ : ∃ l, l = spellN ps s := ⟨_, rfl⟩
  obtain ⟨bq, hbq⟩ : ∃ b, b = (leastO ps s).isSome := ⟨_, rfl⟩
  rw [← hl, ← hbq] at cS hnone ⊢
  rw [← hl] at hn
  have HN := Lib.hid hn
  have hl40 := hn.len
  clear hn hl hbq hbr hbr2
  cases bq
  · have CS := Lib.hid cS
    have HNO := Lib.hid (hnone rfl)
    clear cS hnone
    go_enter Try.func197, Try.ntmps197
    go_wp2_with fail
    refine CS.out.mono ?_
    rintro e w1 ⟨q, rfl, hq, hb1⟩
    have HB1 := Lib.hid (HB.out.trans (hb1.mono (by simp)))
    clear hq hb1
    go_wp2_with fail
    go_ret2
    show RetOwT _ _ _ _ _
    rw [HNO.out]
    exact retOwT _ (GrowI.nil HB1.out)
  · have CS := Lib.hid cS
    clear cS hnone
    go_enter Try.func197, Try.ntmps197
    go_wp2_with fail
    refine CS.out.mono ?_
    rintro e w1 ⟨q, rfl, hq, hb1⟩
    obtain ⟨Aq, cq, hqv, hqm⟩ := hq.form
    rw [waysI_len] at hqv hqm
    subst hqv
    have hcb := (hb1.cell (p := ⟨w.heap.size, 0, Option.none⟩) (by simp)).trans HCB.out
    have hs1 : w.heap.size + 1 ≤ w1.heap.size := by have := hb1.size; simpa using this
    have HA1 := Lib.hid (HA.out.below hb1 hsz1)
    have HB1 := Lib.hid (HB.out.trans (hb1.mono (by simp)))
    have HQ := Lib.hid hq
    clear hq hb1
    go_wp2_with fail
    go_loopw [8, 21] (fun v i wr => ∃ k : Nat, k ≤ l.length ∧ i = .int .i64 k ∧ Hid (GrowI w1 w1.heap.size wr v (sigsOf ps (l.take k)))) (fun _ i _ => l.length - (intOf i).toNat)
    case atStart => exact ⟨0, Nat.zero_le _, rfl, GrowI.start w1⟩
    case round =>
      obtain ⟨k, hk, rfl, hg⟩ := hrel
      have hsr0 := hg.out.2.1.size
      have hsr1 := hg.out.2.2
      by_cases hlt : k < l.length
      · obtain ⟨i, p, hik, hp, hil, hbd⟩ := HN.out.at_ hlt
        obtain ⟨b1, o1, c1, y, hv, _, hy, hcell1⟩ := Rd.at_ (RdI.below HQ.out.rd hg.out.2.1 (Nat.le_refl _)) (k := k) (by rw [waysI_len]; exact hlt)
        rw [waysI_len] at hv
        injection hv with hv1 hv2 hv3
        subst hv1
        rw [waysI_at hik] at hy
        cases hy
        obtain ⟨b2, o2, c2, a2, t, xs, hv, _, hx, hcell2, hcell3, hra, hta⟩ := (HA1.out.below hg.out.2.1 (by omega)).at_ hil
        injection hv with hv1 hv2 hv3
        subst hv1
        rw [hp] at hx
        cases hx
        have hcbr := (hg.out.2.1.cell (p := ⟨w.heap.size, 0, Option.none⟩) (by show w.heap.size < w1.heap.size; omega)).trans hcb
        have HIK := Lib.hid hik
        have HP := Lib.hid hp
        have HRA := Lib.hid hra
        have hbd2 : (sigsOf ps (l.take k)).length + xs.length ≤ 1000 := hbd
        clear hv2 hv3 hik hp hra hcell2 hbd
        go_wp2_with (at_builtin; refine GrowI.appI rfl (.tmp 25) (.tmp 31) rfl hg.out HRA.out (by omega) rfl rfl ?_; intro v' w5 hG')
        go_roundw
        case rel =>
          refine ⟨_, _, _, ⟨k + 1, by omega, ?_, ?_⟩, rfl, rfl, rfl⟩
          · go_num
          · show GrowI _ _ _ _ _
            rw [take_snocN HIK.out, sigsOf_snoc HP.out]; exact hG'
        case measure => simp [intOf]; omega
      · obtain rfl : k = l.length := by omega
        go_wp2_with fail
        go_ret2
        show RetOwT _ _ _ _ _
        have hgo := hg.out
        rw [List.take_of_length_le (Nat.le_refl _)] at hgo
        exact retOwT_from _ hgo HB1.out (by omega)
set_option maxRecDepth 100000 in
set_option maxHeartbeats 4000000 in
theorem sEncodeMessage_any (ps : List Phr) (s : ByteArray) (v : Value) (hi : Nat) (w : World) (hs0 : s.size ≤ maxLen) (h : RdB w hi v ps) (hh : hi ≤ w.heap.size) :
    Calls Try.prog 95 #[v, .string s] w (RetOwT (sigsOf ps (spellN ps s)) (leastO ps s).isSome w) := by
  obtain ⟨a, rfl, ha⟩ := h
  obtain ⟨A, c, rfl, hc, hm⟩ := ha.form
  have hba : Below w.heap.size w (w.alloc (.cells #[.slice A ps.length c] 48)) := (Below.refl _ _).alloc (Nat.le_refl _) _
  have HB := Lib.hid hba
  have HA := Lib.hid (ha.below hba hh)
  have HG : Hid (RdB (w.alloc (.cells #[.slice A ps.length c] 48)) hi (.agg #[.slice A ps.length c]) ps) := ⟨_, rfl, HA.out⟩
  have hcb0 : (w.alloc (.cells #[.slice A ps.length c] 48)).cell? ⟨w.heap.size, 0, Option.none⟩ = some (.slice A ps.length c) := (Blk.new w 48 #[.slice A ps.length c]).cell 0
  have HCB := Lib.hid hcb0
  have hsz1 : hi ≤ (w.alloc (.cells #[.slice A ps.length c] 48)).heap.size := by simp; omega
  clear ha hba hcb0
  have cB := spAsked_any ps s (.agg #[.slice A ps.length c]) hi (w.alloc (.cells #[.slice A ps.length c] 48)) hs0 HG.out hsz1
  cases hbr : (bookB ps && lettB s)
  · rw [hbr] at cB
    have CB := Lib.hid cB
    have HRB := Lib.hid hbr
    clear cB hbr
    go_enter Try.func95, Try.ntmps95
    go_wp2_with (go_at_call 195; refine CB.out.mono ?_; rintro e w1 ⟨rfl, hb1⟩)
    go_ret2
    exact (by show RetOwT _ _ _ _ _; rw [spellN_no (leastO_no HRB.out), leastO_no HRB.out]; exact retOwT _ (GrowI.nil (HB.out.trans (hb1.mono (by simp)))))
  · rw [hbr] at cB
    have CB := Lib.hid cB
    have HRB := Lib.hid hbr
    rw [Bool.and_eq_true] at hbr
    have HBK := Lib.hid hbr.1
    have hs40 : s.size ≤ 40 := by have := hbr.2; unfold lettB at this; rw [Bool.and_eq_true, decide_eq_true_eq] at this; exact this.2
    clear cB hbr
    go_enter Try.func95, Try.ntmps95
    go_wp2_with fail
    refine CB.out.mono ?_
    rintro e w1 ⟨rfl, hb1⟩
    have hcb := (hb1.cell (p := ⟨w.heap.size, 0, Option.none⟩) (by simp)).trans HCB.out
    have hs1 : w.heap.size + 1 ≤ w1.heap.size := by have := hb1.size; simpa using this
    have HA1 := Lib.hid (HA.out.below hb1 hsz1)
    have HG1 : Hid (RdB w1 hi (.agg #[.slice A ps.length c]) ps) := ⟨_, rfl, HA1.out⟩
    have HB1 := Lib.hid (HB.out.trans (hb1.mono (by simp)))
    clear hb1
    have cS := spEncode_any ps s (.agg #[.slice A ps.length c]) hi w1 HG1.out (by omega) HRB.out
    have CS := Lib.hid cS
    clear cS
    go_wp2_with fail
    refine CS.out.mono ?_
    rintro e w2 ⟨q, rfl, hq, hb2⟩
    have HQ := Lib.hid hq
    have HB2 := Lib.hid hb2
    clear hq hb2
    go_wp2_with fail
    go_ret2
    show RetOwT _ _ _ _ _
    exact retOwT_pass HQ.out HB1.out HB2.out
set_option maxRecDepth 100000 in
set_option maxHeartbeats 4000000 in
theorem LeastSignals_any (ps : List Phr) (s : ByteArray) (v : Value) (hi : Nat) (w : World) (hs0 : s.size ≤ maxLen) (h : RdB w hi v ps) (hh : hi ≤ w.heap.size) :
    Calls Try.prog 96 #[v, .string s] w fun e w' => e = .returned (lstV (leastO ps s)) ∧ Below w.heap.size w w' := by
  obtain ⟨a, rfl, ha⟩ := h
  obtain ⟨A, c, rfl, hc, hm⟩ := ha.form
  have hba : Below w.heap.size w (w.alloc (.cells #[.slice A ps.length c] 48)) := (Below.refl _ _).alloc (Nat.le_refl _) _
  have HB := Lib.hid hba
  have HA := Lib.hid (ha.below hba hh)
  have HG : Hid (RdB (w.alloc (.cells #[.slice A ps.length c] 48)) hi (.agg #[.slice A ps.length c]) ps) := ⟨_, rfl, HA.out⟩
  have hcb0 : (w.alloc (.cells #[.slice A ps.length c] 48)).cell? ⟨w.heap.size, 0, Option.none⟩ = some (.slice A ps.length c) := (Blk.new w 48 #[.slice A ps.length c]).cell 0
  have HCB := Lib.hid hcb0
  have hsz1 : hi ≤ (w.alloc (.cells #[.slice A ps.length c] 48)).heap.size := by simp; omega
  clear ha hba hcb0
  have cS := EncodeMessage_any ps s (.agg #[.slice A ps.length c]) hi (w.alloc (.cells #[.slice A ps.length c] 48)) hs0 HG.out hsz1
  have hev := enc_val (ps := ps) (s := s)
  obtain ⟨l, hl⟩ : ∃ l, l = sigsOf ps (spellN ps s) := ⟨_, rfl⟩
  obtain ⟨bq, hbq⟩ : ∃ b, b = (leastO ps s).isSome := ⟨_, rfl⟩
  rw [← hl, ← hbq] at cS hev
  rw [← hev]
  have CS := Lib.hid cS
  clear cS hev hl hbq
  go_enter Try.func96, Try.ntmps96
  go_wp2_with fail
  refine CS.out.mono ?_
  rintro e w1 ⟨q, rfl, hq, hb1⟩
  obtain ⟨Aq, cq, rfl, hqm⟩ := hq.form
  have HB1 := Lib.hid (HB.out.trans (hb1.mono (by simp)))
  clear hq hb1
  go_wp2_with fail
  go_ret2
  exact ⟨rfl, HB1.out⟩
end Go.Proofs.Ytabiobjcfopakaa
/- For the law of books read in one way: joined signals, equal lists, lists of one and of two phrases. -/
namespace Go.Proofs.Ytabiobjcfopakaa
open Go.RowKit
theorem qInts_any (xs ys : List Int) (v u : Value) (hi hj : Nat) (w : World) (h : RdI w hi v xs) (g : RdI w hj u ys) : Calls Try.prog 51 #[v, u] w fun e w' => e = .returned (.bool (decide (xs = ys))) ∧ ∃ n, w' = w.drewN n := by
  obtain ⟨A, c, rfl, hc, hm⟩ := Rd.form h
  obtain ⟨A', c', rfl, hc', hm'⟩ := Rd.form g
  have H := Lib.hid h
  have G := Lib.hid g
  clear h g
  by_cases hl : xs.length = ys.length
  · have HL := Lib.hid hl
    rw [← hl]
    rw [← hl] at hc' hm'
    clear hl
    go_enter Try.func51, Try.ntmps51
    go_wp2
    go_loopw [13] (fun i wr => ∃ k : Nat, k ≤ xs.length ∧ i = .int .i64 k ∧ Hid (xs.take k = ys.take k) ∧ ∃ n, wr = w.drewN n) (fun i _ => xs.length - (intOf i).toNat)
    case atStart => exact ⟨0, Nat.zero_le _, rfl, rfl, 0, rfl⟩
    case round =>
      obtain ⟨k, hk, rfl, heq, n, rfl⟩ := hrel
      by_cases hlt : k < xs.length
      · obtain ⟨b1, o1, c1, x, hv, _, hx, hcell1⟩ := Rd.at_ H.out hlt
        cases hv
        obtain ⟨b2, o2, c2, y, hv, _, hy, hcell2⟩ := Rd.at_ G.out (by rw [← HL.out]; exact hlt)
        have HX := Lib.hid hx
        have HY := Lib.hid hy
        injection hv with hv1 hv2 hv3
        subst hv1
        clear hx hy hv2 hv3
        by_cases hxy : x = y
        · subst hxy
          go_wp2
          go_quiet (fail)
          go_wp2
          go_roundw
          case rel => exact ⟨k + 1, by omega, by go_num, eq_take HX.out HY.out heq.out, _, rfl⟩
          case measure => simp [intOf]; omega
        · have hbe : (x == y) = false := by simpa using hxy
          have hbn : (x != y) = true := by simpa using hxy
          go_wp2
          go_quiet (fail)
          go_wp2
          go_ret
          exact ⟨ret_bool (eq_no HX.out HY.out hxy).symm, _, World.drewN_drewN _ _ _⟩
      · go_wp2
        go_ret
        exact ⟨ret_bool (eq_full hlt HL.out heq.out).symm, _, rfl⟩
  · have hne : (((xs.length : Nat) : Int) != ((ys.length : Nat) : Int)) = true := by rw [bne_iff_ne]; omega
    go_enter Try.func51, Try.ntmps51
    go_wp2
    go_ret
    refine ⟨ret_bool ?_, 0, rfl⟩
    symm; rw [decide_eq_false_iff_not]; rintro rfl; exact hl rfl
theorem sigs_small {ps : List Phr} (hb : bookB ps = true) {i : Nat} {p : Phr} (h : ps[i]? = some p) : 1 ≤ p.2.length ∧ p.2.length ≤ 3 := by
  have h1 := phrOk_sig (bookB_phr hb (List.mem_of_getElem? h))
  exact ⟨h1.1, h1.2.1⟩
theorem sigsOf_le {ps : List Phr} (hb : bookB ps = true) : ∀ l : List Nat, (sigsOf ps l).length ≤ 3 * l.length
  | [] => by simp [sigsOf]
  | i :: l => by
    have ih := sigsOf_le hb l
    cases hp : ps[i]? with
    | none =>
      rw [show sigsOf ps (i :: l) = sigsOf ps l by unfold sigsOf; rw [List.flatMap_cons, hp]; rfl, List.length_cons]
      omega
    | some p =>
      rw [sigsOf_cons hp, List.length_append, List.length_cons]
      have := sigs_small hb hp
      omega
set_option maxHeartbeats 800000 in
theorem qJoined_any (ps : List Phr) (l : List Nat) (v u : Value) (hi hj : Nat) (w : World) (h : RdB w hi v ps) (g : RdI w hj u (waysI l)) (hh : hi ≤ w.heap.size) (hg : hj ≤ w.heap.size) (hb : bookB ps = true) (hl : ∀ i ∈ l, i < ps.length) (hn : l.length ≤ 1000) :
    Calls Try.prog 52 #[v, u] w (RetOwI (sigsOf ps l) w) := by
  obtain ⟨a, rfl, ha⟩ := h
  obtain ⟨A, c, rfl, hc, hm⟩ := ha.form
  obtain ⟨Aq, cq, rfl, hcq, hmq⟩ := Rd.form g
  have hba : Below w.heap.size w (w.alloc (.cells #[.slice A ps.length c] 48)) := (Below.refl _ _).alloc (Nat.le_refl _) _
  have HB := Lib.hid hba
  have HA := Lib.hid (ha.below hba hh)
  have HQ := Lib.hid (g.below hba hg)
  have hcb : (w.alloc (.cells #[.slice A ps.length c] 48)).cell? ⟨w.heap.size, 0, Option.none⟩ = some (.slice A ps.length c) := (Blk.new w 48 #[.slice A ps.length c]).cell 0
  have hsz : (w.alloc (.cells #[.slice A ps.length c] 48)).heap.size = w.heap.size + 1 := by simp
  have HBK := Lib.hid hb
  have HLT := Lib.hid hl
  rw [waysI_len] at hcq hmq ⊢
  clear ha g hba hb hl
  go_enter Try.func52, Try.ntmps52
  go_wp2_with fail
  generalize (w.alloc (.cells #[.slice A ps.length c] 48)) = w1 at HB HA HQ hcb hsz ⊢
  have hs1 : w.heap.size + 1 ≤ w1.heap.size := by omega
  clear hsz
  go_loopw [5, 10] (fun v i wr => ∃ k : Nat, k ≤ l.length ∧ i = .int .i64 k ∧ Hid (GrowI w1 w1.heap.size wr v (sigsOf ps (l.take k)))) (fun _ i _ => l.length - (intOf i).toNat)
  case atStart => exact ⟨0, Nat.zero_le _, rfl, GrowI.start w1⟩
  case round =>
    obtain ⟨k, hk, rfl, hg⟩ := hrel
    have hsr0 := hg.out.2.1.size
    by_cases hlt : k < l.length
    · obtain ⟨i, hik⟩ : ∃ i, l[k]? = some i := ⟨_, List.getElem?_eq_getElem hlt⟩
      have hil := HLT.out i (List.mem_of_getElem? hik)
      obtain ⟨p, hp⟩ : ∃ p, ps[i]? = some p := ⟨_, List.getElem?_eq_getElem hil⟩
      have hsm := sigs_small HBK.out hp
      have hle := sigsOf_le HBK.out (l.take k)
      rw [List.length_take, Nat.min_eq_left hk] at hle
      obtain ⟨b1, o1, c1, y, hv, _, hy, hcell1⟩ := Rd.at_ (RdI.below HQ.out hg.out.2.1 (by omega)) (k := k) (by rw [waysI_len]; exact hlt)
      rw [waysI_len] at hv
      injection hv with hv1 hv2 hv3
      subst hv1
      rw [waysI_at hik] at hy
      cases hy
      obtain ⟨b2, o2, c2, a2, t, xs, hv, _, hx, hcell2, hcell3, hra, hta⟩ := (HA.out.below hg.out.2.1 (by omega)).at_ hil
      injection hv with hv1 hv2 hv3
      subst hv1
      rw [hp] at hx
      cases hx
      have hcbr := (hg.out.2.1.cell (p := ⟨w.heap.size, 0, Option.none⟩) (by show w.heap.size < w1.heap.size; omega)).trans hcb
      have HIK := Lib.hid hik
      have HP := Lib.hid hp
      have HRA := Lib.hid hra
      have hbd2 : (sigsOf ps (l.take k)).length + xs.length ≤ 4000 := by have h1 : xs.length ≤ 3 := hsm.2; omega
      clear hv2 hv3 hik hp hra hcell2 hle hsm
      go_wp2_with (at_builtin; refine GrowI.appI rfl (.tmp 14) (.tmp 20) rfl hg.out HRA.out (by omega) rfl rfl ?_; intro v' w5 hG')
      go_roundw
      case rel =>
        refine ⟨_, _, _, ⟨k + 1, by omega, ?_, ?_⟩, rfl, rfl, rfl⟩
        · go_num
        · show GrowI _ _ _ _ _
          rw [take_snocN HIK.out, sigsOf_snoc HP.out]; exact hG'
      case measure => simp [intOf]; omega
    · obtain rfl : k = l.length := by omega
      go_wp2_with fail
      go_ret
      have hgo := hg.out
      rw [List.take_of_length_le (Nat.le_refl _)] at hgo
      exact ⟨_, rfl, OwI.mono (⟨hgo.1, fun k hk => (hgo.1.lt k hk).2⟩ : OwI _ w1.heap.size _ _ _) (by omega) (Nat.le_refl _), HB.out.trans (hgo.2.1.mono (by omega))⟩
/-- The lists [i], [i, 0] .. [i, k - 1]. -/
def lsI (i k : Nat) : List (List Nat) := [i] :: (List.range k).map fun j => [i, j]
def lsN (n : Nat) : Nat → List (List Nat)
  | 0 => []
  | i + 1 => lsN n i ++ lsI i n
theorem lsI_succ (i k : Nat) : lsI i (k + 1) = lsI i k ++ [[i, k]] := by unfold lsI; rw [List.range_succ, List.map_append]; rfl
theorem lsI_len (i k : Nat) : (lsI i k).length = k + 1 := by simp [lsI]
theorem lsN_len (n : Nat) : ∀ i, (lsN n i).length = i * (n + 1)
  | 0 => by simp [lsN]
  | i + 1 => by rw [lsN, List.length_append, lsN_len n i, lsI_len, Nat.add_mul]; omega
theorem lsN_mem {n : Nat} : ∀ {i : Nat}, i ≤ n → ∀ {l : List Nat}, l ∈ lsN n i → (∀ x ∈ l, x < n) ∧ (∃ j, l.head? = some j ∧ j < i) ∧ l.length ≤ 2
  | 0, _, l, h => by cases h
  | i + 1, hi, l, h => by
    rw [lsN, List.mem_append] at h
    rcases h with h | h
    · obtain ⟨h1, ⟨j, h2, h3⟩, h4⟩ := lsN_mem (by omega) h
      exact ⟨h1, ⟨j, h2, by omega⟩, h4⟩
    · unfold lsI at h
      rcases List.mem_cons.1 h with rfl | h
      · exact ⟨fun x hx => by simp at hx; omega, ⟨i, rfl, by omega⟩, by simp⟩
      · rw [List.mem_map] at h
        obtain ⟨j, hj, rfl⟩ := h
        have := List.mem_range.1 hj
        exact ⟨fun x hx => by simp at hx; omega, ⟨i, rfl, by omega⟩, by simp⟩
theorem lsI_nodup (i : Nat) : ∀ k, (lsI i k).Nodup
  | 0 => by simp [lsI]
  | k + 1 => by
    rw [lsI_succ, List.nodup_append]
    refine ⟨lsI_nodup i k, by simp, fun a ha b hb => ?_⟩
    simp at hb
    subst hb
    unfold lsI at ha
    rcases List.mem_cons.1 ha with rfl | h
    · simp
    · rw [List.mem_map] at h
      obtain ⟨j, hj, rfl⟩ := h
      have := List.mem_range.1 hj
      simp; omega
theorem lsN_nodup {n : Nat} : ∀ {i : Nat}, i ≤ n → (lsN n i).Nodup
  | 0, _ => by simp [lsN]
  | i + 1, hi => by
    rw [lsN, List.nodup_append]
    refine ⟨lsN_nodup (by omega), lsI_nodup i n, fun a ha b hb => ?_⟩
    obtain ⟨_, ⟨j, h2, h3⟩, _⟩ := lsN_mem (by omega) ha
    rintro rfl
    unfold lsI at hb
    rcases List.mem_cons.1 hb with rfl | h
    · simp at h2; omega
    · rw [List.mem_map] at h
      obtain ⟨j', _, rfl⟩ := h
      simp at h2; omega
/-- Two different lists have different signals. -/
theorem ls_differ {ps : List Phr} (hb : bookB ps = true) (ho : oneB ps = true) {i k : Nat} {a z : List Nat} (ha : (lsN ps.length ps.length)[i]? = some a) (hz : (lsN ps.length ps.length)[k]? = some z) (hne : k ≠ i) : decide (sigsOf ps a = sigsOf ps z) = false := by
  rw [decide_eq_false_iff_not]
  intro he
  have h1 := lsN_mem (Nat.le_refl _) (List.mem_of_getElem? ha)
  have h2 := lsN_mem (Nat.le_refl _) (List.mem_of_getElem? hz)
  have h3 := one_inj hb ho a z h1.1 h2.1 he
  subst h3
  have hi := (List.getElem?_eq_some_iff.1 ha).1
  have := (List.getElem?_inj (i := i) (j := k) hi (lsN_nodup (Nat.le_refl _))).1 (ha.trans hz.symm)
  omega
/-- No prefix: nothing sticks out. -/
theorem free_one {ps : List Phr} (h : firstPre ps = Option.none) : oneB ps = true := by
  have hno : ∀ i k, i < ps.length → k < ps.length → preB ps i k = false := fun i k hi hk => by
    unfold firstPre at h
    split at h
    · rename_i i' he
      rw [List.find?_range_eq_some] at he
      obtain ⟨k', hk', hp'⟩ := List.any_eq_true.1 he.1
      rw [Option.map_eq_none_iff, List.find?_eq_none] at h
      exact absurd hp' (h k' hk')
    · rename_i he
      rw [List.find?_eq_none] at he
      have h1 := he i (List.mem_range.2 hi)
      cases hp : preB ps i k
      · rfl
      · exact absurd (List.any_eq_true.2 ⟨k, List.mem_range.2 hk, hp⟩) h1
  have hk0 : ∀ (i : Nat) (x : Phr), ps[i]? = some x → ∀ j, seedK ps i x [] j = [] := fun i x hx j => by
    induction j with
    | zero => rfl
    | succ j ih =>
      rw [seedK_succ, ih]
      unfold seed1
      cases hy : ps[j]? with
      | none => rfl
      | some y =>
        have hi := (List.getElem?_eq_some_iff.1 hx).1
        have hj := (List.getElem?_eq_some_iff.1 hy).1
        have hp := hno i j hi hj
        unfold preB at hp
        rw [sigAt_eq hx, sigAt_eq hy] at hp
        dsimp only
        rw [if_neg]
        rintro ⟨h1, h2⟩
        rw [h2] at hp
        simp at hp
        exact h1 hp
  have hs : ∀ i, seedI ps i = [] := fun i => by
    induction i with
    | zero => rfl
    | succ i ih =>
      rw [seedI]
      cases hx : ps[i]? with
      | none => exact ih
      | some x => dsimp only; rw [ih]; exact hk0 i x hx _
  have hr : restsR ps = [] := by
    unfold restsR seedR
    rw [hs]
    exact runR_end (Nat.zero_le _)
  unfold oneB
  rw [hr]
  rfl
theorem firstPre_is {ps : List Phr} {i k : Nat} (h : firstPre ps = some (i, k)) : preB ps i k = true := by
  unfold firstPre at h
  split at h
  · rw [Option.map_eq_some_iff] at h
    obtain ⟨k', h1, h2⟩ := h
    rw [List.find?_range_eq_some] at h1
    cases h2
    exact h1.1
  · cases h
end Go.Proofs.Ytabiobjcfopakaa
/- Contracts of the tests whether words are a code, and of the words written one after the other; of the program and of the reference. -/
namespace Go.Proofs.Ytabiobjcfopakaa
open Go.RowKit
def wordOk (xs : List Int) : Bool := inB xs.length 1 6 && allB xs 0 59
def noClash (xss : List (List Int)) : Bool := (List.range xss.length).all fun i => (List.range xss.length).all fun k => i == k || !begB (xss.getD i []) (xss.getD k [])
def codeB (xss : List (List Int)) : Bool := inB xss.length 1 20 && (xss.all wordOk && noClash xss)
theorem noClash_iff {xss : List (List Int)} : noClash xss = true ↔ ∀ (i k : Nat) (x y : List Int), i ≠ k → xss[i]? = some x → xss[k]? = some y → begB x y = false := by
  unfold noClash
  simp only [List.all_eq_true, List.mem_range, Bool.or_eq_true, beq_iff_eq, Bool.not_eq_true']
  constructor
  · intro h i k x y hne hx hy
    have h1 := (List.getElem?_eq_some_iff.1 hx).1
    have h2 := (List.getElem?_eq_some_iff.1 hy).1
    rcases h i h1 k h2 with e | e
    · exact absurd e hne
    · rw [List.getD_eq_getElem?_getD, List.getD_eq_getElem?_getD, hx, hy] at e; exact e
  · intro h i hi k hk
    by_cases e : i = k
    · exact .inl e
    · right
      have := h i k xss[i] xss[k] e (by simp [hi]) (by simp [hk])
      simpa [List.getD_eq_getElem?_getD, hi, hk] using this
theorem codeB_word {xss : List (List Int)} {i : Nat} {x : List Int} (hx : xss[i]? = some x) (h : wordOk x = false) : codeB xss = false := by
  have : xss.all wordOk = false := by rw [List.all_eq_false]; exact ⟨x, List.mem_of_getElem? hx, by simp [h]⟩
  unfold codeB; rw [this]; simp
theorem codeB_clash {xss : List (List Int)} {i k : Nat} {x y : List Int} (hx : xss[i]? = some x) (hy : xss[k]? = some y) (hne : i ≠ k) (h : begB x y = true) : codeB xss = false := by
  have : noClash xss = false := by
    cases e : noClash xss
    · rfl
    · have := noClash_iff.1 e i k x y hne hx hy
      rw [h] at this; cases this
  unfold codeB; rw [this]; simp
/-- What holds behind i rounds. -/
def CodeUpto (xss : List (List Int)) (i : Nat) : Prop := ∀ (j : Nat) (x : List Int), j < i → xss[j]? = some x → wordOk x = true ∧ ∀ (k : Nat) (y : List Int), j ≠ k → xss[k]? = some y → begB x y = false
theorem codeB_yes {xss : List (List Int)} (h : CodeUpto xss xss.length) (hl : inB xss.length 1 20 = true) : codeB xss = true := by
  unfold codeB
  rw [hl, Bool.true_and, Bool.and_eq_true, List.all_eq_true]
  refine ⟨fun x hx => ?_, noClash_iff.2 fun i k x y hne hx hy => ?_⟩
  · obtain ⟨j, hj⟩ := List.getElem?_of_mem hx
    exact (h j x (List.getElem?_eq_some_iff.1 hj).1 hj).1
  · exact (h i x (List.getElem?_eq_some_iff.1 hx).1 hx).2 k y hne hy
/-- What holds behind i rounds of the reference. -/
def CodeDown (xss : List (List Int)) (i : Nat) : Prop := ∀ (j : Nat) (x : List Int), j < i → xss[j]? = some x → wordOk x = true ∧ ∀ (k : Nat) (y : List Int), k < j → xss[k]? = some y → begB x y = false ∧ begB y x = false
theorem codeB_down {xss : List (List Int)} (h : CodeDown xss xss.length) : codeB xss = inB xss.length 1 20 := by
  cases hl : inB xss.length 1 20
  · unfold codeB; rw [hl]; rfl
  · refine codeB_yes (fun j x hj hx => ⟨(h j x hj hx).1, fun k y hne hy => ?_⟩) hl
    rcases Nat.lt_or_gt_of_ne hne with hlt | hlt
    · exact ((h k y (List.getElem?_eq_some_iff.1 hy).1 hy).2 j x hlt hx).2
    · exact ((h j x hj hx).2 k y hlt hy).1
theorem wordOk_len {xs : List Int} (h : inB xs.length 1 6 = false) : wordOk xs = false := by unfold wordOk; rw [h]; rfl
theorem wordOk_all {xs : List Int} (h : allB xs 0 59 = false) : wordOk xs = false := by unfold wordOk; rw [h]; simp
theorem wordOk_yes {xs : List Int} (h : inB xs.length 1 6 = true) (h2 : allB xs 0 59 = true) : wordOk xs = true := by unfold wordOk; rw [h, h2]; rfl
set_option maxHeartbeats 1600000 in
theorem isCode_any (xss : List (List Int)) (v : Value) (hi : Nat) (w : World) (h : RdII w hi v xss) : Calls Try.prog 204 #[v] w fun e w' => e = .returned (.bool (codeB xss)) ∧ ∃ n, w' = w.drewN n := by
  obtain ⟨A, c, rfl, hm⟩ := h.form
  have H := Lib.hid h
  clear h
  cases hl : inB xss.length 1 20
  · go_enter Try.func204, Try.ntmps204
    go_wp2_with (go_at_call 125; refine (within_any _ _ _ _).mono ?_; rintro e w' ⟨rfl, rfl⟩)
    go_ret
    exact ⟨ret_bool (by unfold codeB; rw [hl]; rfl), 0, rfl⟩
  · have hl20 := inB_iff.1 hl
    go_enter Try.func204, Try.ntmps204
    go_wp2_with (go_at_call 125; refine (within_any _ _ _ _).mono ?_; rintro e w' ⟨rfl, rfl⟩)
    go_loopw [13] (fun i wr => ∃ k : Nat, k ≤ xss.length ∧ i = .int .i64 k ∧ Hid (CodeUpto xss k) ∧ ∃ n, wr = w.drewN n) (fun i _ => xss.length - (intOf i).toNat)
    case atStart => exact ⟨0, Nat.zero_le _, rfl, fun j x hj _ => by omega, 0, rfl⟩
    case round =>
      obtain ⟨i, hi', rfl, hup, n, rfl⟩ := hrel
      by_cases hlt : i < xss.length
      · obtain ⟨b1, o1, c1, a, xs, hv, _, hx, hcell1, hra⟩ := H.out.at_ hlt
        cases hv
        have HA := Lib.hid hra
        have HX := Lib.hid hx
        obtain ⟨A2, c2, rfl, hc2, hm2⟩ := Rd.form hra
        clear hra hx
        cases hw1 : inB xs.length 1 6
        · go_wp2_with (first | (go_at_call 125; refine (within_any _ _ _ _).mono ?_; rintro e w' ⟨rfl, rfl⟩) | (go_at_call 181; refine (allWithin_any xs _ _ _ hi _ (by exact HA.out)).mono ?_; rintro e w' ⟨rfl, rfl⟩))
          go_ret
          exact ⟨ret_bool (codeB_word HX.out (wordOk_len hw1)).symm, _, rfl⟩
        · cases hw2 : allB xs 0 59
          · go_wp2_with (first | (go_at_call 125; refine (within_any _ _ _ _).mono ?_; rintro e w' ⟨rfl, rfl⟩) | (go_at_call 181; refine (allWithin_any xs _ _ _ hi _ (by exact HA.out)).mono ?_; rintro e w' ⟨rfl, rfl⟩))
            go_ret
            exact ⟨ret_bool (codeB_word HX.out (wordOk_all hw2)).symm, _, rfl⟩
          · have HW := Lib.hid (wordOk_yes hw1 hw2)
            go_wp2_with (first | (go_at_call 125; refine (within_any _ _ _ _).mono ?_; rintro e w' ⟨rfl, rfl⟩) | (go_at_call 181; refine (allWithin_any xs _ _ _ hi _ (by exact HA.out)).mono ?_; rintro e w' ⟨rfl, rfl⟩))
            go_loopw [29] (fun i2 wr => ∃ k : Nat, k ≤ xss.length ∧ i2 = .int .i64 k ∧ Hid (∀ (k' : Nat) (y : List Int), k' < k → i ≠ k' → xss[k']? = some y → begB xs y = false) ∧ ∃ n, wr = w.drewN n) (fun i2 _ => xss.length - (intOf i2).toNat)
            case atStart => exact ⟨0, Nat.zero_le _, rfl, fun k y hk _ _ => by omega, _, rfl⟩
            case round =>
              obtain ⟨k, hk, rfl, hin, m, rfl⟩ := hrel
              by_cases hltk : k < xss.length
              · obtain ⟨b3, o3, c3, b, ys, hv, _, hy, hcell3, hrb⟩ := H.out.at_ hltk
                cases hv
                have HB := Lib.hid hrb
                have HY := Lib.hid hy
                obtain ⟨A4, c4, rfl, hc4, hm4⟩ := Rd.form hrb
                clear hrb hy
                by_cases hne : i = k
                · have hne1 : ((i : Int) != (k : Int)) = false := by rw [hne]; simp
                  have HNE := Lib.hid hne
                  clear hne
                  go_wp2_with fail
                  go_roundw
                  case rel => exact ⟨k + 1, by omega, by go_num, fun k' y hk' hn hy => by
                    by_cases e : k' = k
                    · exact absurd (by rw [HNE.out, e]) hn
                    · exact hin.out k' y (by omega) hn hy, _, rfl⟩
                  case measure => simp [intOf]; omega
                · have hne1 : ((i : Int) != (k : Int)) = true := by rw [bne_iff_ne]; omega
                  cases hbg : begB xs ys
                  · have HBG := Lib.hid hbg
                    go_wp2_with fail
                    refine (begins_any xs ys _ _ hi hi _ (by exact HA.out) (by exact HB.out)).mono ?_
                    rw [HBG.out]
                    rintro e w' ⟨rfl, q, rfl⟩
                    go_wp2_with fail
                    go_roundw
                    case rel => exact ⟨k + 1, by omega, by go_num, fun k' y hk' hn hy => by
                      by_cases e : k' = k
                      · subst e; rw [HY.out] at hy; cases hy; exact HBG.out
                      · exact hin.out k' y (by omega) hn hy, _, rfl⟩
                    case measure => simp [intOf]; omega
                  · have HBG := Lib.hid hbg
                    go_wp2_with fail
                    refine (begins_any xs ys _ _ hi hi _ (by exact HA.out) (by exact HB.out)).mono ?_
                    rw [HBG.out]
                    rintro e w' ⟨rfl, q, rfl⟩
                    go_wp2_with fail
                    go_ret
                    exact ⟨ret_bool (codeB_clash HX.out HY.out hne HBG.out).symm, _, rfl⟩
              · obtain rfl : k = xss.length := by omega
                go_wp2_with fail
                go_roundw
                case rel => exact ⟨i + 1, by omega, by go_num, fun j x hj hx => by
                  by_cases e : j = i
                  · subst e; rw [HX.out] at hx; cases hx
                    exact ⟨HW.out, fun k y hn hy => hin.out k y (List.getElem?_eq_some_iff.1 hy).1 hn hy⟩
                  · exact hup.out j x (by omega) hx, _, rfl⟩
                case measure => simp [intOf]; omega
      · obtain rfl : i = xss.length := by omega
        go_wp2_with fail
        go_ret
        exact ⟨ret_bool (codeB_yes hup.out hl).symm, _, rfl⟩
set_option maxHeartbeats 1600000 in
theorem cmCode_any (xss : List (List Int)) (v : Value) (hi : Nat) (w : World) (h : RdII w hi v xss) : Calls Try.prog 205 #[v] w fun e w' => e = .returned (.bool (codeB xss)) ∧ ∃ n, w' = w.drewN n := by
  obtain ⟨A, c, rfl, hm⟩ := h.form
  obtain ⟨us0, hr0, hR0⟩ := h
  obtain ⟨_, _, hcc⟩ := Rd.form hR0
  obtain ⟨hv0, hcap, _⟩ := hcc
  cases hv0
  have H : Hid (RdII w hi (.slice A xss.length c) xss) := ⟨us0, hr0, hR0⟩
  clear hr0 hR0
  go_enter Try.func205, Try.ntmps205
  go_wp2
  go_loopw [9] (fun i wr => ∃ k : Nat, k ≤ xss.length ∧ i = .int .i64 k ∧ Hid (CodeDown xss k) ∧ ∃ n, wr = w.drewN n) (fun i _ => xss.length - (intOf i).toNat)
  case atStart => exact ⟨0, Nat.zero_le _, rfl, fun j x hj _ => by omega, 0, rfl⟩
  case round =>
    obtain ⟨i, hi', rfl, hup, n, rfl⟩ := hrel
    by_cases hlt : i < xss.length
    · obtain ⟨b1, o1, c1, a, xs, hv, _, hx, hcell1, hra⟩ := H.out.at_ hlt
      cases hv
      have HA := Lib.hid hra
      have HX := Lib.hid hx
      obtain ⟨A2, c2, rfl, hc2, hm2⟩ := Rd.form hra
      clear hra hx
      cases hw1 : inB xs.length 1 6
      · go_wp2_with (first | (go_at_call 191; refine (l1In_any _ _ _ _).mono ?_; rintro e w' ⟨rfl, rfl⟩) | (go_at_call 184; refine (l1All_any xs _ _ _ hi _ (by exact HA.out)).mono ?_; rintro e w' ⟨rfl, rfl⟩))
        go_ret
        exact ⟨ret_bool (codeB_word HX.out (wordOk_len hw1)).symm, _, rfl⟩
      · cases hw2 : allB xs 0 59
        · go_wp2_with (first | (go_at_call 191; refine (l1In_any _ _ _ _).mono ?_; rintro e w' ⟨rfl, rfl⟩) | (go_at_call 184; refine (l1All_any xs _ _ _ hi _ (by exact HA.out)).mono ?_; rintro e w' ⟨rfl, rfl⟩))
          go_ret
          exact ⟨ret_bool (codeB_word HX.out (wordOk_all hw2)).symm, _, rfl⟩
        · have HW := Lib.hid (wordOk_yes hw1 hw2)
          go_wp2_with (first | (go_at_call 191; refine (l1In_any _ _ _ _).mono ?_; rintro e w' ⟨rfl, rfl⟩) | (go_at_call 184; refine (l1All_any xs _ _ _ hi _ (by exact HA.out)).mono ?_; rintro e w' ⟨rfl, rfl⟩))
          go_loopw [27] (fun i2 wr => ∃ k : Nat, k ≤ i ∧ i2 = .int .i64 k ∧ Hid (∀ (k' : Nat) (y : List Int), k' < k → xss[k']? = some y → begB xs y = false ∧ begB y xs = false) ∧ ∃ n, wr = w.drewN n) (fun i2 _ => xss.length - (intOf i2).toNat)
          case atStart => exact ⟨0, Nat.zero_le _, rfl, fun k y hk _ => by omega, _, rfl⟩
          case round =>
            obtain ⟨k, hk, rfl, hin, m, rfl⟩ := hrel
            by_cases hltk : k < i
            · obtain ⟨b3, o3, c3, b, ys, hv, _, hy, hcell3, hrb⟩ := H.out.at_ (show k < xss.length by omega)
              cases hv
              have HB := Lib.hid hrb
              have HY := Lib.hid hy
              obtain ⟨A4, c4, rfl, hc4, hm4⟩ := Rd.form hrb
              clear hrb hy
              cases hbg : begB xs ys
              · have HBG := Lib.hid hbg
                cases hbh : begB ys xs
                · have HBH := Lib.hid hbh
                  go_wp2_with fail
                  refine (bkBegins_any xs ys _ _ hi hi _ (by exact HA.out) (by exact HB.out)).mono ?_
                  rw [HBG.out]
                  rintro e w' ⟨rfl, q, rfl⟩
                  go_wp2_with fail
                  refine (bkBegins_any ys xs _ _ hi hi _ (by exact HB.out) (by exact HA.out)).mono ?_
                  rw [HBH.out]
                  rintro e w' ⟨rfl, q2, rfl⟩
                  go_wp2_with fail
                  go_roundw
                  case rel => exact ⟨k + 1, by omega, by go_num, fun k' y hk' hy => by
                    by_cases e : k' = k
                    · subst e; rw [HY.out] at hy; cases hy; exact ⟨HBG.out, HBH.out⟩
                    · exact hin.out k' y (by omega) hy, _, rfl⟩
                  case measure => simp [intOf]; omega
                · have HBH := Lib.hid hbh
                  go_wp2_with fail
                  refine (bkBegins_any xs ys _ _ hi hi _ (by exact HA.out) (by exact HB.out)).mono ?_
                  rw [HBG.out]
                  rintro e w' ⟨rfl, q, rfl⟩
                  go_wp2_with fail
                  refine (bkBegins_any ys xs _ _ hi hi _ (by exact HB.out) (by exact HA.out)).mono ?_
                  rw [HBH.out]
                  rintro e w' ⟨rfl, q2, rfl⟩
                  go_wp2_with fail
                  go_ret
                  exact ⟨ret_bool (codeB_clash HY.out HX.out (by omega) HBH.out).symm, _, rfl⟩
              · have HBG := Lib.hid hbg
                go_wp2_with fail
                refine (bkBegins_any xs ys _ _ hi hi _ (by exact HA.out) (by exact HB.out)).mono ?_
                rw [HBG.out]
                rintro e w' ⟨rfl, q, rfl⟩
                go_wp2_with fail
                go_ret
                exact ⟨ret_bool (codeB_clash HX.out HY.out (by omega) HBG.out).symm, _, rfl⟩
            · obtain rfl : k = i := by omega
              go_wp2_with fail
              go_roundw
              case rel => exact ⟨k + 1, by omega, by go_num, fun j x hj hx => by
                by_cases e : j = k
                · subst e; rw [HX.out] at hx; cases hx
                  exact ⟨HW.out, fun k y hn hy => hin.out k y hn hy⟩
                · exact hup.out j x (by omega) hx, _, rfl⟩
              case measure => simp [intOf]; omega
    · obtain rfl : i = xss.length := by omega
      go_wp2_with fail
      refine (l1In_any _ _ _ _).mono ?_
      rintro e w' ⟨rfl, rfl⟩
      go_wp2
      go_ret
      exact ⟨ret_bool (codeB_down hup.out).symm, _, rfl⟩
/-- The words of the indices, one after the other. -/
def wordsI (xss : List (List Int)) (is : List Int) : List Int := is.flatMap fun i => xss.getD i.toNat []
theorem wordsI_step {xss : List (List Int)} {is : List Int} {k i : Nat} {xs : List Int} (h : is[k]? = some (i : Int)) (hx : xss[i]? = some xs) : wordsI xss (is.take (k + 1)) = wordsI xss (is.take k) ++ xs := by
  unfold wordsI
  rw [take_snocI h, List.flatMap_append]
  simp [List.getD_eq_getElem?_getD, hx]
theorem wordsI_len {xss : List (List Int)} (hb : ∀ (j : Nat) (x : List Int), xss[j]? = some x → x.length ≤ 6) (is : List Int) : (wordsI xss is).length ≤ 6 * is.length := by
  induction is with
  | nil => simp [wordsI]
  | cons i r ih =>
    unfold wordsI at *
    simp only [List.flatMap_cons, List.length_append, List.length_cons]
    have : (xss.getD i.toNat []).length ≤ 6 := by
      rw [List.getD_eq_getElem?_getD]
      cases h : xss[i.toNat]? with
      | none => simp
      | some x => exact hb _ x h
    omega
theorem codeB_len {xss : List (List Int)} (h : codeB xss = true) : (1 ≤ xss.length ∧ xss.length ≤ 20) ∧ ∀ (j : Nat) (x : List Int), xss[j]? = some x → (1 ≤ x.length ∧ x.length ≤ 6) ∧ allB x 0 59 = true := by
  unfold codeB at h
  rw [Bool.and_eq_true, Bool.and_eq_true, List.all_eq_true] at h
  have h1 := inB_iff.1 h.1
  refine ⟨⟨by omega, by omega⟩, fun j x hx => ?_⟩
  have h2 := h.2.1 x (List.mem_of_getElem? hx)
  unfold wordOk at h2
  rw [Bool.and_eq_true] at h2
  have h3 := inB_iff.1 h2.1
  exact ⟨⟨by omega, by omega⟩, h2.2⟩
def writeB (xss : List (List Int)) (is : List Int) : Bool := codeB xss && (decide (is.length ≤ 30) && allB is 0 ((xss.length : Int) - 1))
def writeL (xss : List (List Int)) (is : List Int) : List Int := if writeB xss is then wordsI xss is else []
theorem writeL_len (xss : List (List Int)) (is : List Int) : (writeL xss is).length ≤ 180 := by
  unfold writeL
  split
  · rename_i h
    unfold writeB at h
    simp only [Bool.and_eq_true, decide_eq_true_eq] at h
    have h1 := (codeB_len h.1).2
    have := wordsI_len (fun j x hx => (h1 j x hx).1.2) is
    omega
  · simp
set_option maxHeartbeats 1600000 in
theorem WriteWords_any (xss : List (List Int)) (is : List Int) (v u : Value) (hi hj : Nat) (w : World) (h : RdII w hi v xss) (g : RdI w hj u is) (hh : hi ≤ w.heap.size) (hg : hj ≤ w.heap.size) :
    Calls Try.prog 112 #[v, u] w (RetOwT (writeL xss is) (writeB xss is) w) := by
  obtain ⟨A, c, rfl, hm⟩ := h.form
  obtain ⟨A', c', rfl, hc', hm'⟩ := Rd.form g
  have H := Lib.hid h
  have HI := Lib.hid g
  clear h g
  cases hcode : codeB xss
  · have e : writeL xss is = [] ∧ writeB xss is = false := by simp [writeL, writeB, hcode]
    rw [e.1, e.2]; clear e
    go_enter Try.func112, Try.ntmps112
    go_wp2_with fail
    refine (isCode_any xss _ hi _ H.out).mono ?_
    rw [hcode]
    rintro e w' ⟨rfl, n, rfl⟩
    go_wp2_with fail
    go_ret2
    exact ⟨_, rfl, owI_nil _ _ _, bel_drewN _ _ _⟩
  · by_cases hlen : is.length ≤ 30
    · cases hall : allB is 0 ((xss.length : Int) - 1)
      · have e : writeL xss is = [] ∧ writeB xss is = false := by simp [writeL, writeB, hall]
        rw [e.1, e.2]; clear e
        have hcl := (codeB_len hcode).1
        go_enter Try.func112, Try.ntmps112
        go_wp2_with fail
        refine (isCode_any xss _ hi _ H.out).mono ?_
        rw [hcode]
        rintro e w' ⟨rfl, n, rfl⟩
        go_wp2_with (go_at_call 181; refine (allWithin_any is _ _ _ hj _ (by exact HI.out)).mono ?_; rintro e w' ⟨rfl, rfl⟩)
        go_ret2
        exact ⟨_, rfl, owI_nil _ _ _, bel_drewN _ _ _⟩
      · have e : writeL xss is = wordsI xss is ∧ writeB xss is = true := by simp [writeL, writeB, hcode, hlen, hall]
        rw [e.1, e.2]; clear e
        obtain ⟨hcl, hcw⟩ := codeB_len hcode
        have HCW := Lib.hid hcw
        have HALL := Lib.hid hall
        clear hcw
        go_enter Try.func112, Try.ntmps112
        go_wp2_with fail
        refine (isCode_any xss _ hi _ H.out).mono ?_
        rw [hcode]
        rintro e w' ⟨rfl, n, rfl⟩
        go_wp2_with (go_at_call 181; refine (allWithin_any is _ _ _ hj _ (by exact HI.out)).mono ?_; rintro e w' ⟨rfl, rfl⟩)
        clear hall hcode
        go_loopw [6, 27] (fun s i wr => ∃ (k : Nat), k ≤ is.length ∧ i = .int .i64 k ∧ GrowI w w.heap.size wr s (wordsI xss (is.take k))) (fun _ i _ => is.length - (intOf i).toNat)
        case atStart => exact ⟨0, Nat.zero_le _, rfl, GrowI.nil (bel_drewN _ _ _)⟩
        case round =>
          obtain ⟨k, hk, rfl, hG⟩ := hrel
          by_cases hlt : k < is.length
          · obtain ⟨b1, o1, c1, y, hv, _, hy, hcell1⟩ := Rd.at_ (Rd.below HI.out hG.bel hg) hlt
            cases hv
            have hyb := allB_mem hy HALL.out
            obtain ⟨y, rfl⟩ := Int.eq_ofNat_of_zero_le hyb.1
            obtain ⟨b2, o2, c2, a, xs, hv, _, hx, hcell2, hra⟩ := (H.out.below hG.bel hh).at_ (show y < xss.length by omega)
            cases hv
            have hst := wordsI_step hy hx
            have hwl := wordsI_len (fun j x hx => (HCW.out j x hx).1.2) (is.take k)
            have hxl := (HCW.out y xs hx).1.2
            have htk : (is.take k).length ≤ k := by rw [List.length_take]; omega
            have HS := Lib.hid hst
            have HRA := Lib.hid hra
            clear hst hy hx hra
            go_wp2_with (at_builtin; refine GrowI.appI rfl (.tmp 31) (.tmp 35) rfl hG HRA.out (by omega) rfl rfl ?_; intro v' w2 hG')
            go_roundw
            case rel => exact ⟨k + 1, by omega, by go_num, by rw [HS.out]; exact hG'⟩
            case measure => simp [intOf]; omega
          · obtain rfl : k = is.length := by omega
            rw [List.take_of_length_le (Nat.le_refl _)] at hG
            go_wp2_with fail
            go_ret2
            exact retOwT true hG
    · have e : writeL xss is = [] ∧ writeB xss is = false := by simp [writeL, writeB, hlen]
      rw [e.1, e.2]; clear e
      go_enter Try.func112, Try.ntmps112
      go_wp2_with fail
      refine (isCode_any xss _ hi _ H.out).mono ?_
      rw [hcode]
      rintro e w' ⟨rfl, n, rfl⟩
      go_wp2_with fail
      go_ret2
      exact ⟨_, rfl, owI_nil _ _ _, bel_drewN _ _ _⟩
set_option maxHeartbeats 1600000 in
theorem sWriteWords_any (xss : List (List Int)) (is : List Int) (v u : Value) (hi hj : Nat) (w : World) (h : RdII w hi v xss) (g : RdI w hj u is) (hh : hi ≤ w.heap.size) (hg : hj ≤ w.heap.size) :
    Calls Try.prog 113 #[v, u] w (RetOwT (writeL xss is) (writeB xss is) w) := by
  obtain ⟨A, c, rfl, hm⟩ := h.form
  obtain ⟨A', c', rfl, hc', hm'⟩ := Rd.form g
  have H := Lib.hid h
  have HI := Lib.hid g
  clear h g
  cases hcode : codeB xss
  · have e : writeL xss is = [] ∧ writeB xss is = false := by simp [writeL, writeB, hcode]
    rw [e.1, e.2]; clear e
    go_enter Try.func113, Try.ntmps113
    go_wp2_with fail
    refine (cmCode_any xss _ hi _ H.out).mono ?_
    rw [hcode]
    rintro e w' ⟨rfl, n, rfl⟩
    go_wp2_with fail
    go_ret2
    exact ⟨_, rfl, owI_nil _ _ _, bel_drewN _ _ _⟩
  · by_cases hlen : is.length ≤ 30
    · cases hall : allB is 0 ((xss.length : Int) - 1)
      · have e : writeL xss is = [] ∧ writeB xss is = false := by simp [writeL, writeB, hall]
        rw [e.1, e.2]; clear e
        have hcl := (codeB_len hcode).1
        go_enter Try.func113, Try.ntmps113
        go_wp2_with fail
        refine (cmCode_any xss _ hi _ H.out).mono ?_
        rw [hcode]
        rintro e w' ⟨rfl, n, rfl⟩
        go_wp2_with (go_at_call 184; refine (l1All_any is _ _ _ hj _ (by exact HI.out)).mono ?_; rintro e w' ⟨rfl, rfl⟩)
        go_ret2
        exact ⟨_, rfl, owI_nil _ _ _, bel_drewN _ _ _⟩
      · have e : writeL xss is = wordsI xss is ∧ writeB xss is = true := by simp [writeL, writeB, hcode, hlen, hall]
        rw [e.1, e.2]; clear e
        obtain ⟨hcl, hcw⟩ := codeB_len hcode
        have HCW := Lib.hid hcw
        have HALL := Lib.hid hall
        clear hcw
        go_enter Try.func113, Try.ntmps113
        go_wp2_with fail
        refine (cmCode_any xss _ hi _ H.out).mono ?_
        rw [hcode]
        rintro e w' ⟨rfl, n, rfl⟩
        go_wp2_with (go_at_call 184; refine (l1All_any is _ _ _ hj _ (by exact HI.out)).mono ?_; rintro e w' ⟨rfl, rfl⟩)
        clear hall hcode
        go_loopw [6, 27] (fun s i wr => ∃ (k : Nat), k ≤ is.length ∧ i = .int .i64 k ∧ GrowI w w.heap.size wr s (wordsI xss (is.take k))) (fun _ i _ => is.length - (intOf i).toNat)
        case atStart => exact ⟨0, Nat.zero_le _, rfl, GrowI.nil (bel_drewN _ _ _)⟩
        case round =>
          obtain ⟨k, hk, rfl, hG⟩ := hrel
          by_cases hlt : k < is.length
          · obtain ⟨b1, o1, c1, y, hv, _, hy, hcell1⟩ := Rd.at_ (Rd.below HI.out hG.bel hg) hlt
            cases hv
            have hyb := allB_mem hy HALL.out
            obtain ⟨y, rfl⟩ := Int.eq_ofNat_of_zero_le hyb.1
            obtain ⟨b2, o2, c2, a, xs, hv, _, hx, hcell2, hra⟩ := (H.out.below hG.bel hh).at_ (show y < xss.length by omega)
            cases hv
            have hst := wordsI_step hy hx
            have hwl := wordsI_len (fun j x hx => (HCW.out j x hx).1.2) (is.take k)
            have hxl := (HCW.out y xs hx).1.2
            have htk : (is.take k).length ≤ k := by rw [List.length_take]; omega
            have HS := Lib.hid hst
            have HRA := Lib.hid hra
            clear hst hy hx hra
            go_wp2_with (at_builtin; refine GrowI.appI rfl (.tmp 31) (.tmp 35) rfl hG HRA.out (by omega) rfl rfl ?_; intro v' w2 hG')
            go_roundw
            case rel => exact ⟨k + 1, by omega, by go_num, by rw [HS.out]; exact hG'⟩
            case measure => simp [intOf]; omega
          · obtain rfl : k = is.length := by omega
            rw [List.take_of_length_le (Nat.le_refl _)] at hG
            go_wp2_with fail
            go_ret2
            exact retOwT true hG
    · have e : writeL xss is = [] ∧ writeB xss is = false := by simp [writeL, writeB, hlen]
      rw [e.1, e.2]; clear e
      go_enter Try.func113, Try.ntmps113
      go_wp2_with fail
      refine (cmCode_any xss _ hi _ H.out).mono ?_
      rw [hcode]
      rintro e w' ⟨rfl, n, rfl⟩
      go_wp2_with fail
      go_ret2
      exact ⟨_, rfl, owI_nil _ _ _, bel_drewN _ _ _⟩
end Go.Proofs.Ytabiobjcfopakaa
/- Plain laws on reading words: the first word that begins digits is the only one; the words read one after the other. -/
namespace Go.Proofs.Ytabiobjcfopakaa
open Go.RowKit
/-- The first word that begins digits. -/
def ixC (code : List (List Int)) (ds : List Int) : Option Nat := code.findIdx? fun x => begB x ds
def readF (code : List (List Int)) : Nat → List Int → Option (List Int)
  | _, [] => some []
  | 0, _ :: _ => Option.none
  | n + 1, d :: ds => match ixC code (d :: ds) with
    | Option.none => Option.none
    | some i => (readF code n ((d :: ds).drop (code.getD i []).length)).map fun r => (i : Int) :: r
def readW (code : List (List Int)) (ds : List Int) : Option (List Int) := readF code ds.length ds
theorem readW_nil (code : List (List Int)) : readW code [] = some [] := rfl
theorem code_pos {code : List (List Int)} (h : codeB code = true) {x : List Int} (hx : x ∈ code) : 1 ≤ x.length ∧ x.length ≤ 6 := by
  unfold codeB at h
  simp only [Bool.and_eq_true, List.all_eq_true] at h
  have := h.2.1 x hx
  unfold wordOk at this
  rw [Bool.and_eq_true, inB_iff] at this
  omega
theorem code_len {code : List (List Int)} (h : codeB code = true) : 1 ≤ code.length ∧ code.length ≤ 20 := by
  unfold codeB at h
  rw [Bool.and_eq_true, inB_iff] at h
  omega
theorem code_one {code : List (List Int)} (h : codeB code = true) {i k : Nat} {x y ds : List Int} (hx : code[i]? = some x) (hy : code[k]? = some y) (bx : begB x ds = true) (bY : begB y ds = true) : i = k := by
  by_cases e : i = k
  · exact e
  · unfold codeB at h
    simp only [Bool.and_eq_true] at h
    have hn := noClash_iff.1 h.2.2
    rw [begB_iff] at bx bY
    rcases List.prefix_or_prefix_of_prefix bx bY with h1 | h1
    · have := hn i k x y e hx hy
      rw [begB_iff.2 h1] at this; cases this
    · have := hn k i y x (fun e2 => e e2.symm) hy hx
      rw [begB_iff.2 h1] at this; cases this
theorem ixC_some {code : List (List Int)} {ds : List Int} {i : Nat} (h : ixC code ds = some i) : ∃ x, code[i]? = some x ∧ begB x ds = true ∧ i < code.length := by
  unfold ixC at h
  rw [List.findIdx?_eq_some_iff_getElem] at h
  obtain ⟨hl, h1, _⟩ := h
  exact ⟨code[i], List.getElem?_eq_getElem hl, h1, hl⟩
theorem readF_enough {code : List (List Int)} (h : codeB code = true) : ∀ (n : Nat) (ds : List Int), ds.length ≤ n → readF code n ds = readF code ds.length ds
  | _, [], _ => by cases ‹Nat› <;> rfl
  | 0, d :: ds, hl => by simp at hl
  | n + 1, d :: ds, hl => by
    simp only [List.length_cons, readF]
    cases e : ixC code (d :: ds) with
    | none => rfl
    | some i =>
      obtain ⟨x, hx, hb, _⟩ := ixC_some e
      have hp := code_pos h (List.mem_of_getElem? hx)
      have hg : code.getD i [] = x := by rw [List.getD_eq_getElem?_getD, hx]; rfl
      have hlen : ((d :: ds).drop x.length).length ≤ ds.length := by rw [List.length_drop, List.length_cons]; omega
      simp only [hg]
      rw [readF_enough h n _ (by simp only [List.length_cons] at hl; omega), readF_enough h ds.length _ hlen]
theorem readW_step {code : List (List Int)} (h : codeB code = true) {ds x : List Int} {i : Nat} (he : ixC code ds = some i) (hx : code[i]? = some x) (hd : 0 < ds.length) : readW code ds = (readW code (ds.drop x.length)).map fun r => (i : Int) :: r := by
  cases ds with
  | nil => simp at hd
  | cons d ds =>
    have hp := code_pos h (List.mem_of_getElem? hx)
    have hg : code.getD i [] = x := by rw [List.getD_eq_getElem?_getD, hx]; rfl
    unfold readW
    simp only [List.length_cons, readF, he, hg]
    rw [readF_enough h ds.length _ (by rw [List.length_drop, List.length_cons]; omega)]
theorem readW_none {code : List (List Int)} {ds : List Int} (he : ixC code ds = Option.none) (hd : 0 < ds.length) : readW code ds = Option.none := by
  cases ds with
  | nil => simp at hd
  | cons d ds => unfold readW; simp only [List.length_cons, readF, he]
/-- What is read so far, and what is left. -/
def ReadTo (code : List (List Int)) (ds L rest : List Int) : Prop := readW code ds = (readW code rest).map fun r => L ++ r
theorem ReadTo.start (code : List (List Int)) (ds : List Int) : ReadTo code ds [] ds := by unfold ReadTo; cases readW code ds <;> simp
theorem ReadTo.next {code : List (List Int)} (h : codeB code = true) {ds L rest x : List Int} {i : Nat} (hr : ReadTo code ds L rest) (he : ixC code rest = some i) (hx : code[i]? = some x) (hd : 0 < rest.length) : ReadTo code ds (L ++ [(i : Int)]) (rest.drop x.length) := by
  unfold ReadTo at *
  rw [hr, readW_step h he hx hd]
  cases readW code (rest.drop x.length) <;> simp
def digB (ds : List Int) : Bool := decide (ds.length ≤ 180) && allB ds 0 59
def readRes (code : List (List Int)) (ds : List Int) : List Int × Bool :=
  if codeB code && digB ds then match readW code ds with
    | some L => (L, true)
    | Option.none => ([], false)
  else ([], false)
theorem readRes_bad {code : List (List Int)} {ds : List Int} (h : (codeB code && digB ds) = false) : readRes code ds = ([], false) := by unfold readRes; rw [h]; rfl
theorem ReadTo.done {code : List (List Int)} {ds L : List Int} (hc : (codeB code && digB ds) = true) (h : ReadTo code ds L []) : readRes code ds = (L, true) := by
  unfold ReadTo at h
  rw [readW_nil] at h
  unfold readRes
  rw [hc, h]; simp
theorem ReadTo.stuck {code : List (List Int)} {ds L rest : List Int} (hc : (codeB code && digB ds) = true) (h : ReadTo code ds L rest) (he : ixC code rest = Option.none) (hd : 0 < rest.length) : readRes code ds = ([], false) := by
  unfold ReadTo at h
  rw [readW_none he hd] at h
  unfold readRes
  rw [hc, h]; rfl
theorem readF_len {code : List (List Int)} (h : codeB code = true) : ∀ (n : Nat) (ds L : List Int), readF code n ds = some L → L.length ≤ ds.length
  | n, [], L, e => by cases n <;> (simp only [readF, Option.some.injEq] at e; subst e; simp)
  | 0, d :: ds, L, e => by simp [readF] at e
  | n + 1, d :: ds, L, e => by
    simp only [readF] at e
    cases e1 : ixC code (d :: ds) with
    | none => rw [e1] at e; cases e
    | some i =>
      rw [e1] at e
      obtain ⟨x, hx, hb, _⟩ := ixC_some e1
      have hp := code_pos h (List.mem_of_getElem? hx)
      have hg : code.getD i [] = x := by rw [List.getD_eq_getElem?_getD, hx]; rfl
      simp only [hg, Option.map_eq_some_iff] at e
      obtain ⟨r, h1, rfl⟩ := e
      have := readF_len h n _ _ h1
      rw [List.length_drop] at this
      simp only [List.length_cons] at this ⊢
      omega
theorem readRes_len (code : List (List Int)) (ds : List Int) : (readRes code ds).1.length ≤ 180 := by
  unfold readRes
  split
  · rename_i hc
    rw [Bool.and_eq_true] at hc
    have hd : ds.length ≤ 180 := by have := hc.2; unfold digB at this; rw [Bool.and_eq_true, decide_eq_true_eq] at this; exact this.1
    split
    · rename_i L e
      have := readF_len hc.1 _ _ _ e
      show L.length ≤ 180
      omega
    · simp
  · simp
/-- Of the first k words the one that begins digits. -/
def ixUp (code : List (List Int)) (ds : List Int) (k : Nat) : Option Nat := ixC (code.take k) ds
theorem ixUp_full (code : List (List Int)) (ds : List Int) : ixUp code ds code.length = ixC code ds := by unfold ixUp; rw [List.take_length]
theorem ixUp_no {code : List (List Int)} {ds x : List Int} {k : Nat} (hx : code[k]? = some x) (hb : begB x ds = false) : ixUp code ds (k + 1) = ixUp code ds k := by
  unfold ixUp ixC
  rw [take_snocN hx, List.findIdx?_append]
  simp [hb, List.findIdx?_cons]
theorem ixUp_yes {code : List (List Int)} (h : codeB code = true) {ds x : List Int} {k : Nat} (hx : code[k]? = some x) (hb : begB x ds = true) : ixUp code ds (k + 1) = some k := by
  have hk := (List.getElem?_eq_some_iff.1 hx).1
  have hn : (code.take k).findIdx? (fun x => begB x ds) = Option.none := by
    rw [List.findIdx?_eq_none_iff]
    intro y hy
    obtain ⟨j, hj⟩ := List.getElem?_of_mem hy
    rw [List.getElem?_take] at hj
    split at hj
    · rename_i hlt
      cases e : begB y ds
      · rfl
      · have := code_one h hj hx e hb; omega
    · cases hj
  unfold ixUp ixC
  rw [take_snocN hx, List.findIdx?_append, hn]
  simp [hb, List.findIdx?_cons, List.length_take]
  omega
def lenV : Value → Nat
  | .slice _ n _ => n
  | _ => 0
theorem RdI.dropAll {w : World} {hi n c : Nat} {b off : Nat} {xs : List Int} (h : RdI w hi (.slice (some ⟨b, off, Option.none⟩) n c) xs) (hn : n = xs.length) (hc : n ≤ c) {k : Nat} (hk : k ≤ n) :
    RdI w hi (.slice (some ⟨b, off + k, Option.none⟩) (n - k) (c - k)) (xs.drop k) ∧ (k = n → RdI w hi (.slice (some ⟨b, off, Option.none⟩) (n - k) (c - k)) (xs.drop k)) := by
  have hm : c ≤ maxLen := by
    obtain ⟨_, _, _, hv, _, h2, _⟩ := h; cases hv; exact h2
  subst hn
  constructor
  · rcases Nat.lt_or_ge k xs.length with hlt | hge
    · exact RdI.drop h hlt
    · have : xs.drop k = [] := List.drop_eq_nil_of_le hge
      rw [this]
      exact ⟨rfl, some ⟨b, off + k, Option.none⟩, c - k, by rw [show xs.length - k = 0 by omega]; rfl, Nat.zero_le _, by omega, fun h => absurd h (by simp)⟩
  · rintro rfl
    have : xs.drop xs.length = [] := by simp
    rw [this]
    exact ⟨rfl, some ⟨b, off, Option.none⟩, c - xs.length, by rw [Nat.sub_self]; rfl, Nat.zero_le _, by omega, fun h => absurd h (by simp)⟩
end Go.Proofs.Ytabiobjcfopakaa
