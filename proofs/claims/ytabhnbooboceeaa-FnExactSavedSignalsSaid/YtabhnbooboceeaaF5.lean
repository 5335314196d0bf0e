/- Contract: the program's search for the first list of phrases of the least length. -/
import Derived.Test.YtabhnbooboceeaaF4
namespace Go.Proofs.Ytabhnbooboceeaa
open Go.RowKit
theorem bigI_bd {o : Option Nat} (h : ∀ v, o = some v → v ≤ 1000000) : 0 ≤ bigI o ∧ bigI o ≤ 1073741824 := by
  cases o with
  | none => exact ⟨by decide, by decide⟩
  | some v => have := h v rfl; simp only [bigI]; omega
theorem bigZ_zero {tb : List (Option Nat)} {m : Nat} (h : m < tb.length) : (bigZ 0 tb)[m]? = some (.int .i64 (bigI (tb.getD m Option.none))) := by
  unfold bigZ; simp [List.getD_eq_getElem?_getD, List.getElem?_eq_getElem h]
theorem tblZ_zeroAt {tb : List Nat} {m : Nat} (h : m < tb.length) : (tblZ 0 tb)[m]? = some (.int .i64 ((tb.getD m 0 : Nat) : Int)) := by
  unfold tblZ; simp [List.getD_eq_getElem?_getD, List.getElem?_eq_getElem h]
theorem big_keep {fit : Phr → Bool} {len cost : Phr → Nat} {ps : List Phr} {tb : List (Option Nat)} {j : Nat} {p : Phr} {ob : Option Nat} (hp : ps[j]? = some p) (hf : fit p = true) (ht : tb[len p - 1]? = some ob) (hob : ∀ v, ob = some v → v + cost p ≤ 1000000)
    (h : ¬ bigI ob + (cost p : Int) < bigI (lsJ fit len cost ps tb j)) : lsJ fit len cost ps tb (j + 1) = lsJ fit len cost ps tb j ∧ fsJ fit len cost ps tb (j + 1) = fsJ fit len cost ps tb j := by
  refine lsJ_keep hp fun v hv => ?_
  cases ob with
  | none => rw [valP_none ht] at hv; cases hv
  | some b =>
    rw [valP_yes hf ht] at hv
    cases hv
    have := hob b rfl
    cases hc : lsJ fit len cost ps tb j with
    | none => rw [hc] at h; simp only [bigI] at h; omega
    | some c => rw [hc] at h; simp only [bigI] at h; exact ⟨c, rfl, by omega⟩
theorem big_new {fit : Phr → Bool} {len cost : Phr → Nat} {ps : List Phr} {tb : List (Option Nat)} {j : Nat} {p : Phr} {ob : Option Nat} (hp : ps[j]? = some p) (hf : fit p = true) (ht : tb[len p - 1]? = some ob) (hcur : bigI (lsJ fit len cost ps tb j) ≤ 1073741824)
    (h : bigI ob + (cost p : Int) < bigI (lsJ fit len cost ps tb j)) : ∃ v : Nat, bigI ob + (cost p : Int) = bigI (some v) ∧ lsJ fit len cost ps tb (j + 1) = some v ∧ fsJ fit len cost ps tb (j + 1) = j := by
  cases ob with
  | none => simp only [bigI] at h hcur; omega
  | some b =>
    refine ⟨cost p + b, by simp only [bigI]; omega, lsJ_new hp (valP_yes hf ht) fun c hc => ?_⟩
    rw [hc] at h
    simp only [bigI] at h
    omega
theorem lsJ_bd {ps : List Phr} (h : bookB ps = true) (s : ByteArray) {m k j : Nat} (hm : m + (k + 1) = s.size) (hs : s.size ≤ 40) : ∀ v, lsJ (fitT s m) txtLen sigCost ps (dpL (fitT s) txtLen sigCost ps s.size k) j = some v → v ≤ 1000000 := by
  intro v hv
  have e : s.size - (k + 1) = m := by omega
  have h1 := lsAt_le (fit := fitT s m) (len := txtLen) (cost := sigCost) (tb := dpL (fitT s) txtLen sigCost ps s.size k) (r := k + 1) (ps := ps.take j) (fun p hp hf => tblT_hyp h s k (by omega) p (List.mem_of_mem_take hp) (by rw [e]; exact hf))
    (fun i q hq => by have := dpL_txt h s k (by omega) i q hq; omega) Option.none (fun q hq => by cases hq) v hv
  omega
set_option maxRecDepth 100000 in
set_option maxHeartbeats 4000000 in
theorem spell_any (ps : List Phr) (s : ByteArray) (v : Value) (hi : Nat) (w : World) (h : RdB w hi v ps) (hh : hi ≤ w.heap.size) (hbk : bookB ps = true) (hs40 : s.size ≤ 40) :
    Calls Try.prog 74 #[v, .string s] w (RetOwT (spellL ps s) (spellQ ps s) w) := by
  obtain ⟨a, rfl, ha⟩ := h
  obtain ⟨A, c, rfl, hc, hm⟩ := ha.form
  have HA0 := Lib.hid ha
  have hba : Below w.heap.size w (w.alloc (.cells #[.slice A ps.length c] 30)) := (Below.refl _ _).alloc (Nat.le_refl _) _
  have HB := Lib.hid hba
  have HA := Lib.hid (ha.below hba hh)
  have HG : Hid (RdB (w.alloc (.cells #[.slice A ps.length c] 30)) hi (.agg #[.slice A ps.length c]) ps) := ⟨_, rfl, HA.out⟩
  have hcb0 : (w.alloc (.cells #[.slice A ps.length c] 30)).cell? ⟨w.heap.size, 0, Option.none⟩ = some (.slice A ps.length c) := (Blk.new w 30 #[.slice A ps.length c]).cell 0
  have HCB := Lib.hid hcb0
  have hsz1 : hi ≤ (w.alloc (.cells #[.slice A ps.length c] 30)).heap.size := by simp; omega
  clear ha hba hcb0
  have HBK := Lib.hid hbk
  clear hbk
  have hmk := make_ints (s.size + 1) (by omega)
  rw [show ((s.size + 1 : Nat) : Int) = (s.size : Int) + 1 from rfl] at hmk
  have HBW : Hid (Below w.heap.size w ((w.alloc (.cells #[.slice A ps.length c] 30)).alloc (.cells (zeros (s.size + 1)) 3))) := ((Below.refl _ _).alloc (Nat.le_refl _) _).alloc (by simp) _
  have HTB0 : Hid (Blk (((w.alloc (.cells #[.slice A ps.length c] 30)).alloc (.cells (zeros (s.size + 1)) 3)).alloc (.cells (zeros (s.size + 1)) 3)) (w.heap.size + 1) 3 (bigZ s.size (dpL (fitT s) txtLen sigCost ps s.size 0))) := by
    have := (Blk.new (w.alloc (.cells #[.slice A ps.length c] 30)) 3 (zeros (s.size + 1))).alloc (.cells (zeros (s.size + 1)) 3)
    rw [bigZ_start] at this
    simp at this
    exact this
  have HTF0 : Hid (Blk (((w.alloc (.cells #[.slice A ps.length c] 30)).alloc (.cells (zeros (s.size + 1)) 3)).alloc (.cells (zeros (s.size + 1)) 3)) (w.heap.size + 1 + 1) 3 (tblZ s.size (fstD (fitT s) txtLen sigCost ps s.size 0))) := by
    have := Blk.new ((w.alloc (.cells #[.slice A ps.length c] 30)).alloc (.cells (zeros (s.size + 1)) 3)) 3 (zeros (s.size + 1))
    rw [tblZ_zero] at this
    simp at this
    exact this
  have HCBX : Hid (((w.alloc (.cells #[.slice A ps.length c] 30)).alloc (.cells (zeros (s.size + 1)) 3)).cell? ⟨w.heap.size, 0, Option.none⟩ = some (.slice A ps.length c)) :=
    (((Below.refl (w.alloc (.cells #[.slice A ps.length c] 30)).heap.size (w.alloc (.cells #[.slice A ps.length c] 30))).alloc (Nat.le_refl _) (.cells (zeros (s.size + 1)) 3)).cell (p := ⟨w.heap.size, 0, Option.none⟩) (by simp)).trans HCB.out
  go_enter Try.func74, Try.ntmps74
  go_wp2_with fail
  go_loopw [8] (fun i wr => ∃ (m k : Nat) (z : Int), Hid (m + k = s.size) ∧ Hid (z = (m : Int) - 1) ∧ i = .int .i64 z ∧ Hid (Blk wr (w.heap.size + 1) 3 (bigZ m (dpL (fitT s) txtLen sigCost ps s.size k))) ∧ Hid (Blk wr (w.heap.size + 1 + 1) 3 (tblZ m (fstD (fitT s) txtLen sigCost ps s.size k))) ∧ Hid (Below (w.heap.size + 1) ((w.alloc (.cells #[.slice A ps.length c] 30)).alloc (.cells (zeros (s.size + 1)) 3)) wr)) (fun i _ => (intOf i + 1).toNat)
  case atStart => exact ⟨s.size, 0, (s.size : Int) - 1, rfl, rfl, rfl, HTB0.out, HTF0.out, (Below.refl _ _).alloc (by simp) _⟩
  case round =>
    obtain ⟨m, k, z, hmk1, hz, rfl, hblk, hblf, hbr⟩ := hrel
    have hs : (w.heap.size + 1 + 1) + 1 ≤ wr.heap.size := by have := hblf.out.lt; omega
    rcases m with _ | m
    · obtain rfl : z = -1 := by have := hz.out; omega
      have HK : Hid (k = s.size) := by have := hmk1.out; show k = _; omega
      have hB := hblk.out
      have hF := hblf.out
      rw [HK.out] at hB hF
      have hc0 := hB.cell 0
      rw [bigZ_zero (by rw [dpL_len]; omega)] at hc0
      change _ = some (Value.int .i64 (bigI ((tblT ps s).getD 0 Option.none))) at hc0
      have HFC := Lib.hid fun m (hm : m < s.size) => (hF.cell m).trans (tblZ_zeroAt (by rw [fstD_len]; omega))
      have HBE := Lib.hid (HBW.out.trans (hbr.out.mono (by omega)))
      have hboxr := (hbr.out.cell (p := ⟨w.heap.size, 0, Option.none⟩) (by show w.heap.size < (w.heap.size + 1); omega)).trans HCBX.out
      clear hB hF
      rcases ho : (tblT ps s).getD 0 Option.none with _ | vv
      · have HO := Lib.hid ho
        rw [ho] at hc0
        simp only [bigI] at hc0
        clear ho
        go_wp2_with fail
        go_ret2
        show RetOwT _ _ _ _ _
        rw [show spellL ps s = [] by unfold spellL; rw [HO.out], show spellQ ps s = false by unfold spellQ; rw [HO.out]; rfl]
        exact retOwT _ (GrowI.nil HBE.out)
      · have HO := Lib.hid ho
        rw [ho] at hc0
        simp only [bigI] at hc0
        have hvv : vv ≤ 120 := by
          have := dpL_txt HBK.out s s.size (Nat.le_refl _) 0 vv (by
            rw [List.getD_eq_getElem?_getD] at ho
            unfold tblT at ho
            cases e : (dpL (fitT s) txtLen sigCost ps s.size s.size)[0]? with
            | none => rw [e] at ho; cases ho
            | some q => rw [e] at ho; simp at ho; rw [ho])
          omega
        have hvv2 : ¬ (1073741824 : Int) ≤ (vv : Int) := by omega
        clear ho
        rename World => wo
        have hs9 : (w.heap.size + 1 + 1) + 1 ≤ wo.heap.size := by have := hblf.out.lt; omega
        go_wp2_with fail
        go_loopw [12, 13] (fun q i wr => ∃ (m : Nat) (l : List Nat) (c0 : Nat), m ≤ s.size ∧ i = .int .i64 (m : Int) ∧ Hid (PathT ps s l m) ∧ Hid ((tblT ps s).getD m Option.none = some c0) ∧ Hid (GrowI wo wo.heap.size wr q (waysI l))) (fun _ i _ => s.size - (intOf i).toNat)
        case atStart => exact ⟨0, [], vv, Nat.zero_le _, rfl, PathTo.start, HO.out, GrowI.start wo⟩
        case round =>
          obtain ⟨m, l, c0, hm, rfl, hpt, htm, hg⟩ := hrel
          have hsr0 := hg.out.2.1.size
          have hsr1 := hg.out.2.2
          by_cases hltm : m < s.size
          · obtain ⟨ib, pb, vb, hnx, hpb, hfb, hlb, htb, _⟩ := nextL_some hltm (fit_hyp HBK.out s m) htm.out
            have HNX := Lib.hid hnx
            have HPB := Lib.hid hpb
            have HFB := Lib.hid hfb
            have HLB := Lib.hid hlb
            have HTB := Lib.hid htb
            have hfc := HFC.out m hltm
            rw [List.getD_eq_getElem?_getD, fstD_at hltm, hnx] at hfc
            simp only [Option.getD_some] at hfc
            have hibl : ib < ps.length := (List.getElem?_eq_some_iff.1 hpb).1
            obtain ⟨b1, o1, c1, a, t, xs, hv, hb1, hx, hcell1, hcell2, hra, hta⟩ := (HA0.out.below HBE.out hh).at_ hibl
            cases hv
            rw [hpb] at hx
            cases hx
            have hle := fitT_le HFB.out HLB.out
            have hle2 : m + t.size ≤ s.size := hle
            have HC5 := Lib.hid fun (w5 : World) (hb5 : Below wo.heap.size wo w5) => (hb5.cell (p := ⟨b1, o1 + ib * 2, Option.none⟩) (by show b1 < _; omega)).trans hcell1
            have HC6 := Lib.hid fun (w5 : World) (hb5 : Below wo.heap.size wo w5) => (hb5.cell (p := ⟨w.heap.size, 0, Option.none⟩) (by show w.heap.size < wo.heap.size; omega)).trans hboxr
            have HC7 := Lib.hid fun (w5 : World) (hb5 : Below wo.heap.size wo w5) => (hb5.cell (p := ⟨(w.heap.size + 1 + 1), m, Option.none⟩) (by show (w.heap.size + 1 + 1) < wo.heap.size; omega)).trans hfc
            have hll : (waysI l).length ≤ 40 := by rw [waysI_len]; have := hpt.out.short; omega
            have i1 : IntKind.i64.wrap ((m : Int) + (t.size : Int)) = (m : Int) + (t.size : Int) := wrap_in (by omega)
            have hcr := HC7.out _ hg.out.2.1
            clear hcell1 hcell2 hra hle hnx hpb hfb hlb htb hfc
            go_wp2_with (at_builtin; refine GrowI.app rfl (.tmp 82) (.tmp 87) rfl hg.out (by omega) rfl rfl ?_; intro v' w5 hG')
            have d0 := HC6.out w5 hG'.2.1
            have d1 := HC5.out w5 hG'.2.1
            have d2 := HC7.out w5 hG'.2.1
            have HG6 := Lib.hid hG'
            clear hG' hcr
            go_quiet (fail)
            go_wp2_with fail
            go_roundw
            case rel =>
              refine ⟨m + t.size, l ++ [ib], vb, hle2, by go_num, ?_, HTB.out, ?_⟩
              · have h1 := hpt.out.on hltm HNX.out (by rw [lnOf_at HPB.out]; exact HLB.out)
                rw [lnOf_at HPB.out] at h1
                exact h1
              · show GrowI _ _ _ _ _
                rw [waysI_snoc]
                exact HG6.out.belowR (bel_drewN _ _ _)
            case measure => have h1 : 1 ≤ t.size := HLB.out; show s.size - _ < s.size - _; simp [intOf]; omega
          · obtain rfl : m = s.size := by omega
            have HD := Lib.hid (hpt.out.done (Nat.le_refl _))
            go_wp2_with fail
            go_ret2
            show RetOwT _ _ _ _ _
            rw [show spellL ps s = waysI l by unfold spellL; rw [HO.out, show l = pathT ps s from HD.out], show spellQ ps s = true by unfold spellQ; rw [HO.out]; rfl]
            exact retOwT_from _ hg.out HBE.out (by omega)
    · obtain rfl : z = (m : Int) := by have := hz.out; omega
      have hm1 : m < s.size := by have := hmk1.out; omega
      have hboxr := (hbr.out.cell (p := ⟨w.heap.size, 0, Option.none⟩) (by show w.heap.size < (w.heap.size + 1); omega)).trans HCBX.out
      have hz0 := hblk.out.cell m
      rw [bigZ_below] at hz0
      have hf0 := hblk.out.frozen m
      rename World => wo
      go_wp2_with fail
      go_loopw [35] (fun i wr => ∃ j : Nat, j ≤ ps.length ∧ i = .int .i64 j ∧ Hid (Blk wr (w.heap.size + 1) 3 (bigZ m ((lsJ (fitT s m) txtLen sigCost ps (dpL (fitT s) txtLen sigCost ps s.size k) j) :: (dpL (fitT s) txtLen sigCost ps s.size k)))) ∧ Hid (Blk wr (w.heap.size + 1 + 1) 3 (tblC m (fsJ (fitT s m) txtLen sigCost ps (dpL (fitT s) txtLen sigCost ps s.size k) j) (fstD (fitT s) txtLen sigCost ps s.size k))) ∧ Hid (Below (w.heap.size + 1) ((w.alloc (.cells #[.slice A ps.length c] 30)).alloc (.cells (zeros (s.size + 1)) 3)) wr)) (fun i _ => ps.length - (intOf i).toNat)
      case atStart => exact ⟨0, Nat.zero_le _, rfl, by have := hblk.out.set_ m (.int .i64 1073741824); rw [bigZ_down] at this; exact this, (by have := hblf.out; rw [tblZ_down] at this; exact (Below.heap_setCell _ _ _ _ (by show (w.heap.size + 1 + 1) ≠ (w.heap.size + 1); omega)).trans this), hbr.out.setCell (Nat.le_refl _) _⟩
      case round =>
        obtain ⟨j, hjl, rfl, hblk2, hblf2, hbr2⟩ := hrel
        have hs2 : (w.heap.size + 1 + 1) + 1 ≤ wr.heap.size := by have := hblf2.out.lt; omega
        have HBR := Lib.hid (HBW.out.trans (hbr2.out.mono (by omega)))
        clear hz0 hf0
        by_cases hlt : j < ps.length
        · obtain ⟨b1, o1, c1, a, t, xs, hv, hb1, hx, hcell1, hcell2, hra, hta⟩ := (HA0.out.below HBR.out (by omega)).at_ hlt
          cases hv
          obtain ⟨A2, c2, rfl, hc2, hm2⟩ := Rd.form hra
          have HX := Lib.hid hx
          have HAP := Lib.hid (tblT_hyp HBK.out s k (by have := hmk1.out; omega) (t, xs) (List.mem_of_getElem? HX.out))
          have HBP := Lib.hid (hbr2.out.alloc (show (w.heap.size + 1) ≤ wr.heap.size by omega) (.cells #[.string t, .slice A2 xs.length c2] 54))
          have HBLP : Hid (Blk (wr.alloc (.cells #[.string t, .slice A2 xs.length c2] 54)) (w.heap.size + 1) 3 (bigZ m ((lsJ (fitT s m) txtLen sigCost ps (dpL (fitT s) txtLen sigCost ps s.size k) j) :: (dpL (fitT s) txtLen sigCost ps s.size k)))) := hblk2.out.alloc _
          have HBFP : Hid (Blk (wr.alloc (.cells #[.string t, .slice A2 xs.length c2] 54)) (w.heap.size + 1 + 1) 3 (tblC m (fsJ (fitT s m) txtLen sigCost ps (dpL (fitT s) txtLen sigCost ps s.size k) j) (fstD (fitT s) txtLen sigCost ps s.size k))) := hblf2.out.alloc _
          clear hx hra
          have cB := fun n => Try.strings_HasPrefix (s.extract m s.size) t ((wr.alloc (.cells #[.string t, .slice A2 xs.length c2] 54)).drewN n)
          cases hbg : Lib.hasPrefix (s.extract m s.size).data.toList t.data.toList
          · rw [hbg] at cB
            have CB := Lib.hid cB
            have HKP := Lib.hid (lsJ_keep (fit := fitT s m) (len := txtLen) (cost := sigCost) (tb := (dpL (fitT s) txtLen sigCost ps s.size k)) HX.out (fun v hv => by rw [valP_no (show fitT s m (t, xs) = false from hbg)] at hv; cases hv))
            clear cB hbg
            go_wp2_with fail
            go_quiet ((go_at_call 113; exact Calls.quiet_of_same (CB.out _)))
            go_wp2_with fail
            go_roundw
            case rel => exact ⟨j + 1, by omega, by go_num, by rw [HKP.out.1]; exact HBLP.out, by rw [HKP.out.2]; exact HBFP.out, HBP.out.trans (bel_drewN _ _ _)⟩
            case measure => (simp [intOf]; try omega)
          · rw [hbg] at cB
            have CB := Lib.hid cB
            have HF1 : Hid (fitT s m (t, xs) = true) := hbg
            have hl := HAP.out (by rw [show s.size - (k + 1) = m by have := hmk1.out; omega]; exact HF1.out)
            have hl1 : 1 ≤ t.size := hl.1
            have hl2 : t.size ≤ k + 1 := hl.2.1
            have hl3 : xs.length ≤ 3 := hl.2.2
            have hmk2 := hmk1.out
            obtain ⟨ob, hvb⟩ : ∃ ob, (dpL (fitT s) txtLen sigCost ps s.size k)[t.size - 1]? = some ob := ⟨_, List.getElem?_eq_getElem (by rw [dpL_len]; omega)⟩
            have hvb2 : ∀ q, ob = some q → q ≤ 120 := fun q e => by
              have := dpL_txt HBK.out s k (by omega) (t.size - 1) q (by rw [← e]; exact hvb)
              omega
            have c1' := HBLP.out.cell (m + t.size)
            rw [show m + t.size = m + 1 + (t.size - 1) by omega, bigZ_on hvb, show m + 1 + (t.size - 1) = m + t.size by omega] at c1'
            have c0 := HBLP.out.cell m
            rw [bigZ_at] at c0
            have c9 := HBFP.out.cell m
            rw [tblC_at] at c9
            have hbo := bigI_bd (o := ob) fun v hv => by have := hvb2 v hv; omega
            have hbc := bigI_bd (o := (lsJ (fitT s m) txtLen sigCost ps (dpL (fitT s) txtLen sigCost ps s.size k) j)) (lsJ_bd HBK.out s (show m + (k + 1) = s.size by omega) hs40)
            have HVB := Lib.hid hvb
            have HVB2 := Lib.hid hvb2
            have HBC := Lib.hid hbc.2
            obtain ⟨bo, hbo1⟩ : ∃ z, z = bigI ob := ⟨_, rfl⟩
            obtain ⟨bc, hbc1⟩ : ∃ z, z = bigI (lsJ (fitT s m) txtLen sigCost ps (dpL (fitT s) txtLen sigCost ps s.size k) j) := ⟨_, rfl⟩
            obtain ⟨f0, hf0⟩ : ∃ z, z = (fsJ (fitT s m) txtLen sigCost ps (dpL (fitT s) txtLen sigCost ps s.size k) j) := ⟨_, rfl⟩
            rw [← hbo1] at c1' hbo
            rw [← hbc1] at c0 hbc
            rw [← hf0] at c9
            have HBO1 := Lib.hid hbo1
            have HBC1 := Lib.hid hbc1
            clear hbo1 hbc1 hf0 hvb hvb2 cB hbg hl
            have i1 : IntKind.i64.wrap ((m : Int) + (t.size : Int)) = (m : Int) + (t.size : Int) := wrap_in (by omega)
            have i2 : (0 : Int) ≤ (m : Int) + (t.size : Int) := by omega
            have i3 : (m : Int) + (t.size : Int) < (s.size : Int) + 1 := by omega
            have i4 : ((m : Int) + (t.size : Int)).toNat = m + t.size := by omega
            have i5 : IntKind.i64.wrap (bo + (xs.length : Int)) = bo + (xs.length : Int) := wrap_in (by omega)
            go_wp2_with fail
            go_quiet ((go_at_call 113; exact Calls.quiet_of_same (CB.out _)))
            go_wp2_with fail
            have d0 : ((wr.alloc (.cells #[.string t, .slice A2 xs.length c2] 54)).drewN nq).cell? ⟨(w.heap.size + 1), m, Option.none⟩ = some (.int .i64 bc) := c0
            have d1 : ((wr.alloc (.cells #[.string t, .slice A2 xs.length c2] 54)).drewN nq).cell? ⟨(w.heap.size + 1), m + t.size, Option.none⟩ = some (.int .i64 bo) := c1'
            have d2 : ((wr.alloc (.cells #[.string t, .slice A2 xs.length c2] 54)).drewN nq).frozen? ⟨(w.heap.size + 1), m, Option.none⟩ = false := HBLP.out.frozen m
            have d3 : ((wr.alloc (.cells #[.string t, .slice A2 xs.length c2] 54)).drewN nq).cell? ⟨wr.heap.size, 0, Option.none⟩ = some (.string t) := (Blk.new wr 54 #[.string t, .slice A2 xs.length c2]).cell 0
            have d4 : ((wr.alloc (.cells #[.string t, .slice A2 xs.length c2] 54)).drewN nq).cell? ⟨wr.heap.size, 1, Option.none⟩ = some (.slice A2 xs.length c2) := (Blk.new wr 54 #[.string t, .slice A2 xs.length c2]).cell 1
            have d8 : ((wr.alloc (.cells #[.string t, .slice A2 xs.length c2] 54)).drewN nq).cell? ⟨(w.heap.size + 1 + 1), m, Option.none⟩ = some (.int .i64 (f0 : Int)) := c9
            have d9 : ((wr.alloc (.cells #[.string t, .slice A2 xs.length c2] 54)).drewN nq).frozen? ⟨(w.heap.size + 1 + 1), m, Option.none⟩ = false := HBFP.out.frozen m
            have HBQ := Lib.hid (HBP.out.trans (bel_drewN (w.heap.size + 1) (wr.alloc (.cells #[.string t, .slice A2 xs.length c2] 54)) nq))
            have HBLQ : Hid (Blk ((wr.alloc (.cells #[.string t, .slice A2 xs.length c2] 54)).drewN nq) (w.heap.size + 1) 3 (bigZ m ((lsJ (fitT s m) txtLen sigCost ps (dpL (fitT s) txtLen sigCost ps s.size k) j) :: (dpL (fitT s) txtLen sigCost ps s.size k)))) := HBLP.out
            have HBFQ : Hid (Blk ((wr.alloc (.cells #[.string t, .slice A2 xs.length c2] 54)).drewN nq) (w.heap.size + 1 + 1) 3 (tblC m (fsJ (fitT s m) txtLen sigCost ps (dpL (fitT s) txtLen sigCost ps s.size k) j) (fstD (fitT s) txtLen sigCost ps s.size k))) := HBFP.out
            clear c0 c1' c9
            generalize (wr.alloc (.cells #[.string t, .slice A2 xs.length c2] 54)).drewN nq = wq at d0 d1 d2 d3 d4 d8 d9 HBQ HBLQ HBFQ ⊢
            by_cases hlt2 : bo + (xs.length : Int) < bc
            · go_quiet (fail)
              have e0 : (wq.drewN nq).cell? ⟨(w.heap.size + 1), m, Option.none⟩ = some (.int .i64 bc) := d0
              have e2 : (wq.drewN nq).frozen? ⟨(w.heap.size + 1), m, Option.none⟩ = false := d2
              have e8 : (wq.drewN nq).cell? ⟨(w.heap.size + 1 + 1), m, Option.none⟩ = some (.int .i64 (f0 : Int)) := d8
              have e9 : (wq.drewN nq).frozen? ⟨(w.heap.size + 1 + 1), m, Option.none⟩ = false := d9
              have HBQ2 := Lib.hid (HBQ.out.trans (bel_drewN (w.heap.size + 1) wq nq))
              have HBLQ2 : Hid (Blk (wq.drewN nq) (w.heap.size + 1) 3 (bigZ m ((lsJ (fitT s m) txtLen sigCost ps (dpL (fitT s) txtLen sigCost ps s.size k) j) :: (dpL (fitT s) txtLen sigCost ps s.size k)))) := HBLQ.out
              have HBFQ2 : Hid (Blk (wq.drewN nq) (w.heap.size + 1 + 1) 3 (tblC m (fsJ (fitT s m) txtLen sigCost ps (dpL (fitT s) txtLen sigCost ps s.size k) j) (fstD (fitT s) txtLen sigCost ps s.size k))) := HBFQ.out
              clear d0 d1 d2 d3 d4 d8 d9 HBQ HBLQ HBFQ i1 i2 i3 i4
              generalize wq.drewN nq = wp at e0 e2 e8 e9 HBQ2 HBLQ2 HBFQ2 ⊢
              have HNEW := Lib.hid (big_new HX.out HF1.out HVB.out HBC.out (by rw [← HBO1.out, ← HBC1.out]; exact hlt2))
              have HB1S := Lib.hid (HBLQ2.out.set_ m (.int .i64 (bo + (xs.length : Int))))
              have e10 : (wp.setCell ⟨(w.heap.size + 1), m, Option.none⟩ (.int .i64 (bo + (xs.length : Int)))).cell? ⟨(w.heap.size + 1 + 1), m, Option.none⟩ = some (.int .i64 (f0 : Int)) := (World.cell?_setCell_other _ ⟨(w.heap.size + 1), m, Option.none⟩ ⟨(w.heap.size + 1 + 1), m, Option.none⟩ _ (by simp)).trans e8
              have e11 : (wp.setCell ⟨(w.heap.size + 1), m, Option.none⟩ (.int .i64 (bo + (xs.length : Int)))).frozen? ⟨(w.heap.size + 1 + 1), m, Option.none⟩ = false := by simpa using e9
              go_wp2_with fail
              go_roundw
              case rel =>
                obtain ⟨nv, hn1, hn2, hn3⟩ := HNEW.out
                refine ⟨j + 1, by omega, by go_num, ?_, ?_, (HBQ2.out.setCell (Nat.le_refl _) _).setCell (by show (w.heap.size + 1) ≤ (w.heap.size + 1 + 1); omega) _⟩
                · show Blk _ _ _ (bigZ m ((lsJ (fitT s m) txtLen sigCost ps (dpL (fitT s) txtLen sigCost ps s.size k) (j + 1)) :: (dpL (fitT s) txtLen sigCost ps s.size k)))
                  rw [hn2]
                  have h1 := HB1S.out
                  rw [show bo + (xs.length : Int) = bigI (some nv) by rw [HBO1.out]; exact hn1, bigZ_set] at h1
                  rw [show bo + (xs.length : Int) = bigI (some nv) by rw [HBO1.out]; exact hn1]
                  exact (Below.heap_setCell _ _ _ _ (by show (w.heap.size + 1) ≠ (w.heap.size + 1 + 1); omega)).trans h1
                · show Blk _ _ _ (tblC m (fsJ (fitT s m) txtLen sigCost ps (dpL (fitT s) txtLen sigCost ps s.size k) (j + 1)) (fstD (fitT s) txtLen sigCost ps s.size k))
                  rw [hn3]
                  have h2 := Blk.set_ (show Blk (wp.setCell ⟨(w.heap.size + 1), m, Option.none⟩ (.int .i64 (bo + (xs.length : Int)))) (w.heap.size + 1 + 1) 3 (tblC m (fsJ (fitT s m) txtLen sigCost ps (dpL (fitT s) txtLen sigCost ps s.size k) j) (fstD (fitT s) txtLen sigCost ps s.size k)) from (Below.heap_setCell _ _ _ _ (by show (w.heap.size + 1 + 1) ≠ (w.heap.size + 1); omega)).trans HBFQ2.out) m (.int .i64 ((j : Nat) : Int))
                  rw [tblC_set] at h2
                  exact h2
              case measure => (simp [intOf]; try omega)
            · go_quiet (fail)
              have e0 : (wq.drewN nq).cell? ⟨(w.heap.size + 1), m, Option.none⟩ = some (.int .i64 bc) := d0
              have e2 : (wq.drewN nq).frozen? ⟨(w.heap.size + 1), m, Option.none⟩ = false := d2
              have e8 : (wq.drewN nq).cell? ⟨(w.heap.size + 1 + 1), m, Option.none⟩ = some (.int .i64 (f0 : Int)) := d8
              have e9 : (wq.drewN nq).frozen? ⟨(w.heap.size + 1 + 1), m, Option.none⟩ = false := d9
              have HBQ2 := Lib.hid (HBQ.out.trans (bel_drewN (w.heap.size + 1) wq nq))
              have HBLQ2 : Hid (Blk (wq.drewN nq) (w.heap.size + 1) 3 (bigZ m ((lsJ (fitT s m) txtLen sigCost ps (dpL (fitT s) txtLen sigCost ps s.size k) j) :: (dpL (fitT s) txtLen sigCost ps s.size k)))) := HBLQ.out
              have HBFQ2 : Hid (Blk (wq.drewN nq) (w.heap.size + 1 + 1) 3 (tblC m (fsJ (fitT s m) txtLen sigCost ps (dpL (fitT s) txtLen sigCost ps s.size k) j) (fstD (fitT s) txtLen sigCost ps s.size k))) := HBFQ.out
              clear d0 d1 d2 d3 d4 d8 d9 HBQ HBLQ HBFQ i1 i2 i3 i4
              generalize wq.drewN nq = wp at e0 e2 e8 e9 HBQ2 HBLQ2 HBFQ2 ⊢
              have HKP := Lib.hid (big_keep (len := txtLen) (cost := sigCost) HX.out HF1.out HVB.out (fun v hv => by have := HVB2.out v hv; show v + sigCost (t, xs) ≤ _; show v + xs.length ≤ _; omega) (by rw [← HBO1.out, ← HBC1.out]; exact hlt2) : lsJ (fitT s m) txtLen sigCost ps _ (j + 1) = _ ∧ fsJ (fitT s m) txtLen sigCost ps _ (j + 1) = _)
              have hlt3 : bc ≤ bo + (xs.length : Int) := by omega
              have hlt4 : decide (bo + (xs.length : Int) < bc) = false := decide_eq_false hlt2
              go_wp2_with fail
              go_roundw
              case rel => exact ⟨j + 1, by omega, by go_num, by rw [HKP.out.1]; exact HBLQ2.out, by rw [HKP.out.2]; exact HBFQ2.out, HBQ2.out⟩
              case measure => (simp [intOf]; try omega)
        · obtain rfl : j = ps.length := by omega
          go_wp2_with fail
          go_roundw
          case rel => exact ⟨m, k + 1, (m : Int) - 1, by have := hmk1.out; show m + (k + 1) = _; omega, rfl, rfl, by
            have h1 := hblk2.out
            show Blk _ _ _ (bigZ m (dpL _ _ _ _ _ (k + 1)))
            rw [← (lsJ_end (fit := fitT s) (len := txtLen) (cost := sigCost) (ps := ps) (show m + (k + 1) = s.size by have := hmk1.out; omega)).1]; exact h1, by
            have h1 := hblf2.out
            show Blk _ _ _ (tblZ m (fstD _ _ _ _ _ (k + 1)))
            rw [← (lsJ_end (fit := fitT s) (len := txtLen) (cost := sigCost) (ps := ps) (show m + (k + 1) = s.size by have := hmk1.out; omega)).2]; exact h1, hbr2⟩
          case measure => (simp [intOf]; try omega)
end Go.Proofs.Ytabhnbooboceeaa
