/- Texts of one claim, joined: F5, G0, G1, G2, S, E7, G4, G3, H1, H6, U5, U7, U8, R1. -/
import Derived.Test.YtjnkdjokbamibaaShelf
import Derived.Shelf.Strings.BuilderK
import Derived.Lib.OthersKept
import Derived.StillTailTactics
import Derived.Test.YtjnkdjokbamibaaP3Spelling
/- Contract: the program's search for the first list of phrases of the least length. -/
namespace Go.Proofs.Ytjnkdjokbamibaa
open Go.RowKit
theorem bigI_bd {o : Option Nat} (h : ∀ v, o = some v → v ≤ 1000000) : 0 ≤ bigI o ∧ bigI o ≤ 1073741824 := by
  cases o with
  | none => exact ⟨by decide, by decide⟩
  | some v => have := h v rfl; simp only [bigI]; omega
theorem bigZ_zero {tb : List (Option Nat)} {m : Nat} (h : m < tb.length) : (bigZ 0 tb)[m]? = some (.int .i64 (bigI (tb.getD m Option.none))) := by
  unfold bigZ; simp [List.getD_eq_getElem?_getD, List.getElem?_eq_getElem h]
theorem tblZ_zeroAt {tb : List Nat} {m : Nat} (h : m < tb.length) : (tblZ 0 tb)[m]? = some (.int .i64 ((tb.getD m 0 : Nat) : Int)) := by
  unfold tblZ; simp [List.getD_eq_getElem?_getD, List.getElem?_eq_getElem h]
theorem big_keep {fit : Phr → Bool} {len cost : Phr → Nat} {ps : List Phr} {tb : List (Option Nat)} {j : Nat} {p : Phr} {ob : Option Nat} (hp : ps[j]? = some p) (hf : fit p = true) (ht : tb[len p - 1]? = some ob) (hob : ∀ v, ob = some v → v + cost p ≤ 1000000)
    (h : ¬ bigI ob + (cost p : Int) < bigI (lsJ fit len cost ps tb j)) : lsJ fit len cost ps tb (j + 1) = lsJ fit len cost ps tb j ∧ fsJ fit len cost ps tb (j + 1) = fsJ fit len cost ps tb j := by
  refine lsJ_keep hp fun v hv => ?_
  cases ob with
  | none => rw [valP_none ht] at hv; cases hv
  | some b =>
    rw [valP_yes hf ht] at hv
    cases hv
    have := hob b rfl
    cases hc : lsJ fit len cost ps tb j with
    | none => rw [hc] at h; simp only [bigI] at h; omega
    | some c => rw [hc] at h; simp only [bigI] at h; exact ⟨c, rfl, by omega⟩
theorem big_new {fit : Phr → Bool} {len cost : Phr → Nat} {ps : List Phr} {tb : List (Option Nat)} {j : Nat} {p : Phr} {ob : Option Nat} (hp : ps[j]? = some p) (hf : fit p = true) (ht : tb[len p - 1]? = some ob) (hcur : bigI (lsJ fit len cost ps tb j) ≤ 1073741824)
    (h : bigI ob + (cost p : Int) < bigI (lsJ fit len cost ps tb j)) : ∃ v : Nat, bigI ob + (cost p : Int) = bigI (some v) ∧ lsJ fit len cost ps tb (j + 1) = some v ∧ fsJ fit len cost ps tb (j + 1) = j := by
  cases ob with
  | none => simp only [bigI] at h hcur; omega
  | some b =>
    refine ⟨cost p + b, by simp only [bigI]; omega, lsJ_new hp (valP_yes hf ht) fun c hc => ?_⟩
    rw [hc] at h
    simp only [bigI] at h
    omega
theorem lsJ_bd {ps : List Phr} (h : bookB ps = true) (s : ByteArray) {m k j : Nat} (hm : m + (k + 1) = s.size) (hs : s.size ≤ 40) : ∀ v, lsJ (fitT s m) txtLen sigCost ps (dpL (fitT s) txtLen sigCost ps s.size k) j = some v → v ≤ 1000000 := by
  intro v hv
  have e : s.size - (k + 1) = m := by omega
  have h1 := lsAt_le (fit := fitT s m) (len := txtLen) (cost := sigCost) (tb := dpL (fitT s) txtLen sigCost ps s.size k) (r := k + 1) (ps := ps.take j) (fun p hp hf => tblT_hyp h s k (by omega) p (List.mem_of_mem_take hp) (by rw [e]; exact hf))
    (fun i q hq => by have := dpL_txt h s k (by omega) i q hq; omega) Option.none (fun q hq => by cases hq) v hv
  omega
set_option maxRecDepth 100000 in
set_option maxHeartbeats 4000000 in
theorem spell_any (ps : List Phr) (s : ByteArray) (v : Value) (hi : Nat) (w : World) (h : RdB w hi v ps) (hh : hi ≤ w.heap.size) (hbk : bookB ps = true) (hs40 : s.size ≤ 40) :
    Calls Try.prog 80 #[v, .string s] w (RetOwT (spellL ps s) (spellQ ps s) w) := by
  obtain ⟨a, rfl, ha⟩ := h
  obtain ⟨A, c, rfl, hc, hm⟩ := ha.form
  have HA0 := Lib.hid ha
  have hba : Below w.heap.size w (w.alloc (.cells #[.slice A ps.length c] 28)) := (Below.refl _ _).alloc (Nat.le_refl _) _
  have HB := Lib.hid hba
  have HA := Lib.hid (ha.below hba hh)
  have HG : Hid (RdB (w.alloc (.cells #[.slice A ps.length c] 28)) hi (.agg #[.slice A ps.length c]) ps) := ⟨_, rfl, HA.out⟩
  have hcb0 : (w.alloc (.cells #[.slice A ps.length c] 28)).cell? ⟨w.heap.size, 0, Option.none⟩ = some (.slice A ps.length c) := (Blk.new w 28 #[.slice A ps.length c]).cell 0
  have HCB := Lib.hid hcb0
  have hsz1 : hi ≤ (w.alloc (.cells #[.slice A ps.length c] 28)).heap.size := by simp; omega
  clear ha hba hcb0
  have HBK := Lib.hid hbk
  clear hbk
  have hmk := make_ints (s.size + 1) (by omega)
  rw [show ((s.size + 1 : Nat) : Int) = (s.size : Int) + 1 from rfl] at hmk
  have HBW : Hid (Below w.heap.size w ((w.alloc (.cells #[.slice A ps.length c] 28)).alloc (.cells (zeros (s.size + 1)) 3))) := ((Below.refl _ _).alloc (Nat.le_refl _) _).alloc (by simp) _
  have HTB0 : Hid (Blk (((w.alloc (.cells #[.slice A ps.length c] 28)).alloc (.cells (zeros (s.size + 1)) 3)).alloc (.cells (zeros (s.size + 1)) 3)) (w.heap.size + 1) 3 (bigZ s.size (dpL (fitT s) txtLen sigCost ps s.size 0))) := by
    have := (Blk.new (w.alloc (.cells #[.slice A ps.length c] 28)) 3 (zeros (s.size + 1))).alloc (.cells (zeros (s.size + 1)) 3)
    rw [bigZ_start] at this
    simp at this
    exact this
  have HTF0 : Hid (Blk (((w.alloc (.cells #[.slice A ps.length c] 28)).alloc (.cells (zeros (s.size + 1)) 3)).alloc (.cells (zeros (s.size + 1)) 3)) (w.heap.size + 1 + 1) 3 (tblZ s.size (fstD (fitT s) txtLen sigCost ps s.size 0))) := by
    have := Blk.new ((w.alloc (.cells #[.slice A ps.length c] 28)).alloc (.cells (zeros (s.size + 1)) 3)) 3 (zeros (s.size + 1))
    rw [tblZ_zero] at this
    simp at this
    exact this
  have HCBX : Hid (((w.alloc (.cells #[.slice A ps.length c] 28)).alloc (.cells (zeros (s.size + 1)) 3)).cell? ⟨w.heap.size, 0, Option.none⟩ = some (.slice A ps.length c)) :=
    (((Below.refl (w.alloc (.cells #[.slice A ps.length c] 28)).heap.size (w.alloc (.cells #[.slice A ps.length c] 28))).alloc (Nat.le_refl _) (.cells (zeros (s.size + 1)) 3)).cell (p := ⟨w.heap.size, 0, Option.none⟩) (by simp)).trans HCB.out
  go_enter Try.func80, Try.ntmps80
  go_wp2_with fail
  go_loopw [8] (fun i wr => ∃ (m k : Nat) (z : Int), Hid (m + k = s.size) ∧ Hid (z = (m : Int) - 1) ∧ i = .int .i64 z ∧ Hid (Blk wr (w.heap.size + 1) 3 (bigZ m (dpL (fitT s) txtLen sigCost ps s.size k))) ∧ Hid (Blk wr (w.heap.size + 1 + 1) 3 (tblZ m (fstD (fitT s) txtLen sigCost ps s.size k))) ∧ Hid (Below (w.heap.size + 1) ((w.alloc (.cells #[.slice A ps.length c] 28)).alloc (.cells (zeros (s.size + 1)) 3)) wr)) (fun i _ => (intOf i + 1).toNat)
  case atStart => exact ⟨s.size, 0, (s.size : Int) - 1, rfl, rfl, rfl, HTB0.out, HTF0.out, (Below.refl _ _).alloc (by simp) _⟩
  case round =>
    obtain ⟨m, k, z, hmk1, hz, rfl, hblk, hblf, hbr⟩ := hrel
    have hs : (w.heap.size + 1 + 1) + 1 ≤ wr.heap.size := by have := hblf.out.lt; omega
    rcases m with _ | m
    · obtain rfl : z = -1 := by have := hz.out; omega
      have HK : Hid (k = s.size) := by have := hmk1.out; show k = _; omega
      have hB := hblk.out
      have hF := hblf.out
      rw [HK.out] at hB hF
      have hc0 := hB.cell 0
      rw [bigZ_zero (by rw [dpL_len]; omega)] at hc0
      change _ = some (Value.int .i64 (bigI ((tblT ps s).getD 0 Option.none))) at hc0
      have HFC := Lib.hid fun m (hm : m < s.size) => (hF.cell m).trans (tblZ_zeroAt (by rw [fstD_len]; omega))
      have HBE := Lib.hid (HBW.out.trans (hbr.out.mono (by omega)))
      have hboxr := (hbr.out.cell (p := ⟨w.heap.size, 0, Option.none⟩) (by show w.heap.size < (w.heap.size + 1); omega)).trans HCBX.out
      clear hB hF
      rcases ho : (tblT ps s).getD 0 Option.none with _ | vv
      · have HO := Lib.hid ho
        rw [ho] at hc0
        simp only [bigI] at hc0
        clear ho
        go_wp2_with fail
        go_ret2
        show RetOwT _ _ _ _ _
        rw [show spellL ps s = [] by unfold spellL; rw [HO.out], show spellQ ps s = false by unfold spellQ; rw [HO.out]; rfl]
        exact retOwT _ (GrowI.nil HBE.out)
      · have HO := Lib.hid ho
        rw [ho] at hc0
        simp only [bigI] at hc0
        have hvv : vv ≤ 120 := by
          have := dpL_txt HBK.out s s.size (Nat.le_refl _) 0 vv (by
            rw [List.getD_eq_getElem?_getD] at ho
            unfold tblT at ho
            cases e : (dpL (fitT s) txtLen sigCost ps s.size s.size)[0]? with
            | none => rw [e] at ho; cases ho
            | some q => rw [e] at ho; simp at ho; rw [ho])
          omega
        have hvv2 : ¬ (1073741824 : Int) ≤ (vv : Int) := by omega
        clear ho
        rename World => wo
        have hs9 : (w.heap.size + 1 + 1) + 1 ≤ wo.heap.size := by have := hblf.out.lt; omega
        go_wp2_with fail
        go_loopw [12, 13] (fun q i wr => ∃ (m : Nat) (l : List Nat) (c0 : Nat), m ≤ s.size ∧ i = .int .i64 (m : Int) ∧ Hid (PathT ps s l m) ∧ Hid ((tblT ps s).getD m Option.none = some c0) ∧ Hid (GrowI wo wo.heap.size wr q (waysI l))) (fun _ i _ => s.size - (intOf i).toNat)
        case atStart => exact ⟨0, [], vv, Nat.zero_le _, rfl, PathTo.start, HO.out, GrowI.start wo⟩
        case round =>
          obtain ⟨m, l, c0, hm, rfl, hpt, htm, hg⟩ := hrel
          have hsr0 := hg.out.2.1.size
          have hsr1 := hg.out.2.2
          by_cases hltm : m < s.size
          · obtain ⟨ib, pb, vb, hnx, hpb, hfb, hlb, htb, _⟩ := nextL_some hltm (fit_hyp HBK.out s m) htm.out
            have HNX := Lib.hid hnx
            have HPB := Lib.hid hpb
            have HFB := Lib.hid hfb
            have HLB := Lib.hid hlb
            have HTB := Lib.hid htb
            have hfc := HFC.out m hltm
            rw [List.getD_eq_getElem?_getD, fstD_at hltm, hnx] at hfc
            simp only [Option.getD_some] at hfc
            have hibl : ib < ps.length := (List.getElem?_eq_some_iff.1 hpb).1
            obtain ⟨b1, o1, c1, a, t, xs, hv, hb1, hx, hcell1, hcell2, hra, hta⟩ := (HA0.out.below HBE.out hh).at_ hibl
            cases hv
            rw [hpb] at hx
            cases hx
            have hle := fitT_le HFB.out HLB.out
            have hle2 : m + t.size ≤ s.size := hle
            have HC5 := Lib.hid fun (w5 : World) (hb5 : Below wo.heap.size wo w5) => (hb5.cell (p := ⟨b1, o1 + ib * 2, Option.none⟩) (by show b1 < _; omega)).trans hcell1
            have HC6 := Lib.hid fun (w5 : World) (hb5 : Below wo.heap.size wo w5) => (hb5.cell (p := ⟨w.heap.size, 0, Option.none⟩) (by show w.heap.size < wo.heap.size; omega)).trans hboxr
            have HC7 := Lib.hid fun (w5 : World) (hb5 : Below wo.heap.size wo w5) => (hb5.cell (p := ⟨(w.heap.size + 1 + 1), m, Option.none⟩) (by show (w.heap.size + 1 + 1) < wo.heap.size; omega)).trans hfc
            have hll : (waysI l).length ≤ 40 := by rw [waysI_len]; have := hpt.out.short; omega
            have i1 : IntKind.i64.wrap ((m : Int) + (t.size : Int)) = (m : Int) + (t.size : Int) := wrap_in (by omega)
            have hcr := HC7.out _ hg.out.2.1
            clear hcell1 hcell2 hra hle hnx hpb hfb hlb htb hfc
            go_wp2_with (at_builtin; refine GrowI.app rfl (.tmp 82) (.tmp 87) rfl hg.out (by omega) rfl rfl ?_; intro v' w5 hG')
            have d0 := HC6.out w5 hG'.2.1
            have d1 := HC5.out w5 hG'.2.1
            have d2 := HC7.out w5 hG'.2.1
            have HG6 := Lib.hid hG'
            clear hG' hcr
            go_quiet (fail)
            go_wp2_with fail
            go_roundw
            case rel =>
              refine ⟨m + t.size, l ++ [ib], vb, hle2, by go_num, ?_, HTB.out, ?_⟩
              · have h1 := hpt.out.on hltm HNX.out (by rw [lnOf_at HPB.out]; exact HLB.out)
                rw [lnOf_at HPB.out] at h1
                exact h1
              · show GrowI _ _ _ _ _
                rw [waysI_snoc]
                exact HG6.out.belowR (bel_drewN _ _ _)
            case measure => have h1 : 1 ≤ t.size := HLB.out; show s.size - _ < s.size - _; simp [intOf]; omega
          · obtain rfl : m = s.size := by omega
            have HD := Lib.hid (hpt.out.done (Nat.le_refl _))
            go_wp2_with fail
            go_ret2
            show RetOwT _ _ _ _ _
            rw [show spellL ps s = waysI l by unfold spellL; rw [HO.out, show l = pathT ps s from HD.out], show spellQ ps s = true by unfold spellQ; rw [HO.out]; rfl]
            exact retOwT_from _ hg.out HBE.out (by omega)
    · obtain rfl : z = (m : Int) := by have := hz.out; omega
      have hm1 : m < s.size := by have := hmk1.out; omega
      have hboxr := (hbr.out.cell (p := ⟨w.heap.size, 0, Option.none⟩) (by show w.heap.size < (w.heap.size + 1); omega)).trans HCBX.out
      have hz0 := hblk.out.cell m
      rw [bigZ_below] at hz0
      have hf0 := hblk.out.frozen m
      rename World => wo
      go_wp2_with fail
      go_loopw [35] (fun i wr => ∃ j : Nat, j ≤ ps.length ∧ i = .int .i64 j ∧ Hid (Blk wr (w.heap.size + 1) 3 (bigZ m ((lsJ (fitT s m) txtLen sigCost ps (dpL (fitT s) txtLen sigCost ps s.size k) j) :: (dpL (fitT s) txtLen sigCost ps s.size k)))) ∧ Hid (Blk wr (w.heap.size + 1 + 1) 3 (tblC m (fsJ (fitT s m) txtLen sigCost ps (dpL (fitT s) txtLen sigCost ps s.size k) j) (fstD (fitT s) txtLen sigCost ps s.size k))) ∧ Hid (Below (w.heap.size + 1) ((w.alloc (.cells #[.slice A ps.length c] 28)).alloc (.cells (zeros (s.size + 1)) 3)) wr)) (fun i _ => ps.length - (intOf i).toNat)
      case atStart => exact ⟨0, Nat.zero_le _, rfl, by have := hblk.out.set_ m (.int .i64 1073741824); rw [bigZ_down] at this; exact this, (by have := hblf.out; rw [tblZ_down] at this; exact (Below.heap_setCell _ _ _ _ (by show (w.heap.size + 1 + 1) ≠ (w.heap.size + 1); omega)).trans this), hbr.out.setCell (Nat.le_refl _) _⟩
      case round =>
        obtain ⟨j, hjl, rfl, hblk2, hblf2, hbr2⟩ := hrel
        have hs2 : (w.heap.size + 1 + 1) + 1 ≤ wr.heap.size := by have := hblf2.out.lt; omega
        have HBR := Lib.hid (HBW.out.trans (hbr2.out.mono (by omega)))
        clear hz0 hf0
        by_cases hlt : j < ps.length
        · obtain ⟨b1, o1, c1, a, t, xs, hv, hb1, hx, hcell1, hcell2, hra, hta⟩ := (HA0.out.below HBR.out (by omega)).at_ hlt
          cases hv
          obtain ⟨A2, c2, rfl, hc2, hm2⟩ := Rd.form hra
          have HX := Lib.hid hx
          have HAP := Lib.hid (tblT_hyp HBK.out s k (by have := hmk1.out; omega) (t, xs) (List.mem_of_getElem? HX.out))
          have HBP := Lib.hid (hbr2.out.alloc (show (w.heap.size + 1) ≤ wr.heap.size by omega) (.cells #[.string t, .slice A2 xs.length c2] 40))
          have HBLP : Hid (Blk (wr.alloc (.cells #[.string t, .slice A2 xs.length c2] 40)) (w.heap.size + 1) 3 (bigZ m ((lsJ (fitT s m) txtLen sigCost ps (dpL (fitT s) txtLen sigCost ps s.size k) j) :: (dpL (fitT s) txtLen sigCost ps s.size k)))) := hblk2.out.alloc _
          have HBFP : Hid (Blk (wr.alloc (.cells #[.string t, .slice A2 xs.length c2] 40)) (w.heap.size + 1 + 1) 3 (tblC m (fsJ (fitT s m) txtLen sigCost ps (dpL (fitT s) txtLen sigCost ps s.size k) j) (fstD (fitT s) txtLen sigCost ps s.size k))) := hblf2.out.alloc _
          clear hx hra
          have cB := fun n => Try.strings_HasPrefix (s.extract m s.size) t ((wr.alloc (.cells #[.string t, .slice A2 xs.length c2] 40)).drewN n)
          cases hbg : Lib.hasPrefix (s.extract m s.size).data.toList t.data.toList
          · rw [hbg] at cB
            have CB := Lib.hid cB
            have HKP := Lib.hid (lsJ_keep (fit := fitT s m) (len := txtLen) (cost := sigCost) (tb := (dpL (fitT s) txtLen sigCost ps s.size k)) HX.out (fun v hv => by rw [valP_no (show fitT s m (t, xs) = false from hbg)] at hv; cases hv))
            clear cB hbg
            go_wp2_with fail
            go_quiet ((go_at_call 85; exact Calls.quiet_of_same (CB.out _)))
            go_wp2_with fail
            go_roundw
            case rel => exact ⟨j + 1, by omega, by go_num, by rw [HKP.out.1]; exact HBLP.out, by rw [HKP.out.2]; exact HBFP.out, HBP.out.trans (bel_drewN _ _ _)⟩
            case measure => (simp [intOf]; try omega)
          · rw [hbg] at cB
            have CB := Lib.hid cB
            have HF1 : Hid (fitT s m (t, xs) = true) := hbg
            have hl := HAP.out (by rw [show s.size - (k + 1) = m by have := hmk1.out; omega]; exact HF1.out)
            have hl1 : 1 ≤ t.size := hl.1
            have hl2 : t.size ≤ k + 1 := hl.2.1
            have hl3 : xs.length ≤ 3 := hl.2.2
            have hmk2 := hmk1.out
            obtain ⟨ob, hvb⟩ : ∃ ob, (dpL (fitT s) txtLen sigCost ps s.size k)[t.size - 1]? = some ob := ⟨_, List.getElem?_eq_getElem (by rw [dpL_len]; omega)⟩
            have hvb2 : ∀ q, ob = some q → q ≤ 120 := fun q e => by
              have := dpL_txt HBK.out s k (by omega) (t.size - 1) q (by rw [← e]; exact hvb)
              omega
            have c1' := HBLP.out.cell (m + t.size)
            rw [show m + t.size = m + 1 + (t.size - 1) by omega, bigZ_on hvb, show m + 1 + (t.size - 1) = m + t.size by omega] at c1'
            have c0 := HBLP.out.cell m
            rw [bigZ_at] at c0
            have c9 := HBFP.out.cell m
            rw [tblC_at] at c9
            have hbo := bigI_bd (o := ob) fun v hv => by have := hvb2 v hv; omega
            have hbc := bigI_bd (o := (lsJ (fitT s m) txtLen sigCost ps (dpL (fitT s) txtLen sigCost ps s.size k) j)) (lsJ_bd HBK.out s (show m + (k + 1) = s.size by omega) hs40)
            have HVB := Lib.hid hvb
            have HVB2 := Lib.hid hvb2
            have HBC := Lib.hid hbc.2
            obtain ⟨bo, hbo1⟩ : ∃ z, z = bigI ob := ⟨_, rfl⟩
            obtain ⟨bc, hbc1⟩ : ∃ z, z = bigI (lsJ (fitT s m) txtLen sigCost ps (dpL (fitT s) txtLen sigCost ps s.size k) j) := ⟨_, rfl⟩
            obtain ⟨f0, hf0⟩ : ∃ z, z = (fsJ (fitT s m) txtLen sigCost ps (dpL (fitT s) txtLen sigCost ps s.size k) j) := ⟨_, rfl⟩
            rw [← hbo1] at c1' hbo
            rw [← hbc1] at c0 hbc
            rw [← hf0] at c9
            have HBO1 := Lib.hid hbo1
            have HBC1 := Lib.hid hbc1
            clear hbo1 hbc1 hf0 hvb hvb2 cB hbg hl
            have i1 : IntKind.i64.wrap ((m : Int) + (t.size : Int)) = (m : Int) + (t.size : Int) := wrap_in (by omega)
            have i2 : (0 : Int) ≤ (m : Int) + (t.size : Int) := by omega
            have i3 : (m : Int) + (t.size : Int) < (s.size : Int) + 1 := by omega
            have i4 : ((m : Int) + (t.size : Int)).toNat = m + t.size := by omega
            have i5 : IntKind.i64.wrap (bo + (xs.length : Int)) = bo + (xs.length : Int) := wrap_in (by omega)
            go_wp2_with fail
            go_quiet ((go_at_call 85; exact Calls.quiet_of_same (CB.out _)))
            go_wp2_with fail
            have d0 : ((wr.alloc (.cells #[.string t, .slice A2 xs.length c2] 40)).drewN nq).cell? ⟨(w.heap.size + 1), m, Option.none⟩ = some (.int .i64 bc) := c0
            have d1 : ((wr.alloc (.cells #[.string t, .slice A2 xs.length c2] 40)).drewN nq).cell? ⟨(w.heap.size + 1), m + t.size, Option.none⟩ = some (.int .i64 bo) := c1'
            have d2 : ((wr.alloc (.cells #[.string t, .slice A2 xs.length c2] 40)).drewN nq).frozen? ⟨(w.heap.size + 1), m, Option.none⟩ = false := HBLP.out.frozen m
            have d3 : ((wr.alloc (.cells #[.string t, .slice A2 xs.length c2] 40)).drewN nq).cell? ⟨wr.heap.size, 0, Option.none⟩ = some (.string t) := (Blk.new wr 40 #[.string t, .slice A2 xs.length c2]).cell 0
            have d4 : ((wr.alloc (.cells #[.string t, .slice A2 xs.length c2] 40)).drewN nq).cell? ⟨wr.heap.size, 1, Option.none⟩ = some (.slice A2 xs.length c2) := (Blk.new wr 40 #[.string t, .slice A2 xs.length c2]).cell 1
            have d8 : ((wr.alloc (.cells #[.string t, .slice A2 xs.length c2] 40)).drewN nq).cell? ⟨(w.heap.size + 1 + 1), m, Option.none⟩ = some (.int .i64 (f0 : Int)) := c9
            have d9 : ((wr.alloc (.cells #[.string t, .slice A2 xs.length c2] 40)).drewN nq).frozen? ⟨(w.heap.size + 1 + 1), m, Option.none⟩ = false := HBFP.out.frozen m
            have HBQ := Lib.hid (HBP.out.trans (bel_drewN (w.heap.size + 1) (wr.alloc (.cells #[.string t, .slice A2 xs.length c2] 40)) nq))
            have HBLQ : Hid (Blk ((wr.alloc (.cells #[.string t, .slice A2 xs.length c2] 40)).drewN nq) (w.heap.size + 1) 3 (bigZ m ((lsJ (fitT s m) txtLen sigCost ps (dpL (fitT s) txtLen sigCost ps s.size k) j) :: (dpL (fitT s) txtLen sigCost ps s.size k)))) := HBLP.out
            have HBFQ : Hid (Blk ((wr.alloc (.cells #[.string t, .slice A2 xs.length c2] 40)).drewN nq) (w.heap.size + 1 + 1) 3 (tblC m (fsJ (fitT s m) txtLen sigCost ps (dpL (fitT s) txtLen sigCost ps s.size k) j) (fstD (fitT s) txtLen sigCost ps s.size k))) := HBFP.out
            clear c0 c1' c9
            generalize (wr.alloc (.cells #[.string t, .slice A2 xs.length c2] 40)).drewN nq = wq at d0 d1 d2 d3 d4 d8 d9 HBQ HBLQ HBFQ ⊢
            by_cases hlt2 : bo + (xs.length : Int) < bc
            · go_quiet (fail)
              have e0 : (wq.drewN nq).cell? ⟨(w.heap.size + 1), m, Option.none⟩ = some (.int .i64 bc) := d0
              have e2 : (wq.drewN nq).frozen? ⟨(w.heap.size + 1), m, Option.none⟩ = false := d2
              have e8 : (wq.drewN nq).cell? ⟨(w.heap.size + 1 + 1), m, Option.none⟩ = some (.int .i64 (f0 : Int)) := d8
              have e9 : (wq.drewN nq).frozen? ⟨(w.heap.size + 1 + 1), m, Option.none⟩ = false := d9
              have HBQ2 := Lib.hid (HBQ.out.trans (bel_drewN (w.heap.size + 1) wq nq))
              have HBLQ2 : Hid (Blk (wq.drewN nq) (w.heap.size + 1) 3 (bigZ m ((lsJ (fitT s m) txtLen sigCost ps (dpL (fitT s) txtLen sigCost ps s.size k) j) :: (dpL (fitT s) txtLen sigCost ps s.size k)))) := HBLQ.out
              have HBFQ2 : Hid (Blk (wq.drewN nq) (w.heap.size + 1 + 1) 3 (tblC m (fsJ (fitT s m) txtLen sigCost ps (dpL (fitT s) txtLen sigCost ps s.size k) j) (fstD (fitT s) txtLen sigCost ps s.size k))) := HBFQ.out
              clear d0 d1 d2 d3 d4 d8 d9 HBQ HBLQ HBFQ i1 i2 i3 i4
              generalize wq.drewN nq = wp at e0 e2 e8 e9 HBQ2 HBLQ2 HBFQ2 ⊢
              have HNEW := Lib.hid (big_new HX.out HF1.out HVB.out HBC.out (by rw [← HBO1.out, ← HBC1.out]; exact hlt2))
              have HB1S := Lib.hid (HBLQ2.out.set_ m (.int .i64 (bo + (xs.length : Int))))
              have e10 : (wp.setCell ⟨(w.heap.size + 1), m, Option.none⟩ (.int .i64 (bo + (xs.length : Int)))).cell? ⟨(w.heap.size + 1 + 1), m, Option.none⟩ = some (.int .i64 (f0 : Int)) := (World.cell?_setCell_other _ ⟨(w.heap.size + 1), m, Option.none⟩ ⟨(w.heap.size + 1 + 1), m, Option.none⟩ _ (by simp)).trans e8
              have e11 : (wp.setCell ⟨(w.heap.size + 1), m, Option.none⟩ (.int .i64 (bo + (xs.length : Int)))).frozen? ⟨(w.heap.size + 1 + 1), m, Option.none⟩ = false := by simpa using e9
              go_wp2_with fail
              go_roundw
              case rel =>
                obtain ⟨nv, hn1, hn2, hn3⟩ := HNEW.out
                refine ⟨j + 1, by omega, by go_num, ?_, ?_, (HBQ2.out.setCell (Nat.le_refl _) _).setCell (by show (w.heap.size + 1) ≤ (w.heap.size + 1 + 1); omega) _⟩
                · show Blk _ _ _ (bigZ m ((lsJ (fitT s m) txtLen sigCost ps (dpL (fitT s) txtLen sigCost ps s.size k) (j + 1)) :: (dpL (fitT s) txtLen sigCost ps s.size k)))
                  rw [hn2]
                  have h1 := HB1S.out
                  rw [show bo + (xs.length : Int) = bigI (some nv) by rw [HBO1.out]; exact hn1, bigZ_set] at h1
                  rw [show bo + (xs.length : Int) = bigI (some nv) by rw [HBO1.out]; exact hn1]
                  exact (Below.heap_setCell _ _ _ _ (by show (w.heap.size + 1) ≠ (w.heap.size + 1 + 1); omega)).trans h1
                · show Blk _ _ _ (tblC m (fsJ (fitT s m) txtLen sigCost ps (dpL (fitT s) txtLen sigCost ps s.size k) (j + 1)) (fstD (fitT s) txtLen sigCost ps s.size k))
                  rw [hn3]
                  have h2 := Blk.set_ (show Blk (wp.setCell ⟨(w.heap.size + 1), m, Option.none⟩ (.int .i64 (bo + (xs.length : Int)))) (w.heap.size + 1 + 1) 3 (tblC m (fsJ (fitT s m) txtLen sigCost ps (dpL (fitT s) txtLen sigCost ps s.size k) j) (fstD (fitT s) txtLen sigCost ps s.size k)) from (Below.heap_setCell _ _ _ _ (by show (w.heap.size + 1 + 1) ≠ (w.heap.size + 1); omega)).trans HBFQ2.out) m (.int .i64 ((j : Nat) : Int))
                  rw [tblC_set] at h2
                  exact h2
              case measure => (simp [intOf]; try omega)
            · go_quiet (fail)
              have e0 : (wq.drewN nq).cell? ⟨(w.heap.size + 1), m, Option.none⟩ = some (.int .i64 bc) := d0
              have e2 : (wq.drewN nq).frozen? ⟨(w.heap.size + 1), m, Option.none⟩ = false := d2
              have e8 : (wq.drewN nq).cell? ⟨(w.heap.size + 1 + 1), m, Option.none⟩ = some (.int .i64 (f0 : Int)) := d8
              have e9 : (wq.drewN nq).frozen? ⟨(w.heap.size + 1 + 1), m, Option.none⟩ = false := d9
              have HBQ2 := Lib.hid (HBQ.out.trans (bel_drewN (w.heap.size + 1) wq nq))
              have HBLQ2 : Hid (Blk (wq.drewN nq) (w.heap.size + 1) 3 (bigZ m ((lsJ (fitT s m) txtLen sigCost ps (dpL (fitT s) txtLen sigCost ps s.size k) j) :: (dpL (fitT s) txtLen sigCost ps s.size k)))) := HBLQ.out
              have HBFQ2 : Hid (Blk (wq.drewN nq) (w.heap.size + 1 + 1) 3 (tblC m (fsJ (fitT s m) txtLen sigCost ps (dpL (fitT s) txtLen sigCost ps s.size k) j) (fstD (fitT s) txtLen sigCost ps s.size k))) := HBFQ.out
              clear d0 d1 d2 d3 d4 d8 d9 HBQ HBLQ HBFQ i1 i2 i3 i4
              generalize wq.drewN nq = wp at e0 e2 e8 e9 HBQ2 HBLQ2 HBFQ2 ⊢
              have HKP := Lib.hid (big_keep (len := txtLen) (cost := sigCost) HX.out HF1.out HVB.out (fun v hv => by have := HVB2.out v hv; show v + sigCost (t, xs) ≤ _; show v + xs.length ≤ _; omega) (by rw [← HBO1.out, ← HBC1.out]; exact hlt2) : lsJ (fitT s m) txtLen sigCost ps _ (j + 1) = _ ∧ fsJ (fitT s m) txtLen sigCost ps _ (j + 1) = _)
              have hlt3 : bc ≤ bo + (xs.length : Int) := by omega
              have hlt4 : decide (bo + (xs.length : Int) < bc) = false := decide_eq_false hlt2
              go_wp2_with fail
              go_roundw
              case rel => exact ⟨j + 1, by omega, by go_num, by rw [HKP.out.1]; exact HBLQ2.out, by rw [HKP.out.2]; exact HBFQ2.out, HBQ2.out⟩
              case measure => (simp [intOf]; try omega)
        · obtain rfl : j = ps.length := by omega
          go_wp2_with fail
          go_roundw
          case rel => exact ⟨m, k + 1, (m : Int) - 1, by have := hmk1.out; show m + (k + 1) = _; omega, rfl, rfl, by
            have h1 := hblk2.out
            show Blk _ _ _ (bigZ m (dpL _ _ _ _ _ (k + 1)))
            rw [← (lsJ_end (fit := fitT s) (len := txtLen) (cost := sigCost) (ps := ps) (show m + (k + 1) = s.size by have := hmk1.out; omega)).1]; exact h1, by
            have h1 := hblf2.out
            show Blk _ _ _ (tblZ m (fstD _ _ _ _ _ (k + 1)))
            rw [← (lsJ_end (fit := fitT s) (len := txtLen) (cost := sigCost) (ps := ps) (show m + (k + 1) = s.size by have := hmk1.out; omega)).2]; exact h1, hbr2⟩
          case measure => (simp [intOf]; try omega)
end Go.Proofs.Ytjnkdjokbamibaa
/- Plain laws: the phrases that spell letters, as numbers; their signals. -/
namespace Go.Proofs.Ytjnkdjokbamibaa
open Go.RowKit
/-- The phrases of the least length, as numbers, if letters can be asked for and spelled. -/
def spellN (ps : List Phr) (s : ByteArray) : List Nat := match leastO ps s with
  | some _ => pathT ps s
  | Option.none => []
theorem spellN_no {ps : List Phr} {s : ByteArray} (h : leastO ps s = Option.none) : spellN ps s = [] := by unfold spellN; rw [h]
theorem spellN_yes {ps : List Phr} {s : ByteArray} {n : Nat} (h : leastO ps s = some n) : spellN ps s = pathT ps s := by unfold spellN; rw [h]
theorem leastO_ask {ps : List Phr} {s : ByteArray} {n : Nat} (h : leastO ps s = some n) : (bookB ps && lettB s) = true := by
  cases hb : (bookB ps && lettB s)
  · rw [leastO_no hb] at h; cases h
  · rfl
theorem spellL_N {ps : List Phr} {s : ByteArray} (h : (bookB ps && lettB s) = true) : spellL ps s = waysI (spellN ps s) := by
  unfold spellL spellN
  rw [leastO_yes h]
  cases (tblT ps s).getD 0 Option.none <;> rfl
theorem spellQ_O {ps : List Phr} {s : ByteArray} (h : (bookB ps && lettB s) = true) : spellQ ps s = (leastO ps s).isSome := by
  unfold spellQ; rw [leastO_yes h]
theorem lettB_len {s : ByteArray} (h : lettB s = true) : s.size ≤ 40 := by
  unfold lettB at h; rw [Bool.and_eq_true, decide_eq_true_eq] at h; exact h.2
theorem fstAt_lt {val : Phr → Option Nat} {ps : List Phr} {cur : Option Nat} {i : Nat} (h : fstAt val ps cur = some i) : i < ps.length := by
  unfold fstAt at h
  split at h
  · cases h
  · rw [List.findIdx?_eq_some_iff_getElem] at h
    obtain ⟨hi, _⟩ := h
    exact hi
theorem spellN_lt (ps : List Phr) (s : ByteArray) : ∀ i ∈ spellN ps s, i < ps.length := by
  unfold spellN
  split
  · intro i hi
    exact path_mem (P := fun i => i < ps.length) (fun m i h => fstAt_lt h) _ _ i hi
  · intro i hi; cases hi
theorem spellN_len (ps : List Phr) (s : ByteArray) : (spellN ps s).length ≤ 40 := by
  cases h : leastO ps s with
  | none => rw [spellN_no h]; simp
  | some n =>
    have hb := leastO_ask h
    rw [Bool.and_eq_true] at hb
    rw [spellN_yes h]
    exact Nat.le_trans (pathF_len _ _) (lettB_len hb.2)
/-- The signals of what spells letters are as many as told. -/
theorem enc_len {ps : List Phr} {s : ByteArray} {n : Nat} (h : leastO ps s = some n) : (sigsOf ps (spellN ps s)).length = n := by
  have hb := leastO_ask h
  rw [leastO_yes hb] at h
  rw [Bool.and_eq_true] at hb
  rw [spellN_yes (by rw [leastO_yes (by rw [hb.1, hb.2]; rfl)]; exact h), sigsOf_len]
  exact path_cost (fun m p hp hf => fit_hyp hb.1 s m p hp hf) _ _ _ (by omega) h
theorem enc_none {ps : List Phr} {s : ByteArray} (h : leastO ps s = Option.none) : sigsOf ps (spellN ps s) = [] := by rw [spellN_no h]; rfl
theorem sigsOf_bd {ps : List Phr} (h : bookB ps = true) : ∀ l : List Nat, (sigsOf ps l).length ≤ 3 * l.length
  | [] => by simp [sigsOf]
  | i :: l => by
    have ih := sigsOf_bd h l
    unfold sigsOf at ih ⊢
    rw [List.flatMap_cons, List.length_append, List.length_cons]
    cases e : ps[i]? with
    | none => simp only [Option.map_none, Option.getD_none, List.length_nil]; omega
    | some p =>
      have := (phrOk_sig (bookB_phr h (List.mem_of_getElem? e))).2.1
      simp only [Option.map_some, Option.getD_some]; omega
theorem waysI_at {l : List Nat} {k i : Nat} (h : l[k]? = some i) : (waysI l)[k]? = some (i : Int) := by unfold waysI; rw [List.getElem?_map, h]; rfl
theorem retOwT_pass {w w1 w2 : World} {v : Value} {xs : List Int} {b : Bool} (h : OwI w2 w1.heap.size w2.heap.size v xs) (hb1 : Below w.heap.size w w1) (hb2 : Below w1.heap.size w1 w2) : RetOwT xs b w (.returned (.tuple #[v, .bool b])) w2 :=
  ⟨v, rfl, h.mono hb1.size (Nat.le_refl _), hb1.trans (hb2.mono hb1.size)⟩
end Go.Proofs.Ytjnkdjokbamibaa
/- Contracts: the phrases that spell letters, asked for; of the program and of the reference. -/
namespace Go.Proofs.Ytjnkdjokbamibaa
open Go.RowKit
set_option maxRecDepth 100000 in
set_option maxHeartbeats 4000000 in
theorem sSpellMessage_any (ps : List Phr) (s : ByteArray) (v : Value) (hi : Nat) (w : World) (hs0 : s.size ≤ maxLen) (h : RdB w hi v ps) (hh : hi ≤ w.heap.size) :
    Calls Try.prog 23 #[v, .string s] w (RetOwT (waysI (spellN ps s)) (leastO ps s).isSome w) := by
  obtain ⟨a, rfl, ha⟩ := h
  obtain ⟨A, c, rfl, hc, hm⟩ := ha.form
  have hba : Below w.heap.size w (w.alloc (.cells #[.slice A ps.length c] 28)) := (Below.refl _ _).alloc (Nat.le_refl _) _
  have HB := Lib.hid hba
  have HA := Lib.hid (ha.below hba hh)
  have HG : Hid (RdB (w.alloc (.cells #[.slice A ps.length c] 28)) hi (.agg #[.slice A ps.length c]) ps) := ⟨_, rfl, HA.out⟩
  have hcb0 : (w.alloc (.cells #[.slice A ps.length c] 28)).cell? ⟨w.heap.size, 0, Option.none⟩ = some (.slice A ps.length c) := (Blk.new w 28 #[.slice A ps.length c]).cell 0
  have HCB := Lib.hid hcb0
  have hsz1 : hi ≤ (w.alloc (.cells #[.slice A ps.length c] 28)).heap.size := by simp; omega
  clear ha hba hcb0
  have cB := spAsked_any ps s (.agg #[.slice A ps.length c]) hi (w.alloc (.cells #[.slice A ps.length c] 28)) hs0 HG.out hsz1
  cases hbr : (bookB ps && lettB s)
  · rw [hbr] at cB
    have CB := Lib.hid cB
    have HRB := Lib.hid hbr
    clear cB hbr
    go_enter Try.func23, Try.ntmps23
    go_wp2_with (go_at_call 81; refine CB.out.mono ?_; rintro e w1 ⟨rfl, hb1⟩)
    go_ret2
    exact (by show RetOwT _ _ _ _ _; rw [spellN_no (leastO_no HRB.out), (leastO_no HRB.out)]; exact retOwT _ (GrowI.nil (HB.out.trans (hb1.mono (by simp)))))
  · rw [hbr] at cB
    have CB := Lib.hid cB
    have HRB := Lib.hid hbr
    rw [Bool.and_eq_true] at hbr
    have HBK := Lib.hid hbr.1
    have hs40 : s.size ≤ 40 := by have := hbr.2; unfold lettB at this; rw [Bool.and_eq_true, decide_eq_true_eq] at this; exact this.2
    clear cB hbr
    go_enter Try.func23, Try.ntmps23
    go_wp2_with fail
    refine CB.out.mono ?_
    rintro e w1 ⟨rfl, hb1⟩
    have hcb := (hb1.cell (p := ⟨w.heap.size, 0, Option.none⟩) (by simp)).trans HCB.out
    have hs1 : w.heap.size + 1 ≤ w1.heap.size := by have := hb1.size; simpa using this
    have HA1 := Lib.hid (HA.out.below hb1 hsz1)
    have HG1 : Hid (RdB w1 hi (.agg #[.slice A ps.length c]) ps) := ⟨_, rfl, HA1.out⟩
    have HB1 := Lib.hid (HB.out.trans (hb1.mono (by simp)))
    clear hb1
    have cS := spSpell_any ps s (.agg #[.slice A ps.length c]) hi w1 HG1.out (by omega) HBK.out hs40
    have CS := Lib.hid cS
    clear cS
    go_wp2_with fail
    refine CS.out.mono ?_
    rintro e w2 ⟨q, rfl, hq, hb2⟩
    have HQ := Lib.hid hq
    have HB2 := Lib.hid hb2
    clear hq hb2
    go_wp2_with fail
    go_ret2
    show RetOwT _ _ _ _ _
    rw [← spellL_N HRB.out, ← spellQ_O HRB.out]
    exact retOwT_pass HQ.out HB1.out HB2.out
set_option maxRecDepth 100000 in
set_option maxHeartbeats 4000000 in
theorem SpellMessage_any (ps : List Phr) (s : ByteArray) (v : Value) (hi : Nat) (w : World) (hs0 : s.size ≤ maxLen) (h : RdB w hi v ps) (hh : hi ≤ w.heap.size) :
    Calls Try.prog 22 #[v, .string s] w (RetOwT (waysI (spellN ps s)) (leastO ps s).isSome w) := by
  obtain ⟨a, rfl, ha⟩ := h
  obtain ⟨A, c, rfl, hc, hm⟩ := ha.form
  have hba : Below w.heap.size w (w.alloc (.cells #[.slice A ps.length c] 28)) := (Below.refl _ _).alloc (Nat.le_refl _) _
  have HB := Lib.hid hba
  have HA := Lib.hid (ha.below hba hh)
  have HG : Hid (RdB (w.alloc (.cells #[.slice A ps.length c] 28)) hi (.agg #[.slice A ps.length c]) ps) := ⟨_, rfl, HA.out⟩
  have hcb0 : (w.alloc (.cells #[.slice A ps.length c] 28)).cell? ⟨w.heap.size, 0, Option.none⟩ = some (.slice A ps.length c) := (Blk.new w 28 #[.slice A ps.length c]).cell 0
  have HCB := Lib.hid hcb0
  have hsz1 : hi ≤ (w.alloc (.cells #[.slice A ps.length c] 28)).heap.size := by simp; omega
  clear ha hba hcb0
  have cB := IsBook_any ps (.agg #[.slice A ps.length c]) hi (w.alloc (.cells #[.slice A ps.length c] 28)) HG.out hsz1
  cases hbk : bookB ps
  · rw [hbk] at cB
    have CB := Lib.hid cB
    clear cB
    go_enter Try.func22, Try.ntmps22
    go_wp2_with (go_at_call 71; refine CB.out.mono ?_; rintro e w1 ⟨rfl, hb1⟩)
    go_ret2
    exact (by show RetOwT _ _ _ _ _; rw [spellN_no (leastO_no (by rw [hbk]; rfl)), (leastO_no (by rw [hbk]; rfl))]; exact retOwT _ (GrowI.nil (HB.out.trans (hb1.mono (by simp)))))
  · rw [hbk] at cB
    have CB := Lib.hid cB
    have HBK := Lib.hid hbk
    clear cB
    go_enter Try.func22, Try.ntmps22
    go_wp2_with fail
    refine CB.out.mono ?_
    rintro e w1 ⟨rfl, hb1⟩
    have hcb := (hb1.cell (p := ⟨w.heap.size, 0, Option.none⟩) (by simp)).trans HCB.out
    have hs1 : w.heap.size + 1 ≤ w1.heap.size := by have := hb1.size; simpa using this
    have HA1 := Lib.hid (HA.out.below hb1 hsz1)
    have HG1 : Hid (RdB w1 hi (.agg #[.slice A ps.length c]) ps) := ⟨_, rfl, HA1.out⟩
    have HB1 := Lib.hid (HB.out.trans (hb1.mono (by simp)))
    clear hb1
    have cL := isLetters_any s hs0 w1
    cases hls : lettB s
    · rw [hls] at cL
      have CL := Lib.hid cL
      have HLS : Hid ((bookB ps && lettB s) = false) := by show (bookB ps && lettB s) = false; rw [hls, Bool.and_false]
      clear cL hls
      go_wp2_with (go_at_call 79; refine (CL.out).mono ?_; rintro e w' ⟨rfl, rfl⟩)
      go_ret2
      exact (by show RetOwT _ _ _ _ _; rw [spellN_no (leastO_no HLS.out), (leastO_no HLS.out)]; exact retOwT _ (GrowI.nil (HB1.out)))
    · rw [hls] at cL
      have CL := Lib.hid cL
      have HRB : Hid ((bookB ps && lettB s) = true) := by show (bookB ps && lettB s) = true; rw [hls, HBK.out]; rfl
      have hs40 := lettB_len hls
      clear cL hls
      have cS := spell_any ps s (.agg #[.slice A ps.length c]) hi w1 HG1.out (by omega) HBK.out hs40
      have CS := Lib.hid cS
      clear cS
      go_wp2_with (go_at_call 79; refine (CL.out).mono ?_; rintro e w' ⟨rfl, rfl⟩)
      refine CS.out.mono ?_
      rintro e w2 ⟨q, rfl, hq, hb2⟩
      have HQ := Lib.hid hq
      have HB2 := Lib.hid hb2
      clear hq hb2
      go_wp2_with fail
      go_ret2
      show RetOwT _ _ _ _ _
      rw [← spellL_N HRB.out, ← spellQ_O HRB.out]
      exact retOwT_pass HQ.out HB1.out HB2.out
end Go.Proofs.Ytjnkdjokbamibaa
/- Contracts: the signals of what spells letters, one after the other, and how many; of the program and of the reference. -/
namespace Go.Proofs.Ytjnkdjokbamibaa
open Go.RowKit
theorem spellN_book {ps : List Phr} {s : ByteArray} (h : 0 < (spellN ps s).length) : bookB ps = true := by
  cases hl : leastO ps s with
  | none => rw [spellN_no hl] at h; simp at h
  | some n => have := leastO_ask hl; rw [Bool.and_eq_true] at this; exact this.1
/-- What the loop over the phrases' numbers leans on. -/
structure NumsOk (ps : List Phr) (l : List Nat) : Prop where
  lt : ∀ i ∈ l, i < ps.length
  len : l.length ≤ 40
  book : 0 < l.length → bookB ps = true
theorem spellN_ok (ps : List Phr) (s : ByteArray) : NumsOk ps (spellN ps s) := ⟨spellN_lt ps s, spellN_len ps s, spellN_book⟩
theorem NumsOk.at_ {ps : List Phr} {l : List Nat} (h : NumsOk ps l) {k : Nat} (hk : k < l.length) : ∃ i p, l[k]? = some i ∧ ps[i]? = some p ∧ i < ps.length ∧ (sigsOf ps (l.take k)).length + p.2.length ≤ 1000 := by
  have hi := h.lt l[k] (List.getElem_mem hk)
  have hb := h.book (by omega)
  refine ⟨l[k], ps[l[k]], List.getElem?_eq_getElem hk, List.getElem?_eq_getElem hi, hi, ?_⟩
  have h1 := sigsOf_bd hb (l.take k)
  have h2 := (phrOk_sig (bookB_phr hb (List.getElem_mem hi))).2.1
  have h3 := h.len
  rw [List.length_take] at h1
  omega
theorem enc_le (ps : List Phr) (s : ByteArray) : (sigsOf ps (spellN ps s)).length ≤ 120 := by
  cases h : leastO ps s with
  | none => rw [enc_none h]; simp
  | some n =>
    have hb := leastO_ask h
    rw [Bool.and_eq_true] at hb
    have h1 := sigsOf_bd hb.1 (spellN ps s)
    have h2 := spellN_len ps s
    omega
theorem enc_val {ps : List Phr} {s : ByteArray} : Value.tuple #[.int .i64 ((sigsOf ps (spellN ps s)).length : Nat), .bool (leastO ps s).isSome] = lstV (leastO ps s) := by
  cases h : leastO ps s with
  | none => rw [enc_none h]; rfl
  | some n => rw [enc_len h]; rfl
set_option maxRecDepth 100000 in
set_option maxHeartbeats 4000000 in
theorem EncodeMessage_any (ps : List Phr) (s : ByteArray) (v : Value) (hi : Nat) (w : World) (hs0 : s.size ≤ maxLen) (h : RdB w hi v ps) (hh : hi ≤ w.heap.size) :
    Calls Try.prog 24 #[v, .string s] w (RetOwT (sigsOf ps (spellN ps s)) (leastO ps s).isSome w) := by
  obtain ⟨a, rfl, ha⟩ := h
  obtain ⟨A, c, rfl, hc, hm⟩ := ha.form
  have hba : Below w.heap.size w (w.alloc (.cells #[.slice A ps.length c] 28)) := (Below.refl _ _).alloc (Nat.le_refl _) _
  have HB := Lib.hid hba
  have HA := Lib.hid (ha.below hba hh)
  have HG : Hid (RdB (w.alloc (.cells #[.slice A ps.length c] 28)) hi (.agg #[.slice A ps.length c]) ps) := ⟨_, rfl, HA.out⟩
  have hcb0 : (w.alloc (.cells #[.slice A ps.length c] 28)).cell? ⟨w.heap.size, 0, Option.none⟩ = some (.slice A ps.length c) := (Blk.new w 28 #[.slice A ps.length c]).cell 0
  have HCB := Lib.hid hcb0
  have hsz1 : hi ≤ (w.alloc (.cells #[.slice A ps.length c] 28)).heap.size := by simp; omega
  clear ha hba hcb0
  have cS := SpellMessage_any ps s (.agg #[.slice A ps.length c]) hi (w.alloc (.cells #[.slice A ps.length c] 28)) hs0 HG.out hsz1
  have hn := spellN_ok ps s
  obtain ⟨l, hl⟩ : ∃ l, l = spellN ps s := ⟨_, rfl⟩
  obtain ⟨bq, hbq⟩ : ∃ b, b = (leastO ps s).isSome := ⟨_, rfl⟩
  rw [← hl, ← hbq] at cS ⊢
  rw [← hl] at hn
  have HN := Lib.hid hn
  have CS := Lib.hid cS
  have hl40 := hn.len
  clear cS hn hl hbq
  go_enter Try.func24, Try.ntmps24
  go_wp2_with fail
  refine CS.out.mono ?_
  rintro e w1 ⟨q, rfl, hq, hb1⟩
  obtain ⟨Aq, cq, hqv, hqm⟩ := hq.form
  rw [waysI_len] at hqv hqm
  subst hqv
  have hcb := (hb1.cell (p := ⟨w.heap.size, 0, Option.none⟩) (by simp)).trans HCB.out
  have hs1 : w.heap.size + 1 ≤ w1.heap.size := by have := hb1.size; simpa using this
  have HA1 := Lib.hid (HA.out.below hb1 hsz1)
  have HB1 := Lib.hid (HB.out.trans (hb1.mono (by simp)))
  have HQ := Lib.hid hq
  clear hq hb1
  go_wp2_with fail
  go_loopw [8, 19] (fun v i wr => ∃ k : Nat, k ≤ l.length ∧ i = .int .i64 k ∧ Hid (GrowI w1 w1.heap.size wr v (sigsOf ps (l.take k)))) (fun _ i _ => l.length - (intOf i).toNat)
  case atStart => exact ⟨0, Nat.zero_le _, rfl, GrowI.start w1⟩
  case round =>
    obtain ⟨k, hk, rfl, hg⟩ := hrel
    have hsr0 := hg.out.2.1.size
    have hsr1 := hg.out.2.2
    by_cases hlt : k < l.length
    · obtain ⟨i, p, hik, hp, hil, hbd⟩ := HN.out.at_ hlt
      obtain ⟨b1, o1, c1, y, hv, _, hy, hcell1⟩ := Rd.at_ (RdI.below HQ.out.rd hg.out.2.1 (Nat.le_refl _)) (k := k) (by rw [waysI_len]; exact hlt)
      rw [waysI_len] at hv
      injection hv with hv1 hv2 hv3
      subst hv1
      rw [waysI_at hik] at hy
      cases hy
      obtain ⟨b2, o2, c2, a2, t, xs, hv, _, hx, hcell2, hcell3, hra, hta⟩ := (HA1.out.below hg.out.2.1 (by omega)).at_ hil
      injection hv with hv1 hv2 hv3
      subst hv1
      rw [hp] at hx
      cases hx
      have hcbr := (hg.out.2.1.cell (p := ⟨w.heap.size, 0, Option.none⟩) (by show w.heap.size < w1.heap.size; omega)).trans hcb
      have HIK := Lib.hid hik
      have HP := Lib.hid hp
      have HRA := Lib.hid hra
      have hbd2 : (sigsOf ps (l.take k)).length + xs.length ≤ 1000 := hbd
      clear hv2 hv3 hik hp hra hcell2 hbd
      go_wp2_with (at_builtin; refine GrowI.appI rfl (.tmp 23) (.tmp 29) rfl hg.out HRA.out (by omega) rfl rfl ?_; intro v' w5 hG')
      go_roundw
      case rel =>
        refine ⟨_, _, _, ⟨k + 1, by omega, ?_, ?_⟩, rfl, rfl, rfl⟩
        · go_num
        · show GrowI _ _ _ _ _
          rw [take_snocN HIK.out, sigsOf_snoc HP.out]; exact hG'
      case measure => simp [intOf]; omega
    · obtain rfl : k = l.length := by omega
      go_wp2_with fail
      go_ret2
      show RetOwT _ _ _ _ _
      have hgo := hg.out
      rw [List.take_of_length_le (Nat.le_refl _)] at hgo
      exact retOwT_from _ hgo HB1.out (by omega)
set_option maxRecDepth 100000 in
set_option maxHeartbeats 4000000 in
theorem spEncode_any (ps : List Phr) (s : ByteArray) (v : Value) (hi : Nat) (w : World) (h : RdB w hi v ps) (hh : hi ≤ w.heap.size) (hbr : (bookB ps && lettB s) = true) :
    Calls Try.prog 83 #[v, .string s] w (RetOwT (sigsOf ps (spellN ps s)) (leastO ps s).isSome w) := by
  obtain ⟨a, rfl, ha⟩ := h
  obtain ⟨A, c, rfl, hc, hm⟩ := ha.form
  have hba : Below w.heap.size w (w.alloc (.cells #[.slice A ps.length c] 28)) := (Below.refl _ _).alloc (Nat.le_refl _) _
  have HB := Lib.hid hba
  have HA := Lib.hid (ha.below hba hh)
  have HG : Hid (RdB (w.alloc (.cells #[.slice A ps.length c] 28)) hi (.agg #[.slice A ps.length c]) ps) := ⟨_, rfl, HA.out⟩
  have hcb0 : (w.alloc (.cells #[.slice A ps.length c] 28)).cell? ⟨w.heap.size, 0, Option.none⟩ = some (.slice A ps.length c) := (Blk.new w 28 #[.slice A ps.length c]).cell 0
  have HCB := Lib.hid hcb0
  have hsz1 : hi ≤ (w.alloc (.cells #[.slice A ps.length c] 28)).heap.size := by simp; omega
  clear ha hba hcb0
  have hbr2 := hbr
  rw [Bool.and_eq_true] at hbr2
  have cS := spSpell_any ps s (.agg #[.slice A ps.length c]) hi (w.alloc (.cells #[.slice A ps.length c] 28)) HG.out hsz1 hbr2.1 (lettB_len hbr2.2)
  rw [spellL_N hbr, spellQ_O hbr] at cS
  have hn := spellN_ok ps s
  have hnone : (leastO ps s).isSome = false → spellN ps s = [] := fun h => spellN_no (by simpa using h)
  obtain ⟨l, hl⟩ : ∃ l, l = spellN ps s := ⟨_, rfl⟩
  obtain ⟨bq, hbq⟩ : ∃ b, b = (leastO ps s).isSome := ⟨_, rfl⟩
  rw [← hl, ← hbq] at cS hnone ⊢
  rw [← hl] at hn
  have HN := Lib.hid hn
  have hl40 := hn.len
  clear hn hl hbq hbr hbr2
  cases bq
  · have CS := Lib.hid cS
    have HNO := Lib.hid (hnone rfl)
    clear cS hnone
    go_enter Try.func83, Try.ntmps83
    go_wp2_with fail
    refine CS.out.mono ?_
    rintro e w1 ⟨q, rfl, hq, hb1⟩
    have HB1 := Lib.hid (HB.out.trans (hb1.mono (by simp)))
    clear hq hb1
    go_wp2_with fail
    go_ret2
    show RetOwT _ _ _ _ _
    rw [HNO.out]
    exact retOwT _ (GrowI.nil HB1.out)
  · have CS := Lib.hid cS
    clear cS hnone
    go_enter Try.func83, Try.ntmps83
    go_wp2_with fail
    refine CS.out.mono ?_
    rintro e w1 ⟨q, rfl, hq, hb1⟩
    obtain ⟨Aq, cq, hqv, hqm⟩ := hq.form
    rw [waysI_len] at hqv hqm
    subst hqv
    have hcb := (hb1.cell (p := ⟨w.heap.size, 0, Option.none⟩) (by simp)).trans HCB.out
    have hs1 : w.heap.size + 1 ≤ w1.heap.size := by have := hb1.size; simpa using this
    have HA1 := Lib.hid (HA.out.below hb1 hsz1)
    have HB1 := Lib.hid (HB.out.trans (hb1.mono (by simp)))
    have HQ := Lib.hid hq
    clear hq hb1
    go_wp2_with fail
    go_loopw [8, 21] (fun v i wr => ∃ k : Nat, k ≤ l.length ∧ i = .int .i64 k ∧ Hid (GrowI w1 w1.heap.size wr v (sigsOf ps (l.take k)))) (fun _ i _ => l.length - (intOf i).toNat)
    case atStart => exact ⟨0, Nat.zero_le _, rfl, GrowI.start w1⟩
    case round =>
      obtain ⟨k, hk, rfl, hg⟩ := hrel
      have hsr0 := hg.out.2.1.size
      have hsr1 := hg.out.2.2
      by_cases hlt : k < l.length
      · obtain ⟨i, p, hik, hp, hil, hbd⟩ := HN.out.at_ hlt
        obtain ⟨b1, o1, c1, y, hv, _, hy, hcell1⟩ := Rd.at_ (RdI.below HQ.out.rd hg.out.2.1 (Nat.le_refl _)) (k := k) (by rw [waysI_len]; exact hlt)
        rw [waysI_len] at hv
        injection hv with hv1 hv2 hv3
        subst hv1
        rw [waysI_at hik] at hy
        cases hy
        obtain ⟨b2, o2, c2, a2, t, xs, hv, _, hx, hcell2, hcell3, hra, hta⟩ := (HA1.out.below hg.out.2.1 (by omega)).at_ hil
        injection hv with hv1 hv2 hv3
        subst hv1
        rw [hp] at hx
        cases hx
        have hcbr := (hg.out.2.1.cell (p := ⟨w.heap.size, 0, Option.none⟩) (by show w.heap.size < w1.heap.size; omega)).trans hcb
        have HIK := Lib.hid hik
        have HP := Lib.hid hp
        have HRA := Lib.hid hra
        have hbd2 : (sigsOf ps (l.take k)).length + xs.length ≤ 1000 := hbd
        clear hv2 hv3 hik hp hra hcell2 hbd
        go_wp2_with (at_builtin; refine GrowI.appI rfl (.tmp 25) (.tmp 31) rfl hg.out HRA.out (by omega) rfl rfl ?_; intro v' w5 hG')
        go_roundw
        case rel =>
          refine ⟨_, _, _, ⟨k + 1, by omega, ?_, ?_⟩, rfl, rfl, rfl⟩
          · go_num
          · show GrowI _ _ _ _ _
            rw [take_snocN HIK.out, sigsOf_snoc HP.out]; exact hG'
        case measure => simp [intOf]; omega
      · obtain rfl : k = l.length := by omega
        go_wp2_with fail
        go_ret2
        show RetOwT _ _ _ _ _
        have hgo := hg.out
        rw [List.take_of_length_le (Nat.le_refl _)] at hgo
        exact retOwT_from _ hgo HB1.out (by omega)
set_option maxRecDepth 100000 in
set_option maxHeartbeats 4000000 in
theorem sEncodeMessage_any (ps : List Phr) (s : ByteArray) (v : Value) (hi : Nat) (w : World) (hs0 : s.size ≤ maxLen) (h : RdB w hi v ps) (hh : hi ≤ w.heap.size) :
    Calls Try.prog 25 #[v, .string s] w (RetOwT (sigsOf ps (spellN ps s)) (leastO ps s).isSome w) := by
  obtain ⟨a, rfl, ha⟩ := h
  obtain ⟨A, c, rfl, hc, hm⟩ := ha.form
  have hba : Below w.heap.size w (w.alloc (.cells #[.slice A ps.length c] 28)) := (Below.refl _ _).alloc (Nat.le_refl _) _
  have HB := Lib.hid hba
  have HA := Lib.hid (ha.below hba hh)
  have HG : Hid (RdB (w.alloc (.cells #[.slice A ps.length c] 28)) hi (.agg #[.slice A ps.length c]) ps) := ⟨_, rfl, HA.out⟩
  have hcb0 : (w.alloc (.cells #[.slice A ps.length c] 28)).cell? ⟨w.heap.size, 0, Option.none⟩ = some (.slice A ps.length c) := (Blk.new w 28 #[.slice A ps.length c]).cell 0
  have HCB := Lib.hid hcb0
  have hsz1 : hi ≤ (w.alloc (.cells #[.slice A ps.length c] 28)).heap.size := by simp; omega
  clear ha hba hcb0
  have cB := spAsked_any ps s (.agg #[.slice A ps.length c]) hi (w.alloc (.cells #[.slice A ps.length c] 28)) hs0 HG.out hsz1
  cases hbr : (bookB ps && lettB s)
  · rw [hbr] at cB
    have CB := Lib.hid cB
    have HRB := Lib.hid hbr
    clear cB hbr
    go_enter Try.func25, Try.ntmps25
    go_wp2_with (go_at_call 81; refine CB.out.mono ?_; rintro e w1 ⟨rfl, hb1⟩)
    go_ret2
    exact (by show RetOwT _ _ _ _ _; rw [spellN_no (leastO_no HRB.out), leastO_no HRB.out]; exact retOwT _ (GrowI.nil (HB.out.trans (hb1.mono (by simp)))))
  · rw [hbr] at cB
    have CB := Lib.hid cB
    have HRB := Lib.hid hbr
    rw [Bool.and_eq_true] at hbr
    have HBK := Lib.hid hbr.1
    have hs40 : s.size ≤ 40 := by have := hbr.2; unfold lettB at this; rw [Bool.and_eq_true, decide_eq_true_eq] at this; exact this.2
    clear cB hbr
    go_enter Try.func25, Try.ntmps25
    go_wp2_with fail
    refine CB.out.mono ?_
    rintro e w1 ⟨rfl, hb1⟩
    have hcb := (hb1.cell (p := ⟨w.heap.size, 0, Option.none⟩) (by simp)).trans HCB.out
    have hs1 : w.heap.size + 1 ≤ w1.heap.size := by have := hb1.size; simpa using this
    have HA1 := Lib.hid (HA.out.below hb1 hsz1)
    have HG1 : Hid (RdB w1 hi (.agg #[.slice A ps.length c]) ps) := ⟨_, rfl, HA1.out⟩
    have HB1 := Lib.hid (HB.out.trans (hb1.mono (by simp)))
    clear hb1
    have cS := spEncode_any ps s (.agg #[.slice A ps.length c]) hi w1 HG1.out (by omega) HRB.out
    have CS := Lib.hid cS
    clear cS
    go_wp2_with fail
    refine CS.out.mono ?_
    rintro e w2 ⟨q, rfl, hq, hb2⟩
    have HQ := Lib.hid hq
    have HB2 := Lib.hid hb2
    clear hq hb2
    go_wp2_with fail
    go_ret2
    show RetOwT _ _ _ _ _
    exact retOwT_pass HQ.out HB1.out HB2.out
set_option maxRecDepth 100000 in
set_option maxHeartbeats 4000000 in
theorem LeastSignals_any (ps : List Phr) (s : ByteArray) (v : Value) (hi : Nat) (w : World) (hs0 : s.size ≤ maxLen) (h : RdB w hi v ps) (hh : hi ≤ w.heap.size) :
    Calls Try.prog 26 #[v, .string s] w fun e w' => e = .returned (lstV (leastO ps s)) ∧ Below w.heap.size w w' := by
  obtain ⟨a, rfl, ha⟩ := h
  obtain ⟨A, c, rfl, hc, hm⟩ := ha.form
  have hba : Below w.heap.size w (w.alloc (.cells #[.slice A ps.length c] 28)) := (Below.refl _ _).alloc (Nat.le_refl _) _
  have HB := Lib.hid hba
  have HA := Lib.hid (ha.below hba hh)
  have HG : Hid (RdB (w.alloc (.cells #[.slice A ps.length c] 28)) hi (.agg #[.slice A ps.length c]) ps) := ⟨_, rfl, HA.out⟩
  have hcb0 : (w.alloc (.cells #[.slice A ps.length c] 28)).cell? ⟨w.heap.size, 0, Option.none⟩ = some (.slice A ps.length c) := (Blk.new w 28 #[.slice A ps.length c]).cell 0
  have HCB := Lib.hid hcb0
  have hsz1 : hi ≤ (w.alloc (.cells #[.slice A ps.length c] 28)).heap.size := by simp; omega
  clear ha hba hcb0
  have cS := EncodeMessage_any ps s (.agg #[.slice A ps.length c]) hi (w.alloc (.cells #[.slice A ps.length c] 28)) hs0 HG.out hsz1
  have hev := enc_val (ps := ps) (s := s)
  obtain ⟨l, hl⟩ : ∃ l, l = sigsOf ps (spellN ps s) := ⟨_, rfl⟩
  obtain ⟨bq, hbq⟩ : ∃ b, b = (leastO ps s).isSome := ⟨_, rfl⟩
  rw [← hl, ← hbq] at cS hev
  rw [← hev]
  have CS := Lib.hid cS
  clear cS hev hl hbq
  go_enter Try.func26, Try.ntmps26
  go_wp2_with fail
  refine CS.out.mono ?_
  rintro e w1 ⟨q, rfl, hq, hb1⟩
  obtain ⟨Aq, cq, rfl, hqm⟩ := hq.form
  have HB1 := Lib.hid (HB.out.trans (hb1.mono (by simp)))
  clear hq hb1
  go_wp2_with fail
  go_ret2
  exact ⟨rfl, HB1.out⟩
end Go.Proofs.Ytjnkdjokbamibaa
/- The library's strings.Builder at this dump: its contracts, laid by hand (the numbers of functions and types put in their places). -/
namespace Go.Proofs.Ytjnkdjokbamibaa
open Go Go.RowKit
def builderRen : Go.Shelf.Ren := ⟨fun | 166 => 138 | 240 => 153 | 276 => 158 | n => n,
  fun | 70 => 123 | 9 => 9 | 0 => 0 | 72 => 125 | 37 => 45 | 3 => 3 | 4 => 4 | 5 => 5 | 20 => 20 | 75 => 127 | 80 => 130 | 164 => 141 | n => n, fun | n => n⟩
theorem laysBuilder : Go.Proofs.Lays.n166 Try.prog builderRen := {
  mixed := by kernel_rfl
  f166 := Try.func138.trans (congrArg some (by kernel_rfl))
  f240 := Try.func153.trans (congrArg some (by kernel_rfl))
  f276 := Try.func158.trans (congrArg some (by kernel_rfl))
  t0 := Try.underlying0
  a0 := Try.isAgg0
  z0 := Try.sizeOf0
  v0 := Try.zeroValue0
  t3 := Try.underlying3
  a3 := Try.isAgg3
  z3 := Try.sizeOf3
  v3 := Try.zeroValue3
  t4 := Try.underlying4
  a4 := Try.isAgg4
  z4 := Try.sizeOf4
  v4 := Try.zeroValue4
  t9 := Try.underlying9
  a9 := Try.isAgg9
  z9 := Try.sizeOf9
  v9 := Try.zeroValue9
  t20 := Try.underlying20
  a20 := Try.isAgg20
  z20 := Try.sizeOf20
  v20 := Try.zeroValue20
  t37 := Try.underlying45
  a37 := Try.isAgg45
  z37 := Try.sizeOf45
  v37 := Try.zeroValue45
  t70 := Try.underlying123
  a70 := Try.isAgg123
  z70 := Try.sizeOf123
  v70 := Try.zeroValue123
  t72 := Try.underlying125
  a72 := Try.isAgg125
  z72 := Try.sizeOf125
  v72 := Try.zeroValue125
  t75 := Try.underlying127
  a75 := Try.isAgg127
  z75 := Try.sizeOf127
  v75 := Try.zeroValue127
  t164 := Try.underlying141
  a164 := Try.isAgg141
  z164 := Try.sizeOf141
  v164 := Try.zeroValue141 }
theorem builderExtra : Builder.Extra Try.prog builderRen := {
  sizeBuilder := by kernel_rfl
  liesBuilder := by kernel_rfl
  t5 := Try.underlying5
  a5 := Try.isAgg5
  z5 := Try.sizeOf5
  v5 := Try.zeroValue5
  infoByte := by kernel_rfl
  cellsByte := by kernel_rfl
  sizeByte := by kernel_rfl
  neB5 := by decide }
/-- A builder of the call's own that holds the bytes l. -/
def Bld (B b : Nat) (l : List UInt8) (w : World) : Prop := Lib.IsBuilder 125 5 B b (Lib.byteCells l) w
theorem writeString_any (B b : Nat) (l : List UInt8) (s : ByteArray) (w : World) (h : Bld B b l w) (hlen : l.length + s.size ≤ 140737488355328) (hBw : B ≤ w.heap.size) :
    Calls Try.prog 138 #[.pointer (some ⟨b, 0, Option.none⟩), .string s] w fun e w' => e = .returned (.tuple #[.int .i64 s.size, .nilIface]) ∧ Bld B b (l ++ s.data.toList) w' ∧ Below B w w' :=
  (Any.Builder_WriteString laysBuilder builderExtra B b (Lib.byteCells l) s w h (by simpa [Lib.byteCells] using hlen) hBw).mono fun _ _ ⟨he, h1, h2⟩ => ⟨he, by
    unfold Bld
    have e : Lib.byteCells (l ++ s.data.toList) = Lib.byteCells l ++ Lib.strCells s := by simp [Lib.byteCells, Lib.strCells]
    rw [e]; exact .inr h1, h2⟩
end Go.Proofs.Ytjnkdjokbamibaa
/- Contracts: the texts of phrases one after the other; of the program and of the reference. -/
namespace Go.Proofs.Ytjnkdjokbamibaa
open Go.RowKit
/-- The text of the phrase with a number. -/
def txtOf (ps : List Phr) (y : Int) : List UInt8 := match ps[y.toNat]? with
  | some p => p.1.data.toList
  | Option.none => []
def textL (ps : List Phr) (l : List Int) : List UInt8 := l.flatMap (txtOf ps)
def IxOk (ps : List Phr) (l : List Int) : Prop := ∀ y ∈ l, 0 ≤ y ∧ y < (ps.length : Int)
theorem textL_snoc {ps : List Phr} {l : List Int} {k : Nat} {y : Int} {p : Phr} (h : l[k]? = some y) (hp : ps[y.toNat]? = some p) : textL ps (l.take (k + 1)) = textL ps (l.take k) ++ p.1.data.toList := by
  unfold textL; rw [take_snocN h, List.flatMap_append]; simp [txtOf, hp]
theorem textL_len {ps : List Phr} (hbk : bookB ps = true) (l : List Int) : (textL ps l).length ≤ 12 * l.length := by
  unfold textL
  induction l with
  | nil => simp
  | cons y r ih =>
    rw [List.flatMap_cons, List.length_append, List.length_cons]
    have : (txtOf ps y).length ≤ 12 := by
      unfold txtOf
      cases e : ps[y.toNat]? with
      | none => simp
      | some p => have := phrOk_txt (bookB_phr hbk (List.mem_of_getElem? e)); simpa using this.2.1
    omega
set_option maxHeartbeats 1600000 in
theorem textOf_any (ps : List Phr) (l : List Int) (v u : Value) (hi hj : Nat) (w : World) (h : RdB w hi v ps) (g : RdI w hj u l) (hh : hi ≤ w.heap.size) (hg : hj ≤ w.heap.size) (hbk : bookB ps = true) (hix : IxOk ps l) (hlen : l.length ≤ 60) :
    Calls Try.prog 88 #[v, u] w fun e w' => e = .returned (.string ⟨(textL ps l).toArray⟩) ∧ Below w.heap.size w w' := by
  obtain ⟨A', c', rfl, hc', hm'⟩ := Rd.form g
  have G := Lib.hid g
  clear g
  obtain ⟨a, rfl, ha⟩ := h
  obtain ⟨A, c, rfl, hc, hm⟩ := ha.form
  have hba : Below w.heap.size w (w.alloc (.cells #[.slice A ps.length c] 28)) := (Below.refl _ _).alloc (Nat.le_refl _) _
  have HB := Lib.hid hba
  have HA := Lib.hid (ha.below hba hh)
  have HG : Hid (RdB (w.alloc (.cells #[.slice A ps.length c] 28)) hi (.agg #[.slice A ps.length c]) ps) := ⟨_, rfl, HA.out⟩
  have hcb0 : (w.alloc (.cells #[.slice A ps.length c] 28)).cell? ⟨w.heap.size, 0, Option.none⟩ = some (.slice A ps.length c) := (Blk.new w 28 #[.slice A ps.length c]).cell 0
  have HCB := Lib.hid hcb0
  have hsz1 : hi ≤ (w.alloc (.cells #[.slice A ps.length c] 28)).heap.size := by simp; omega
  clear ha hba hcb0
  have HBK := Lib.hid hbk
  have HIX := Lib.hid hix
  have G0 := Lib.hid (RdI.below G.out HB.out hg)
  clear hbk hix
  have hfr : Bld (w.heap.size + 1) (w.heap.size + 1) [] ((w.alloc (.cells #[.slice A ps.length c] 28)).alloc (.cells #[.pointer Option.none, .slice Option.none 0 0] 125)) := by
    have := Lib.fresh_isBuilder 125 5 (w.alloc (.cells #[.slice A ps.length c] 28))
    simp only [World.size_alloc] at this
    exact this
  have HFR := Lib.hid hfr
  clear hfr
  have HB1 : Hid (Below (w.heap.size + 1) (w.alloc (.cells #[.slice A ps.length c] 28)) ((w.alloc (.cells #[.slice A ps.length c] 28)).alloc (.cells #[.pointer Option.none, .slice Option.none 0 0] 125))) := (Below.refl _ _).alloc (by simp) _
  go_enter Try.func88, Try.ntmps88
  go_wp2_with fail
  go_loopw [10] (fun i wr => ∃ k : Nat, k ≤ l.length ∧ i = .int .i64 k ∧ Hid (Bld (w.heap.size + 1) (w.heap.size + 1) (textL ps (l.take k)) wr) ∧ Below (w.heap.size + 1) (w.alloc (.cells #[.slice A ps.length c] 28)) wr) (fun i _ => l.length - (intOf i).toNat)
  case atStart => exact ⟨0, Nat.zero_le _, rfl, HFR.out, HB1.out⟩
  case round =>
    obtain ⟨k, hk, rfl, hbld, hbr⟩ := hrel
    have hs : w.heap.size + 1 ≤ wr.heap.size := by have := hbr.size; simpa using this
    have hboxr := (hbr.cell (p := ⟨w.heap.size, 0, Option.none⟩) (by show w.heap.size < _; omega)).trans HCB.out
    by_cases hlt : k < l.length
    · obtain ⟨b1, o1, c1, y, hv, hb1, hy, hcell1⟩ := Rd.at_ (G0.out.below hbr (by omega)) hlt
      injection hv with hv1 hv2 hv3
      subst hv1
      clear hv2 hv3
      have hyy := HIX.out y (List.mem_of_getElem? hy)
      obtain ⟨b2, o2, c2, a2, t, xs, hv, hb2, hx, hcell2, hcell3, hra, hta⟩ := (HA.out.below hbr (by omega)).at_ (show y.toNat < ps.length by omega)
      injection hv with hv1 hv2 hv3
      subst hv1
      clear hv2 hv3
      have hy0 := hyy.1
      have hy1 := hyy.2
      have htl := (phrOk_txt (bookB_phr HBK.out (List.mem_of_getElem? hx))).2.1
      have HY := Lib.hid hy
      have HX := Lib.hid hx
      have htx := textL_len HBK.out (l.take k)
      have htx2 : (textL ps (l.take k)).length ≤ 720 := by rw [List.length_take] at htx; omega
      have htl2 : t.size ≤ 12 := htl
      clear hra hy hx hyy htl htx hcell3
      have HBR := Lib.hid hbr
      clear hbr
      go_wp2_with fail
      refine (writeString_any (w.heap.size + 1) (w.heap.size + 1) (textL ps (l.take k)) t _ hbld.out (by omega) (by omega)).mono ?_
      rintro e w2 ⟨rfl, hb2, hbe⟩
      have HBL := Lib.hid hb2
      have HBE := Lib.hid (HBR.out.trans hbe)
      clear hb2 hbe
      go_wp2_with fail
      go_roundw
      case rel => exact ⟨k + 1, by omega, by go_num, by rw [textL_snoc HY.out HX.out]; exact HBL.out, HBE.out⟩
      case measure => simp [intOf]; omega
    · obtain rfl : k = l.length := by omega
      have HBR := Lib.hid hbr
      clear hbr
      go_wp2_with fail
      refine (Try.Builder_String_any (w.heap.size + 1) (w.heap.size + 1) (textL ps (l.take l.length)) _ hbld.out (by omega)).mono ?_
      rintro e w2 ⟨rfl, hb2⟩
      have HB2 := Lib.hid hb2
      clear hb2
      go_wp2_with fail
      go_ret
      exact ⟨ret_val (by first | rfl | rw [List.take_of_length_le (Nat.le_refl _)]), HB.out.trans ((HBR.out.mono (by omega)).trans (HB2.out.mono (by omega)))⟩
def ixB (ps : List Phr) (l : List Int) : Bool := decide (l.length ≤ 40) && allB l 0 ((ps.length : Int) - 1)
theorem ixB_ok {ps : List Phr} {l : List Int} (h : ixB ps l = true) : IxOk ps l ∧ l.length ≤ 40 := by
  unfold ixB allB at h
  rw [Bool.and_eq_true, decide_eq_true_eq, List.all_eq_true] at h
  exact ⟨fun y hy => by have := inB_iff.1 (h.2 y hy); omega, h.1⟩
def txtsV (ps : List Phr) (l : List Int) : Value := if bookB ps && ixB ps l then .tuple #[.string ⟨(textL ps l).toArray⟩, .bool true] else .tuple #[.string ⟨#[]⟩, .bool false]
set_option maxHeartbeats 1600000 in
theorem TextOfPhrases_any (ps : List Phr) (l : List Int) (v u : Value) (hi hj : Nat) (w : World) (h : RdB w hi v ps) (g : RdI w hj u l) (hh : hi ≤ w.heap.size) (hg : hj ≤ w.heap.size) :
    Calls Try.prog 33 #[v, u] w fun e w' => e = .returned (txtsV ps l) ∧ Below w.heap.size w w' := by
  obtain ⟨A', c', rfl, hc', hm'⟩ := Rd.form g
  have G := Lib.hid g
  clear g
  obtain ⟨a, rfl, ha⟩ := h
  obtain ⟨A, c, rfl, hc, hm⟩ := ha.form
  have hba : Below w.heap.size w (w.alloc (.cells #[.slice A ps.length c] 28)) := (Below.refl _ _).alloc (Nat.le_refl _) _
  have HB := Lib.hid hba
  have HA := Lib.hid (ha.below hba hh)
  have HG : Hid (RdB (w.alloc (.cells #[.slice A ps.length c] 28)) hi (.agg #[.slice A ps.length c]) ps) := ⟨_, rfl, HA.out⟩
  have hcb0 : (w.alloc (.cells #[.slice A ps.length c] 28)).cell? ⟨w.heap.size, 0, Option.none⟩ = some (.slice A ps.length c) := (Blk.new w 28 #[.slice A ps.length c]).cell 0
  have HCB := Lib.hid hcb0
  have hsz1 : hi ≤ (w.alloc (.cells #[.slice A ps.length c] 28)).heap.size := by simp; omega
  clear ha hba hcb0
  have cB := IsBook_any ps (.agg #[.slice A ps.length c]) hi (w.alloc (.cells #[.slice A ps.length c] 28)) HG.out hsz1
  cases hbk : bookB ps
  · rw [hbk] at cB
    have CB := Lib.hid cB
    clear cB
    go_enter Try.func33, Try.ntmps33
    go_wp2_with (go_at_call 71; refine CB.out.mono ?_; rintro e w1 ⟨rfl, hb1⟩)
    go_ret2
    exact ⟨ret_val (by unfold txtsV; rw [hbk]; rfl), HB.out.trans (hb1.mono (by simp))⟩
  · rw [hbk] at cB
    have CB := Lib.hid cB
    have HBK := Lib.hid hbk
    clear cB
    have hlen := bookB_len hbk
    have hlen1 := hlen.2
    have hlen0 := hlen.1
    clear hlen hbk
    go_enter Try.func33, Try.ntmps33
    go_wp2_with fail
    refine CB.out.mono ?_
    rintro e w1 ⟨rfl, hb1⟩
    have hcb := (hb1.cell (p := ⟨w.heap.size, 0, Option.none⟩) (by simp)).trans HCB.out
    have hs1 : w.heap.size + 1 ≤ w1.heap.size := by have := hb1.size; simpa using this
    have HA1 := Lib.hid (HA.out.below hb1 hsz1)
    have HG1 : Hid (RdB w1 hi (.agg #[.slice A ps.length c]) ps) := ⟨_, rfl, HA1.out⟩
    have HB1 := Lib.hid (HB.out.trans (hb1.mono (by simp)))
    clear hb1
    have G1 := Lib.hid (RdI.below G.out HB1.out (by omega))
    by_cases h40 : l.length ≤ 40
    · have H40 := Lib.hid h40
      have h40i : ¬ (40 : Int) < (l.length : Int) := by omega
      have cA := allWithin_any l 0 ((ps.length : Int) - 1) _ hj w1 G1.out
      cases hal : allB l 0 ((ps.length : Int) - 1)
      · rw [hal] at cA
        have CA := Lib.hid cA
        have HX : Hid (ixB ps l = false) := by show ixB ps l = false; unfold ixB; rw [hal, Bool.and_false]
        clear cA hal
        go_wp2_with (go_at_call 87; refine (CA.out).mono ?_; rintro e w' ⟨rfl, rfl⟩)
        go_ret2
        exact ⟨ret_val (by unfold txtsV; rw [HX.out]; simp), HB1.out⟩
      · rw [hal] at cA
        have CA := Lib.hid cA
        have hx : ixB ps l = true := by unfold ixB; rw [hal, decide_eq_true H40.out]; rfl
        have HX := Lib.hid hx
        have cT := textOf_any ps l (.agg #[.slice A ps.length c]) _ hi hj w1 HG1.out G1.out (by omega) (by omega) HBK.out (ixB_ok hx).1 (by omega)
        have CT := Lib.hid cT
        clear cA hal hx cT
        go_wp2_with (go_at_call 87; refine (CA.out).mono ?_; rintro e w' ⟨rfl, rfl⟩)
        refine CT.out.mono ?_
        rintro e w2 ⟨rfl, hb2⟩
        have HB2 := Lib.hid (HB1.out.trans (hb2.mono (by omega)))
        clear hb2
        go_wp2_with fail
        go_ret2
        exact ⟨ret_val (by unfold txtsV; rw [HX.out, HBK.out]; simp), HB2.out⟩
    · have HX : Hid (ixB ps l = false) := by show ixB ps l = false; unfold ixB; rw [decide_eq_false h40]; rfl
      have h40i : (40 : Int) < (l.length : Int) := by omega
      go_wp2_with fail
      go_ret2
      exact ⟨ret_val (by unfold txtsV; rw [HX.out]; simp), HB1.out⟩
end Go.Proofs.Ytjnkdjokbamibaa
/- Plain laws: letters one by one; the first reading; the rests of phrases. -/
namespace Go.Proofs.Ytjnkdjokbamibaa
open Go.RowKit
/-- The number of the phrase of the k-th letter. -/
def letIx (ps : List Phr) (s : ByteArray) (k : Nat) : Option Nat := txtIx ps (s.extract k (k + 1))
/-- What the first k letters cost, one by one. -/
def savK (ps : List Phr) (s : ByteArray) : Nat → Option Nat
  | 0 => some 0
  | k + 1 => match savK ps s k, letIx ps s k with
    | some a, some i => some (a + lnOf sigCost ps i)
    | _, _ => Option.none
theorem savK_step {ps : List Phr} {s : ByteArray} {k a i : Nat} {p : Phr} (h : savK ps s k = some a) (hi : letIx ps s k = some i) (hp : ps[i]? = some p) : savK ps s (k + 1) = some (a + p.2.length) := by
  rw [savK, h, hi]; show some (a + lnOf sigCost ps i) = _; rw [lnOf_at hp]
theorem savK_stop {ps : List Phr} {s : ByteArray} {k : Nat} (hi : letIx ps s k = Option.none) : savK ps s (k + 1) = Option.none := by
  rw [savK, hi]; cases savK ps s k <;> rfl
theorem savK_none {ps : List Phr} {s : ByteArray} {k : Nat} (h : savK ps s k = Option.none) : ∀ d, savK ps s (k + d) = Option.none
  | 0 => h
  | d + 1 => by rw [← Nat.add_assoc, savK, savK_none h d]
theorem savK_no {ps : List Phr} {s : ByteArray} {k n : Nat} (hi : letIx ps s k = Option.none) (hk : k < n) : savK ps s n = Option.none := by
  have := savK_none (savK_stop hi) (n - (k + 1))
  rwa [show k + 1 + (n - (k + 1)) = n by omega] at this
theorem letIx_at {ps : List Phr} {s : ByteArray} {k i : Nat} (h : letIx ps s k = some i) : ∃ p, ps[i]? = some p ∧ p.1 = s.extract k (k + 1) := by
  unfold letIx txtIx at h
  rw [List.findIdx?_eq_some_iff_getElem] at h
  obtain ⟨hl, h1, _⟩ := h
  exact ⟨ps[i], List.getElem?_eq_getElem hl, str_inj h1⟩
theorem let_fit {s : ByteArray} {k : Nat} {p : Phr} (hk : k < s.size) (h : p.1 = s.extract k (k + 1)) : fitT s k p = true ∧ p.1.size = 1 := by
  have hz : p.1.size = 1 := by rw [h]; simp; omega
  refine ⟨?_, hz⟩
  rw [fitT_eq, h]
  have : (s.extract k (k + 1)).data.toList = (s.data.toList.drop k).take 1 := by
    simp
  rw [this]
  exact List.take_prefix _ _
theorem savK_rch {ps : List Phr} {s : ByteArray} : ∀ k a, k ≤ s.size → savK ps s k = some a → Rch ps s k
  | 0, _, _, _ => .zero
  | k + 1, a, hk, h => by
    rw [savK] at h
    cases h1 : savK ps s k with
    | none => rw [h1] at h; cases h
    | some b =>
      cases h2 : letIx ps s k with
      | none => rw [h1, h2] at h; cases h
      | some i =>
        obtain ⟨p, hp, he⟩ := letIx_at h2
        have hf := let_fit (by omega) he
        have := (savK_rch k b (by omega) h1).step (List.mem_of_getElem? hp) hf.1
        rwa [hf.2] at this
theorem savK_bd {ps : List Phr} {s : ByteArray} (hbk : bookB ps = true) : ∀ k a, savK ps s k = some a → a ≤ 3 * k
  | 0, a, h => by simp [savK] at h; omega
  | k + 1, a, h => by
    rw [savK] at h
    cases h1 : savK ps s k with
    | none => rw [h1] at h; cases h
    | some b =>
      cases h2 : letIx ps s k with
      | none => rw [h1, h2] at h; cases h
      | some i =>
        rw [h1, h2] at h
        obtain ⟨p, hp, _⟩ := letIx_at h2
        have h3 := savK_bd hbk k b h1
        have h4 := (phrOk_sig (bookB_phr hbk (List.mem_of_getElem? hp))).2.1
        have h5 : b + lnOf sigCost ps i = a := by simpa using h
        rw [lnOf_at hp] at h5
        have : sigCost p = p.2.length := rfl
        omega
theorem sav_least {ps : List Phr} {s : ByteArray} {a : Nat} (hb : (bookB ps && lettB s) = true) (h : savK ps s s.size = some a) : ∃ n, leastO ps s = some n := by
  have hr := bck_rch.2 (savK_rch s.size a (Nat.le_refl _) h)
  rw [leastO_yes hb]
  rw [Bool.and_eq_true] at hb
  have h1 := dpL_head hb.1 s s.size (Nat.le_refl _)
  rw [Nat.sub_self] at h1
  have h2 := h1.2 hr
  exact Option.isSome_iff_exists.1 h2
/-- The saved signals. -/
def savedO (ps : List Phr) (s : ByteArray) : Option Int := match leastO ps s, savK ps s s.size with
  | some n, some a => some ((a : Int) - (n : Int))
  | _, _ => Option.none
def savV (o : Option Int) : Value := match o with
  | some z => .tuple #[.int .i64 z, .bool true]
  | Option.none => .tuple #[.int .i64 0, .bool false]
theorem savedO_no {ps : List Phr} {s : ByteArray} (h : leastO ps s = Option.none) : savedO ps s = Option.none := by unfold savedO; rw [h]
theorem savedO_stop {ps : List Phr} {s : ByteArray} (h : savK ps s s.size = Option.none) : savedO ps s = Option.none := by unfold savedO; rw [h]; cases leastO ps s <;> rfl
theorem savedO_yes {ps : List Phr} {s : ByteArray} {n a : Nat} (h : leastO ps s = some n) (h2 : savK ps s s.size = some a) : savedO ps s = some ((a : Int) - (n : Int)) := by unfold savedO; rw [h, h2]
theorem ixok_of {ps : List Phr} {l : List Nat} (h : ∀ i ∈ l, i < ps.length) : IxOk ps (waysI l) := by
  intro y hy
  unfold waysI at hy
  rw [List.mem_map] at hy
  obtain ⟨i, hi, rfl⟩ := hy
  have := h i hi
  exact ⟨by omega, by omega⟩
end Go.Proofs.Ytjnkdjokbamibaa
/- Contracts: the signals that are saved against letters one by one; of the program and of the reference. -/
namespace Go.Proofs.Ytjnkdjokbamibaa
open Go.RowKit
theorem lettB_small {s : ByteArray} (h : lettB s = true) : smallB s.data.toList = true := by unfold lettB at h; rw [Bool.and_eq_true] at h; exact h.1
set_option maxRecDepth 100000 in
set_option maxHeartbeats 4000000 in
theorem SavedSignals_any (ps : List Phr) (s : ByteArray) (v : Value) (hi : Nat) (w : World) (hs0 : s.size ≤ maxLen) (h : RdB w hi v ps) (hh : hi ≤ w.heap.size) :
    Calls Try.prog 37 #[v, .string s] w fun e w' => e = .returned (savV (savedO ps s)) ∧ Below w.heap.size w w' := by
  obtain ⟨a, rfl, ha⟩ := h
  obtain ⟨A, c, rfl, hc, hm⟩ := ha.form
  have hba : Below w.heap.size w (w.alloc (.cells #[.slice A ps.length c] 28)) := (Below.refl _ _).alloc (Nat.le_refl _) _
  have HB := Lib.hid hba
  have HA := Lib.hid (ha.below hba hh)
  have HG : Hid (RdB (w.alloc (.cells #[.slice A ps.length c] 28)) hi (.agg #[.slice A ps.length c]) ps) := ⟨_, rfl, HA.out⟩
  have hcb0 : (w.alloc (.cells #[.slice A ps.length c] 28)).cell? ⟨w.heap.size, 0, Option.none⟩ = some (.slice A ps.length c) := (Blk.new w 28 #[.slice A ps.length c]).cell 0
  have HCB := Lib.hid hcb0
  have hsz1 : hi ≤ (w.alloc (.cells #[.slice A ps.length c] 28)).heap.size := by simp; omega
  clear ha hba hcb0
  have cS := LeastSignals_any ps s (.agg #[.slice A ps.length c]) hi (w.alloc (.cells #[.slice A ps.length c] 28)) hs0 HG.out hsz1
  rcases ho : leastO ps s with _ | n
  · rw [ho] at cS
    simp only [lstV] at cS
    have CS := Lib.hid cS
    have HO := Lib.hid ho
    clear cS ho
    go_enter Try.func37, Try.ntmps37
    go_wp2_with fail
    refine CS.out.mono ?_
    rintro e w1 ⟨rfl, hb1⟩
    have HB1 := Lib.hid (HB.out.trans (hb1.mono (by simp)))
    clear hb1
    go_wp2_with fail
    go_ret2
    exact ⟨ret_val (by rw [savedO_no HO.out]; rfl), HB1.out⟩
  · rw [ho] at cS
    simp only [lstV] at cS
    have CS := Lib.hid cS
    have HO := Lib.hid ho
    have hb := leastO_ask ho
    rw [Bool.and_eq_true] at hb
    have HBK := Lib.hid hb.1
    have hs40 := lettB_len hb.2
    have HSM := Lib.hid (lettB_small hb.2)
    have hn120 : n ≤ 120 := by have := enc_le ps s; rw [enc_len ho] at this; exact this
    clear cS ho hb
    go_enter Try.func37, Try.ntmps37
    go_wp2_with fail
    refine CS.out.mono ?_
    rintro e w1 ⟨rfl, hb1⟩
    have HCB1 := Lib.hid ((hb1.cell (p := ⟨w.heap.size, 0, Option.none⟩) (by simp)).trans HCB.out)
    have hs1 : w.heap.size + 1 ≤ w1.heap.size := by have := hb1.size; simpa using this
    have HA1 := Lib.hid (HA.out.below hb1 hsz1)
    have HB1 := Lib.hid (HB.out.trans (hb1.mono (by simp)))
    clear hb1
    go_wp2_with fail
    go_loopw [8] (fun q wr => ∃ k a : Nat, k ≤ s.size ∧ q = .int .i64 (a : Int) ∧ Hid (savK ps s k = some a) ∧ Hid (wr.heap[w1.heap.size]? = some (.stringIter s k)) ∧ Hid (Below w1.heap.size w1 wr)) (fun _ wr => s.size - wr.iterPos w1.heap.size)
    case atStart => exact ⟨0, 0, Nat.zero_le _, rfl, rfl, World.iter_heap w1 s 0, (Below.refl _ _).alloc (Nat.le_refl _) _⟩
    case round =>
      obtain ⟨k, a, hk, rfl, hsv, hit, hbr⟩ := hrel
      have ha3 := savK_bd HBK.out k a hsv.out
      by_cases hlt : k < s.size
      · have hnx := fun ty => Lib.run_next_ascii_at (P := Try.prog) wr w1.heap.size s k ty hit.out hlt (small_lt HSM.out hlt)
        have hb2 : Below w1.heap.size w1 (wr.iterAt w1.heap.size s (k + 1)) := Lib.below_iterAt hbr.out (Nat.le_refl _) s (k + 1)
        have HIT2 : Hid ((wr.iterAt w1.heap.size s (k + 1)).heap[w1.heap.size]? = some (.stringIter s (k + 1))) := Lib.iterAt_heap wr w1.heap.size s k (k + 1) hit.out
        have hcb2 := (hb2.cell (p := ⟨w.heap.size, 0, Option.none⟩) (by show w.heap.size < w1.heap.size; omega)).trans HCB1.out
        have hsz2 : w1.heap.size ≤ (wr.iterAt w1.heap.size s (k + 1)).heap.size := hb2.size
        have HB2 := Lib.hid hb2
        have HIT := Lib.hid hit.out
        clear hb2
        have i1 : IntKind.i64.wrap ((k : Int) + 1) = (k : Int) + 1 := wrap_in (by omega)
        have i2 : (0 : Int) ≤ (k : Int) + 1 := by omega
        have i3 : (k : Int) + 1 ≤ (s.size : Int) := by omega
        have i4 : ((k : Int) + 1).toNat = k + 1 := by omega
        have i5 : (k : Int) ≤ (k : Int) + 1 := by omega
        have HHIT : Hid (wr.iterPos w1.heap.size = k) := iterPos_of hit.out
        go_wp2_with fail
        generalize (wr.iterAt w1.heap.size s (k + 1)) = wq at hcb2 hsz2 HB2 HIT2 ⊢
        clear hnx
        have lb := later_cell (B := wq.heap.size) hcb2 (by omega)
        have cT := fun x : LaterW wq.heap.size wq => FindPhrase_any ps (s.extract k (k + 1)) (.agg #[.slice A ps.length c]) hi x.val (by unfold maxLen; simp; omega) ⟨_, rfl, (HA1.out.below (HB2.out.trans (x.bel.mono (by omega))) (by omega))⟩ (by have := x.bel.size; omega)
        simp only [HBK.out] at cT
        rcases hix : letIx ps s k with _ | j
        · simp only [show txtIx ps (s.extract k (k + 1)) = Option.none from hix, findV] at cT
          have CT := Lib.hid cT
          have HNO := Lib.hid (savK_no hix hlt)
          clear cT hix
          refine wp_region_later (wq.heap.size) (by kernel_rfl) (by kernel_rfl) ?_; (repeat (go_big_quiet_step ((go_at_call 63; exact later_of (Nat.le_refl _) (CT.out _))))); refine later_nil ?_; intro w2 hb2
          have hb3 := hb2
          clear hb2
          have HB3 := Lib.hid (HB2.out.trans (hb3.mono hsz2))
          clear hb3
          go_wp2_with fail
          go_ret2
          exact ⟨ret_val (by rw [savedO_stop HNO.out]; rfl), HB1.out.trans (HB3.out.mono (by omega))⟩
        · simp only [show txtIx ps (s.extract k (k + 1)) = some j from hix, findV] at cT
          have CT := Lib.hid cT
          clear cT
          refine wp_region_later (wq.heap.size) (by kernel_rfl) (by kernel_rfl) ?_; (repeat (go_big_quiet_step ((go_at_call 63; exact later_of (Nat.le_refl _) (CT.out _))))); refine later_nil ?_; intro w2 hb2
          have hb3 := hb2
          clear hb2
          have hb3' : Below wq.heap.size wq w2 := hb3
          have hlq : w1.heap.size < wq.heap.size := (Array.getElem?_eq_some_iff.1 HIT2.out).1
          have HIT3 : Hid (w2.heap[w1.heap.size]? = some (.stringIter s (k + 1))) := (hb3'.block _ hlq).trans HIT2.out
          have hcb3 := (hb3'.cell (p := ⟨w.heap.size, 0, Option.none⟩) (by show w.heap.size < wq.heap.size; omega)).trans hcb2
          have HB3 := Lib.hid (HB2.out.trans (hb3'.mono (by omega)))
          have hs3 := HB3.out.size
          clear hb3 hb3' hcb2 i1 i2 i3 i4 i5
          obtain ⟨p, hp, hpe⟩ := letIx_at hix
          have hjl : j < ps.length := (List.getElem?_eq_some_iff.1 hp).1
          have hx3 := (phrOk_sig (bookB_phr HBK.out (List.mem_of_getElem? hp))).2.1
          obtain ⟨b2, o2, c2, a2, t, xs, hv, _, hx, hcell2, hcell3, hra, hta⟩ := (HA1.out.below HB3.out (by omega)).at_ hjl
          injection hv with hv1 hv2 hv3
          subst hv1
          rw [hp] at hx
          cases hx
          obtain ⟨A3, c3, rfl, hc3, hm3⟩ := Rd.form hra
          have HST := Lib.hid (savK_step hsv.out hix hp)
          have hx32 : xs.length ≤ 3 := hx3
          clear hv2 hv3 hp hpe hra hcell2 hta hx3
          clear hix
          go_wp2_with fail
          go_roundw
          case rel => exact ⟨k + 1, a + xs.length, by omega, by go_num, HST.out, HIT3.out, HB3.out⟩
          case measure => rw [HHIT.out, iterPos_of HIT3.out]; omega
      · obtain rfl : k = s.size := by omega
        have hnx := fun ty => Lib.run_next_end_at (P := Try.prog) wr w1.heap.size s s.size ty hit.out hlt
        go_wp2_with fail
        go_ret2
        exact ⟨ret_val (by rw [savedO_yes HO.out hsv.out]; rfl), HB1.out.trans (hbr.out.mono (by omega))⟩
set_option maxRecDepth 100000 in
set_option maxHeartbeats 4000000 in
theorem sSavedSignals_any (ps : List Phr) (s : ByteArray) (v : Value) (hi : Nat) (w : World) (hs0 : s.size ≤ maxLen) (h : RdB w hi v ps) (hh : hi ≤ w.heap.size) :
    Calls Try.prog 38 #[v, .string s] w fun e w' => e = .returned (savV (savedO ps s)) ∧ Below w.heap.size w w' := by
  obtain ⟨a, rfl, ha⟩ := h
  obtain ⟨A, c, rfl, hc, hm⟩ := ha.form
  have hba : Below w.heap.size w (w.alloc (.cells #[.slice A ps.length c] 28)) := (Below.refl _ _).alloc (Nat.le_refl _) _
  have HB := Lib.hid hba
  have HA := Lib.hid (ha.below hba hh)
  have HG : Hid (RdB (w.alloc (.cells #[.slice A ps.length c] 28)) hi (.agg #[.slice A ps.length c]) ps) := ⟨_, rfl, HA.out⟩
  have hcb0 : (w.alloc (.cells #[.slice A ps.length c] 28)).cell? ⟨w.heap.size, 0, Option.none⟩ = some (.slice A ps.length c) := (Blk.new w 28 #[.slice A ps.length c]).cell 0
  have HCB := Lib.hid hcb0
  have hsz1 : hi ≤ (w.alloc (.cells #[.slice A ps.length c] 28)).heap.size := by simp; omega
  clear ha hba hcb0
  have cB := spAsked_any ps s (.agg #[.slice A ps.length c]) hi (w.alloc (.cells #[.slice A ps.length c] 28)) hs0 HG.out hsz1
  cases hbr : (bookB ps && lettB s)
  · rw [hbr] at cB
    have CB := Lib.hid cB
    have HRB := Lib.hid hbr
    clear cB hbr
    go_enter Try.func38, Try.ntmps38
    go_wp2_with (go_at_call 81; refine CB.out.mono ?_; rintro e w1 ⟨rfl, hb1⟩)
    go_ret2
    exact ⟨ret_val (by rw [savedO_no (leastO_no HRB.out)]; rfl), HB.out.trans (hb1.mono (by simp))⟩
  · rw [hbr] at cB
    have CB := Lib.hid cB
    have HRB := Lib.hid hbr
    rw [Bool.and_eq_true] at hbr
    have HBK := Lib.hid hbr.1
    have hs40 : s.size ≤ 40 := by have := hbr.2; unfold lettB at this; rw [Bool.and_eq_true, decide_eq_true_eq] at this; exact this.2
    clear cB hbr
    go_enter Try.func38, Try.ntmps38
    go_wp2_with fail
    refine CB.out.mono ?_
    rintro e w1 ⟨rfl, hb1⟩
    have hcb := (hb1.cell (p := ⟨w.heap.size, 0, Option.none⟩) (by simp)).trans HCB.out
    have hs1 : w.heap.size + 1 ≤ w1.heap.size := by have := hb1.size; simpa using this
    have HA1 := Lib.hid (HA.out.below hb1 hsz1)
    have HG1 : Hid (RdB w1 hi (.agg #[.slice A ps.length c]) ps) := ⟨_, rfl, HA1.out⟩
    have HB1 := Lib.hid (HB.out.trans (hb1.mono (by simp)))
    clear hb1
    go_wp2_with fail
    go_loopw [6, 7] (fun q i wr => ∃ k a : Nat, k ≤ s.size ∧ i = .int .i64 (k : Int) ∧ q = .int .i64 (a : Int) ∧ Hid (savK ps s k = some a) ∧ Hid (Below w1.heap.size w1 wr)) (fun _ i _ => s.size - (intOf i).toNat)
    case atStart => exact ⟨0, 0, Nat.zero_le _, rfl, rfl, rfl, Below.refl _ _⟩
    case round =>
      obtain ⟨k, a, hk, rfl, rfl, hsv, hbr⟩ := hrel
      have ha3 := savK_bd HBK.out k a hsv.out
      have hcbr := (hbr.out.cell (p := ⟨w.heap.size, 0, Option.none⟩) (by show w.heap.size < w1.heap.size; omega)).trans hcb
      have hszr := hbr.out.size
      by_cases hlt : k < s.size
      · skip
        have i1 : IntKind.i64.wrap ((k : Int) + 1) = (k : Int) + 1 := wrap_in (by omega)
        have i2 : (0 : Int) ≤ (k : Int) + 1 := by omega
        have i3 : (k : Int) + 1 ≤ (s.size : Int) := by omega
        have i4 : ((k : Int) + 1).toNat = k + 1 := by omega
        have i5 : (k : Int) ≤ (k : Int) + 1 := by omega
        have lb := later_cell (B := wr.heap.size) hcbr (by omega)
        have cT := fun x : LaterW wr.heap.size wr => bkFind_any ps (s.extract k (k + 1)) (.agg #[.slice A ps.length c]) hi x.val ⟨_, rfl, (HA1.out.below (hbr.out.trans (x.bel.mono (by omega))) (by omega))⟩ (by have := x.bel.size; omega)
        go_wp2_with fail
        rcases hix : letIx ps s k with _ | j
        · simp only [show txtIx ps (s.extract k (k + 1)) = Option.none from hix, ixI] at cT
          have CT := Lib.hid cT
          have HNO := Lib.hid (savK_no hix hlt)
          clear cT hix
          refine wp_region_later (wr.heap.size) (by kernel_rfl) (by kernel_rfl) ?_; (repeat (go_big_quiet_step ((go_at_call 58; exact later_of (Nat.le_refl _) (CT.out _))))); refine later_nil ?_; intro w2 hb2
          have hb3 := hb2
          clear hb2
          have HB3 := Lib.hid (hbr.out.trans (hb3.mono hszr))
          clear hb3
          go_wp2_with fail
          go_ret2
          exact ⟨ret_val (by rw [savedO_stop HNO.out]; rfl), HB1.out.trans (HB3.out.mono (by omega))⟩
        · simp only [show txtIx ps (s.extract k (k + 1)) = some j from hix, ixI] at cT
          have CT := Lib.hid cT
          clear cT
          refine wp_region_later (wr.heap.size) (by kernel_rfl) (by kernel_rfl) ?_; (repeat (go_big_quiet_step ((go_at_call 58; exact later_of (Nat.le_refl _) (CT.out _))))); refine later_nil ?_; intro w2 hb2
          have hb3 := hb2
          clear hb2
          have hb3' : Below wr.heap.size wr w2 := hb3
          have hcb3 := (hb3'.cell (p := ⟨w.heap.size, 0, Option.none⟩) (by show w.heap.size < wr.heap.size; omega)).trans hcbr
          have HB3 := Lib.hid (hbr.out.trans (hb3'.mono (by omega)))
          have hs3 := HB3.out.size
          clear hb3 hb3' hcbr i1 i2 i3 i4 i5
          obtain ⟨p, hp, hpe⟩ := letIx_at hix
          have hjl : j < ps.length := (List.getElem?_eq_some_iff.1 hp).1
          have hx3 := (phrOk_sig (bookB_phr HBK.out (List.mem_of_getElem? hp))).2.1
          obtain ⟨b2, o2, c2, a2, t, xs, hv, _, hx, hcell2, hcell3, hra, hta⟩ := (HA1.out.below HB3.out (by omega)).at_ hjl
          injection hv with hv1 hv2 hv3
          subst hv1
          rw [hp] at hx
          cases hx
          obtain ⟨A3, c3, rfl, hc3, hm3⟩ := Rd.form hra
          have HST := Lib.hid (savK_step hsv.out hix hp)
          have hx32 : xs.length ≤ 3 := hx3
          clear hv2 hv3 hp hpe hra hcell2 hta hx3
          clear hix
          have hj0 : ¬ (j : Int) < 0 := by omega
          go_wp2_with fail
          go_roundw
          case rel => exact ⟨k + 1, a + xs.length, by omega, by go_num, by go_num, HST.out, HB3.out⟩
          case measure => (simp [intOf]; try omega)
      · obtain rfl : k = s.size := by omega
        obtain ⟨n, hn⟩ := sav_least HRB.out hsv.out
        have hn120 : n ≤ 120 := by have := enc_le ps s; rw [enc_len hn] at this; exact this
        have cT := spTable_any ps s (.agg #[.slice A ps.length c]) hi wr ⟨_, rfl, HA1.out.below hbr.out (by omega)⟩ (by omega) HBK.out hs40
        have CT := Lib.hid cT
        have HN := Lib.hid hn
        clear cT hn
        go_wp2_with fail
        refine CT.out.mono ?_
        rintro e w3 ⟨q, rfl, hq, hb3⟩
        obtain ⟨bq, cq, rfl, hcq⟩ := own_headO hq
        rw [← leastO_yes HRB.out, HN.out] at hcq
        simp only [optI] at hcq
        have HB3 := Lib.hid (hbr.out.trans (hb3.mono hszr))
        clear hq hb3
        go_wp2_with fail
        go_ret2
        exact ⟨ret_val (by rw [savedO_yes HN.out hsv.out]; rfl), HB1.out.trans (HB3.out.mono (by omega))⟩
end Go.Proofs.Ytjnkdjokbamibaa
/- Plain laws: the rests that stick out where two lists of phrases have the same signals so far. -/
namespace Go.Proofs.Ytjnkdjokbamibaa
open Go.RowKit
/-- A rest is put to the others, once. -/
def putR (L : List (List Int)) (r : List Int) : List (List Int) := if r ∈ L then L else L ++ [r]
theorem putR_pre {L : List (List Int)} {r : List Int} : L <+: putR L r := by
  unfold putR; split
  · exact List.prefix_refl _
  · exact List.prefix_append _ _
theorem putR_nodup {L : List (List Int)} {r : List Int} (h : L.Nodup) : (putR L r).Nodup := by
  unfold putR; split
  · exact h
  · rename_i hn
    rw [List.nodup_append]
    refine ⟨h, by simp, fun a ha b hb => ?_⟩
    rw [List.mem_singleton] at hb
    rintro rfl
    exact hn (hb ▸ ha)
/-- One pair of phrases. -/
def seed1 (ps : List Phr) (i : Nat) (x : Phr) (L : List (List Int)) (k : Nat) : List (List Int) := match ps[k]? with
  | some y => if i ≠ k ∧ begB x.2 y.2 = true then putR L (y.2.drop x.2.length) else L
  | Option.none => L
/-- One phrase with the first j others, the first i phrases with all others. -/
def seedK (ps : List Phr) (i : Nat) (x : Phr) (L : List (List Int)) (j : Nat) : List (List Int) := (List.range j).foldl (seed1 ps i x) L
def seedI (ps : List Phr) : Nat → List (List Int)
  | 0 => []
  | i + 1 => match ps[i]? with
    | some x => seedK ps i x (seedI ps i) ps.length
    | Option.none => seedI ps i
def seedR (ps : List Phr) : List (List Int) := seedI ps ps.length
theorem seedK_succ {ps : List Phr} {i j : Nat} {x : Phr} {L : List (List Int)} : seedK ps i x L (j + 1) = seed1 ps i x (seedK ps i x L j) j := by
  unfold seedK; rw [List.range_succ, List.foldl_append]; rfl
/-- One phrase behind, or ahead of, a rest. -/
def turn1 (x : List Int) (L : List (List Int)) (y : Phr) : List (List Int) :=
  let L1 := if begB x y.2 then putR L (y.2.drop x.length) else L
  if begB y.2 x then putR L1 (x.drop y.2.length) else L1
def turnR (ps : List Phr) (x : List Int) (L : List (List Int)) (j : Nat) : List (List Int) := (ps.take j).foldl (turn1 x) L
/-- From the n-th rest on, until nothing new is left. -/
def runR (ps : List Phr) : Nat → Nat → List (List Int) → List (List Int)
  | 0, _, L => L
  | f + 1, n, L => match L[n]? with
    | Option.none => L
    | some x => runR ps f (n + 1) (turnR ps x L ps.length)
/-- All rests. -/
def restsR (ps : List Phr) : List (List Int) := runR ps 200 0 (seedR ps)
theorem runR_on {ps : List Phr} {f n : Nat} {L : List (List Int)} {x : List Int} (h : L[n]? = some x) : runR ps (f + 1) n L = runR ps f (n + 1) (turnR ps x L ps.length) := by rw [runR, h]
theorem runR_end {ps : List Phr} {f n : Nat} {L : List (List Int)} (h : L.length ≤ n) : runR ps f n L = L := by
  cases f with
  | zero => rfl
  | succ f => rw [runR, List.getElem?_eq_none h]
theorem turn1_pre {x : List Int} {L : List (List Int)} {y : Phr} : L <+: turn1 x L y := by
  unfold turn1
  dsimp only
  split <;> split
  · exact putR_pre.trans putR_pre
  · exact putR_pre
  · exact putR_pre
  · exact List.prefix_refl _
theorem turn_pre {x : List Int} : ∀ (qs : List Phr) (L : List (List Int)), L <+: qs.foldl (turn1 x) L
  | [], L => List.prefix_refl _
  | q :: qs, L => by rw [List.foldl_cons]; exact turn1_pre.trans (turn_pre qs _)
theorem turnR_pre {ps : List Phr} {x : List Int} {L : List (List Int)} {j : Nat} : L <+: turnR ps x L j := turn_pre _ _
theorem turnR_mono {ps : List Phr} {x : List Int} {L : List (List Int)} {j k : Nat} (h : j ≤ k) : turnR ps x L j <+: turnR ps x L k := by
  unfold turnR
  have : ps.take k = ps.take j ++ (ps.take k).drop j := by
    have e := List.take_append_drop j (ps.take k)
    rw [List.take_take, Nat.min_eq_left h] at e
    exact e.symm
  rw [this, List.foldl_append]
  exact turn_pre _ _
theorem runR_pre {ps : List Phr} : ∀ (f n : Nat) (L : List (List Int)), L <+: runR ps f n L
  | 0, _, L => List.prefix_refl _
  | f + 1, n, L => by
    rw [runR]
    split
    · exact List.prefix_refl _
    · exact turnR_pre.trans (runR_pre f _ _)
/-- The ends of the signals of phrases. -/
def endsP (p : Phr) : List (List Int) := (List.range (p.2.length + 1)).map fun k => p.2.drop k
def endsB (ps : List Phr) : List (List Int) := ps.flatMap endsP
theorem ends_drop {ps : List Phr} {p : Phr} (h : p ∈ ps) {k : Nat} (hk : k ≤ p.2.length) : p.2.drop k ∈ endsB ps := by
  unfold endsB endsP
  rw [List.mem_flatMap]
  exact ⟨p, h, List.mem_map.2 ⟨k, List.mem_range.2 (by omega), rfl⟩⟩
theorem ends_again {ps : List Phr} {r : List Int} (h : r ∈ endsB ps) {k : Nat} (hk : k ≤ r.length) : r.drop k ∈ endsB ps := by
  unfold endsB endsP at h
  rw [List.mem_flatMap] at h
  obtain ⟨p, hp, h⟩ := h
  rw [List.mem_map] at h
  obtain ⟨j, hj, rfl⟩ := h
  rw [List.mem_range] at hj
  rw [List.drop_drop]
  rw [List.length_drop] at hk
  exact ends_drop hp (by omega)
theorem ends_len {ps : List Phr} (h : bookB ps = true) : (endsB ps).length ≤ 160 := by
  have h1 := bookB_len h
  have h2 : ∀ p ∈ ps, p.2.length ≤ 3 := fun p hp => (phrOk_sig (bookB_phr h hp)).2.1
  have h3 : (endsB ps).length ≤ 4 * ps.length := by
    unfold endsB
    clear h h1
    induction ps with
    | nil => simp
    | cons p l ih =>
      have := ih (fun q hq => h2 q (List.mem_cons_of_mem _ hq))
      have h4 := h2 p (by simp)
      rw [List.flatMap_cons, List.length_append, List.length_cons]
      unfold endsP at this ⊢
      rw [List.length_map, List.length_range]
      omega
  omega
theorem nodup_len {α : Type} [DecidableEq α] : ∀ (L E : List α), L.Nodup → (∀ x ∈ L, x ∈ E) → L.length ≤ E.length
  | [], E, _, _ => by simp
  | a :: L, E, h, hs => by
    rw [List.nodup_cons] at h
    have ha := hs a (by simp)
    have h1 := nodup_len L (E.erase a) h.2 (fun x hx => by
      have hne : x ≠ a := by rintro rfl; exact h.1 hx
      exact (List.mem_erase_of_ne hne).2 (hs x (List.mem_cons_of_mem _ hx)))
    have h2 := List.length_erase_of_mem ha
    have h3 : 0 < E.length := List.length_pos_of_mem ha
    rw [List.length_cons]
    omega
/-- A list of rests: none twice, all of them ends of phrases. -/
structure RestOk (ps : List Phr) (L : List (List Int)) : Prop where
  nodup : L.Nodup
  ends : ∀ r ∈ L, r ∈ endsB ps
theorem RestOk.nil (ps : List Phr) : RestOk ps [] := ⟨List.nodup_nil, fun r h => by cases h⟩
theorem RestOk.put {ps : List Phr} {L : List (List Int)} {r : List Int} (h : RestOk ps L) (hr : r ∈ endsB ps) : RestOk ps (putR L r) := by
  refine ⟨putR_nodup h.nodup, fun x hx => ?_⟩
  unfold putR at hx
  split at hx
  · exact h.ends x hx
  · rw [List.mem_append, List.mem_singleton] at hx
    rcases hx with hx | rfl
    · exact h.ends x hx
    · exact hr
theorem RestOk.len {ps : List Phr} {L : List (List Int)} (h : RestOk ps L) (hb : bookB ps = true) : L.length ≤ 160 := Nat.le_trans (nodup_len L _ h.nodup h.ends) (ends_len hb)
theorem begB_le {xs ys : List Int} (h : begB xs ys = true) : xs.length ≤ ys.length := by rw [begB_iff] at h; exact h.length_le
theorem RestOk.seed1 {ps : List Phr} {L : List (List Int)} (h : RestOk ps L) (i : Nat) (x : Phr) (k : Nat) : RestOk ps (seed1 ps i x L k) := by
  unfold Go.Proofs.Ytjnkdjokbamibaa.seed1
  split
  · rename_i y hy
    split
    · rename_i hc
      exact h.put (ends_drop (List.mem_of_getElem? hy) (begB_le hc.2))
    · exact h
  · exact h
theorem RestOk.seedK {ps : List Phr} {L : List (List Int)} (h : RestOk ps L) (i : Nat) (x : Phr) : ∀ j, RestOk ps (seedK ps i x L j)
  | 0 => h
  | j + 1 => by rw [seedK_succ]; exact (RestOk.seedK h i x j).seed1 i x j
theorem RestOk.seedI (ps : List Phr) : ∀ i, RestOk ps (seedI ps i)
  | 0 => RestOk.nil ps
  | i + 1 => by
    rw [Go.Proofs.Ytjnkdjokbamibaa.seedI]
    split
    · exact (RestOk.seedI ps i).seedK _ _ _
    · exact RestOk.seedI ps i
theorem RestOk.turn1 {ps : List Phr} {L : List (List Int)} {x : List Int} {y : Phr} (h : RestOk ps L) (hx : x ∈ endsB ps) (hy : y ∈ ps) : RestOk ps (turn1 x L y) := by
  unfold Go.Proofs.Ytjnkdjokbamibaa.turn1
  dsimp only
  have h1 : RestOk ps (if begB x y.2 then putR L (y.2.drop x.length) else L) := by
    split
    · rename_i hb; exact h.put (ends_drop hy (begB_le hb))
    · exact h
  split
  · rename_i hb; exact h1.put (ends_again hx (begB_le hb))
  · exact h1
theorem RestOk.turnR {ps : List Phr} {L : List (List Int)} {x : List Int} (h : RestOk ps L) (hx : x ∈ endsB ps) (j : Nat) : RestOk ps (turnR ps x L j) := by
  unfold Go.Proofs.Ytjnkdjokbamibaa.turnR
  have : ∀ (qs : List Phr), (∀ q ∈ qs, q ∈ ps) → ∀ L, RestOk ps L → RestOk ps (qs.foldl (Go.Proofs.Ytjnkdjokbamibaa.turn1 x) L) := by
    intro qs
    induction qs with
    | nil => intro _ L h; exact h
    | cons q qs ih =>
      intro hq L h
      rw [List.foldl_cons]
      exact ih (fun r hr => hq r (List.mem_cons_of_mem _ hr)) _ (h.turn1 hx (hq q (by simp)))
  exact this _ (fun q hq => List.mem_of_mem_take hq) L h
/-- So far: the n-th rest is next. -/
def RunTo (ps : List Phr) (n : Nat) (L : List (List Int)) : Prop := RestOk ps L ∧ n ≤ L.length ∧ runR ps (200 - n) n L = restsR ps
theorem RunTo.start (ps : List Phr) : RunTo ps 0 (seedR ps) := ⟨RestOk.seedI ps ps.length, Nat.zero_le _, rfl⟩
theorem RunTo.bd {ps : List Phr} {n : Nat} {L : List (List Int)} (h : RunTo ps n L) (hb : bookB ps = true) : L.length ≤ 160 ∧ n ≤ 160 := by
  have h1 := h.1.len hb
  have h2 := h.2.1
  omega
theorem RunTo.on {ps : List Phr} {n : Nat} {L : List (List Int)} {x : List Int} (h : RunTo ps n L) (hb : bookB ps = true) (hx : L[n]? = some x) : RunTo ps (n + 1) (turnR ps x L ps.length) := by
  have h0 := h.bd hb
  have hn := (List.getElem?_eq_some_iff.1 hx).1
  have hr := h.1.turnR (h.1.ends x (List.mem_of_getElem? hx)) ps.length
  have hp : L.length ≤ (turnR ps x L ps.length).length := (turnR_pre).length_le
  refine ⟨hr, by omega, ?_⟩
  have h3 := h.2.2
  rw [show 200 - n = (200 - (n + 1)) + 1 by omega, runR_on hx] at h3
  exact h3
theorem RunTo.fin {ps : List Phr} {n : Nat} {L : List (List Int)} (h : RunTo ps n L) (hl : L.length ≤ n) : L = restsR ps := by
  have h3 := h.2.2
  rwa [runR_end hl] at h3
theorem RunTo.sub {ps : List Phr} {n : Nat} {L : List (List Int)} (h : RunTo ps n L) : L <+: restsR ps := by
  rw [← h.2.2]; exact runR_pre _ _ _
/-- While the n-th rest is held against the phrases. -/
theorem RunTo.mid {ps : List Phr} {n : Nat} {L : List (List Int)} {x : List Int} (h : RunTo ps n L) (hb : bookB ps = true) (hx : L[n]? = some x) {j : Nat} (hj : j ≤ ps.length) : turnR ps x L j <+: restsR ps ∧ RestOk ps (turnR ps x L j) ∧ (turnR ps x L j).length ≤ 160 ∧ (turnR ps x L j)[n]? = some x := by
  have hr := h.1.turnR (h.1.ends x (List.mem_of_getElem? hx)) j
  refine ⟨(turnR_mono hj).trans (h.on hb hx).sub, hr, hr.len hb, ?_⟩
  obtain ⟨t, ht⟩ := turnR_pre (ps := ps) (x := x) (L := L) (j := j)
  rw [← ht, List.getElem?_append_left (List.getElem?_eq_some_iff.1 hx).1]
  exact hx
end Go.Proofs.Ytjnkdjokbamibaa
/- Plain laws: where no rest is empty, signals are read in one way alone. -/
namespace Go.Proofs.Ytjnkdjokbamibaa
open Go.RowKit
/-- Signals that phrases have, one after the other. -/
def Rdb (ps : List Phr) (xs : List Int) : Prop := ∃ l : List Nat, (∀ i ∈ l, i < ps.length) ∧ sigsOf ps l = xs
theorem sigsOf_cons {ps : List Phr} {l : List Nat} {i : Nat} {p : Phr} (h : ps[i]? = some p) : sigsOf ps (i :: l) = p.2 ++ sigsOf ps l := by
  unfold sigsOf; rw [List.flatMap_cons, h]; rfl
theorem Rdb.nil (ps : List Phr) : Rdb ps [] := ⟨[], by simp, rfl⟩
theorem Rdb.cons {ps : List Phr} {xs : List Int} {p : Phr} (hp : p ∈ ps) (h : Rdb ps xs) : Rdb ps (p.2 ++ xs) := by
  obtain ⟨l, h1, h2⟩ := h
  obtain ⟨i, hi, rfl⟩ := List.getElem_of_mem hp
  refine ⟨i :: l, fun j hj => ?_, by rw [sigsOf_cons (List.getElem?_eq_getElem hi), h2]⟩
  rcases List.mem_cons.1 hj with rfl | hj
  · exact hi
  · exact h1 j hj
end Go.Proofs.Ytjnkdjokbamibaa
/- For the law of readings: the first reading has the signals; at most one reading where books are read in one way. -/
namespace Go.Proofs.Ytjnkdjokbamibaa
open Go.RowKit
theorem sameInts_sameB (xs : List Int) (v u : Value) (hi hj : Nat) (w : World) (h : RdI w hi v xs) (g : RdI w hj u xs) : Calls Try.prog 32 #[v, u] w fun e w' => e = .returned (.bool true) ∧ Below w.heap.size w w' :=
  (sameInts_same xs v u hi hj w h g).mono fun _ _ ⟨he, n, hw⟩ => ⟨he, by rw [hw]; exact bel_drewN _ _ _⟩
end Go.Proofs.Ytjnkdjokbamibaa
/- For the law of spelling: the first spelling has the letters; there is one exactly where there are ways; letters one by one cost no less; what is written has a reading. -/
namespace Go.Proofs.Ytjnkdjokbamibaa
open Go.RowKit
theorem textL_cons {ps : List Phr} {i : Nat} {l : List Nat} {p : Phr} (h : ps[i]? = some p) : textL ps (waysI (i :: l)) = p.1.data.toList ++ textL ps (waysI l) := by
  unfold textL waysI
  rw [List.map_cons, List.flatMap_cons]
  congr 1
  unfold txtOf
  rw [show ((i : Nat) : Int).toNat = i by omega, h]
theorem spell_path {ps : List Phr} {s : ByteArray} (hb : bookB ps = true) : ∀ (f m : Nat), s.size - m ≤ f → m ≤ s.size → (∃ c, (dpL (fitT s) txtLen sigCost ps s.size s.size).getD m Option.none = some c) →
    textL ps (waysI (pathF s.size (nextL (fitT s) txtLen sigCost ps s.size) (lnOf txtLen ps) f m)) = s.data.toList.drop m
  | 0, m, h1, h2, _ => by
    obtain rfl : m = s.size := by omega
    rw [pathF_end (Nat.le_refl _), List.drop_of_length_le (by simp)]; rfl
  | f + 1, m, h1, h2, ⟨c, h3⟩ => by
    rcases Nat.lt_or_ge m s.size with hm | hm
    · obtain ⟨i, p, v, hn, hp, hf, hl, h5, _⟩ := nextL_some hm (fit_hyp hb s m) h3
      have hle := fitT_le hf hl
      rw [pathF_on hm hn, textL_cons hp, lnOf_at hp, spell_path hb f (m + txtLen p) (by omega) hle ⟨v, h5⟩]
      obtain ⟨t, ht⟩ := fitT_eq.1 hf
      have hz : p.1.data.toList.length = txtLen p := by simp [txtLen]
      have hd : s.data.toList.drop (m + txtLen p) = t := by rw [← List.drop_drop, ← ht, ← hz, List.drop_left]
      rw [hd, ht]
    · obtain rfl : m = s.size := by omega
      rw [pathF_end (Nat.le_refl _), List.drop_of_length_le (by simp)]; rfl
/-- The spelled phrases have the letters. -/
theorem spell_text {ps : List Phr} {s : ByteArray} {n : Nat} (h : leastO ps s = some n) : textL ps (waysI (spellN ps s)) = s.data.toList := by
  have hb := leastO_ask h
  have hb1 := hb
  rw [Bool.and_eq_true] at hb1
  rw [spellN_yes h]
  rw [leastO_yes hb] at h
  have := spell_path (s := s) hb1.1 s.size 0 (by omega) (by omega) ⟨n, h⟩
  rwa [List.drop_zero] at this
theorem way_some {fit : Phr → Bool} {len : Phr → Nat} {tb : List Nat} : ∀ {ps : List Phr} {p : Phr}, p ∈ ps → fit p = true → 0 < tb.getD (len p - 1) 0 → 0 < wayAt fit len ps tb
  | [], _, h, _, _ => by cases h
  | q :: ps, p, h, hf, ht => by
    have e : wayAt fit len (q :: ps) tb = (if fit q then tb.getD (len q - 1) 0 else 0) + wayAt fit len ps tb := by simp [wayAt]
    rw [e]
    rcases List.mem_cons.1 h with rfl | h
    · rw [if_pos hf]; omega
    · have := way_some h hf ht; omega
theorem dpW_get (fit : Nat → Phr → Bool) (len : Phr → Nat) (ps : List Phr) (n : Nat) : ∀ (k i : Nat), i ≤ k → (dpW fit len ps n k)[i]? = (dpW fit len ps n (k - i))[0]?
  | k, 0, _ => rfl
  | 0, i + 1, h => by omega
  | k + 1, i + 1, h => by
    rw [show k + 1 - (i + 1) = k - i by omega, ← dpW_get fit len ps n k i (by omega)]
    simp [dpW]
theorem dpW_head {ps : List Phr} (hbk : bookB ps = true) (s : ByteArray) : ∀ k, k ≤ s.size → (0 < (dpW (fitT s) txtLen ps s.size k).getD 0 0 ↔ Bck ps s (s.size - k)) := by
  intro k
  induction k using Nat.strongRecOn with
  | _ k ih =>
    intro hk
    cases k with
    | zero => simp [dpW]; exact .fin
    | succ k =>
      have e : (dpW (fitT s) txtLen ps s.size (k + 1)).getD 0 0 = wayAt (fitT s (s.size - (k + 1))) txtLen ps (dpW (fitT s) txtLen ps s.size k) := by simp [dpW]
      rw [e]
      constructor
      · intro h0
        obtain ⟨p, hp, hf, ht⟩ := wayAt_pos h0
        have h1 := tblT_hyp hbk s k (by omega) p hp hf
        rw [List.getD_eq_getElem?_getD, dpW_get _ _ _ _ _ _ (by have := h1.2.1; omega), ← List.getD_eq_getElem?_getD, ih (k - (txtLen p - 1)) (by omega) (by omega)] at ht
        have h2 : s.size - (k - (txtLen p - 1)) = s.size - (k + 1) + p.1.size := by have := h1.1; have := h1.2.1; show _ = _ + txtLen p; omega
        rw [h2] at ht
        exact ht.step hp hf
      · intro hb
        generalize ha : s.size - (k + 1) = a at hb
        cases hb with
        | fin => omega
        | @step _ p h2 hp hf =>
          rw [← ha] at hf h2
          have h1 := tblT_hyp hbk s k (by omega) p hp hf
          refine way_some hp (by rw [ha] at hf; exact hf) ?_
          rw [List.getD_eq_getElem?_getD, dpW_get _ _ _ _ _ _ (by have := h1.2.1; omega), ← List.getD_eq_getElem?_getD, ih (k - (txtLen p - 1)) (by omega) (by omega)]
          have h3 : s.size - (k - (txtLen p - 1)) = s.size - (k + 1) + p.1.size := by have := h1.1; have := h1.2.1; show _ = _ + txtLen p; omega
          rw [h3]; exact h2
theorem least_bck {ps : List Phr} {s : ByteArray} (hb : (bookB ps && lettB s) = true) : (leastO ps s).isSome = true ↔ Bck ps s 0 := by
  rw [leastO_yes hb]
  rw [Bool.and_eq_true] at hb
  have h1 := dpL_head hb.1 s s.size (Nat.le_refl _)
  rwa [Nat.sub_self] at h1
/-- There is a spelling exactly where there are ways. -/
theorem least_ways {ps : List Phr} {s : ByteArray} (hb : (bookB ps && lettB s) = true) : (leastO ps s).isSome = decide (0 < cntT ps s) := by
  have h1 := least_bck hb
  rw [Bool.and_eq_true] at hb
  have h2 := dpW_head hb.1 s s.size (Nat.le_refl _)
  rw [Nat.sub_self] at h2
  rw [Bool.eq_iff_iff, h1, decide_eq_true_eq]
  exact h2.symm
theorem part_full {ps : List Phr} {s : ByteArray} {n : Nat} (h : leastO ps s = some n) : partV ps s = s.size := by
  have hb := leastO_ask h
  have h1 := (least_bck hb).1 (by rw [h]; rfl)
  rw [Bool.and_eq_true] at hb
  exact partM_eq hb.1 (Nat.le_refl _) (bck_rch.1 h1) (Nat.le_refl _) (fun p hp _ => hp)
theorem part_le (ps : List Phr) (s : ByteArray) : partV ps s ≤ s.size := partM_le ps s s.size
theorem read_from {ps : List Phr} (hb : bookB ps = true) {sig : List Int} : ∀ (l : List Nat) (k : Nat), (∀ i ∈ l, i < ps.length) → k ≤ sig.length → sig.drop (sig.length - k) = sigsOf ps l → 0 < (dpW (fitS sig) sigLen ps sig.length k).getD 0 0
  | [], k, _, hk, hd => by
    have hl := congrArg List.length hd
    rw [List.length_drop] at hl
    simp [sigsOf] at hl
    obtain rfl : k = 0 := by omega
    simp [dpW]
  | i :: l, k, hi, hk, hd => by
    have hil := hi i (by simp)
    have hp : ps[i]? = some ps[i] := List.getElem?_eq_getElem hil
    obtain ⟨p, hpe⟩ : ∃ p, p = ps[i] := ⟨_, rfl⟩
    rw [← hpe] at hp
    have h1 := (phrOk_sig (bookB_phr hb (List.mem_of_getElem? hp))).1
    rw [sigsOf_cons hp] at hd
    have hl := congrArg List.length hd
    rw [List.length_drop, List.length_append] at hl
    obtain ⟨k, rfl⟩ : ∃ j, k = j + 1 := ⟨k - 1, by omega⟩
    have e : (dpW (fitS sig) sigLen ps sig.length (k + 1)).getD 0 0 = wayAt (fitS sig (sig.length - (k + 1))) sigLen ps (dpW (fitS sig) sigLen ps sig.length k) := by simp [dpW]
    rw [e]
    refine way_some (List.mem_of_getElem? hp) ?_ ?_
    · unfold fitS
      rw [begB_iff, hd]
      exact List.prefix_append _ _
    · have hz : sigLen p = p.2.length := rfl
      rw [List.getD_eq_getElem?_getD, dpW_get _ _ _ _ _ _ (by omega), ← List.getD_eq_getElem?_getD]
      refine read_from hb l _ (fun j hj => hi j (by simp [hj])) (by omega) ?_
      rw [show sig.length - (k - (sigLen p - 1)) = sig.length - (k + 1) + p.2.length by omega, ← List.drop_drop, hd, List.drop_left]
/-- What is written has a reading. -/
theorem read_sent {ps : List Phr} (hb : bookB ps = true) {l : List Nat} (hl : ∀ i ∈ l, i < ps.length) : 0 < cntS ps (sigsOf ps l) :=
  read_from hb l _ hl (Nat.le_refl _) (by rw [Nat.sub_self, List.drop_zero])
theorem sav_from {ps : List Phr} {s : ByteArray} {b : Nat} (hs : savK ps s s.size = some b) : ∀ (k a : Nat), k ≤ s.size → savK ps s (s.size - k) = some a → ∃ c, (dpL (fitT s) txtLen sigCost ps s.size k).getD 0 Option.none = some c ∧ c + a ≤ b
  | 0, a, _, ha => by
    rw [Nat.sub_zero, hs] at ha
    cases ha
    exact ⟨0, rfl, by omega⟩
  | k + 1, a, hk, ha => by
    have hm : s.size - (k + 1) < s.size := by omega
    cases h2 : letIx ps s (s.size - (k + 1)) with
    | none => rw [savK_no h2 hm] at hs; cases hs
    | some i =>
      obtain ⟨p, hp, he⟩ := letIx_at h2
      have hf := let_fit hm he
      have h3 := savK_step ha h2 hp
      rw [show s.size - (k + 1) + 1 = s.size - k by omega] at h3
      obtain ⟨c, hc, hle⟩ := sav_from hs k _ (by omega) h3
      have hv : valP (fitT s (s.size - (k + 1))) txtLen sigCost (dpL (fitT s) txtLen sigCost ps s.size k) p = some (sigCost p + c) := by
        unfold valP
        rw [hf.1, if_pos rfl, show txtLen p - 1 = 0 by show p.1.size - 1 = 0; omega, hc]; rfl
      have hls := least_lsAt (fit := fitT s (s.size - (k + 1))) (len := txtLen) (cost := sigCost) (tb := dpL (fitT s) txtLen sigCost ps s.size k) ps.length (Nat.le_refl _)
      rw [List.take_length] at hls
      obtain ⟨d, hd, hdl⟩ := hls.le p (List.mem_of_getElem? hp) _ hv
      refine ⟨d, ?_, ?_⟩
      · have e : (dpL (fitT s) txtLen sigCost ps s.size (k + 1)).getD 0 Option.none = lsAt (fitT s (s.size - (k + 1))) txtLen sigCost ps (dpL (fitT s) txtLen sigCost ps s.size k) := by simp [dpL]
        rw [e]; exact hd
      · have : sigCost p = p.2.length := rfl
        omega
/-- Letters one by one cost no less. -/
theorem saved_nonneg {ps : List Phr} {s : ByteArray} {z : Int} (h : savedO ps s = some z) : 0 ≤ z := by
  unfold savedO at h
  cases h1 : leastO ps s with
  | none => rw [h1] at h; cases h
  | some n =>
    cases h2 : savK ps s s.size with
    | none => rw [h1, h2] at h; cases h
    | some a =>
      rw [h1, h2] at h
      cases h
      obtain ⟨c, hc, hle⟩ := sav_from h2 s.size 0 (Nat.le_refl _) (by rw [Nat.sub_self]; rfl)
      have hb := leastO_ask h1
      rw [leastO_yes hb] at h1
      have : (dpL (fitT s) txtLen sigCost ps s.size s.size).getD 0 Option.none = some n := h1
      rw [this] at hc
      cases hc
      omega
end Go.Proofs.Ytjnkdjokbamibaa
/- For the law of spelling: the numbers spelled are numbers of phrases; their signals can be read. -/
namespace Go.Proofs.Ytjnkdjokbamibaa
open Go.RowKit
theorem ixB_spell (ps : List Phr) (s : ByteArray) : ixB ps (waysI (spellN ps s)) = true := by
  unfold ixB
  rw [Bool.and_eq_true, decide_eq_true_eq, waysI_len]
  refine ⟨spellN_len ps s, ?_⟩
  unfold allB
  rw [List.all_eq_true]
  intro y hy
  have := ixok_of (spellN_lt ps s) y hy
  exact inB_iff.2 (by omega)
theorem sigsOf_all {ps : List Phr} (h : bookB ps = true) : ∀ l : List Nat, allB (sigsOf ps l) 1 60 = true
  | [] => rfl
  | i :: l => by
    have ih := sigsOf_all h l
    unfold allB sigsOf at *
    rw [List.flatMap_cons, List.all_append, ih, Bool.and_true]
    cases hp : ps[i]? with
    | none => rfl
    | some p => exact (phrOk_sig (bookB_phr h (List.mem_of_getElem? hp))).2.2
theorem readB_spell {ps : List Phr} {s : ByteArray} {n : Nat} (h : leastO ps s = some n) (hn : n ≤ 60) : (bookB ps && readB (sigsOf ps (spellN ps s))) = true := by
  have hb := leastO_ask h
  rw [Bool.and_eq_true] at hb
  unfold readB
  rw [hb.1, sigsOf_all hb.1, enc_len h, decide_eq_true hn]; rfl
theorem spell_arr {ps : List Phr} {s : ByteArray} {n : Nat} (h : leastO ps s = some n) : (⟨(textL ps (waysI (spellN ps s))).toArray⟩ : ByteArray) = s := by
  rw [spell_text h]
theorem txts_spell {ps : List Phr} {s : ByteArray} {n : Nat} (h : leastO ps s = some n) : txtsV ps (waysI (spellN ps s)) = .tuple #[.string s, .bool true] := by
  have hb := leastO_ask h
  rw [Bool.and_eq_true] at hb
  unfold txtsV
  rw [hb.1, ixB_spell, spell_arr h]; rfl
/-- Where nothing is spelled, and where something is. -/
theorem spell_none {ps : List Phr} {s : ByteArray} (hb : (bookB ps && lettB s) = true) (h : leastO ps s = Option.none) : cntT ps s = 0 := by
  have := least_ways hb
  rw [h] at this
  have h2 := of_decide_eq_false this.symm
  omega
theorem spell_some {ps : List Phr} {s : ByteArray} {n : Nat} (h : leastO ps s = some n) : 0 < cntT ps s := by
  have := least_ways (leastO_ask h)
  rw [h] at this
  exact of_decide_eq_true this.symm
theorem sav_told (ps : List Phr) (s : ByteArray) : ∃ (z : Int) (q : Bool), savV (savedO ps s) = .tuple #[.int .i64 z, .bool q] ∧ (q = true → 0 ≤ z) := by
  cases h : savedO ps s with
  | none => exact ⟨0, false, rfl, fun h => by cases h⟩
  | some z => exact ⟨z, true, rfl, fun _ => saved_nonneg h⟩
end Go.Proofs.Ytjnkdjokbamibaa
/- Plain laws: an order by insertion; the indices in groups of one length each; the words of a canonical code. -/
namespace Go.Proofs.Ytjnkdjokbamibaa
open Go.RowKit
/-- A number's digits to the base r, as many as told. -/
def digL (r : Nat) : Nat → Nat → List Int
  | _, 0 => []
  | n, k + 1 => digL r (n / r) k ++ [((n % r : Nat) : Int)]
/-- The next word, the last length, the words so far. -/
structure CanS where
  next : Nat
  last : Nat
  rows : List (List Int)
end Go.Proofs.Ytjnkdjokbamibaa
