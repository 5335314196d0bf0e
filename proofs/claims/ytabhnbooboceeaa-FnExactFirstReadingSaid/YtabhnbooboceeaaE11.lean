/- Contract: the reference's table of the least lengths. -/
import Derived.Test.YtabhnbooboceeaaE10
namespace Go.Proofs.Ytabhnbooboceeaa
open Go.RowKit
theorem opts_ints (l : List (Option Nat)) : opts l = ints (l.map optI) := by simp
theorem lsStep_no {fit : Phr → Bool} {len cost : Phr → Nat} {tb : List (Option Nat)} {cur : Option Nat} {p : Phr} (h : fit p = false) : lsStep fit len cost tb cur p = cur := by unfold lsStep; rw [h]; rfl
theorem lsStep_none {fit : Phr → Bool} {len cost : Phr → Nat} {tb : List (Option Nat)} {cur : Option Nat} {p : Phr} (ht : tb[len p - 1]? = some Option.none) : lsStep fit len cost tb cur p = cur := by
  unfold lsStep; rw [List.getD_eq_getElem?_getD, ht]; cases fit p <;> rfl
theorem lsStep_some {fit : Phr → Bool} {len cost : Phr → Nat} {tb : List (Option Nat)} {cur : Option Nat} {p : Phr} {v : Nat} (h : fit p = true) (ht : tb[len p - 1]? = some (some v)) : lsStep fit len cost tb cur p = lsUpd cur (cost p + v) := by
  unfold lsStep; rw [h, List.getD_eq_getElem?_getD, ht]; rfl
set_option maxRecDepth 100000 in
set_option maxHeartbeats 4000000 in
theorem spTable_any (ps : List Phr) (s : ByteArray) (v : Value) (hi : Nat) (w : World) (h : RdB w hi v ps) (hh : hi ≤ w.heap.size) (hbk : bookB ps = true) (hs40 : s.size ≤ 40) :
    Calls Try.prog 60 #[v, .string s] w (RetOwI ((tblT ps s).map optI) w) := by
  obtain ⟨a, rfl, ha⟩ := h
  obtain ⟨A, c, rfl, hc, hm⟩ := ha.form
  have HA0 := Lib.hid ha
  have hba : Below w.heap.size w (w.alloc (.cells #[.slice A ps.length c] 30)) := (Below.refl _ _).alloc (Nat.le_refl _) _
  have HB := Lib.hid hba
  have HA := Lib.hid (ha.below hba hh)
  have HG : Hid (RdB (w.alloc (.cells #[.slice A ps.length c] 30)) hi (.agg #[.slice A ps.length c]) ps) := ⟨_, rfl, HA.out⟩
  have hcb0 : (w.alloc (.cells #[.slice A ps.length c] 30)).cell? ⟨w.heap.size, 0, Option.none⟩ = some (.slice A ps.length c) := (Blk.new w 30 #[.slice A ps.length c]).cell 0
  have HCB := Lib.hid hcb0
  have hsz1 : hi ≤ (w.alloc (.cells #[.slice A ps.length c] 30)).heap.size := by simp; omega
  clear ha hba hcb0
  have HBK := Lib.hid hbk
  clear hbk
  have hmk := make_ints (s.size + 1) (by omega)
  rw [show ((s.size + 1 : Nat) : Int) = (s.size : Int) + 1 from rfl] at hmk
  have HBW : Hid (Below w.heap.size w ((w.alloc (.cells #[.slice A ps.length c] 30)).alloc (.cells (zeros (s.size + 1)) 3))) := ((Below.refl _ _).alloc (Nat.le_refl _) _).alloc (by simp) _
  have HTB0 : Hid (Blk ((w.alloc (.cells #[.slice A ps.length c] 30)).alloc (.cells (zeros (s.size + 1)) 3)) (w.heap.size + 1) 3 (optZ s.size (dpL (fitT s) txtLen sigCost ps s.size 0))) := by
    have := Blk.new (w.alloc (.cells #[.slice A ps.length c] 30)) 3 (zeros (s.size + 1))
    rw [optZ_start] at this
    simp at this
    exact this
  have HCBX : Hid (((w.alloc (.cells #[.slice A ps.length c] 30)).alloc (.cells (zeros (s.size + 1)) 3)).cell? ⟨w.heap.size, 0, Option.none⟩ = some (.slice A ps.length c)) :=
    (((Below.refl (w.alloc (.cells #[.slice A ps.length c] 30)).heap.size (w.alloc (.cells #[.slice A ps.length c] 30))).alloc (Nat.le_refl _) (.cells (zeros (s.size + 1)) 3)).cell (p := ⟨w.heap.size, 0, Option.none⟩) (by simp)).trans HCB.out
  go_enter Try.func60, Try.ntmps60
  go_wp2_with fail
  go_loopw [6] (fun i wr => ∃ (m k : Nat) (z : Int), Hid (m + k = s.size) ∧ Hid (z = (m : Int) - 1) ∧ i = .int .i64 z ∧ Hid (Blk wr (w.heap.size + 1) 3 (optZ m (dpL (fitT s) txtLen sigCost ps s.size k))) ∧ Hid (Below (w.heap.size + 1) ((w.alloc (.cells #[.slice A ps.length c] 30)).alloc (.cells (zeros (s.size + 1)) 3)) wr)) (fun i _ => (intOf i + 1).toNat)
  case atStart => exact ⟨s.size, 0, (s.size : Int) - 1, rfl, rfl, rfl, HTB0.out, Below.refl _ _⟩
  case round =>
    obtain ⟨m, k, z, hmk1, hz, rfl, hblk, hbr⟩ := hrel
    have hs : (w.heap.size + 1) + 1 ≤ wr.heap.size := by have := hblk.out.lt; omega
    rcases m with _ | m
    · obtain rfl : z = -1 := by have := hz.out; omega
      have HK : Hid (k = s.size) := by have := hmk1.out; show k = _; omega
      go_wp2_with fail
      go_ret
      have h1 := hblk.out
      rw [HK.out] at h1
      refine ⟨_, rfl, ?_, HBW.out.trans (hbr.out.mono (by omega))⟩
      have e : ((tblT ps s).map optI).length = s.size + 1 := by simp [tblT, dpL_len]
      have h2 : Blk wr (w.heap.size + 1) 3 (ints ((tblT ps s).map optI)) := by rw [← opts_ints]; simpa [optZ, tblT] using h1
      have := own_of_blk (lo := w.heap.size) (hi := wr.heap.size) h2 (by omega) (by omega) (by rw [e]; unfold maxLen; omega)
      rw [e] at this
      exact this
    · obtain rfl : z = (m : Int) := by have := hz.out; omega
      have hm1 : m < s.size := by have := hmk1.out; omega
      have hboxr := (hbr.out.cell (p := ⟨w.heap.size, 0, Option.none⟩) (by show w.heap.size < (w.heap.size + 1); omega)).trans HCBX.out
      have hz0 := hblk.out.cell m
      rw [optZ_below] at hz0
      have hf0 := hblk.out.frozen m
      rename World => wo
      go_wp2_with fail
      go_loopw [27] (fun i wr => ∃ j : Nat, j ≤ ps.length ∧ i = .int .i64 j ∧ Hid (Blk wr (w.heap.size + 1) 3 (optZ m (lsAt (fitT s m) txtLen sigCost (ps.take j) (dpL (fitT s) txtLen sigCost ps s.size k) :: (dpL (fitT s) txtLen sigCost ps s.size k)))) ∧ Hid (Below (w.heap.size + 1) ((w.alloc (.cells #[.slice A ps.length c] 30)).alloc (.cells (zeros (s.size + 1)) 3)) wr)) (fun i _ => ps.length - (intOf i).toNat)
      case atStart => exact ⟨0, Nat.zero_le _, rfl, by have := hblk.out.set_ m (.int .i64 (-1)); rw [optZ_down] at this; exact this, hbr.out.setCell (Nat.le_refl _) _⟩
      case round =>
        obtain ⟨j, hjl, rfl, hblk2, hbr2⟩ := hrel
        have hs2 : (w.heap.size + 1) + 1 ≤ wr.heap.size := by have := hblk2.out.lt; omega
        have HBR := Lib.hid (HBW.out.trans (hbr2.out.mono (by omega)))
        clear hz0 hf0
        by_cases hlt : j < ps.length
        · obtain ⟨b1, o1, c1, a, t, xs, hv, hb1, hx, hcell1, hcell2, hra, hta⟩ := (HA0.out.below HBR.out (by omega)).at_ hlt
          cases hv
          obtain ⟨A2, c2, rfl, hc2, hm2⟩ := Rd.form hra
          have HX := Lib.hid hx
          have hfit : fitT s m (t, xs) = Lib.hasPrefix (s.extract m s.size).data.toList t.data.toList := rfl
          have HF := Lib.hid hfit
          have HAP := Lib.hid (tblT_hyp HBK.out s k (by have := hmk1.out; omega) (t, xs) (List.mem_of_getElem? HX.out))
          have HBP := Lib.hid (hbr2.out.alloc (show (w.heap.size + 1) ≤ wr.heap.size by omega) (.cells #[.string t, .slice A2 xs.length c2] 54))
          have HBLP : Hid (Blk (wr.alloc (.cells #[.string t, .slice A2 xs.length c2] 54)) (w.heap.size + 1) 3 (optZ m (lsAt (fitT s m) txtLen sigCost (ps.take j) (dpL (fitT s) txtLen sigCost ps s.size k) :: (dpL (fitT s) txtLen sigCost ps s.size k)))) := hblk2.out.alloc _
          clear hx hfit hra
          have cB := fun n => still_of (spBegins_any (s.extract m s.size) t (by simp; omega) hta ((wr.alloc (.cells #[.string t, .slice A2 xs.length c2] 54)).drewN n))
          cases hbg : Lib.hasPrefix (s.extract m s.size).data.toList t.data.toList
          · rw [hbg] at cB
            have CB := Lib.hid cB
            have HBG := Lib.hid hbg
            clear cB hbg
            go_wp2_with fail
            go_quiet ((go_at_call 102; exact Calls.quiet_of_same (CB.out _)))
            go_wp2_with fail
            go_roundw
            case rel => exact ⟨j + 1, by omega, by go_num, by rw [lsAt_snoc HX.out, lsStep_no (by rw [HF.out, HBG.out])]; exact HBLP.out, HBP.out.trans (bel_drewN _ _ _)⟩
            case measure => (simp [intOf]; try omega)
          · rw [hbg] at cB
            have CB := Lib.hid cB
            have HF1 : Hid (fitT s m (t, xs) = true) := hbg
            have hl := HAP.out (by rw [show s.size - (k + 1) = m by have := hmk1.out; omega]; exact HF1.out)
            have hl1 : 1 ≤ t.size := hl.1
            have hl2 : t.size ≤ k + 1 := hl.2.1
            have hl3 : xs.length ≤ 3 := hl.2.2
            have hmk2 := hmk1.out
            obtain ⟨ob, hvb⟩ : ∃ ob, (dpL (fitT s) txtLen sigCost ps s.size k)[t.size - 1]? = some ob := ⟨_, List.getElem?_eq_getElem (by rw [dpL_len]; omega)⟩
            have hvb2 : ∀ q, ob = some q → q ≤ 120 := fun q e => by
              have := dpL_txt HBK.out s k (by omega) (t.size - 1) q (by rw [← e]; exact hvb)
              omega
            have HVB := Lib.hid hvb
            have HVB2 := Lib.hid hvb2
            have HMK := Lib.hid hmk2
            have c1' := HBLP.out.cell (m + t.size)
            rw [show m + t.size = m + 1 + (t.size - 1) by omega, optZ_on hvb, show m + 1 + (t.size - 1) = m + t.size by omega] at c1'
            have i1 : IntKind.i64.wrap ((m : Int) + (t.size : Int)) = (m : Int) + (t.size : Int) := wrap_in (by omega)
            have i2 : (0 : Int) ≤ (m : Int) + (t.size : Int) := by omega
            have i3 : (m : Int) + (t.size : Int) < (s.size : Int) + 1 := by omega
            have i4 : ((m : Int) + (t.size : Int)).toNat = m + t.size := by omega
            clear cB hbg hl hvb hvb2 hmk2
            rcases ob with _ | vb
            · simp only [optI] at c1'
              go_wp2_with fail
              go_quiet ((go_at_call 102; exact Calls.quiet_of_same (CB.out _)))
              go_wp2_with fail
              go_roundw
              case rel => exact ⟨j + 1, by omega, by go_num, by rw [lsAt_snoc HX.out, lsStep_none HVB.out]; exact HBLP.out, HBP.out.trans (bel_drewN _ _ _)⟩
              case measure => (simp [intOf]; try omega)
            · have hv120 := HVB2.out vb rfl
              simp only [optI] at c1'
              have nb : decide ((vb : Int) < 0) = false := by rw [decide_eq_false_iff_not]; omega
              have nb2 : ¬ (vb : Int) < 0 := by omega
              have i5 : IntKind.i64.wrap ((xs.length : Int) + (vb : Int)) = (xs.length : Int) + (vb : Int) := wrap_in (by omega)
              have c0 := HBLP.out.cell m
              rw [optZ_at] at c0
              go_wp2_with fail
              go_quiet ((go_at_call 102; exact Calls.quiet_of_same (CB.out _)))
              go_wp2_with fail
              rcases hcur : (lsAt (fitT s m) txtLen sigCost (ps.take j) (dpL (fitT s) txtLen sigCost ps s.size k)) with _ | cv
              · rw [hcur] at c0
                have HCUR := Lib.hid hcur
                simp only [optI] at c0
                have d0 : ((wr.alloc (.cells #[.string t, .slice A2 xs.length c2] 54)).drewN nq).cell? ⟨(w.heap.size + 1), m, Option.none⟩ = some (.int .i64 (-1)) := c0
                have d2 : ((wr.alloc (.cells #[.string t, .slice A2 xs.length c2] 54)).drewN nq).frozen? ⟨(w.heap.size + 1), m, Option.none⟩ = false := HBLP.out.frozen m
                have d1 : ((wr.alloc (.cells #[.string t, .slice A2 xs.length c2] 54)).drewN nq).cell? ⟨(w.heap.size + 1), m + t.size, Option.none⟩ = some (.int .i64 (vb : Int)) := c1'
                have d3 : ((wr.alloc (.cells #[.string t, .slice A2 xs.length c2] 54)).drewN nq).cell? ⟨wr.heap.size, 0, Option.none⟩ = some (.string t) := (Blk.new wr 54 #[.string t, .slice A2 xs.length c2]).cell 0
                have d4 : ((wr.alloc (.cells #[.string t, .slice A2 xs.length c2] 54)).drewN nq).cell? ⟨wr.heap.size, 1, Option.none⟩ = some (.slice A2 xs.length c2) := (Blk.new wr 54 #[.string t, .slice A2 xs.length c2]).cell 1
                have HBQ := Lib.hid (HBP.out.trans (bel_drewN (w.heap.size + 1) (wr.alloc (.cells #[.string t, .slice A2 xs.length c2] 54)) nq))
                have HBLQ : Hid (Blk ((wr.alloc (.cells #[.string t, .slice A2 xs.length c2] 54)).drewN nq) (w.heap.size + 1) 3 (optZ m (lsAt (fitT s m) txtLen sigCost (ps.take j) (dpL (fitT s) txtLen sigCost ps s.size k) :: (dpL (fitT s) txtLen sigCost ps s.size k)))) := HBLP.out
                clear c0 c1'
                generalize (wr.alloc (.cells #[.string t, .slice A2 xs.length c2] 54)).drewN nq = wq at d0 d1 d2 d3 d4 HBQ HBLQ ⊢
                go_quiet (fail)
                clear hcur i1 i2 i3 i4 i5 d1 d3 d4 nb nb2
                have d5 : (wq.drewN nq).cell? ⟨(w.heap.size + 1), m, Option.none⟩ = some (.int .i64 (-1)) := d0
                have d6 : (wq.drewN nq).frozen? ⟨(w.heap.size + 1), m, Option.none⟩ = false := d2
                clear d0 d2
                go_wp2_with fail
                go_roundw
                case rel =>
                  refine ⟨j + 1, by omega, by go_num, ?_, (HBQ.out.trans (bel_drewN _ _ _)).setCell (Nat.le_refl _) _⟩
                  rw [lsAt_snoc HX.out, lsStep_some HF1.out HVB.out, HCUR.out]
                  have h5 := Blk.set_ (show Blk (wq.drewN nq) (w.heap.size + 1) 3 _ from HBLQ.out) m (.int .i64 (optI (some (xs.length + vb))))
                  rw [optZ_set] at h5
                  exact h5
                case measure => (simp [intOf]; try omega)
              · rw [hcur] at c0
                have HCUR := Lib.hid hcur
                simp only [optI] at c0
                have nc : decide ((cv : Int) < 0) = false := by rw [decide_eq_false_iff_not]; omega
                have nc2 : ¬ (cv : Int) < 0 := by omega
                have d0 : ((wr.alloc (.cells #[.string t, .slice A2 xs.length c2] 54)).drewN nq).cell? ⟨(w.heap.size + 1), m, Option.none⟩ = some (.int .i64 (cv : Int)) := c0
                have d2 : ((wr.alloc (.cells #[.string t, .slice A2 xs.length c2] 54)).drewN nq).frozen? ⟨(w.heap.size + 1), m, Option.none⟩ = false := HBLP.out.frozen m
                have d1 : ((wr.alloc (.cells #[.string t, .slice A2 xs.length c2] 54)).drewN nq).cell? ⟨(w.heap.size + 1), m + t.size, Option.none⟩ = some (.int .i64 (vb : Int)) := c1'
                have d3 : ((wr.alloc (.cells #[.string t, .slice A2 xs.length c2] 54)).drewN nq).cell? ⟨wr.heap.size, 0, Option.none⟩ = some (.string t) := (Blk.new wr 54 #[.string t, .slice A2 xs.length c2]).cell 0
                have d4 : ((wr.alloc (.cells #[.string t, .slice A2 xs.length c2] 54)).drewN nq).cell? ⟨wr.heap.size, 1, Option.none⟩ = some (.slice A2 xs.length c2) := (Blk.new wr 54 #[.string t, .slice A2 xs.length c2]).cell 1
                have HBQ := Lib.hid (HBP.out.trans (bel_drewN (w.heap.size + 1) (wr.alloc (.cells #[.string t, .slice A2 xs.length c2] 54)) nq))
                have HBLQ : Hid (Blk ((wr.alloc (.cells #[.string t, .slice A2 xs.length c2] 54)).drewN nq) (w.heap.size + 1) 3 (optZ m (lsAt (fitT s m) txtLen sigCost (ps.take j) (dpL (fitT s) txtLen sigCost ps s.size k) :: (dpL (fitT s) txtLen sigCost ps s.size k)))) := HBLP.out
                clear c0 c1'
                generalize (wr.alloc (.cells #[.string t, .slice A2 xs.length c2] 54)).drewN nq = wq at d0 d1 d2 d3 d4 HBQ HBLQ ⊢
                go_quiet (fail)
                clear hcur i1 i2 i3 i4 i5 d1 d3 d4 nb nb2
                have d5 : (wq.drewN nq).cell? ⟨(w.heap.size + 1), m, Option.none⟩ = some (.int .i64 (cv : Int)) := d0
                have d6 : (wq.drewN nq).frozen? ⟨(w.heap.size + 1), m, Option.none⟩ = false := d2
                clear d0 d2
                by_cases hnc : (xs.length : Int) + (vb : Int) < (cv : Int)
                · have HNC := Lib.hid hnc
                  go_wp2_with fail
                  go_roundw
                  case rel =>
                    refine ⟨j + 1, by omega, by go_num, ?_, (HBQ.out.trans (bel_drewN _ _ _)).setCell (Nat.le_refl _) _⟩
                    rw [lsAt_snoc HX.out, lsStep_some HF1.out HVB.out, HCUR.out]
                    have h5 := Blk.set_ (show Blk (wq.drewN nq) (w.heap.size + 1) 3 _ from HBLQ.out) m (.int .i64 (optI (some (xs.length + vb))))
                    rw [optZ_set] at h5
                    have e : lsUpd (some cv) (sigCost (t, xs) + vb) = some (xs.length + vb) := by unfold lsUpd; exact if_pos (by have := HNC.out; show xs.length + vb < cv; omega)
                    rw [e]; exact h5
                  case measure => (simp [intOf]; try omega)
                · have HNC := Lib.hid hnc
                  go_wp2_with fail
                  go_roundw
                  case rel =>
                    refine ⟨j + 1, by omega, by go_num, ?_, HBQ.out.trans (bel_drewN _ _ _)⟩
                    rw [lsAt_snoc HX.out, lsStep_some HF1.out HVB.out, HCUR.out]
                    have h5 : Blk (wq.drewN nq) (w.heap.size + 1) 3 (optZ m (lsAt (fitT s m) txtLen sigCost (ps.take j) (dpL (fitT s) txtLen sigCost ps s.size k) :: (dpL (fitT s) txtLen sigCost ps s.size k))) := HBLQ.out
                    rw [HCUR.out] at h5
                    have e : lsUpd (some cv) (sigCost (t, xs) + vb) = some cv := by unfold lsUpd; exact if_neg (by have := HNC.out; show ¬ xs.length + vb < cv; omega)
                    rw [e]; exact h5
                  case measure => (simp [intOf]; try omega)
        · obtain rfl : j = ps.length := by omega
          go_wp2_with fail
          go_roundw
          case rel => exact ⟨m, k + 1, (m : Int) - 1, by have := hmk1.out; show m + (k + 1) = _; omega, rfl, rfl, by
            have h1 := hblk2.out
            rw [List.take_of_length_le (Nat.le_refl _)] at h1
            have h2 : s.size - (k + 1) = m := by have := hmk1.out; omega
            show Blk _ _ _ (optZ m (dpL _ _ _ _ _ (k + 1)))
            rw [dpL, h2]; exact h1, hbr2⟩
          case measure => (simp [intOf]; try omega)
end Go.Proofs.Ytabhnbooboceeaa
