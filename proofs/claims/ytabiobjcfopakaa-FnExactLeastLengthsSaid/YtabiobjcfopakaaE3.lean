/- Contracts of the tables of readings, of the program and of the reference. -/
import Derived.Test.YtabiobjcfopakaaE2
import Derived.StillTailTactics
namespace Go.Proofs.Ytabiobjcfopakaa
open Go.RowKit
abbrev sigLen (p : Phr) : Nat := p.2.length
abbrev txtLen (p : Phr) : Nat := p.1.size
def waysI (l : List Nat) : List Int := l.map fun m : Nat => (m : Int)
theorem nats_ints (l : List Nat) : nats l = ints (waysI l) := by simp [waysI]
theorem dpW_sig {ps : List Phr} (h : bookB ps = true) (sig : List Int) : ∀ k, k ≤ sig.length → ∀ i m, (dpW (fitS sig) sigLen ps sig.length k)[i]? = some m → m ≤ 2 ^ (k - i) :=
  dpW_le fun k hk => by
    have := apart_sig h sig (sig.length - (k + 1))
    rwa [show sig.length - (sig.length - (k + 1)) = k + 1 by omega] at this
theorem dpW_txt {ps : List Phr} (h : bookB ps = true) (s : ByteArray) : ∀ k, k ≤ s.size → ∀ i m, (dpW (fitT s) txtLen ps s.size k)[i]? = some m → m ≤ 2 ^ (k - i) :=
  dpW_le fun k hk => by
    have := apart_txt h s (s.size - (k + 1))
    rwa [show s.size - (s.size - (k + 1)) = k + 1 by omega] at this
set_option maxRecDepth 100000 in
set_option maxHeartbeats 4000000 in
theorem spWays_any (ps : List Phr) (sig : List Int) (v u : Value) (hi hj : Nat) (w : World) (h : RdB w hi v ps) (g : RdI w hj u sig) (hh : hi ≤ w.heap.size) (hg : hj ≤ w.heap.size) (hbk : bookB ps = true) (hlen : sig.length ≤ 60) :
    Calls Try.prog 178 #[v, u] w (RetOwI (waysI (dpW (fitS sig) sigLen ps sig.length sig.length)) w) := by
  obtain ⟨A', c', rfl, hc', hm'⟩ := Rd.form g
  have G := Lib.hid g
  clear g
  obtain ⟨a, rfl, ha⟩ := h
  obtain ⟨A, c, rfl, hc, hm⟩ := ha.form
  have HA0 := Lib.hid ha
  have hba : Below w.heap.size w (w.alloc (.cells #[.slice A ps.length c] 48)) := (Below.refl _ _).alloc (Nat.le_refl _) _
  have HB := Lib.hid hba
  have HA := Lib.hid (ha.below hba hh)
  have HG : Hid (RdB (w.alloc (.cells #[.slice A ps.length c] 48)) hi (.agg #[.slice A ps.length c]) ps) := ⟨_, rfl, HA.out⟩
  have hcb0 : (w.alloc (.cells #[.slice A ps.length c] 48)).cell? ⟨w.heap.size, 0, Option.none⟩ = some (.slice A ps.length c) := (Blk.new w 48 #[.slice A ps.length c]).cell 0
  have HCB := Lib.hid hcb0
  have hsz1 : hi ≤ (w.alloc (.cells #[.slice A ps.length c] 48)).heap.size := by simp; omega
  clear ha hba hcb0
  have HBK := Lib.hid hbk
  clear hbk
  have hmk := make_ints (sig.length + 1) (by omega)
  rw [show ((sig.length + 1 : Nat) : Int) = (sig.length : Int) + 1 from rfl] at hmk
  have HBW : Hid (Below w.heap.size w ((w.alloc (.cells #[.slice A ps.length c] 48)).alloc (.cells ((zeros (sig.length + 1)).setIfInBounds sig.length (.int .i64 1)) 3))) := ((Below.refl _ _).alloc (Nat.le_refl _) _).alloc (by simp) _
  have HTB0 : Hid (Blk ((w.alloc (.cells #[.slice A ps.length c] 48)).alloc (.cells ((zeros (sig.length + 1)).setIfInBounds sig.length (.int .i64 1)) 3)) (w.heap.size + 1) 3 (tblZ sig.length (dpW (fitS sig) sigLen ps sig.length 0))) := by
    have := Blk.new (w.alloc (.cells #[.slice A ps.length c] 48)) 3 ((zeros (sig.length + 1)).setIfInBounds sig.length (.int .i64 1))
    rw [tblZ_start] at this
    simp at this
    exact this
  have HCBX : Hid (((w.alloc (.cells #[.slice A ps.length c] 48)).alloc (.cells ((zeros (sig.length + 1)).setIfInBounds sig.length (.int .i64 1)) 3)).cell? ⟨w.heap.size, 0, Option.none⟩ = some (.slice A ps.length c)) :=
    (((Below.refl (w.alloc (.cells #[.slice A ps.length c] 48)).heap.size (w.alloc (.cells #[.slice A ps.length c] 48))).alloc (Nat.le_refl _) (.cells ((zeros (sig.length + 1)).setIfInBounds sig.length (.int .i64 1)) 3)).cell (p := ⟨w.heap.size, 0, Option.none⟩) (by simp)).trans HCB.out
  have hz0 : ((w.alloc (.cells #[.slice A ps.length c] 48)).alloc (.cells (zeros (sig.length + 1)) 3)).cell? ⟨w.heap.size + 1, sig.length, Option.none⟩ = some (.int .i64 0) := by
    have := (Blk.new (w.alloc (.cells #[.slice A ps.length c] 48)) 3 (zeros (sig.length + 1))).cell sig.length
    rw [show (zeros (sig.length + 1)).toList[sig.length]? = some (.int .i64 0) by simp [zeros]] at this
    simpa using this
  go_enter Try.func178, Try.ntmps178
  go_wp2_with fail
  go_loopw [6] (fun i wr => ∃ (m k : Nat) (z : Int), Hid (m + k = sig.length) ∧ Hid (z = (m : Int) - 1) ∧ i = .int .i64 z ∧ Hid (Blk wr (w.heap.size + 1) 3 (tblZ m (dpW (fitS sig) sigLen ps sig.length k))) ∧ Hid (Below (w.heap.size + 1) ((w.alloc (.cells #[.slice A ps.length c] 48)).alloc (.cells ((zeros (sig.length + 1)).setIfInBounds sig.length (.int .i64 1)) 3)) wr)) (fun i _ => (intOf i + 1).toNat)
  case atStart => exact ⟨sig.length, 0, (sig.length : Int) - 1, rfl, rfl, rfl, HTB0.out, Below.refl _ _⟩
  case round =>
    obtain ⟨m, k, z, hmk1, hz, rfl, hblk, hbr⟩ := hrel
    have hs : (w.heap.size + 1) + 1 ≤ wr.heap.size := by have := hblk.out.lt; omega
    rcases m with _ | m
    · obtain rfl : z = -1 := by have := hz.out; omega
      have HK : Hid (k = sig.length) := by have := hmk1.out; show k = _; omega
      go_wp2_with fail
      go_ret
      have h1 := hblk.out
      rw [HK.out] at h1
      refine ⟨_, rfl, ?_, HBW.out.trans (hbr.out.mono (by omega))⟩
      have e : (waysI (dpW (fitS sig) sigLen ps sig.length sig.length)).length = sig.length + 1 := by simp [waysI, dpW_len]
      have h2 : Blk wr (w.heap.size + 1) 3 (ints (waysI (dpW (fitS sig) sigLen ps sig.length sig.length))) := by rw [← nats_ints]; simpa [tblZ] using h1
      have := own_of_blk (lo := w.heap.size) (hi := wr.heap.size) h2 (by omega) (by omega) (by rw [e]; unfold maxLen; omega)
      rw [e] at this
      exact this
    · obtain rfl : z = (m : Int) := by have := hz.out; omega
      have hm1 : m < sig.length := by have := hmk1.out; omega
      have hboxr := (hbr.out.cell (p := ⟨w.heap.size, 0, Option.none⟩) (by show w.heap.size < (w.heap.size + 1); omega)).trans HCBX.out
      obtain ⟨b3, o3, c3, y3, hv3, _, _, _⟩ := Rd.at_ G.out hm1
      injection hv3 with hv4 hv5 hv6
      subst hv4
      clear hv5 hv6
      rename World => wo
      go_wp2_with fail
      go_loopw [27] (fun i wr => ∃ j : Nat, j ≤ ps.length ∧ i = .int .i64 j ∧ Hid (Blk wr (w.heap.size + 1) 3 (tblC m (wayAt (fitS sig m) sigLen (ps.take j) (dpW (fitS sig) sigLen ps sig.length k)) (dpW (fitS sig) sigLen ps sig.length k))) ∧ Hid (Below (w.heap.size + 1) ((w.alloc (.cells #[.slice A ps.length c] 48)).alloc (.cells ((zeros (sig.length + 1)).setIfInBounds sig.length (.int .i64 1)) 3)) wr)) (fun i _ => ps.length - (intOf i).toNat)
      case atStart => exact ⟨0, Nat.zero_le _, rfl, by have := hblk.out; rw [tblZ_down] at this; exact this, hbr⟩
      case round =>
        obtain ⟨j, hjl, rfl, hblk2, hbr2⟩ := hrel
        have hs2 : (w.heap.size + 1) + 1 ≤ wr.heap.size := by have := hblk2.out.lt; omega
        have HBR := Lib.hid (HBW.out.trans (hbr2.out.mono (by omega)))
        by_cases hlt : j < ps.length
        · obtain ⟨b1, o1, c1, a, t, xs, hv, hb1, hx, hcell1, hcell2, hra, hta⟩ := (HA0.out.below HBR.out (by omega)).at_ hlt
          cases hv
          obtain ⟨A2, c2, rfl, hc2, hm2⟩ := Rd.form hra
          have HX := Lib.hid hx
          have HRA := Lib.hid hra
          clear hra
          have hfit : fitS sig m (t, xs) = begB xs (sig.drop m) := rfl
          have HF := Lib.hid hfit
          have HAP := Lib.hid (((apart_sig HBK.out sig m).2 (t, xs) (List.mem_of_getElem? HX.out)))
          have HBP := Lib.hid (hbr2.out.alloc (show (w.heap.size + 1) ≤ wr.heap.size by omega) (.cells #[.string t, .slice A2 xs.length c2] 60))
          have HBLP : Hid (Blk (wr.alloc (.cells #[.string t, .slice A2 xs.length c2] 60)) (w.heap.size + 1) 3 (tblC m (wayAt (fitS sig m) sigLen (ps.take j) (dpW (fitS sig) sigLen ps sig.length k)) (dpW (fitS sig) sigLen ps sig.length k))) := hblk2.out.alloc _
          clear hx hfit
          have HGD : Hid (RdI (wr.alloc (.cells #[.string t, .slice A2 xs.length c2] 60)) hj (.slice (some ⟨b3, o3 + m, Option.none⟩) (sig.length - m) (c' - m)) (sig.drop m)) := (RdI.below G.out (HBR.out.trans ((Below.refl wr.heap.size wr).alloc (Nat.le_refl _) _ |>.mono (by omega))) (by omega)).drop (by omega)
          have HRX : Hid (RdI (wr.alloc (.cells #[.string t, .slice A2 xs.length c2] 60)) hi (.slice A2 xs.length c2) xs) := HRA.out.below ((Below.refl wr.heap.size wr).alloc (Nat.le_refl _) _) (by omega)
          have cB := fun n => bkBegins_any xs (sig.drop m) (.slice A2 xs.length c2) (.slice (some ⟨b3, o3 + m, Option.none⟩) (sig.length - m) (c' - m)) hi hj ((wr.alloc (.cells #[.string t, .slice A2 xs.length c2] 60)).drewN n) (show RdI ((wr.alloc (.cells #[.string t, .slice A2 xs.length c2] 60)).drewN n) hi _ _ from HRX.out) (show RdI ((wr.alloc (.cells #[.string t, .slice A2 xs.length c2] 60)).drewN n) hj _ _ from HGD.out)
          cases hbg : begB xs (sig.drop m)
          · rw [hbg] at cB
            have CB := Lib.hid cB
            have HBG := Lib.hid hbg
            clear cB hbg
            go_wp2_with fail
            go_quiet ((go_at_call 209; exact Calls.quiet_of (CB.out _)))
            go_wp2_with fail
            go_roundw
            case rel => exact ⟨j + 1, by omega, by go_num, by rw [wayAt_snoc HX.out, HF.out, HBG.out]; exact HBLP.out, HBP.out.trans (bel_drewN _ _ _)⟩
            case measure => simp [intOf]; omega
          · rw [hbg] at cB
            have CB := Lib.hid cB
            have HBG := Lib.hid hbg
            have hl := HAP.out (by rw [HF.out, HBG.out])
            have hl1 : 1 ≤ xs.length := hl.1
            have hl2 : xs.length ≤ sig.length - m := hl.2
            have hmk2 := hmk1.out
            obtain ⟨va, hva⟩ : ∃ va, va = wayAt (fitS sig m) sigLen (ps.take j) (dpW (fitS sig) sigLen ps sig.length k) := ⟨_, rfl⟩
            obtain ⟨vb, hvb⟩ : ∃ vb, (dpW (fitS sig) sigLen ps sig.length k)[xs.length - 1]? = some vb := ⟨_, List.getElem?_eq_getElem (by rw [dpW_len]; omega)⟩
            have hsum : va + vb ≤ 2 ^ 61 := by
              have h1 : va < 2 ^ (sig.length - m) := by rw [hva]; exact wayAt_lt ((apart_sig HBK.out sig m).take j) (fun i q hq => by have := (dpW_sig HBK.out sig) k (by omega) i q hq; rwa [show sig.length - m - (i + 1) = k - i by omega])
              have h2 := (dpW_sig HBK.out sig) k (by omega) _ _ hvb
              have h3 : 2 ^ (sig.length - m) ≤ 2 ^ 60 := Nat.pow_le_pow_right (by decide) (by omega)
              have h4 : 2 ^ (k - (xs.length - 1)) ≤ 2 ^ 60 := Nat.pow_le_pow_right (by decide) (by omega)
              omega
            have HVA := Lib.hid hva
            have HVB := Lib.hid hvb
            have HS := Lib.hid hsum
            have HMK := Lib.hid hmk2
            rw [← HVA.out] at HBLP
            have c0 := HBLP.out.cell m
            rw [tblC_at] at c0
            have c1' := HBLP.out.cell (m + xs.length)
            rw [show m + xs.length = m + 1 + (xs.length - 1) by omega, tblC_on hvb, show m + 1 + (xs.length - 1) = m + xs.length by omega] at c1'
            have f0 := HBLP.out.frozen m
            have i1 : IntKind.i64.wrap ((m : Int) + (xs.length : Int)) = (m : Int) + (xs.length : Int) := wrap_in (by omega)
            have i2 : (0 : Int) ≤ (m : Int) + (xs.length : Int) := by omega
            have i3 : (m : Int) + (xs.length : Int) < (sig.length : Int) + 1 := by omega
            have i4 : ((m : Int) + (xs.length : Int)).toNat = m + xs.length := by omega
            have i6 : (m : Int) < (sig.length : Int) + 1 := by omega
            have i7 : (0 : Int) ≤ (m : Int) := by omega
            have i8 : ((m : Int)).toNat = m := by omega
            have i5 : IntKind.i64.wrap ((va : Int) + (vb : Int)) = (va : Int) + (vb : Int) := wrap_in (by omega)
            clear cB hbg hl hva hvb hsum hmk2
            go_wp2_with fail
            go_quiet ((go_at_call 209; exact Calls.quiet_of (CB.out _)))
            go_wp2_with fail
            have d0 : ((wr.alloc (.cells #[.string t, .slice A2 xs.length c2] 60)).drewN nq).cell? ⟨w.heap.size + 1, m, Option.none⟩ = some (.int .i64 (va : Int)) := c0
            have d1 : ((wr.alloc (.cells #[.string t, .slice A2 xs.length c2] 60)).drewN nq).cell? ⟨w.heap.size + 1, m + xs.length, Option.none⟩ = some (.int .i64 (vb : Int)) := c1'
            have d2 : ((wr.alloc (.cells #[.string t, .slice A2 xs.length c2] 60)).drewN nq).frozen? ⟨w.heap.size + 1, m, Option.none⟩ = false := f0
            have d3 : ((wr.alloc (.cells #[.string t, .slice A2 xs.length c2] 60)).drewN nq).cell? ⟨wr.heap.size, 1, Option.none⟩ = some (.slice A2 xs.length c2) := (Blk.new wr 60 #[.string t, .slice A2 xs.length c2]).cell 1
            have HBQ := Lib.hid (HBP.out.trans (bel_drewN (w.heap.size + 1) (wr.alloc (.cells #[.string t, .slice A2 xs.length c2] 60)) nq))
            have HBLQ : Hid (Blk ((wr.alloc (.cells #[.string t, .slice A2 xs.length c2] 60)).drewN nq) (w.heap.size + 1) 3 (tblC m va (dpW (fitS sig) sigLen ps sig.length k))) := HBLP.out
            clear c0 c1' f0
            generalize (wr.alloc (.cells #[.string t, .slice A2 xs.length c2] 60)).drewN nq = wq at d0 d1 d2 d3 HBQ HBLQ ⊢
            go_still_tail 14, (by kernel_rfl)
            change wpList _ _ _ _ _ wq.drew
            clear i1 i2 i3 i4 i5 i6 i7 i8 d1 d3
            have d4 : wq.drew.frozen? ⟨w.heap.size + 1, m, Option.none⟩ = false := d2
            have d5 : wq.drew.cell? ⟨w.heap.size + 1, m, Option.none⟩ = some (.int .i64 (va : Int)) := d0
            clear d2 d0
            go_wp2_with fail
            go_roundw
            case rel =>
              refine ⟨j + 1, by omega, by go_num, ?_, ?_⟩
              · rw [wayAt_snoc HX.out, HF.out, HBG.out]
                show Blk _ _ _ (tblC m (_ + List.getD _ (xs.length - 1) 0) _)
                rw [← HVA.out, List.getD_eq_getElem?_getD, HVB.out]
                have := Blk.set_ (show Blk wq.drew (w.heap.size + 1) 3 _ from HBLQ.out) m (.int .i64 ((va + vb : Nat) : Int))
                rw [tblC_set] at this
                exact this
              · exact (HBQ.out.drew).setCell (Nat.le_refl _) _
            case measure => simp [intOf]; omega
        · obtain rfl : j = ps.length := by omega
          go_wp2_with fail
          go_roundw
          case rel => exact ⟨m, k + 1, (m : Int) - 1, by have := hmk1.out; show m + (k + 1) = _; omega, rfl, rfl, by
            have h1 := hblk2.out
            rw [List.take_of_length_le (Nat.le_refl _), tblC_Z] at h1
            have h2 : sig.length - (k + 1) = m := by have := hmk1.out; omega
            show Blk _ _ _ (tblZ m (dpW _ _ _ _ (k + 1)))
            rw [dpW, h2]; exact h1, hbr2⟩
          case measure => (simp [intOf]; try omega)
set_option maxRecDepth 100000 in
set_option maxHeartbeats 4000000 in
theorem readings_any (ps : List Phr) (sig : List Int) (v u : Value) (hi hj : Nat) (w : World) (h : RdB w hi v ps) (g : RdI w hj u sig) (hh : hi ≤ w.heap.size) (hg : hj ≤ w.heap.size) (hbk : bookB ps = true) (hlen : sig.length ≤ 60) :
    Calls Try.prog 177 #[v, u] w (RetOwI (waysI (dpW (fitS sig) sigLen ps sig.length sig.length)) w) := by
  obtain ⟨A', c', rfl, hc', hm'⟩ := Rd.form g
  have G := Lib.hid g
  clear g
  obtain ⟨a, rfl, ha⟩ := h
  obtain ⟨A, c, rfl, hc, hm⟩ := ha.form
  have HA0 := Lib.hid ha
  have hba : Below w.heap.size w (w.alloc (.cells #[.slice A ps.length c] 48)) := (Below.refl _ _).alloc (Nat.le_refl _) _
  have HB := Lib.hid hba
  have HA := Lib.hid (ha.below hba hh)
  have HG : Hid (RdB (w.alloc (.cells #[.slice A ps.length c] 48)) hi (.agg #[.slice A ps.length c]) ps) := ⟨_, rfl, HA.out⟩
  have hcb0 : (w.alloc (.cells #[.slice A ps.length c] 48)).cell? ⟨w.heap.size, 0, Option.none⟩ = some (.slice A ps.length c) := (Blk.new w 48 #[.slice A ps.length c]).cell 0
  have HCB := Lib.hid hcb0
  have hsz1 : hi ≤ (w.alloc (.cells #[.slice A ps.length c] 48)).heap.size := by simp; omega
  clear ha hba hcb0
  have HBK := Lib.hid hbk
  clear hbk
  have hmk := make_ints (sig.length + 1) (by omega)
  rw [show ((sig.length + 1 : Nat) : Int) = (sig.length : Int) + 1 from rfl] at hmk
  have HBW : Hid (Below w.heap.size w ((w.alloc (.cells #[.slice A ps.length c] 48)).alloc (.cells ((zeros (sig.length + 1)).setIfInBounds sig.length (.int .i64 1)) 3))) := ((Below.refl _ _).alloc (Nat.le_refl _) _).alloc (by simp) _
  have HTB0 : Hid (Blk ((w.alloc (.cells #[.slice A ps.length c] 48)).alloc (.cells ((zeros (sig.length + 1)).setIfInBounds sig.length (.int .i64 1)) 3)) (w.heap.size + 1) 3 (tblZ sig.length (dpW (fitS sig) sigLen ps sig.length 0))) := by
    have := Blk.new (w.alloc (.cells #[.slice A ps.length c] 48)) 3 ((zeros (sig.length + 1)).setIfInBounds sig.length (.int .i64 1))
    rw [tblZ_start] at this
    simp at this
    exact this
  have HCBX : Hid (((w.alloc (.cells #[.slice A ps.length c] 48)).alloc (.cells ((zeros (sig.length + 1)).setIfInBounds sig.length (.int .i64 1)) 3)).cell? ⟨w.heap.size, 0, Option.none⟩ = some (.slice A ps.length c)) :=
    (((Below.refl (w.alloc (.cells #[.slice A ps.length c] 48)).heap.size (w.alloc (.cells #[.slice A ps.length c] 48))).alloc (Nat.le_refl _) (.cells ((zeros (sig.length + 1)).setIfInBounds sig.length (.int .i64 1)) 3)).cell (p := ⟨w.heap.size, 0, Option.none⟩) (by simp)).trans HCB.out
  have hz0 : ((w.alloc (.cells #[.slice A ps.length c] 48)).alloc (.cells (zeros (sig.length + 1)) 3)).cell? ⟨w.heap.size + 1, sig.length, Option.none⟩ = some (.int .i64 0) := by
    have := (Blk.new (w.alloc (.cells #[.slice A ps.length c] 48)) 3 (zeros (sig.length + 1))).cell sig.length
    rw [show (zeros (sig.length + 1)).toList[sig.length]? = some (.int .i64 0) by simp [zeros]] at this
    simpa using this
  go_enter Try.func177, Try.ntmps177
  go_wp2_with fail
  go_loopw [6] (fun i wr => ∃ (m k : Nat) (z : Int), Hid (m + k = sig.length) ∧ Hid (z = (m : Int) - 1) ∧ i = .int .i64 z ∧ Hid (Blk wr (w.heap.size + 1) 3 (tblZ m (dpW (fitS sig) sigLen ps sig.length k))) ∧ Hid (Below (w.heap.size + 1) ((w.alloc (.cells #[.slice A ps.length c] 48)).alloc (.cells ((zeros (sig.length + 1)).setIfInBounds sig.length (.int .i64 1)) 3)) wr)) (fun i _ => (intOf i + 1).toNat)
  case atStart => exact ⟨sig.length, 0, (sig.length : Int) - 1, rfl, rfl, rfl, HTB0.out, Below.refl _ _⟩
  case round =>
    obtain ⟨m, k, z, hmk1, hz, rfl, hblk, hbr⟩ := hrel
    have hs : (w.heap.size + 1) + 1 ≤ wr.heap.size := by have := hblk.out.lt; omega
    rcases m with _ | m
    · obtain rfl : z = -1 := by have := hz.out; omega
      have HK : Hid (k = sig.length) := by have := hmk1.out; show k = _; omega
      go_wp2_with fail
      go_ret
      have h1 := hblk.out
      rw [HK.out] at h1
      refine ⟨_, rfl, ?_, HBW.out.trans (hbr.out.mono (by omega))⟩
      have e : (waysI (dpW (fitS sig) sigLen ps sig.length sig.length)).length = sig.length + 1 := by simp [waysI, dpW_len]
      have h2 : Blk wr (w.heap.size + 1) 3 (ints (waysI (dpW (fitS sig) sigLen ps sig.length sig.length))) := by rw [← nats_ints]; simpa [tblZ] using h1
      have := own_of_blk (lo := w.heap.size) (hi := wr.heap.size) h2 (by omega) (by omega) (by rw [e]; unfold maxLen; omega)
      rw [e] at this
      exact this
    · obtain rfl : z = (m : Int) := by have := hz.out; omega
      have hm1 : m < sig.length := by have := hmk1.out; omega
      have hboxr := (hbr.out.cell (p := ⟨w.heap.size, 0, Option.none⟩) (by show w.heap.size < (w.heap.size + 1); omega)).trans HCBX.out
      obtain ⟨b3, o3, c3, y3, hv3, _, _, _⟩ := Rd.at_ G.out hm1
      injection hv3 with hv4 hv5 hv6
      subst hv4
      clear hv5 hv6
      rename World => wo
      go_wp2_with fail
      go_loopw [27] (fun i wr => ∃ j : Nat, j ≤ ps.length ∧ i = .int .i64 j ∧ Hid (Blk wr (w.heap.size + 1) 3 (tblC m (wayAt (fitS sig m) sigLen (ps.take j) (dpW (fitS sig) sigLen ps sig.length k)) (dpW (fitS sig) sigLen ps sig.length k))) ∧ Hid (Below (w.heap.size + 1) ((w.alloc (.cells #[.slice A ps.length c] 48)).alloc (.cells ((zeros (sig.length + 1)).setIfInBounds sig.length (.int .i64 1)) 3)) wr)) (fun i _ => ps.length - (intOf i).toNat)
      case atStart => exact ⟨0, Nat.zero_le _, rfl, by have := hblk.out; rw [tblZ_down] at this; exact this, hbr⟩
      case round =>
        obtain ⟨j, hjl, rfl, hblk2, hbr2⟩ := hrel
        have hs2 : (w.heap.size + 1) + 1 ≤ wr.heap.size := by have := hblk2.out.lt; omega
        have HBR := Lib.hid (HBW.out.trans (hbr2.out.mono (by omega)))
        by_cases hlt : j < ps.length
        · obtain ⟨b1, o1, c1, a, t, xs, hv, hb1, hx, hcell1, hcell2, hra, hta⟩ := (HA0.out.below HBR.out (by omega)).at_ hlt
          cases hv
          obtain ⟨A2, c2, rfl, hc2, hm2⟩ := Rd.form hra
          have HX := Lib.hid hx
          have HRA := Lib.hid hra
          clear hra
          have hfit : fitS sig m (t, xs) = begB xs (sig.drop m) := rfl
          have HF := Lib.hid hfit
          have HAP := Lib.hid (((apart_sig HBK.out sig m).2 (t, xs) (List.mem_of_getElem? HX.out)))
          have HBP := Lib.hid (hbr2.out.alloc (show (w.heap.size + 1) ≤ wr.heap.size by omega) (.cells #[.string t, .slice A2 xs.length c2] 60))
          have HBLP : Hid (Blk (wr.alloc (.cells #[.string t, .slice A2 xs.length c2] 60)) (w.heap.size + 1) 3 (tblC m (wayAt (fitS sig m) sigLen (ps.take j) (dpW (fitS sig) sigLen ps sig.length k)) (dpW (fitS sig) sigLen ps sig.length k))) := hblk2.out.alloc _
          clear hx hfit
          have HGD : Hid (RdI (wr.alloc (.cells #[.string t, .slice A2 xs.length c2] 60)) hj (.slice (some ⟨b3, o3 + m, Option.none⟩) (sig.length - m) (c' - m)) (sig.drop m)) := (RdI.below G.out (HBR.out.trans ((Below.refl wr.heap.size wr).alloc (Nat.le_refl _) _ |>.mono (by omega))) (by omega)).drop (by omega)
          have HRX : Hid (RdI (wr.alloc (.cells #[.string t, .slice A2 xs.length c2] 60)) hi (.slice A2 xs.length c2) xs) := HRA.out.below ((Below.refl wr.heap.size wr).alloc (Nat.le_refl _) _) (by omega)
          have cB := fun n => begins_any xs (sig.drop m) (.slice A2 xs.length c2) (.slice (some ⟨b3, o3 + m, Option.none⟩) (sig.length - m) (c' - m)) hi hj ((wr.alloc (.cells #[.string t, .slice A2 xs.length c2] 60)).drewN n) (show RdI ((wr.alloc (.cells #[.string t, .slice A2 xs.length c2] 60)).drewN n) hi _ _ from HRX.out) (show RdI ((wr.alloc (.cells #[.string t, .slice A2 xs.length c2] 60)).drewN n) hj _ _ from HGD.out)
          cases hbg : begB xs (sig.drop m)
          · rw [hbg] at cB
            have CB := Lib.hid cB
            have HBG := Lib.hid hbg
            clear cB hbg
            go_wp2_with fail
            go_quiet ((go_at_call 208; exact Calls.quiet_of (CB.out _)))
            go_wp2_with fail
            go_roundw
            case rel => exact ⟨j + 1, by omega, by go_num, by rw [wayAt_snoc HX.out, HF.out, HBG.out]; exact HBLP.out, HBP.out.trans (bel_drewN _ _ _)⟩
            case measure => simp [intOf]; omega
          · rw [hbg] at cB
            have CB := Lib.hid cB
            have HBG := Lib.hid hbg
            have hl := HAP.out (by rw [HF.out, HBG.out])
            have hl1 : 1 ≤ xs.length := hl.1
            have hl2 : xs.length ≤ sig.length - m := hl.2
            have hmk2 := hmk1.out
            obtain ⟨va, hva⟩ : ∃ va, va = wayAt (fitS sig m) sigLen (ps.take j) (dpW (fitS sig) sigLen ps sig.length k) := ⟨_, rfl⟩
            obtain ⟨vb, hvb⟩ : ∃ vb, (dpW (fitS sig) sigLen ps sig.length k)[xs.length - 1]? = some vb := ⟨_, List.getElem?_eq_getElem (by rw [dpW_len]; omega)⟩
            have hsum : va + vb ≤ 2 ^ 61 := by
              have h1 : va < 2 ^ (sig.length - m) := by rw [hva]; exact wayAt_lt ((apart_sig HBK.out sig m).take j) (fun i q hq => by have := (dpW_sig HBK.out sig) k (by omega) i q hq; rwa [show sig.length - m - (i + 1) = k - i by omega])
              have h2 := (dpW_sig HBK.out sig) k (by omega) _ _ hvb
              have h3 : 2 ^ (sig.length - m) ≤ 2 ^ 60 := Nat.pow_le_pow_right (by decide) (by omega)
              have h4 : 2 ^ (k - (xs.length - 1)) ≤ 2 ^ 60 := Nat.pow_le_pow_right (by decide) (by omega)
              omega
            have HVA := Lib.hid hva
            have HVB := Lib.hid hvb
            have HS := Lib.hid hsum
            have HMK := Lib.hid hmk2
            rw [← HVA.out] at HBLP
            have c0 := HBLP.out.cell m
            rw [tblC_at] at c0
            have c1' := HBLP.out.cell (m + xs.length)
            rw [show m + xs.length = m + 1 + (xs.length - 1) by omega, tblC_on hvb, show m + 1 + (xs.length - 1) = m + xs.length by omega] at c1'
            have f0 := HBLP.out.frozen m
            have i1 : IntKind.i64.wrap ((m : Int) + (xs.length : Int)) = (m : Int) + (xs.length : Int) := wrap_in (by omega)
            have i2 : (0 : Int) ≤ (m : Int) + (xs.length : Int) := by omega
            have i3 : (m : Int) + (xs.length : Int) < (sig.length : Int) + 1 := by omega
            have i4 : ((m : Int) + (xs.length : Int)).toNat = m + xs.length := by omega
            have i6 : (m : Int) < (sig.length : Int) + 1 := by omega
            have i7 : (0 : Int) ≤ (m : Int) := by omega
            have i8 : ((m : Int)).toNat = m := by omega
            have i5 : IntKind.i64.wrap ((va : Int) + (vb : Int)) = (va : Int) + (vb : Int) := wrap_in (by omega)
            clear cB hbg hl hva hvb hsum hmk2
            go_wp2_with fail
            go_quiet ((go_at_call 208; exact Calls.quiet_of (CB.out _)))
            go_wp2_with fail
            have d0 : ((wr.alloc (.cells #[.string t, .slice A2 xs.length c2] 60)).drewN nq).cell? ⟨w.heap.size + 1, m, Option.none⟩ = some (.int .i64 (va : Int)) := c0
            have d1 : ((wr.alloc (.cells #[.string t, .slice A2 xs.length c2] 60)).drewN nq).cell? ⟨w.heap.size + 1, m + xs.length, Option.none⟩ = some (.int .i64 (vb : Int)) := c1'
            have d2 : ((wr.alloc (.cells #[.string t, .slice A2 xs.length c2] 60)).drewN nq).frozen? ⟨w.heap.size + 1, m, Option.none⟩ = false := f0
            have d3 : ((wr.alloc (.cells #[.string t, .slice A2 xs.length c2] 60)).drewN nq).cell? ⟨wr.heap.size, 1, Option.none⟩ = some (.slice A2 xs.length c2) := (Blk.new wr 60 #[.string t, .slice A2 xs.length c2]).cell 1
            have HBQ := Lib.hid (HBP.out.trans (bel_drewN (w.heap.size + 1) (wr.alloc (.cells #[.string t, .slice A2 xs.length c2] 60)) nq))
            have HBLQ : Hid (Blk ((wr.alloc (.cells #[.string t, .slice A2 xs.length c2] 60)).drewN nq) (w.heap.size + 1) 3 (tblC m va (dpW (fitS sig) sigLen ps sig.length k))) := HBLP.out
            clear c0 c1' f0
            generalize (wr.alloc (.cells #[.string t, .slice A2 xs.length c2] 60)).drewN nq = wq at d0 d1 d2 d3 HBQ HBLQ ⊢
            go_still_tail 14, (by kernel_rfl)
            change wpList _ _ _ _ _ wq.drew
            clear i1 i2 i3 i4 i5 i6 i7 i8 d1 d3
            have d4 : wq.drew.frozen? ⟨w.heap.size + 1, m, Option.none⟩ = false := d2
            have d5 : wq.drew.cell? ⟨w.heap.size + 1, m, Option.none⟩ = some (.int .i64 (va : Int)) := d0
            clear d2 d0
            go_wp2_with fail
            go_roundw
            case rel =>
              refine ⟨j + 1, by omega, by go_num, ?_, ?_⟩
              · rw [wayAt_snoc HX.out, HF.out, HBG.out]
                show Blk _ _ _ (tblC m (_ + List.getD _ (xs.length - 1) 0) _)
                rw [← HVA.out, List.getD_eq_getElem?_getD, HVB.out]
                have := Blk.set_ (show Blk wq.drew (w.heap.size + 1) 3 _ from HBLQ.out) m (.int .i64 ((va + vb : Nat) : Int))
                rw [tblC_set] at this
                exact this
              · exact (HBQ.out.drew).setCell (Nat.le_refl _) _
            case measure => simp [intOf]; omega
        · obtain rfl : j = ps.length := by omega
          go_wp2_with fail
          go_roundw
          case rel => exact ⟨m, k + 1, (m : Int) - 1, by have := hmk1.out; show m + (k + 1) = _; omega, rfl, rfl, by
            have h1 := hblk2.out
            rw [List.take_of_length_le (Nat.le_refl _), tblC_Z] at h1
            have h2 : sig.length - (k + 1) = m := by have := hmk1.out; omega
            show Blk _ _ _ (tblZ m (dpW _ _ _ _ (k + 1)))
            rw [dpW, h2]; exact h1, hbr2⟩
          case measure => (simp [intOf]; try omega)
end Go.Proofs.Ytabiobjcfopakaa
