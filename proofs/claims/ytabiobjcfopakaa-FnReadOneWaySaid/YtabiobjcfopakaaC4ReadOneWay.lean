/- Texts of one claim, joined: E3, E4, E5, E10, F1, H6, E12. -/
import Derived.StillTailTactics
import Derived.Test.YtabiobjcfopakaaC3ReadOneWay
/- Contracts of the tables of readings, of the program and of the reference. -/
namespace Go.Proofs.Ytabiobjcfopakaa
open Go.RowKit
abbrev sigLen (p : Phr) : Nat := p.2.length
abbrev txtLen (p : Phr) : Nat := p.1.size
def waysI (l : List Nat) : List Int := l.map fun m : Nat => (m : Int)
theorem nats_ints (l : List Nat) : nats l = ints (waysI l) := by simp [waysI]
theorem dpW_sig {ps : List Phr} (h : bookB ps = true) (sig : List Int) : ∀ k, k ≤ sig.length → ∀ i m, (dpW (fitS sig) sigLen ps sig.length k)[i]? = some m → m ≤ 2 ^ (k - i) :=
  dpW_le fun k hk => by
    have := apart_sig h sig (sig.length - (k + 1))
    rwa [show sig.length - (sig.length - (k + 1)) = k + 1 by omega] at this
theorem dpW_txt {ps : List Phr} (h : bookB ps = true) (s : ByteArray) : ∀ k, k ≤ s.size → ∀ i m, (dpW (fitT s) txtLen ps s.size k)[i]? = some m → m ≤ 2 ^ (k - i) :=
  dpW_le fun k hk => by
    have := apart_txt h s (s.size - (k + 1))
    rwa [show s.size - (s.size - (k + 1)) = k + 1 by omega] at this
set_option maxRecDepth 100000 in
set_option maxHeartbeats 4000000 in
theorem spWays_any (ps : List Phr) (sig : List Int) (v u : Value) (hi hj : Nat) (w : World) (h : RdB w hi v ps) (g : RdI w hj u sig) (hh : hi ≤ w.heap.size) (hg : hj ≤ w.heap.size) (hbk : bookB ps = true) (hlen : sig.length ≤ 60) :
    Calls Try.prog 178 #[v, u] w (RetOwI (waysI (dpW (fitS sig) sigLen ps sig.length sig.length)) w) := by
  obtain ⟨A', c', rfl, hc', hm'⟩ := Rd.form g
  have G := Lib.hid g
  clear g
  obtain ⟨a, rfl, ha⟩ := h
  obtain ⟨A, c, rfl, hc, hm⟩ := ha.form
  have HA0 := Lib.hid ha
  have hba : Below w.heap.size w (w.alloc (.cells #[.slice A ps.length c] 48)) := (Below.refl _ _).alloc (Nat.le_refl _) _
  have HB := Lib.hid hba
  have HA := Lib.hid (ha.below hba hh)
  have HG : Hid (RdB (w.alloc (.cells #[.slice A ps.length c] 48)) hi (.agg #[.slice A ps.length c]) ps) := ⟨_, rfl, HA.out⟩
  have hcb0 : (w.alloc (.cells #[.slice A ps.length c] 48)).cell? ⟨w.heap.size, 0, Option.none⟩ = some (.slice A ps.length c) := (Blk.new w 48 #[.slice A ps.length c]).cell 0
  have HCB := Lib.hid hcb0
  have hsz1 : hi ≤ (w.alloc (.cells #[.slice A ps.length c] 48)).heap.size := by simp; omega
  clear ha hba hcb0
  have HBK := Lib.hid hbk
  clear hbk
  have hmk := make_ints (sig.length + 1) (by omega)
  rw [show ((sig.length + 1 : Nat) : Int) = (sig.length : Int) + 1 from rfl] at hmk
  have HBW : Hid (Below w.heap.size w ((w.alloc (.cells #[.slice A ps.length c] 48)).alloc (.cells ((zeros (sig.length + 1)).setIfInBounds sig.length (.int .i64 1)) 3))) := ((Below.refl _ _).alloc (Nat.le_refl _) _).alloc (by simp) _
  have HTB0 : Hid (Blk ((w.alloc (.cells #[.slice A ps.length c] 48)).alloc (.cells ((zeros (sig.length + 1)).setIfInBounds sig.length (.int .i64 1)) 3)) (w.heap.size + 1) 3 (tblZ sig.length (dpW (fitS sig) sigLen ps sig.length 0))) := by
    have := Blk.new (w.alloc (.cells #[.slice A ps.length c] 48)) 3 ((zeros (sig.length + 1)).setIfInBounds sig.length (.int .i64 1))
    rw [tblZ_start] at this
    simp at this
    exact this
  have HCBX : Hid (((w.alloc (.cells #[.slice A ps.length c] 48)).alloc (.cells ((zeros (sig.length + 1)).setIfInBounds sig.length (.int .i64 1)) 3)).cell? ⟨w.heap.size, 0, Option.none⟩ = some (.slice A ps.length c)) :=
    (((Below.refl (w.alloc (.cells #[.slice A ps.length c] 48)).heap.size (w.alloc (.cells #[.slice A ps.length c] 48))).alloc (Nat.le_refl _) (.cells ((zeros (sig.length + 1)).setIfInBounds sig.length (.int .i64 1)) 3)).cell (p := ⟨w.heap.size, 0, Option.none⟩) (by simp)).trans HCB.out
  have hz0 : ((w.alloc (.cells #[.slice A ps.length c] 48)).alloc (.cells (zeros (sig.length + 1)) 3)).cell? ⟨w.heap.size + 1, sig.length, Option.none⟩ = some (.int .i64 0) := by
    have := (Blk.new (w.alloc (.cells #[.slice A ps.length c] 48)) 3 (zeros (sig.length + 1))).cell sig.length
    rw [show (zeros (sig.length + 1)).toList[sig.length]? = some (.int .i64 0) by simp [zeros]] at this
    simpa using this
  go_enter Try.func178, Try.ntmps178
  go_wp2_with fail
  go_loopw [6] (fun i wr => ∃ (m k : Nat) (z : Int), Hid (m + k = sig.length) ∧ Hid (z = (m : Int) - 1) ∧ i = .int .i64 z ∧ Hid (Blk wr (w.heap.size + 1) 3 (tblZ m (dpW (fitS sig) sigLen ps sig.length k))) ∧ Hid (Below (w.heap.size + 1) ((w.alloc (.cells #[.slice A ps.length c] 48)).alloc (.cells ((zeros (sig.length + 1)).setIfInBounds sig.length (.int .i64 1)) 3)) wr)) (fun i _ => (intOf i + 1).toNat)
  case atStart => exact ⟨sig.length, 0, (sig.length : Int) - 1, rfl, rfl, rfl, HTB0.out, Below.refl _ _⟩
  case round =>
    obtain ⟨m, k, z, hmk1, hz, rfl, hblk, hbr⟩ := hrel
    have hs : (w.heap.size + 1) + 1 ≤ wr.heap.size := by have := hblk.out.lt; omega
    rcases m with _ | m
    · obtain rfl : z = -1 := by have := hz.out; omega
      have HK : Hid (k = sig.length) := by have := hmk1.out; show k = _; omega
      go_wp2_with fail
      go_ret
      have h1 := hblk.out
      rw [HK.out] at h1
      refine ⟨_, rfl, ?_, HBW.out.trans (hbr.out.mono (by omega))⟩
      have e : (waysI (dpW (fitS sig) sigLen ps sig.length sig.length)).length = sig.length + 1 := by simp [waysI, dpW_len]
      have h2 : Blk wr (w.heap.size + 1) 3 (ints (waysI (dpW (fitS sig) sigLen ps sig.length sig.length))) := by rw [← nats_ints]; simpa [tblZ] using h1
      have := own_of_blk (lo := w.heap.size) (hi := wr.heap.size) h2 (by omega) (by omega) (by rw [e]; unfold maxLen; omega)
      rw [e] at this
      exact this
    · obtain rfl : z = (m : Int) := by have := hz.out; omega
      have hm1 : m < sig.length := by have := hmk1.out; omega
      have hboxr := (hbr.out.cell (p := ⟨w.heap.size, 0, Option.none⟩) (by show w.heap.size < (w.heap.size + 1); omega)).trans HCBX.out
      obtain ⟨b3, o3, c3, y3, hv3, _, _, _⟩ := Rd.at_ G.out hm1
      injection hv3 with hv4 hv5 hv6
      subst hv4
      clear hv5 hv6
      rename World => wo
      go_wp2_with fail
      go_loopw [27] (fun i wr => ∃ j : Nat, j ≤ ps.length ∧ i = .int .i64 j ∧ Hid (Blk wr (w.heap.size + 1) 3 (tblC m (wayAt (fitS sig m) sigLen (ps.take j) (dpW (fitS sig) sigLen ps sig.length k)) (dpW (fitS sig) sigLen ps sig.length k))) ∧ Hid (Below (w.heap.size + 1) ((w.alloc (.cells #[.slice A ps.length c] 48)).alloc (.cells ((zeros (sig.length + 1)).setIfInBounds sig.length (.int .i64 1)) 3)) wr)) (fun i _ => ps.length - (intOf i).toNat)
      case atStart => exact ⟨0, Nat.zero_le _, rfl, by have := hblk.out; rw [tblZ_down] at this; exact this, hbr⟩
      case round =>
        obtain ⟨j, hjl, rfl, hblk2, hbr2⟩ := hrel
        have hs2 : (w.heap.size + 1) + 1 ≤ wr.heap.size := by have := hblk2.out.lt; omega
        have HBR := Lib.hid (HBW.out.trans (hbr2.out.mono (by omega)))
        by_cases hlt : j < ps.length
        · obtain ⟨b1, o1, c1, a, t, xs, hv, hb1, hx, hcell1, hcell2, hra, hta⟩ := (HA0.out.below HBR.out (by omega)).at_ hlt
          cases hv
          obtain ⟨A2, c2, rfl, hc2, hm2⟩ := Rd.form hra
          have HX := Lib.hid hx
          have HRA := Lib.hid hra
          clear hra
          have hfit : fitS sig m (t, xs) = begB xs (sig.drop m) := rfl
          have HF := Lib.hid hfit
          have HAP := Lib.hid (((apart_sig HBK.out sig m).2 (t, xs) (List.mem_of_getElem? HX.out)))
          have HBP := Lib.hid (hbr2.out.alloc (show (w.heap.size + 1) ≤ wr.heap.size by omega) (.cells #[.string t, .slice A2 xs.length c2] 60))
          have HBLP : Hid (Blk (wr.alloc (.cells #[.string t, .slice A2 xs.length c2] 60)) (w.heap.size + 1) 3 (tblC m (wayAt (fitS sig m) sigLen (ps.take j) (dpW (fitS sig) sigLen ps sig.length k)) (dpW (fitS sig) sigLen ps sig.length k))) := hblk2.out.alloc _
          clear hx hfit
          have HGD : Hid (RdI (wr.alloc (.cells #[.string t, .slice A2 xs.length c2] 60)) hj (.slice (some ⟨b3, o3 + m, Option.none⟩) (sig.length - m) (c' - m)) (sig.drop m)) := (RdI.below G.out (HBR.out.trans ((Below.refl wr.heap.size wr).alloc (Nat.le_refl _) _ |>.mono (by omega))) (by omega)).drop (by omega)
          have HRX : Hid (RdI (wr.alloc (.cells #[.string t, .slice A2 xs.length c2] 60)) hi (.slice A2 xs.length c2) xs) := HRA.out.below ((Below.refl wr.heap.size wr).alloc (Nat.le_refl _) _) (by omega)
          have cB := fun n => bkBegins_any xs (sig.drop m) (.slice A2 xs.length c2) (.slice (some ⟨b3, o3 + m, Option.none⟩) (sig.length - m) (c' - m)) hi hj ((wr.alloc (.cells #[.string t, .slice A2 xs.length c2] 60)).drewN n) (show RdI ((wr.alloc (.cells #[.string t, .slice A2 xs.length c2] 60)).drewN n) hi _ _ from HRX.out) (show RdI ((wr.alloc (.cells #[.string t, .slice A2 xs.length c2] 60)).drewN n) hj _ _ from HGD.out)
          cases hbg : begB xs (sig.drop m)
          · rw [hbg] at cB
            have CB := Lib.hid cB
            have HBG := Lib.hid hbg
            clear cB hbg
            go_wp2_with fail
            go_quiet ((go_at_call 209; exact Calls.quiet_of (CB.out _)))
            go_wp2_with fail
            go_roundw
            case rel => exact ⟨j + 1, by omega, by go_num, by rw [wayAt_snoc HX.out, HF.out, HBG.out]; exact HBLP.out, HBP.out.trans (bel_drewN _ _ _)⟩
            case measure => simp [intOf]; omega
          · rw [hbg] at cB
            have CB := Lib.hid cB
            have HBG := Lib.hid hbg
            have hl := HAP.out (by rw [HF.out, HBG.out])
            have hl1 : 1 ≤ xs.length := hl.1
            have hl2 : xs.length ≤ sig.length - m := hl.2
            have hmk2 := hmk1.out
            obtain ⟨va, hva⟩ : ∃ va, va = wayAt (fitS sig m) sigLen (ps.take j) (dpW (fitS sig) sigLen ps sig.length k) := ⟨_, rfl⟩
            obtain ⟨vb, hvb⟩ : ∃ vb, (dpW (fitS sig) sigLen ps sig.length k)[xs.length - 1]? = some vb := ⟨_, List.getElem?_eq_getElem (by rw [dpW_len]; omega)⟩
            have hsum : va + vb ≤ 2 ^ 61 := by
              have h1 : va < 2 ^ (sig.length - m) := by rw [hva]; exact wayAt_lt ((apart_sig HBK.out sig m).take j) (fun i q hq => by have := (dpW_sig HBK.out sig) k (by omega) i q hq; rwa [show sig.length - m - (i + 1) = k - i by omega])
              have h2 := (dpW_sig HBK.out sig) k (by omega) _ _ hvb
              have h3 : 2 ^ (sig.length - m) ≤ 2 ^ 60 := Nat.pow_le_pow_right (by decide) (by omega)
              have h4 : 2 ^ (k - (xs.length - 1)) ≤ 2 ^ 60 := Nat.pow_le_pow_right (by decide) (by omega)
              omega
            have HVA := Lib.hid hva
            have HVB := Lib.hid hvb
            have HS := Lib.hid hsum
            have HMK := Lib.hid hmk2
            rw [← HVA.out] at HBLP
            have c0 := HBLP.out.cell m
            rw [tblC_at] at c0
            have c1' := HBLP.out.cell (m + xs.length)
            rw [show m + xs.length = m + 1 + (xs.length - 1) by omega, tblC_on hvb, show m + 1 + (xs.length - 1) = m + xs.length by omega] at c1'
            have f0 := HBLP.out.frozen m
            have i1 : IntKind.i64.wrap ((m : Int) + (xs.length : Int)) = (m : Int) + (xs.length : Int) := wrap_in (by omega)
            have i2 : (0 : Int) ≤ (m : Int) + (xs.length : Int) := by omega
            have i3 : (m : Int) + (xs.length : Int) < (sig.length : Int) + 1 := by omega
            have i4 : ((m : Int) + (xs.length : Int)).toNat = m + xs.length := by omega
            have i6 : (m : Int) < (sig.length : Int) + 1 := by omega
            have i7 : (0 : Int) ≤ (m : Int) := by omega
            have i8 : ((m : Int)).toNat = m := by omega
            have i5 : IntKind.i64.wrap ((va : Int) + (vb : Int)) = (va : Int) + (vb : Int) := wrap_in (by omega)
            clear cB hbg hl hva hvb hsum hmk2
            go_wp2_with fail
            go_quiet ((go_at_call 209; exact Calls.quiet_of (CB.out _)))
            go_wp2_with fail
            have d0 : ((wr.alloc (.cells #[.string t, .slice A2 xs.length c2] 60)).drewN nq).cell? ⟨w.heap.size + 1, m, Option.none⟩ = some (.int .i64 (va : Int)) := c0
            have d1 : ((wr.alloc (.cells #[.string t, .slice A2 xs.length c2] 60)).drewN nq).cell? ⟨w.heap.size + 1, m + xs.length, Option.none⟩ = some (.int .i64 (vb : Int)) := c1'
            have d2 : ((wr.alloc (.cells #[.string t, .slice A2 xs.length c2] 60)).drewN nq).frozen? ⟨w.heap.size + 1, m, Option.none⟩ = false := f0
            have d3 : ((wr.alloc (.cells #[.string t, .slice A2 xs.length c2] 60)).drewN nq).cell? ⟨wr.heap.size, 1, Option.none⟩ = some (.slice A2 xs.length c2) := (Blk.new wr 60 #[.string t, .slice A2 xs.length c2]).cell 1
            have HBQ := Lib.hid (HBP.out.trans (bel_drewN (w.heap.size + 1) (wr.alloc (.cells #[.string t, .slice A2 xs.length c2] 60)) nq))
            have HBLQ : Hid (Blk ((wr.alloc (.cells #[.string t, .slice A2 xs.length c2] 60)).drewN nq) (w.heap.size + 1) 3 (tblC m va (dpW (fitS sig) sigLen ps sig.length k))) := HBLP.out
            clear c0 c1' f0
            generalize (wr.alloc (.cells #[.string t, .slice A2 xs.length c2] 60)).drewN nq = wq at d0 d1 d2 d3 HBQ HBLQ ⊢
            go_still_tail 14, (by kernel_rfl)
            change wpList _ _ _ _ _ wq.drew
            clear i1 i2 i3 i4 i5 i6 i7 i8 d1 d3
            have d4 : wq.drew.frozen? ⟨w.heap.size + 1, m, Option.none⟩ = false := d2
            have d5 : wq.drew.cell? ⟨w.heap.size + 1, m, Option.none⟩ = some (.int .i64 (va : Int)) := d0
            clear d2 d0
            go_wp2_with fail
            go_roundw
            case rel =>
              refine ⟨j + 1, by omega, by go_num, ?_, ?_⟩
              · rw [wayAt_snoc HX.out, HF.out, HBG.out]
                show Blk _ _ _ (tblC m (_ + List.getD _ (xs.length - 1) 0) _)
                rw [← HVA.out, List.getD_eq_getElem?_getD, HVB.out]
                have := Blk.set_ (show Blk wq.drew (w.heap.size + 1) 3 _ from HBLQ.out) m (.int .i64 ((va + vb : Nat) : Int))
                rw [tblC_set] at this
                exact this
              · exact (HBQ.out.drew).setCell (Nat.le_refl _) _
            case measure => simp [intOf]; omega
        · obtain rfl : j = ps.length := by omega
          go_wp2_with fail
          go_roundw
          case rel => exact ⟨m, k + 1, (m : Int) - 1, by have := hmk1.out; show m + (k + 1) = _; omega, rfl, rfl, by
            have h1 := hblk2.out
            rw [List.take_of_length_le (Nat.le_refl _), tblC_Z] at h1
            have h2 : sig.length - (k + 1) = m := by have := hmk1.out; omega
            show Blk _ _ _ (tblZ m (dpW _ _ _ _ (k + 1)))
            rw [dpW, h2]; exact h1, hbr2⟩
          case measure => (simp [intOf]; try omega)
set_option maxRecDepth 100000 in
set_option maxHeartbeats 4000000 in
theorem readings_any (ps : List Phr) (sig : List Int) (v u : Value) (hi hj : Nat) (w : World) (h : RdB w hi v ps) (g : RdI w hj u sig) (hh : hi ≤ w.heap.size) (hg : hj ≤ w.heap.size) (hbk : bookB ps = true) (hlen : sig.length ≤ 60) :
    Calls Try.prog 177 #[v, u] w (RetOwI (waysI (dpW (fitS sig) sigLen ps sig.length sig.length)) w) := by
  obtain ⟨A', c', rfl, hc', hm'⟩ := Rd.form g
  have G := Lib.hid g
  clear g
  obtain ⟨a, rfl, ha⟩ := h
  obtain ⟨A, c, rfl, hc, hm⟩ := ha.form
  have HA0 := Lib.hid ha
  have hba : Below w.heap.size w (w.alloc (.cells #[.slice A ps.length c] 48)) := (Below.refl _ _).alloc (Nat.le_refl _) _
  have HB := Lib.hid hba
  have HA := Lib.hid (ha.below hba hh)
  have HG : Hid (RdB (w.alloc (.cells #[.slice A ps.length c] 48)) hi (.agg #[.slice A ps.length c]) ps) := ⟨_, rfl, HA.out⟩
  have hcb0 : (w.alloc (.cells #[.slice A ps.length c] 48)).cell? ⟨w.heap.size, 0, Option.none⟩ = some (.slice A ps.length c) := (Blk.new w 48 #[.slice A ps.length c]).cell 0
  have HCB := Lib.hid hcb0
  have hsz1 : hi ≤ (w.alloc (.cells #[.slice A ps.length c] 48)).heap.size := by simp; omega
  clear ha hba hcb0
  have HBK := Lib.hid hbk
  clear hbk
  have hmk := make_ints (sig.length + 1) (by omega)
  rw [show ((sig.length + 1 : Nat) : Int) = (sig.length : Int) + 1 from rfl] at hmk
  have HBW : Hid (Below w.heap.size w ((w.alloc (.cells #[.slice A ps.length c] 48)).alloc (.cells ((zeros (sig.length + 1)).setIfInBounds sig.length (.int .i64 1)) 3))) := ((Below.refl _ _).alloc (Nat.le_refl _) _).alloc (by simp) _
  have HTB0 : Hid (Blk ((w.alloc (.cells #[.slice A ps.length c] 48)).alloc (.cells ((zeros (sig.length + 1)).setIfInBounds sig.length (.int .i64 1)) 3)) (w.heap.size + 1) 3 (tblZ sig.length (dpW (fitS sig) sigLen ps sig.length 0))) := by
    have := Blk.new (w.alloc (.cells #[.slice A ps.length c] 48)) 3 ((zeros (sig.length + 1)).setIfInBounds sig.length (.int .i64 1))
    rw [tblZ_start] at this
    simp at this
    exact this
  have HCBX : Hid (((w.alloc (.cells #[.slice A ps.length c] 48)).alloc (.cells ((zeros (sig.length + 1)).setIfInBounds sig.length (.int .i64 1)) 3)).cell? ⟨w.heap.size, 0, Option.none⟩ = some (.slice A ps.length c)) :=
    (((Below.refl (w.alloc (.cells #[.slice A ps.length c] 48)).heap.size (w.alloc (.cells #[.slice A ps.length c] 48))).alloc (Nat.le_refl _) (.cells ((zeros (sig.length + 1)).setIfInBounds sig.length (.int .i64 1)) 3)).cell (p := ⟨w.heap.size, 0, Option.none⟩) (by simp)).trans HCB.out
  have hz0 : ((w.alloc (.cells #[.slice A ps.length c] 48)).alloc (.cells (zeros (sig.length + 1)) 3)).cell? ⟨w.heap.size + 1, sig.length, Option.none⟩ = some (.int .i64 0) := by
    have := (Blk.new (w.alloc (.cells #[.slice A ps.length c] 48)) 3 (zeros (sig.length + 1))).cell sig.length
    rw [show (zeros (sig.length + 1)).toList[sig.length]? = some (.int .i64 0) by simp [zeros]] at this
    simpa using this
  go_enter Try.func177, Try.ntmps177
  go_wp2_with fail
  go_loopw [6] (fun i wr => ∃ (m k : Nat) (z : Int), Hid (m + k = sig.length) ∧ Hid (z = (m : Int) - 1) ∧ i = .int .i64 z ∧ Hid (Blk wr (w.heap.size + 1) 3 (tblZ m (dpW (fitS sig) sigLen ps sig.length k))) ∧ Hid (Below (w.heap.size + 1) ((w.alloc (.cells #[.slice A ps.length c] 48)).alloc (.cells ((zeros (sig.length + 1)).setIfInBounds sig.length (.int .i64 1)) 3)) wr)) (fun i _ => (intOf i + 1).toNat)
  case atStart => exact ⟨sig.length, 0, (sig.length : Int) - 1, rfl, rfl, rfl, HTB0.out, Below.refl _ _⟩
  case round =>
    obtain ⟨m, k, z, hmk1, hz, rfl, hblk, hbr⟩ := hrel
    have hs : (w.heap.size + 1) + 1 ≤ wr.heap.size := by have := hblk.out.lt; omega
    rcases m with _ | m
    · obtain rfl : z = -1 := by have := hz.out; omega
      have HK : Hid (k = sig.length) := by have := hmk1.out; show k = _; omega
      go_wp2_with fail
      go_ret
      have h1 := hblk.out
      rw [HK.out] at h1
      refine ⟨_, rfl, ?_, HBW.out.trans (hbr.out.mono (by omega))⟩
      have e : (waysI (dpW (fitS sig) sigLen ps sig.length sig.length)).length = sig.length + 1 := by simp [waysI, dpW_len]
      have h2 : Blk wr (w.heap.size + 1) 3 (ints (waysI (dpW (fitS sig) sigLen ps sig.length sig.length))) := by rw [← nats_ints]; simpa [tblZ] using h1
      have := own_of_blk (lo := w.heap.size) (hi := wr.heap.size) h2 (by omega) (by omega) (by rw [e]; unfold maxLen; omega)
      rw [e] at this
      exact this
    · obtain rfl : z = (m : Int) := by have := hz.out; omega
      have hm1 : m < sig.length := by have := hmk1.out; omega
      have hboxr := (hbr.out.cell (p := ⟨w.heap.size, 0, Option.none⟩) (by show w.heap.size < (w.heap.size + 1); omega)).trans HCBX.out
      obtain ⟨b3, o3, c3, y3, hv3, _, _, _⟩ := Rd.at_ G.out hm1
      injection hv3 with hv4 hv5 hv6
      subst hv4
      clear hv5 hv6
      rename World => wo
      go_wp2_with fail
      go_loopw [27] (fun i wr => ∃ j : Nat, j ≤ ps.length ∧ i = .int .i64 j ∧ Hid (Blk wr (w.heap.size + 1) 3 (tblC m (wayAt (fitS sig m) sigLen (ps.take j) (dpW (fitS sig) sigLen ps sig.length k)) (dpW (fitS sig) sigLen ps sig.length k))) ∧ Hid (Below (w.heap.size + 1) ((w.alloc (.cells #[.slice A ps.length c] 48)).alloc (.cells ((zeros (sig.length + 1)).setIfInBounds sig.length (.int .i64 1)) 3)) wr)) (fun i _ => ps.length - (intOf i).toNat)
      case atStart => exact ⟨0, Nat.zero_le _, rfl, by have := hblk.out; rw [tblZ_down] at this; exact this, hbr⟩
      case round =>
        obtain ⟨j, hjl, rfl, hblk2, hbr2⟩ := hrel
        have hs2 : (w.heap.size + 1) + 1 ≤ wr.heap.size := by have := hblk2.out.lt; omega
        have HBR := Lib.hid (HBW.out.trans (hbr2.out.mono (by omega)))
        by_cases hlt : j < ps.length
        · obtain ⟨b1, o1, c1, a, t, xs, hv, hb1, hx, hcell1, hcell2, hra, hta⟩ := (HA0.out.below HBR.out (by omega)).at_ hlt
          cases hv
          obtain ⟨A2, c2, rfl, hc2, hm2⟩ := Rd.form hra
          have HX := Lib.hid hx
          have HRA := Lib.hid hra
          clear hra
          have hfit : fitS sig m (t, xs) = begB xs (sig.drop m) := rfl
          have HF := Lib.hid hfit
          have HAP := Lib.hid (((apart_sig HBK.out sig m).2 (t, xs) (List.mem_of_getElem? HX.out)))
          have HBP := Lib.hid (hbr2.out.alloc (show (w.heap.size + 1) ≤ wr.heap.size by omega) (.cells #[.string t, .slice A2 xs.length c2] 60))
          have HBLP : Hid (Blk (wr.alloc (.cells #[.string t, .slice A2 xs.length c2] 60)) (w.heap.size + 1) 3 (tblC m (wayAt (fitS sig m) sigLen (ps.take j) (dpW (fitS sig) sigLen ps sig.length k)) (dpW (fitS sig) sigLen ps sig.length k))) := hblk2.out.alloc _
          clear hx hfit
          have HGD : Hid (RdI (wr.alloc (.cells #[.string t, .slice A2 xs.length c2] 60)) hj (.slice (some ⟨b3, o3 + m, Option.none⟩) (sig.length - m) (c' - m)) (sig.drop m)) := (RdI.below G.out (HBR.out.trans ((Below.refl wr.heap.size wr).alloc (Nat.le_refl _) _ |>.mono (by omega))) (by omega)).drop (by omega)
          have HRX : Hid (RdI (wr.alloc (.cells #[.string t, .slice A2 xs.length c2] 60)) hi (.slice A2 xs.length c2) xs) := HRA.out.below ((Below.refl wr.heap.size wr).alloc (Nat.le_refl _) _) (by omega)
          have cB := fun n => begins_any xs (sig.drop m) (.slice A2 xs.length c2) (.slice (some ⟨b3, o3 + m, Option.none⟩) (sig.length - m) (c' - m)) hi hj ((wr.alloc (.cells #[.string t, .slice A2 xs.length c2] 60)).drewN n) (show RdI ((wr.alloc (.cells #[.string t, .slice A2 xs.length c2] 60)).drewN n) hi _ _ from HRX.out) (show RdI ((wr.alloc (.cells #[.string t, .slice A2 xs.length c2] 60)).drewN n) hj _ _ from HGD.out)
          cases hbg : begB xs (sig.drop m)
          · rw [hbg] at cB
            have CB := Lib.hid cB
            have HBG := Lib.hid hbg
            clear cB hbg
            go_wp2_with fail
            go_quiet ((go_at_call 208; exact Calls.quiet_of (CB.out _)))
            go_wp2_with fail
            go_roundw
            case rel => exact ⟨j + 1, by omega, by go_num, by rw [wayAt_snoc HX.out, HF.out, HBG.out]; exact HBLP.out, HBP.out.trans (bel_drewN _ _ _)⟩
            case measure => simp [intOf]; omega
          · rw [hbg] at cB
            have CB := Lib.hid cB
            have HBG := Lib.hid hbg
            have hl := HAP.out (by rw [HF.out, HBG.out])
            have hl1 : 1 ≤ xs.length := hl.1
            have hl2 : xs.length ≤ sig.length - m := hl.2
            have hmk2 := hmk1.out
            obtain ⟨va, hva⟩ : ∃ va, va = wayAt (fitS sig m) sigLen (ps.take j) (dpW (fitS sig) sigLen ps sig.length k) := ⟨_, rfl⟩
            obtain ⟨vb, hvb⟩ : ∃ vb, (dpW (fitS sig) sigLen ps sig.length k)[xs.length - 1]? = some vb := ⟨_, List.getElem?_eq_getElem (by rw [dpW_len]; omega)⟩
            have hsum : va + vb ≤ 2 ^ 61 := by
              have h1 : va < 2 ^ (sig.length - m) := by rw [hva]; exact wayAt_lt ((apart_sig HBK.out sig m).take j) (fun i q hq => by have := (dpW_sig HBK.out sig) k (by omega) i q hq; rwa [show sig.length - m - (i + 1) = k - i by omega])
              have h2 := (dpW_sig HBK.out sig) k (by omega) _ _ hvb
              have h3 : 2 ^ (sig.length - m) ≤ 2 ^ 60 := Nat.pow_le_pow_right (by decide) (by omega)
              have h4 : 2 ^ (k - (xs.length - 1)) ≤ 2 ^ 60 := Nat.pow_le_pow_right (by decide) (by omega)
              omega
            have HVA := Lib.hid hva
            have HVB := Lib.hid hvb
            have HS := Lib.hid hsum
            have HMK := Lib.hid hmk2
            rw [← HVA.out] at HBLP
            have c0 := HBLP.out.cell m
            rw [tblC_at] at c0
            have c1' := HBLP.out.cell (m + xs.length)
            rw [show m + xs.length = m + 1 + (xs.length - 1) by omega, tblC_on hvb, show m + 1 + (xs.length - 1) = m + xs.length by omega] at c1'
            have f0 := HBLP.out.frozen m
            have i1 : IntKind.i64.wrap ((m : Int) + (xs.length : Int)) = (m : Int) + (xs.length : Int) := wrap_in (by omega)
            have i2 : (0 : Int) ≤ (m : Int) + (xs.length : Int) := by omega
            have i3 : (m : Int) + (xs.length : Int) < (sig.length : Int) + 1 := by omega
            have i4 : ((m : Int) + (xs.length : Int)).toNat = m + xs.length := by omega
            have i6 : (m : Int) < (sig.length : Int) + 1 := by omega
            have i7 : (0 : Int) ≤ (m : Int) := by omega
            have i8 : ((m : Int)).toNat = m := by omega
            have i5 : IntKind.i64.wrap ((va : Int) + (vb : Int)) = (va : Int) + (vb : Int) := wrap_in (by omega)
            clear cB hbg hl hva hvb hsum hmk2
            go_wp2_with fail
            go_quiet ((go_at_call 208; exact Calls.quiet_of (CB.out _)))
            go_wp2_with fail
            have d0 : ((wr.alloc (.cells #[.string t, .slice A2 xs.length c2] 60)).drewN nq).cell? ⟨w.heap.size + 1, m, Option.none⟩ = some (.int .i64 (va : Int)) := c0
            have d1 : ((wr.alloc (.cells #[.string t, .slice A2 xs.length c2] 60)).drewN nq).cell? ⟨w.heap.size + 1, m + xs.length, Option.none⟩ = some (.int .i64 (vb : Int)) := c1'
            have d2 : ((wr.alloc (.cells #[.string t, .slice A2 xs.length c2] 60)).drewN nq).frozen? ⟨w.heap.size + 1, m, Option.none⟩ = false := f0
            have d3 : ((wr.alloc (.cells #[.string t, .slice A2 xs.length c2] 60)).drewN nq).cell? ⟨wr.heap.size, 1, Option.none⟩ = some (.slice A2 xs.length c2) := (Blk.new wr 60 #[.string t, .slice A2 xs.length c2]).cell 1
            have HBQ := Lib.hid (HBP.out.trans (bel_drewN (w.heap.size + 1) (wr.alloc (.cells #[.string t, .slice A2 xs.length c2] 60)) nq))
            have HBLQ : Hid (Blk ((wr.alloc (.cells #[.string t, .slice A2 xs.length c2] 60)).drewN nq) (w.heap.size + 1) 3 (tblC m va (dpW (fitS sig) sigLen ps sig.length k))) := HBLP.out
            clear c0 c1' f0
            generalize (wr.alloc (.cells #[.string t, .slice A2 xs.length c2] 60)).drewN nq = wq at d0 d1 d2 d3 HBQ HBLQ ⊢
            go_still_tail 14, (by kernel_rfl)
            change wpList _ _ _ _ _ wq.drew
            clear i1 i2 i3 i4 i5 i6 i7 i8 d1 d3
            have d4 : wq.drew.frozen? ⟨w.heap.size + 1, m, Option.none⟩ = false := d2
            have d5 : wq.drew.cell? ⟨w.heap.size + 1, m, Option.none⟩ = some (.int .i64 (va : Int)) := d0
            clear d2 d0
            go_wp2_with fail
            go_roundw
            case rel =>
              refine ⟨j + 1, by omega, by go_num, ?_, ?_⟩
              · rw [wayAt_snoc HX.out, HF.out, HBG.out]
                show Blk _ _ _ (tblC m (_ + List.getD _ (xs.length - 1) 0) _)
                rw [← HVA.out, List.getD_eq_getElem?_getD, HVB.out]
                have := Blk.set_ (show Blk wq.drew (w.heap.size + 1) 3 _ from HBLQ.out) m (.int .i64 ((va + vb : Nat) : Int))
                rw [tblC_set] at this
                exact this
              · exact (HBQ.out.drew).setCell (Nat.le_refl _) _
            case measure => simp [intOf]; omega
        · obtain rfl : j = ps.length := by omega
          go_wp2_with fail
          go_roundw
          case rel => exact ⟨m, k + 1, (m : Int) - 1, by have := hmk1.out; show m + (k + 1) = _; omega, rfl, rfl, by
            have h1 := hblk2.out
            rw [List.take_of_length_le (Nat.le_refl _), tblC_Z] at h1
            have h2 : sig.length - (k + 1) = m := by have := hmk1.out; omega
            show Blk _ _ _ (tblZ m (dpW _ _ _ _ (k + 1)))
            rw [dpW, h2]; exact h1, hbr2⟩
          case measure => (simp [intOf]; try omega)
end Go.Proofs.Ytabiobjcfopakaa
/- Contracts: how many readings signals have; of the program and of the reference. -/
namespace Go.Proofs.Ytabiobjcfopakaa
open Go.RowKit
def readB (sig : List Int) : Bool := decide (sig.length ≤ 60) && allB sig 1 60
theorem areRead_any (sig : List Int) (v : Value) (hi : Nat) (w : World) (h : RdI w hi v sig) : Calls Try.prog 173 #[v] w fun e w' => e = .returned (.bool (readB sig)) ∧ w = w' := by
  obtain ⟨A, c, rfl, hc, hm⟩ := Rd.form h
  have H := Lib.hid h
  clear h
  unfold readB
  by_cases hl : sig.length ≤ 60
  · rw [decide_eq_true hl, Bool.true_and]
    have hl2 : (sig.length : Int) ≤ 60 := by omega
    go_enter Try.func173, Try.ntmps173
    go_wp2_with (go_at_call 181; refine (allWithin_any sig _ _ _ hi _ H.out).mono ?_; rintro e w' ⟨rfl, rfl⟩)
    go_ret
    exact ⟨rfl, rfl⟩
  · rw [decide_eq_false hl, Bool.false_and]
    have hl2 : ¬ (sig.length : Int) ≤ 60 := by omega
    go_enter Try.func173, Try.ntmps173
    go_wp2_with fail
    go_ret
    exact ⟨rfl, rfl⟩
set_option maxHeartbeats 800000 in
theorem spSignals_any (ps : List Phr) (sig : List Int) (v u : Value) (hi hj : Nat) (w : World) (h : RdB w hi v ps) (g : RdI w hj u sig) (hh : hi ≤ w.heap.size) (hg : hj ≤ w.heap.size) :
    Calls Try.prog 175 #[v, u] w fun e w' => e = .returned (.bool (bookB ps && readB sig)) ∧ Below w.heap.size w w' := by
  obtain ⟨A', c', rfl, hc', hm'⟩ := Rd.form g
  have G := Lib.hid g
  clear g
  obtain ⟨a, rfl, ha⟩ := h
  obtain ⟨A, c, rfl, hc, hm⟩ := ha.form
  have hba : Below w.heap.size w (w.alloc (.cells #[.slice A ps.length c] 48)) := (Below.refl _ _).alloc (Nat.le_refl _) _
  have HB := Lib.hid hba
  have HA := Lib.hid (ha.below hba hh)
  have HG : Hid (RdB (w.alloc (.cells #[.slice A ps.length c] 48)) hi (.agg #[.slice A ps.length c]) ps) := ⟨_, rfl, HA.out⟩
  have hcb0 : (w.alloc (.cells #[.slice A ps.length c] 48)).cell? ⟨w.heap.size, 0, Option.none⟩ = some (.slice A ps.length c) := (Blk.new w 48 #[.slice A ps.length c]).cell 0
  have HCB := Lib.hid hcb0
  have hsz1 : hi ≤ (w.alloc (.cells #[.slice A ps.length c] 48)).heap.size := by simp; omega
  clear ha hba hcb0
  have cB := bkGood_any ps (.agg #[.slice A ps.length c]) hi (w.alloc (.cells #[.slice A ps.length c] 48)) HG.out hsz1
  cases hbk : bookB ps
  · rw [hbk] at cB
    have CB := Lib.hid cB
    clear cB
    go_enter Try.func175, Try.ntmps175
    go_wp2_with (go_at_call 134; refine CB.out.mono ?_; rintro e w1 ⟨rfl, hb1⟩)
    go_ret
    exact ⟨rfl, HB.out.trans (hb1.mono (by simp))⟩
  · rw [hbk] at cB
    have CB := Lib.hid cB
    have HBK := Lib.hid hbk
    clear cB
    go_enter Try.func175, Try.ntmps175
    go_wp2_with fail
    refine CB.out.mono ?_
    rintro e w1 ⟨rfl, hb1⟩
    have hcb := (hb1.cell (p := ⟨w.heap.size, 0, Option.none⟩) (by simp)).trans HCB.out
    have hs1 : w.heap.size + 1 ≤ w1.heap.size := by have := hb1.size; simpa using this
    have HA1 := Lib.hid (HA.out.below hb1 hsz1)
    have HG1 : Hid (RdB w1 hi (.agg #[.slice A ps.length c]) ps) := ⟨_, rfl, HA1.out⟩
    have HB1 := Lib.hid (HB.out.trans (hb1.mono (by simp)))
    clear hb1
    have G1 := Lib.hid (RdI.below G.out (HB1.out) (by omega))
    have e : (true && readB sig) = readB sig := rfl
    by_cases hl : sig.length ≤ 60
    · have HL := Lib.hid hl
      have hl2 : (sig.length : Int) ≤ 60 := by omega
      go_wp2_with (go_at_call 184; refine (l1All_any sig _ _ _ hj _ G1.out).mono ?_; rintro e w' ⟨rfl, rfl⟩)
      go_ret
      exact ⟨ret_bool (by unfold readB; rw [decide_eq_true HL.out]; rfl), HB1.out⟩
    · have HL := Lib.hid hl
      have hl2 : ¬ (sig.length : Int) ≤ 60 := by omega
      go_wp2_with fail
      go_ret
      exact ⟨ret_bool (by unfold readB; rw [decide_eq_false HL.out]; rfl), HB1.out⟩
/-- How many readings. -/
def cntS (ps : List Phr) (sig : List Int) : Nat := (dpW (fitS sig) sigLen ps sig.length sig.length).getD 0 0
def cntV (b : Bool) (n : Nat) : Value := if b then .tuple #[.int .i64 (n : Int), .bool true] else .tuple #[.int .i64 0, .bool false]
theorem cntV_form (b : Bool) (n : Nat) : ∃ p q, cntV b n = .tuple #[.int .i64 p, .bool q] := by unfold cntV; split <;> exact ⟨_, _, rfl⟩
theorem waysI_head {l : List Nat} {y : Int} (h : (waysI l)[0]? = some y) : y = (l.getD 0 0 : Nat) := by
  unfold waysI at h
  rw [List.getElem?_map] at h
  rw [List.getD_eq_getElem?_getD]
  cases e : l[0]? with
  | none => rw [e] at h; cases h
  | some m => rw [e] at h; cases h; rfl
/-- A table of ways that the call has made: its head. -/
theorem own_head {w : World} {lo hi : Nat} {v : Value} {fit : Nat → Phr → Bool} {len : Phr → Nat} {ps : List Phr} {n : Nat} (h : OwI w lo hi v (waysI (dpW fit len ps n n))) :
    ∃ b c, v = .slice (some ⟨b, 0, Option.none⟩) (n + 1) c ∧ w.cell? ⟨b, 0, Option.none⟩ = some (.int .i64 (((dpW fit len ps n n).getD 0 0 : Nat) : Int)) := by
  have hl : (waysI (dpW fit len ps n n)).length = n + 1 := by simp [waysI, dpW_len]
  obtain ⟨b, off, c, y, hv, _, hy, hc⟩ := Rd.at_ h.rd (k := 0) (by rw [hl]; omega)
  rcases h.1.2 with ⟨rfl, _⟩ | ⟨g, cap, cur, hv2, _⟩
  · cases hv
  · rw [hv] at hv2
    cases hv2
    rw [hl] at hv
    refine ⟨b, c, hv, ?_⟩
    rw [waysI_head hy] at hc
    simpa using hc
set_option maxHeartbeats 1600000 in
theorem sCountReadings_any (ps : List Phr) (sig : List Int) (v u : Value) (hi hj : Nat) (w : World) (h : RdB w hi v ps) (g : RdI w hj u sig) (hh : hi ≤ w.heap.size) (hg : hj ≤ w.heap.size) :
    Calls Try.prog 76 #[v, u] w fun e w' => e = .returned (cntV (bookB ps && readB sig) (cntS ps sig)) ∧ Below w.heap.size w w' := by
  obtain ⟨A', c', rfl, hc', hm'⟩ := Rd.form g
  have G := Lib.hid g
  clear g
  obtain ⟨a, rfl, ha⟩ := h
  obtain ⟨A, c, rfl, hc, hm⟩ := ha.form
  have hba : Below w.heap.size w (w.alloc (.cells #[.slice A ps.length c] 48)) := (Below.refl _ _).alloc (Nat.le_refl _) _
  have HB := Lib.hid hba
  have HA := Lib.hid (ha.below hba hh)
  have HG : Hid (RdB (w.alloc (.cells #[.slice A ps.length c] 48)) hi (.agg #[.slice A ps.length c]) ps) := ⟨_, rfl, HA.out⟩
  have hcb0 : (w.alloc (.cells #[.slice A ps.length c] 48)).cell? ⟨w.heap.size, 0, Option.none⟩ = some (.slice A ps.length c) := (Blk.new w 48 #[.slice A ps.length c]).cell 0
  have HCB := Lib.hid hcb0
  have hsz1 : hi ≤ (w.alloc (.cells #[.slice A ps.length c] 48)).heap.size := by simp; omega
  clear ha hba hcb0
  have G0 := Lib.hid (RdI.below G.out HB.out hg)
  have hsz2 : hj ≤ (w.alloc (.cells #[.slice A ps.length c] 48)).heap.size := by simp; omega
  have cB := spSignals_any ps sig (.agg #[.slice A ps.length c]) _ hi hj (w.alloc (.cells #[.slice A ps.length c] 48)) HG.out G0.out hsz1 hsz2
  cases hbr : (bookB ps && readB sig)
  · rw [hbr] at cB
    have CB := Lib.hid cB
    clear cB
    go_enter Try.func76, Try.ntmps76
    go_wp2_with (go_at_call 175; refine CB.out.mono ?_; rintro e w1 ⟨rfl, hb1⟩)
    go_ret2
    exact ⟨ret_val rfl, HB.out.trans (hb1.mono (by simp))⟩
  · rw [hbr] at cB
    have CB := Lib.hid cB
    have HRB := Lib.hid hbr
    rw [Bool.and_eq_true] at hbr
    have HBK := Lib.hid hbr.1
    have hl60 : sig.length ≤ 60 := by have := hbr.2; unfold readB at this; rw [Bool.and_eq_true, decide_eq_true_eq] at this; exact this.1
    clear cB hbr
    go_enter Try.func76, Try.ntmps76
    go_wp2_with fail
    refine CB.out.mono ?_
    rintro e w1 ⟨rfl, hb1⟩
    have hcb := (hb1.cell (p := ⟨w.heap.size, 0, Option.none⟩) (by simp)).trans HCB.out
    have hs1 : w.heap.size + 1 ≤ w1.heap.size := by have := hb1.size; simpa using this
    have HA1 := Lib.hid (HA.out.below hb1 hsz1)
    have HG1 : Hid (RdB w1 hi (.agg #[.slice A ps.length c]) ps) := ⟨_, rfl, HA1.out⟩
    have HB1 := Lib.hid (HB.out.trans (hb1.mono (by simp)))
    clear hb1
    have G1 := Lib.hid (RdI.below G.out (HB1.out) (by omega))
    have cW := spWays_any ps sig (.agg #[.slice A ps.length c]) _ hi hj w1 HG1.out G1.out (by omega) (by omega) HBK.out hl60
    have CW := Lib.hid cW
    clear cW
    go_wp2_with fail
    refine CW.out.mono ?_
    rintro e w2 ⟨q, rfl, hq, hb2⟩
    obtain ⟨bq, cq, rfl, hcq⟩ := own_head hq
    clear hq
    have HB2 := Lib.hid (HB1.out.trans (hb2.mono (by omega)))
    clear hb2
    go_wp2_with fail
    go_ret2
    exact ⟨ret_val (by first | rfl | (rw [HRB.out]; rfl)), HB2.out⟩
set_option maxHeartbeats 1600000 in
theorem CountReadings_any (ps : List Phr) (sig : List Int) (v u : Value) (hi hj : Nat) (w : World) (h : RdB w hi v ps) (g : RdI w hj u sig) (hh : hi ≤ w.heap.size) (hg : hj ≤ w.heap.size) :
    Calls Try.prog 75 #[v, u] w fun e w' => e = .returned (cntV (bookB ps && readB sig) (cntS ps sig)) ∧ Below w.heap.size w w' := by
  obtain ⟨A', c', rfl, hc', hm'⟩ := Rd.form g
  have G := Lib.hid g
  clear g
  obtain ⟨a, rfl, ha⟩ := h
  obtain ⟨A, c, rfl, hc, hm⟩ := ha.form
  have hba : Below w.heap.size w (w.alloc (.cells #[.slice A ps.length c] 48)) := (Below.refl _ _).alloc (Nat.le_refl _) _
  have HB := Lib.hid hba
  have HA := Lib.hid (ha.below hba hh)
  have HG : Hid (RdB (w.alloc (.cells #[.slice A ps.length c] 48)) hi (.agg #[.slice A ps.length c]) ps) := ⟨_, rfl, HA.out⟩
  have hcb0 : (w.alloc (.cells #[.slice A ps.length c] 48)).cell? ⟨w.heap.size, 0, Option.none⟩ = some (.slice A ps.length c) := (Blk.new w 48 #[.slice A ps.length c]).cell 0
  have HCB := Lib.hid hcb0
  have hsz1 : hi ≤ (w.alloc (.cells #[.slice A ps.length c] 48)).heap.size := by simp; omega
  clear ha hba hcb0
  have cB := IsBook_any ps (.agg #[.slice A ps.length c]) hi (w.alloc (.cells #[.slice A ps.length c] 48)) HG.out hsz1
  cases hbk : bookB ps
  · rw [hbk] at cB
    have CB := Lib.hid cB
    clear cB
    go_enter Try.func75, Try.ntmps75
    go_wp2_with (go_at_call 137; refine CB.out.mono ?_; rintro e w1 ⟨rfl, hb1⟩)
    go_ret2
    exact ⟨ret_val rfl, HB.out.trans (hb1.mono (by simp))⟩
  · rw [hbk] at cB
    have CB := Lib.hid cB
    have HBK := Lib.hid hbk
    clear cB
    go_enter Try.func75, Try.ntmps75
    go_wp2_with fail
    refine CB.out.mono ?_
    rintro e w1 ⟨rfl, hb1⟩
    have hcb := (hb1.cell (p := ⟨w.heap.size, 0, Option.none⟩) (by simp)).trans HCB.out
    have hs1 : w.heap.size + 1 ≤ w1.heap.size := by have := hb1.size; simpa using this
    have HA1 := Lib.hid (HA.out.below hb1 hsz1)
    have HG1 : Hid (RdB w1 hi (.agg #[.slice A ps.length c]) ps) := ⟨_, rfl, HA1.out⟩
    have HB1 := Lib.hid (HB.out.trans (hb1.mono (by simp)))
    clear hb1
    have G1r := Lib.hid (RdI.below G.out (HB1.out) (by omega))
    have cR := areRead_any sig _ hj w1 G1r.out
    cases hrd : readB sig
    · rw [hrd] at cR
      have CR := Lib.hid cR
      clear cR
      go_wp2_with (go_at_call 173; refine (CR.out).mono ?_; rintro e w' ⟨rfl, rfl⟩)
      go_ret2
      exact ⟨ret_val (by rw [hrd]; rfl), HB1.out⟩
    · rw [hrd] at cR
      have CR := Lib.hid cR
      have HRB : Hid ((true && readB sig) = true) := hrd
      have hl60 : sig.length ≤ 60 := by have := hrd; unfold readB at this; rw [Bool.and_eq_true, decide_eq_true_eq] at this; exact this.1
      clear cR hrd
      have G1 := Lib.hid (RdI.below G.out (HB1.out) (by omega))
      have cW := readings_any ps sig (.agg #[.slice A ps.length c]) _ hi hj w1 HG1.out G1.out (by omega) (by omega) HBK.out hl60
      have CW := Lib.hid cW
      clear cW
      go_wp2_with (go_at_call 173; refine (CR.out).mono ?_; rintro e w' ⟨rfl, rfl⟩)
      refine CW.out.mono ?_
      rintro e w2 ⟨q, rfl, hq, hb2⟩
      obtain ⟨bq, cq, rfl, hcq⟩ := own_head hq
      clear hq
      have HB2 := Lib.hid (HB1.out.trans (hb2.mono (by omega)))
      clear hb2
      go_wp2_with fail
      go_ret2
      exact ⟨ret_val (by first | rfl | (rw [HRB.out]; rfl)), HB2.out⟩
end Go.Proofs.Ytabiobjcfopakaa
/- Contracts: how many spellings letters have; of the program and of the reference. -/
namespace Go.Proofs.Ytabiobjcfopakaa
open Go.RowKit
def lettB (s : ByteArray) : Bool := smallB s.data.toList && decide (s.size ≤ 40)
theorem spLetters_any (s : ByteArray) (hs : s.size ≤ maxLen) (w : World) : Calls Try.prog 247 #[.string s] w fun e w' => e = .returned (.bool (lettB s)) ∧ w = w' := by
  unfold maxLen at hs
  unfold lettB
  go_enter Try.func247, Try.ntmps247
  go_wp2
  go_loop [3] (fun i => ∃ k : Nat, k ≤ s.size ∧ i = .int .i64 k ∧ Hid (smallB (s.data.toList.take k) = true)) (fun i => s.size - (intOf i).toNat)
  case atStart => exact ⟨0, Nat.zero_le _, rfl, rfl⟩
  case round =>
    obtain ⟨k, hk, rfl, hsm⟩ := hrel
    by_cases hlt : k < s.size
    · go_wp2
      · go_ret
        exact ⟨ret_bool (by rw [smallB_no s k hlt (by omega)]; rfl), rfl⟩
      · go_round
        case rel => exact ⟨k + 1, by omega, by go_num, smallB_step s k hlt hsm.out (by omega) (by omega)⟩
        case measure => simp [intOf]; omega
      · go_ret
        exact ⟨ret_bool (by rw [smallB_no s k hlt (by omega)]; rfl), rfl⟩
    · go_wp2
      go_ret
      exact ⟨ret_bool (by rw [smallB_all s k hlt hsm.out, Bool.true_and]; exact decide_eq_decide.2 (by omega)), rfl⟩
theorem isLetters_any (s : ByteArray) (hs : s.size ≤ maxLen) (w : World) : Calls Try.prog 193 #[.string s] w fun e w' => e = .returned (.bool (lettB s)) ∧ w = w' := by
  have cS := isSmall_any s hs
  unfold maxLen at hs
  have CS := Lib.hid cS
  clear cS
  by_cases hl : s.size ≤ 40
  · have HL := Lib.hid hl
    have hl2 : (s.size : Int) ≤ 40 := by omega
    go_enter Try.func193, Try.ntmps193
    go_wp2_with (go_at_call 246; refine (CS.out _).mono ?_; rintro e w' ⟨rfl, rfl⟩)
    go_ret
    exact ⟨ret_bool (by unfold lettB; rw [decide_eq_true HL.out, Bool.and_true]), rfl⟩
  · have HL := Lib.hid hl
    have hl2 : ¬ (s.size : Int) ≤ 40 := by omega
    go_enter Try.func193, Try.ntmps193
    go_wp2_with fail
    go_ret
    exact ⟨ret_bool (by unfold lettB; rw [decide_eq_false HL.out, Bool.and_false]), rfl⟩
theorem spBegins_any (s t : ByteArray) (_hs : s.size ≤ 9223372036854775807) (_ht : t.size ≤ 9223372036854775807) (w : World) :
    Calls Try.prog 200 #[.string s, .string t] w fun e w' => e = .returned (.bool (Lib.hasPrefix s.data.toList t.data.toList)) ∧ w = w' := by
  rw [← Lib.hasPrefix_raw]
  by_cases hl : t.size ≤ s.size
  · rw [decide_eq_true hl, Bool.true_and]
    have hl2 : (t.size : Int) ≤ (s.size : Int) := by omega
    go_enter Try.func200, Try.ntmps200
    go_wp2_with fail
    go_ret
    exact ⟨rfl, rfl⟩
  · rw [decide_eq_false hl, Bool.false_and]
    have hl2 : ¬ (t.size : Int) ≤ (s.size : Int) := by omega
    go_enter Try.func200, Try.ntmps200
    go_wp2_with fail
    go_ret
    exact ⟨rfl, rfl⟩
set_option maxHeartbeats 800000 in
theorem spAsked_any (ps : List Phr) (s : ByteArray) (v : Value) (hi : Nat) (w : World) (hs0 : s.size ≤ maxLen) (h : RdB w hi v ps) (hh : hi ≤ w.heap.size) :
    Calls Try.prog 195 #[v, .string s] w fun e w' => e = .returned (.bool (bookB ps && lettB s)) ∧ Below w.heap.size w w' := by
  obtain ⟨a, rfl, ha⟩ := h
  obtain ⟨A, c, rfl, hc, hm⟩ := ha.form
  have hba : Below w.heap.size w (w.alloc (.cells #[.slice A ps.length c] 48)) := (Below.refl _ _).alloc (Nat.le_refl _) _
  have HB := Lib.hid hba
  have HA := Lib.hid (ha.below hba hh)
  have HG : Hid (RdB (w.alloc (.cells #[.slice A ps.length c] 48)) hi (.agg #[.slice A ps.length c]) ps) := ⟨_, rfl, HA.out⟩
  have hcb0 : (w.alloc (.cells #[.slice A ps.length c] 48)).cell? ⟨w.heap.size, 0, Option.none⟩ = some (.slice A ps.length c) := (Blk.new w 48 #[.slice A ps.length c]).cell 0
  have HCB := Lib.hid hcb0
  have hsz1 : hi ≤ (w.alloc (.cells #[.slice A ps.length c] 48)).heap.size := by simp; omega
  clear ha hba hcb0
  have cB := bkGood_any ps (.agg #[.slice A ps.length c]) hi (w.alloc (.cells #[.slice A ps.length c] 48)) HG.out hsz1
  cases hbk : bookB ps
  · rw [hbk] at cB
    have CB := Lib.hid cB
    clear cB
    go_enter Try.func195, Try.ntmps195
    go_wp2_with (go_at_call 134; refine CB.out.mono ?_; rintro e w1 ⟨rfl, hb1⟩)
    go_ret
    exact ⟨rfl, HB.out.trans (hb1.mono (by simp))⟩
  · rw [hbk] at cB
    have CB := Lib.hid cB
    have HBK := Lib.hid hbk
    clear cB
    go_enter Try.func195, Try.ntmps195
    go_wp2_with fail
    refine CB.out.mono ?_
    rintro e w1 ⟨rfl, hb1⟩
    have hcb := (hb1.cell (p := ⟨w.heap.size, 0, Option.none⟩) (by simp)).trans HCB.out
    have hs1 : w.heap.size + 1 ≤ w1.heap.size := by have := hb1.size; simpa using this
    have HA1 := Lib.hid (HA.out.below hb1 hsz1)
    have HG1 : Hid (RdB w1 hi (.agg #[.slice A ps.length c]) ps) := ⟨_, rfl, HA1.out⟩
    have HB1 := Lib.hid (HB.out.trans (hb1.mono (by simp)))
    clear hb1
    have cL := spLetters_any s hs0 w1
    have CL := Lib.hid cL
    clear cL
    go_wp2_with (go_at_call 247; refine (CL.out).mono ?_; rintro e w' ⟨rfl, rfl⟩)
    go_ret
    exact ⟨rfl, HB1.out⟩
/-- How many spellings. -/
def cntT (ps : List Phr) (s : ByteArray) : Nat := (dpW (fitT s) txtLen ps s.size s.size).getD 0 0
theorem tblZ_head {fit : Nat → Phr → Bool} {len : Phr → Nat} {ps : List Phr} {n : Nat} : (tblZ 0 (dpW fit len ps n n))[0]? = some (.int .i64 (((dpW fit len ps n n).getD 0 0 : Nat) : Int)) := by
  have hl := dpW_len fit len ps n n
  cases e : dpW fit len ps n n with
  | nil => rw [e] at hl; simp at hl
  | cons a l => simp [tblZ]
set_option maxRecDepth 100000 in
set_option maxHeartbeats 4000000 in
theorem sCountSpellings_any (ps : List Phr) (s : ByteArray) (v : Value) (hi : Nat) (w : World) (hs0 : s.size ≤ maxLen) (h : RdB w hi v ps) (hh : hi ≤ w.heap.size) :
    Calls Try.prog 99 #[v, .string s] w fun e w' => e = .returned (cntV (bookB ps && lettB s) (cntT ps s)) ∧ Below w.heap.size w w' := by
  obtain ⟨a, rfl, ha⟩ := h
  obtain ⟨A, c, rfl, hc, hm⟩ := ha.form
  have HA0 := Lib.hid ha
  have hba : Below w.heap.size w (w.alloc (.cells #[.slice A ps.length c] 48)) := (Below.refl _ _).alloc (Nat.le_refl _) _
  have HB := Lib.hid hba
  have HA := Lib.hid (ha.below hba hh)
  have HG : Hid (RdB (w.alloc (.cells #[.slice A ps.length c] 48)) hi (.agg #[.slice A ps.length c]) ps) := ⟨_, rfl, HA.out⟩
  have hcb0 : (w.alloc (.cells #[.slice A ps.length c] 48)).cell? ⟨w.heap.size, 0, Option.none⟩ = some (.slice A ps.length c) := (Blk.new w 48 #[.slice A ps.length c]).cell 0
  have HCB := Lib.hid hcb0
  have hsz1 : hi ≤ (w.alloc (.cells #[.slice A ps.length c] 48)).heap.size := by simp; omega
  clear ha hba hcb0
  have cB := spAsked_any ps s (.agg #[.slice A ps.length c]) hi (w.alloc (.cells #[.slice A ps.length c] 48)) hs0 HG.out hsz1
  cases hbr : (bookB ps && lettB s)
  · rw [hbr] at cB
    have CB := Lib.hid cB
    clear cB
    go_enter Try.func99, Try.ntmps99
    go_wp2_with (go_at_call 195; refine CB.out.mono ?_; rintro e w1 ⟨rfl, hb1⟩)
    go_ret2
    exact ⟨ret_val rfl, HB.out.trans (hb1.mono (by simp))⟩
  · rw [hbr] at cB
    have CB := Lib.hid cB
    have HRB := Lib.hid hbr
    rw [Bool.and_eq_true] at hbr
    have HBK := Lib.hid hbr.1
    have hs40 : s.size ≤ 40 := by have := hbr.2; unfold lettB at this; rw [Bool.and_eq_true, decide_eq_true_eq] at this; exact this.2
    clear cB hbr
    go_enter Try.func99, Try.ntmps99
    go_wp2_with fail
    refine CB.out.mono ?_
    rintro e w1 ⟨rfl, hb1⟩
    have hcb := (hb1.cell (p := ⟨w.heap.size, 0, Option.none⟩) (by simp)).trans HCB.out
    have hs1 : w.heap.size + 1 ≤ w1.heap.size := by have := hb1.size; simpa using this
    have HB1 := Lib.hid (HB.out.trans (hb1.mono (by simp)))
    clear hb1
    have hmk := make_ints (s.size + 1) (by omega)
    rw [show ((s.size + 1 : Nat) : Int) = (s.size : Int) + 1 from rfl] at hmk
    have HBW : Hid (Below w.heap.size w (w1.alloc (.cells ((zeros (s.size + 1)).setIfInBounds s.size (.int .i64 1)) 3))) := HB1.out.trans ((Below.refl w.heap.size w1).alloc (by omega) _)
    have HTB0 : Hid (Blk (w1.alloc (.cells ((zeros (s.size + 1)).setIfInBounds s.size (.int .i64 1)) 3)) w1.heap.size 3 (tblZ s.size (dpW (fitT s) txtLen ps s.size 0))) := by
      have := Blk.new w1 3 ((zeros (s.size + 1)).setIfInBounds s.size (.int .i64 1))
      rw [tblZ_start] at this
      exact this
    have HCBX : Hid ((w1.alloc (.cells ((zeros (s.size + 1)).setIfInBounds s.size (.int .i64 1)) 3)).cell? ⟨w.heap.size, 0, Option.none⟩ = some (.slice A ps.length c)) :=
      (((Below.refl w1.heap.size w1).alloc (Nat.le_refl _) (.cells ((zeros (s.size + 1)).setIfInBounds s.size (.int .i64 1)) 3)).cell (p := ⟨w.heap.size, 0, Option.none⟩) (by show w.heap.size < w1.heap.size; omega)).trans hcb
    have hz0 : (w1.alloc (.cells (zeros (s.size + 1)) 3)).cell? ⟨w1.heap.size, s.size, Option.none⟩ = some (.int .i64 0) := by
      have := (Blk.new w1 3 (zeros (s.size + 1))).cell s.size
      rw [show (zeros (s.size + 1)).toList[s.size]? = some (.int .i64 0) by simp [zeros]] at this
      exact this
    clear hcb
    go_wp2_with fail
    go_loopw [7] (fun i wr => ∃ (m k : Nat) (z : Int), Hid (m + k = s.size) ∧ Hid (z = (m : Int) - 1) ∧ i = .int .i64 z ∧ Hid (Blk wr w1.heap.size 3 (tblZ m (dpW (fitT s) txtLen ps s.size k))) ∧ Hid (Below w1.heap.size (w1.alloc (.cells ((zeros (s.size + 1)).setIfInBounds s.size (.int .i64 1)) 3)) wr)) (fun i _ => (intOf i + 1).toNat)
    case atStart => exact ⟨s.size, 0, (s.size : Int) - 1, rfl, rfl, rfl, HTB0.out, Below.refl _ _⟩
    case round =>
      obtain ⟨m, k, z, hmk1, hz, rfl, hblk, hbr⟩ := hrel
      have hs : w1.heap.size + 1 ≤ wr.heap.size := by have := hblk.out.lt; omega
      rcases m with _ | m
      · obtain rfl : z = -1 := by have := hz.out; omega
        have HK : Hid (k = s.size) := by have := hmk1.out; show k = _; omega
        have h1 := hblk.out
        rw [HK.out] at h1
        have hc0 := h1.cell 0
        rw [tblZ_head] at hc0
        go_wp2_with fail
        go_ret2
        exact ⟨ret_val (by first | rfl | (rw [HRB.out]; rfl)), HBW.out.trans (hbr.out.mono (by omega))⟩
      · obtain rfl : z = (m : Int) := by have := hz.out; omega
        have hm1 : m < s.size := by have := hmk1.out; omega
        have hboxr := (hbr.out.cell (p := ⟨w.heap.size, 0, Option.none⟩) (by show w.heap.size < w1.heap.size; omega)).trans HCBX.out

        rename World => wo
        go_wp2_with fail
        go_loopw [32] (fun i wr => ∃ j : Nat, j ≤ ps.length ∧ i = .int .i64 j ∧ Hid (Blk wr w1.heap.size 3 (tblC m (wayAt (fitT s m) txtLen (ps.take j) (dpW (fitT s) txtLen ps s.size k)) (dpW (fitT s) txtLen ps s.size k))) ∧ Hid (Below w1.heap.size (w1.alloc (.cells ((zeros (s.size + 1)).setIfInBounds s.size (.int .i64 1)) 3)) wr)) (fun i _ => ps.length - (intOf i).toNat)
        case atStart => exact ⟨0, Nat.zero_le _, rfl, by have := hblk.out; rw [tblZ_down] at this; exact this, hbr⟩
        case round =>
          obtain ⟨j, hjl, rfl, hblk2, hbr2⟩ := hrel
          have hs2 : w1.heap.size + 1 ≤ wr.heap.size := by have := hblk2.out.lt; omega
          have HBR := Lib.hid (HBW.out.trans (hbr2.out.mono (by omega)))
          by_cases hlt : j < ps.length
          · obtain ⟨b1, o1, c1, a, t, xs, hv, hb1, hx, hcell1, hcell2, hra, hta⟩ := (HA0.out.below HBR.out (by omega)).at_ hlt
            cases hv
            obtain ⟨A2, c2, rfl, hc2, hm2⟩ := Rd.form hra
            have HX := Lib.hid hx
            have HRA := Lib.hid hra
            clear hra
            have hfit : fitT s m (t, xs) = Lib.hasPrefix (s.extract m s.size).data.toList t.data.toList := rfl
            have HF := Lib.hid hfit
            have HAP := Lib.hid (((apart_txt HBK.out s m).2 (t, xs) (List.mem_of_getElem? HX.out)))
            have HBP := Lib.hid (hbr2.out.alloc (show w1.heap.size ≤ wr.heap.size by omega) (.cells #[.string t, .slice A2 xs.length c2] 60))
            have HBLP : Hid (Blk (wr.alloc (.cells #[.string t, .slice A2 xs.length c2] 60)) w1.heap.size 3 (tblC m (wayAt (fitT s m) txtLen (ps.take j) (dpW (fitT s) txtLen ps s.size k)) (dpW (fitT s) txtLen ps s.size k))) := hblk2.out.alloc _
            clear hx hfit
            have cB := fun n => still_of (spBegins_any (s.extract m s.size) t (by simp; omega) hta ((wr.alloc (.cells #[.string t, .slice A2 xs.length c2] 60)).drewN n))
            cases hbg : Lib.hasPrefix (s.extract m s.size).data.toList t.data.toList
            · rw [hbg] at cB
              have CB := Lib.hid cB
              have HBG := Lib.hid hbg
              clear cB hbg
              go_wp2_with fail
              go_quiet ((go_at_call 200; exact Calls.quiet_of_same (CB.out _)))
              go_wp2_with fail
              go_roundw
              case rel => exact ⟨j + 1, by omega, by go_num, by rw [wayAt_snoc HX.out, HF.out, HBG.out]; exact HBLP.out, HBP.out.trans (bel_drewN _ _ _)⟩
              case measure => simp [intOf]; omega
            · rw [hbg] at cB
              have CB := Lib.hid cB
              have HBG := Lib.hid hbg
              have hl := HAP.out (by rw [HF.out, HBG.out])
              have hl1 : 1 ≤ t.size := hl.1
              have hl2 : t.size ≤ s.size - m := hl.2
              have hmk2 := hmk1.out
              obtain ⟨va, hva⟩ : ∃ va, va = wayAt (fitT s m) txtLen (ps.take j) (dpW (fitT s) txtLen ps s.size k) := ⟨_, rfl⟩
              obtain ⟨vb, hvb⟩ : ∃ vb, (dpW (fitT s) txtLen ps s.size k)[t.size - 1]? = some vb := ⟨_, List.getElem?_eq_getElem (by rw [dpW_len]; omega)⟩
              have hsum : va + vb ≤ 2 ^ 61 := by
                have h1 : va < 2 ^ (s.size - m) := by rw [hva]; exact wayAt_lt ((apart_txt HBK.out s m).take j) (fun i q hq => by have := (dpW_txt HBK.out s) k (by omega) i q hq; rwa [show s.size - m - (i + 1) = k - i by omega])
                have h2 := (dpW_txt HBK.out s) k (by omega) _ _ hvb
                have h3 : 2 ^ (s.size - m) ≤ 2 ^ 60 := Nat.pow_le_pow_right (by decide) (by omega)
                have h4 : 2 ^ (k - (t.size - 1)) ≤ 2 ^ 60 := Nat.pow_le_pow_right (by decide) (by omega)
                omega
              have HVA := Lib.hid hva
              have HVB := Lib.hid hvb
              have HS := Lib.hid hsum
              have HMK := Lib.hid hmk2
              rw [← HVA.out] at HBLP
              have c0 := HBLP.out.cell m
              rw [tblC_at] at c0
              have c1' := HBLP.out.cell (m + t.size)
              rw [show m + t.size = m + 1 + (t.size - 1) by omega, tblC_on hvb, show m + 1 + (t.size - 1) = m + t.size by omega] at c1'
              have f0 := HBLP.out.frozen m
              have i1 : IntKind.i64.wrap ((m : Int) + (t.size : Int)) = (m : Int) + (t.size : Int) := wrap_in (by omega)
              have i2 : (0 : Int) ≤ (m : Int) + (t.size : Int) := by omega
              have i3 : (m : Int) + (t.size : Int) < (s.size : Int) + 1 := by omega
              have i4 : ((m : Int) + (t.size : Int)).toNat = m + t.size := by omega
              have i6 : (m : Int) < (s.size : Int) + 1 := by omega
              have i7 : (0 : Int) ≤ (m : Int) := by omega
              have i8 : ((m : Int)).toNat = m := by omega
              have i5 : IntKind.i64.wrap ((va : Int) + (vb : Int)) = (va : Int) + (vb : Int) := wrap_in (by omega)
              clear cB hbg hl hva hvb hsum hmk2
              go_wp2_with fail
              go_quiet ((go_at_call 200; exact Calls.quiet_of_same (CB.out _)))
              go_wp2_with fail
              have d0 : ((wr.alloc (.cells #[.string t, .slice A2 xs.length c2] 60)).drewN nq).cell? ⟨w1.heap.size, m, Option.none⟩ = some (.int .i64 (va : Int)) := c0
              have d1 : ((wr.alloc (.cells #[.string t, .slice A2 xs.length c2] 60)).drewN nq).cell? ⟨w1.heap.size, m + t.size, Option.none⟩ = some (.int .i64 (vb : Int)) := c1'
              have d2 : ((wr.alloc (.cells #[.string t, .slice A2 xs.length c2] 60)).drewN nq).frozen? ⟨w1.heap.size, m, Option.none⟩ = false := f0
              have d3 : ((wr.alloc (.cells #[.string t, .slice A2 xs.length c2] 60)).drewN nq).cell? ⟨wr.heap.size, 0, Option.none⟩ = some (.string t) := (Blk.new wr 60 #[.string t, .slice A2 xs.length c2]).cell 0
              have HBQ := Lib.hid (HBP.out.trans (bel_drewN w1.heap.size (wr.alloc (.cells #[.string t, .slice A2 xs.length c2] 60)) nq))
              have HBLQ : Hid (Blk ((wr.alloc (.cells #[.string t, .slice A2 xs.length c2] 60)).drewN nq) w1.heap.size 3 (tblC m va (dpW (fitT s) txtLen ps s.size k))) := HBLP.out
              clear c0 c1' f0
              generalize (wr.alloc (.cells #[.string t, .slice A2 xs.length c2] 60)).drewN nq = wq at d0 d1 d2 d3 HBQ HBLQ ⊢
              go_still_tail 14, (by kernel_rfl)
              change wpList _ _ _ _ _ wq.drew
              clear i1 i2 i3 i4 i5 i6 i7 i8 d1 d3
              have d4 : wq.drew.frozen? ⟨w1.heap.size, m, Option.none⟩ = false := d2
              have d5 : wq.drew.cell? ⟨w1.heap.size, m, Option.none⟩ = some (.int .i64 (va : Int)) := d0
              clear d2 d0
              go_wp2_with fail
              go_roundw
              case rel =>
                refine ⟨j + 1, by omega, by go_num, ?_, ?_⟩
                · rw [wayAt_snoc HX.out, HF.out, HBG.out]
                  show Blk _ _ _ (tblC m (_ + List.getD _ (t.size - 1) 0) _)
                  rw [← HVA.out, List.getD_eq_getElem?_getD, HVB.out]
                  have := Blk.set_ (show Blk wq.drew w1.heap.size 3 _ from HBLQ.out) m (.int .i64 ((va + vb : Nat) : Int))
                  rw [tblC_set] at this
                  exact this
                · exact (HBQ.out.drew).setCell (Nat.le_refl _) _
              case measure => simp [intOf]; omega
          · obtain rfl : j = ps.length := by omega
            go_wp2_with fail
            go_roundw
            case rel => exact ⟨m, k + 1, (m : Int) - 1, by have := hmk1.out; show m + (k + 1) = _; omega, rfl, rfl, by
              have h1 := hblk2.out
              rw [List.take_of_length_le (Nat.le_refl _), tblC_Z] at h1
              have h2 : s.size - (k + 1) = m := by have := hmk1.out; omega
              show Blk _ _ _ (tblZ m (dpW _ _ _ _ (k + 1)))
              rw [dpW, h2]; exact h1, hbr2⟩
            case measure => (simp [intOf]; try omega)
set_option maxRecDepth 100000 in
set_option maxHeartbeats 4000000 in
theorem CountSpellings_any (ps : List Phr) (s : ByteArray) (v : Value) (hi : Nat) (w : World) (hs0 : s.size ≤ maxLen) (h : RdB w hi v ps) (hh : hi ≤ w.heap.size) :
    Calls Try.prog 98 #[v, .string s] w fun e w' => e = .returned (cntV (bookB ps && lettB s) (cntT ps s)) ∧ Below w.heap.size w w' := by
  obtain ⟨a, rfl, ha⟩ := h
  obtain ⟨A, c, rfl, hc, hm⟩ := ha.form
  have HA0 := Lib.hid ha
  have hba : Below w.heap.size w (w.alloc (.cells #[.slice A ps.length c] 48)) := (Below.refl _ _).alloc (Nat.le_refl _) _
  have HB := Lib.hid hba
  have HA := Lib.hid (ha.below hba hh)
  have HG : Hid (RdB (w.alloc (.cells #[.slice A ps.length c] 48)) hi (.agg #[.slice A ps.length c]) ps) := ⟨_, rfl, HA.out⟩
  have hcb0 : (w.alloc (.cells #[.slice A ps.length c] 48)).cell? ⟨w.heap.size, 0, Option.none⟩ = some (.slice A ps.length c) := (Blk.new w 48 #[.slice A ps.length c]).cell 0
  have HCB := Lib.hid hcb0
  have hsz1 : hi ≤ (w.alloc (.cells #[.slice A ps.length c] 48)).heap.size := by simp; omega
  clear ha hba hcb0
  have cB := IsBook_any ps (.agg #[.slice A ps.length c]) hi (w.alloc (.cells #[.slice A ps.length c] 48)) HG.out hsz1
  cases hbk : bookB ps
  · rw [hbk] at cB
    have CB := Lib.hid cB
    clear cB
    go_enter Try.func98, Try.ntmps98
    go_wp2_with (go_at_call 137; refine CB.out.mono ?_; rintro e w1 ⟨rfl, hb1⟩)
    go_ret2
    exact ⟨ret_val rfl, HB.out.trans (hb1.mono (by simp))⟩
  · rw [hbk] at cB
    have CB := Lib.hid cB
    have HBK := Lib.hid hbk
    clear cB
    go_enter Try.func98, Try.ntmps98
    go_wp2_with fail
    refine CB.out.mono ?_
    rintro e w1 ⟨rfl, hb1⟩
    have hcb := (hb1.cell (p := ⟨w.heap.size, 0, Option.none⟩) (by simp)).trans HCB.out
    have hs1 : w.heap.size + 1 ≤ w1.heap.size := by have := hb1.size; simpa using this
    have HA1 := Lib.hid (HA.out.below hb1 hsz1)
    have HG1 : Hid (RdB w1 hi (.agg #[.slice A ps.length c]) ps) := ⟨_, rfl, HA1.out⟩
    have HB1 := Lib.hid (HB.out.trans (hb1.mono (by simp)))
    clear hb1
    have cR := isLetters_any s hs0 w1
    cases hrd : lettB s
    · rw [hrd] at cR
      have CR := Lib.hid cR
      clear cR
      go_wp2_with (go_at_call 193; refine (CR.out).mono ?_; rintro e w' ⟨rfl, rfl⟩)
      go_ret2
      exact ⟨ret_val (by rw [hrd]; rfl), HB1.out⟩
    · rw [hrd] at cR
      have CR := Lib.hid cR
      have HRB : Hid ((true && lettB s) = true) := hrd
      have hs40 : s.size ≤ 40 := by have := hrd; unfold lettB at this; rw [Bool.and_eq_true, decide_eq_true_eq] at this; exact this.2
      clear cR hrd
      have hmk := make_ints (s.size + 1) (by omega)
      rw [show ((s.size + 1 : Nat) : Int) = (s.size : Int) + 1 from rfl] at hmk
      have HBW : Hid (Below w.heap.size w (w1.alloc (.cells ((zeros (s.size + 1)).setIfInBounds s.size (.int .i64 1)) 3))) := HB1.out.trans ((Below.refl w.heap.size w1).alloc (by omega) _)
      have HTB0 : Hid (Blk (w1.alloc (.cells ((zeros (s.size + 1)).setIfInBounds s.size (.int .i64 1)) 3)) w1.heap.size 3 (tblZ s.size (dpW (fitT s) txtLen ps s.size 0))) := by
        have := Blk.new w1 3 ((zeros (s.size + 1)).setIfInBounds s.size (.int .i64 1))
        rw [tblZ_start] at this
        exact this
      have HCBX : Hid ((w1.alloc (.cells ((zeros (s.size + 1)).setIfInBounds s.size (.int .i64 1)) 3)).cell? ⟨w.heap.size, 0, Option.none⟩ = some (.slice A ps.length c)) :=
        (((Below.refl w1.heap.size w1).alloc (Nat.le_refl _) (.cells ((zeros (s.size + 1)).setIfInBounds s.size (.int .i64 1)) 3)).cell (p := ⟨w.heap.size, 0, Option.none⟩) (by show w.heap.size < w1.heap.size; omega)).trans hcb
      have hz0 : (w1.alloc (.cells (zeros (s.size + 1)) 3)).cell? ⟨w1.heap.size, s.size, Option.none⟩ = some (.int .i64 0) := by
        have := (Blk.new w1 3 (zeros (s.size + 1))).cell s.size
        rw [show (zeros (s.size + 1)).toList[s.size]? = some (.int .i64 0) by simp [zeros]] at this
        exact this
      clear hcb
      go_wp2_with (go_at_call 193; refine (CR.out).mono ?_; rintro e w' ⟨rfl, rfl⟩)
      go_loopw [7] (fun i wr => ∃ (m k : Nat) (z : Int), Hid (m + k = s.size) ∧ Hid (z = (m : Int) - 1) ∧ i = .int .i64 z ∧ Hid (Blk wr w1.heap.size 3 (tblZ m (dpW (fitT s) txtLen ps s.size k))) ∧ Hid (Below w1.heap.size (w1.alloc (.cells ((zeros (s.size + 1)).setIfInBounds s.size (.int .i64 1)) 3)) wr)) (fun i _ => (intOf i + 1).toNat)
      case atStart => exact ⟨s.size, 0, (s.size : Int) - 1, rfl, rfl, rfl, HTB0.out, Below.refl _ _⟩
      case round =>
        obtain ⟨m, k, z, hmk1, hz, rfl, hblk, hbr⟩ := hrel
        have hs : w1.heap.size + 1 ≤ wr.heap.size := by have := hblk.out.lt; omega
        rcases m with _ | m
        · obtain rfl : z = -1 := by have := hz.out; omega
          have HK : Hid (k = s.size) := by have := hmk1.out; show k = _; omega
          have h1 := hblk.out
          rw [HK.out] at h1
          have hc0 := h1.cell 0
          rw [tblZ_head] at hc0
          go_wp2_with fail
          go_ret2
          exact ⟨ret_val (by first | rfl | (rw [HRB.out]; rfl)), HBW.out.trans (hbr.out.mono (by omega))⟩
        · obtain rfl : z = (m : Int) := by have := hz.out; omega
          have hm1 : m < s.size := by have := hmk1.out; omega
          have hboxr := (hbr.out.cell (p := ⟨w.heap.size, 0, Option.none⟩) (by show w.heap.size < w1.heap.size; omega)).trans HCBX.out

          rename World => wo
          go_wp2_with fail
          go_loopw [36] (fun i wr => ∃ j : Nat, j ≤ ps.length ∧ i = .int .i64 j ∧ Hid (Blk wr w1.heap.size 3 (tblC m (wayAt (fitT s m) txtLen (ps.take j) (dpW (fitT s) txtLen ps s.size k)) (dpW (fitT s) txtLen ps s.size k))) ∧ Hid (Below w1.heap.size (w1.alloc (.cells ((zeros (s.size + 1)).setIfInBounds s.size (.int .i64 1)) 3)) wr)) (fun i _ => ps.length - (intOf i).toNat)
          case atStart => exact ⟨0, Nat.zero_le _, rfl, by have := hblk.out; rw [tblZ_down] at this; exact this, hbr⟩
          case round =>
            obtain ⟨j, hjl, rfl, hblk2, hbr2⟩ := hrel
            have hs2 : w1.heap.size + 1 ≤ wr.heap.size := by have := hblk2.out.lt; omega
            have HBR := Lib.hid (HBW.out.trans (hbr2.out.mono (by omega)))
            by_cases hlt : j < ps.length
            · obtain ⟨b1, o1, c1, a, t, xs, hv, hb1, hx, hcell1, hcell2, hra, hta⟩ := (HA0.out.below HBR.out (by omega)).at_ hlt
              cases hv
              obtain ⟨A2, c2, rfl, hc2, hm2⟩ := Rd.form hra
              have HX := Lib.hid hx
              have HRA := Lib.hid hra
              clear hra
              have hfit : fitT s m (t, xs) = Lib.hasPrefix (s.extract m s.size).data.toList t.data.toList := rfl
              have HF := Lib.hid hfit
              have HAP := Lib.hid (((apart_txt HBK.out s m).2 (t, xs) (List.mem_of_getElem? HX.out)))
              have HBP := Lib.hid (hbr2.out.alloc (show w1.heap.size ≤ wr.heap.size by omega) (.cells #[.string t, .slice A2 xs.length c2] 60))
              have HBLP : Hid (Blk (wr.alloc (.cells #[.string t, .slice A2 xs.length c2] 60)) w1.heap.size 3 (tblC m (wayAt (fitT s m) txtLen (ps.take j) (dpW (fitT s) txtLen ps s.size k)) (dpW (fitT s) txtLen ps s.size k))) := hblk2.out.alloc _
              clear hx hfit
              have cB := fun n => Try.strings_HasPrefix (s.extract m s.size) t ((wr.alloc (.cells #[.string t, .slice A2 xs.length c2] 60)).drewN n)
              cases hbg : Lib.hasPrefix (s.extract m s.size).data.toList t.data.toList
              · rw [hbg] at cB
                have CB := Lib.hid cB
                have HBG := Lib.hid hbg
                clear cB hbg
                go_wp2_with fail
                go_quiet ((go_at_call 199; exact Calls.quiet_of_same (CB.out _)))
                go_wp2_with fail
                go_roundw
                case rel => exact ⟨j + 1, by omega, by go_num, by rw [wayAt_snoc HX.out, HF.out, HBG.out]; exact HBLP.out, HBP.out.trans (bel_drewN _ _ _)⟩
                case measure => simp [intOf]; omega
              · rw [hbg] at cB
                have CB := Lib.hid cB
                have HBG := Lib.hid hbg
                have hl := HAP.out (by rw [HF.out, HBG.out])
                have hl1 : 1 ≤ t.size := hl.1
                have hl2 : t.size ≤ s.size - m := hl.2
                have hmk2 := hmk1.out
                obtain ⟨va, hva⟩ : ∃ va, va = wayAt (fitT s m) txtLen (ps.take j) (dpW (fitT s) txtLen ps s.size k) := ⟨_, rfl⟩
                obtain ⟨vb, hvb⟩ : ∃ vb, (dpW (fitT s) txtLen ps s.size k)[t.size - 1]? = some vb := ⟨_, List.getElem?_eq_getElem (by rw [dpW_len]; omega)⟩
                have hsum : va + vb ≤ 2 ^ 61 := by
                  have h1 : va < 2 ^ (s.size - m) := by rw [hva]; exact wayAt_lt ((apart_txt HBK.out s m).take j) (fun i q hq => by have := (dpW_txt HBK.out s) k (by omega) i q hq; rwa [show s.size - m - (i + 1) = k - i by omega])
                  have h2 := (dpW_txt HBK.out s) k (by omega) _ _ hvb
                  have h3 : 2 ^ (s.size - m) ≤ 2 ^ 60 := Nat.pow_le_pow_right (by decide) (by omega)
                  have h4 : 2 ^ (k - (t.size - 1)) ≤ 2 ^ 60 := Nat.pow_le_pow_right (by decide) (by omega)
                  omega
                have HVA := Lib.hid hva
                have HVB := Lib.hid hvb
                have HS := Lib.hid hsum
                have HMK := Lib.hid hmk2
                rw [← HVA.out] at HBLP
                have c0 := HBLP.out.cell m
                rw [tblC_at] at c0
                have c1' := HBLP.out.cell (m + t.size)
                rw [show m + t.size = m + 1 + (t.size - 1) by omega, tblC_on hvb, show m + 1 + (t.size - 1) = m + t.size by omega] at c1'
                have f0 := HBLP.out.frozen m
                have i1 : IntKind.i64.wrap ((m : Int) + (t.size : Int)) = (m : Int) + (t.size : Int) := wrap_in (by omega)
                have i2 : (0 : Int) ≤ (m : Int) + (t.size : Int) := by omega
                have i3 : (m : Int) + (t.size : Int) < (s.size : Int) + 1 := by omega
                have i4 : ((m : Int) + (t.size : Int)).toNat = m + t.size := by omega
                have i6 : (m : Int) < (s.size : Int) + 1 := by omega
                have i7 : (0 : Int) ≤ (m : Int) := by omega
                have i8 : ((m : Int)).toNat = m := by omega
                have i5 : IntKind.i64.wrap ((va : Int) + (vb : Int)) = (va : Int) + (vb : Int) := wrap_in (by omega)
                clear cB hbg hl hva hvb hsum hmk2
                go_wp2_with fail
                go_quiet ((go_at_call 199; exact Calls.quiet_of_same (CB.out _)))
                go_wp2_with fail
                have d0 : ((wr.alloc (.cells #[.string t, .slice A2 xs.length c2] 60)).drewN nq).cell? ⟨w1.heap.size, m, Option.none⟩ = some (.int .i64 (va : Int)) := c0
                have d1 : ((wr.alloc (.cells #[.string t, .slice A2 xs.length c2] 60)).drewN nq).cell? ⟨w1.heap.size, m + t.size, Option.none⟩ = some (.int .i64 (vb : Int)) := c1'
                have d2 : ((wr.alloc (.cells #[.string t, .slice A2 xs.length c2] 60)).drewN nq).frozen? ⟨w1.heap.size, m, Option.none⟩ = false := f0
                have d3 : ((wr.alloc (.cells #[.string t, .slice A2 xs.length c2] 60)).drewN nq).cell? ⟨wr.heap.size, 0, Option.none⟩ = some (.string t) := (Blk.new wr 60 #[.string t, .slice A2 xs.length c2]).cell 0
                have HBQ := Lib.hid (HBP.out.trans (bel_drewN w1.heap.size (wr.alloc (.cells #[.string t, .slice A2 xs.length c2] 60)) nq))
                have HBLQ : Hid (Blk ((wr.alloc (.cells #[.string t, .slice A2 xs.length c2] 60)).drewN nq) w1.heap.size 3 (tblC m va (dpW (fitT s) txtLen ps s.size k))) := HBLP.out
                clear c0 c1' f0
                generalize (wr.alloc (.cells #[.string t, .slice A2 xs.length c2] 60)).drewN nq = wq at d0 d1 d2 d3 HBQ HBLQ ⊢
                go_still_tail 14, (by kernel_rfl)
                change wpList _ _ _ _ _ wq.drew
                clear i1 i2 i3 i4 i5 i6 i7 i8 d1 d3
                have d4 : wq.drew.frozen? ⟨w1.heap.size, m, Option.none⟩ = false := d2
                have d5 : wq.drew.cell? ⟨w1.heap.size, m, Option.none⟩ = some (.int .i64 (va : Int)) := d0
                clear d2 d0
                go_wp2_with fail
                go_roundw
                case rel =>
                  refine ⟨j + 1, by omega, by go_num, ?_, ?_⟩
                  · rw [wayAt_snoc HX.out, HF.out, HBG.out]
                    show Blk _ _ _ (tblC m (_ + List.getD _ (t.size - 1) 0) _)
                    rw [← HVA.out, List.getD_eq_getElem?_getD, HVB.out]
                    have := Blk.set_ (show Blk wq.drew w1.heap.size 3 _ from HBLQ.out) m (.int .i64 ((va + vb : Nat) : Int))
                    rw [tblC_set] at this
                    exact this
                  · exact (HBQ.out.drew).setCell (Nat.le_refl _) _
                case measure => simp [intOf]; omega
            · obtain rfl : j = ps.length := by omega
              go_wp2_with fail
              go_roundw
              case rel => exact ⟨m, k + 1, (m : Int) - 1, by have := hmk1.out; show m + (k + 1) = _; omega, rfl, rfl, by
                have h1 := hblk2.out
                rw [List.take_of_length_le (Nat.le_refl _), tblC_Z] at h1
                have h2 : s.size - (k + 1) = m := by have := hmk1.out; omega
                show Blk _ _ _ (tblZ m (dpW _ _ _ _ (k + 1)))
                rw [dpW, h2]; exact h1, hbr2⟩
              case measure => (simp [intOf]; try omega)
end Go.Proofs.Ytabiobjcfopakaa
/- Plain laws: the tables of the least lengths from each place on; what can be spelled. -/
namespace Go.Proofs.Ytabiobjcfopakaa
def lsUpd : Option Nat → Nat → Option Nat
  | Option.none, n => some n
  | some m, n => if n < m then some n else some m
/-- One phrase more at a place. -/
def lsStep (fit : Phr → Bool) (len cost : Phr → Nat) (tb : List (Option Nat)) (cur : Option Nat) (p : Phr) : Option Nat :=
  if fit p then match tb.getD (len p - 1) Option.none with
    | Option.none => cur
    | some m => lsUpd cur (cost p + m)
  else cur
def lsAt (fit : Phr → Bool) (len cost : Phr → Nat) (ps : List Phr) (tb : List (Option Nat)) : Option Nat := ps.foldl (lsStep fit len cost tb) Option.none
/-- The least lengths from the last k places on. -/
def dpL (fit : Nat → Phr → Bool) (len cost : Phr → Nat) (ps : List Phr) (n : Nat) : Nat → List (Option Nat)
  | 0 => [some 0]
  | k + 1 => lsAt (fit (n - (k + 1))) len cost ps (dpL fit len cost ps n k) :: dpL fit len cost ps n k
theorem dpL_len (fit : Nat → Phr → Bool) (len cost : Phr → Nat) (ps : List Phr) (n k : Nat) : (dpL fit len cost ps n k).length = k + 1 := by
  induction k with
  | zero => rfl
  | succ k ih => simp [dpL, ih]
theorem lsAt_snoc {fit : Phr → Bool} {len cost : Phr → Nat} {ps : List Phr} {tb : List (Option Nat)} {j : Nat} {p : Phr} (h : ps[j]? = some p) : lsAt fit len cost (ps.take (j + 1)) tb = lsStep fit len cost tb (lsAt fit len cost (ps.take j) tb) p := by
  unfold lsAt; rw [take_snocN h, List.foldl_append]; rfl
/-- A bound: each phrase costs at most 3 and is at least one place long. -/
theorem lsAt_le {fit : Phr → Bool} {len cost : Phr → Nat} {tb : List (Option Nat)} {r : Nat} : ∀ {ps : List Phr}, (∀ p ∈ ps, fit p = true → 1 ≤ len p ∧ len p ≤ r ∧ cost p ≤ 3) → (∀ i m, tb[i]? = some (some m) → m ≤ 3 * (r - (i + 1))) → ∀ (cur : Option Nat), (∀ m, cur = some m → m ≤ 3 * r) → ∀ m, ps.foldl (lsStep fit len cost tb) cur = some m → m ≤ 3 * r
  | [], _, _, cur, hc, m, h => hc m h
  | p :: ps, hp, ht, cur, hc, m, h => by
    refine lsAt_le (ps := ps) (fun q hq => hp q (List.mem_cons_of_mem _ hq)) ht _ ?_ m h
    intro q hq
    unfold lsStep at hq
    split at hq
    · rename_i hf
      have := hp p (by simp) hf
      split at hq
      · exact hc q hq
      · rename_i a ha
        have hb : a ≤ 3 * (r - len p) := by
          rw [List.getD_eq_getElem?_getD] at ha
          cases e : tb[len p - 1]? with
          | none => rw [e] at ha; cases ha
          | some b =>
            rw [e] at ha
            simp at ha
            subst ha
            have := ht _ _ e
            rwa [show len p - 1 + 1 = len p by omega] at this
        have hn : cost p + a ≤ 3 * r := by omega
        cases cur with
        | none => simp only [lsUpd, Option.some.injEq] at hq; omega
        | some c =>
          simp only [lsUpd] at hq
          split at hq
          · simp at hq; omega
          · exact hc q hq
    · exact hc q hq
theorem dpL_le {fit : Nat → Phr → Bool} {len cost : Phr → Nat} {ps : List Phr} {n : Nat} (h : ∀ k, k < n → ∀ p ∈ ps, fit (n - (k + 1)) p = true → 1 ≤ len p ∧ len p ≤ k + 1 ∧ cost p ≤ 3) :
    ∀ k, k ≤ n → ∀ i m, (dpL fit len cost ps n k)[i]? = some (some m) → m ≤ 3 * (k - i)
  | 0, _, i, m, hi => by
    cases i with
    | zero => simp [dpL] at hi; omega
    | succ i => simp [dpL] at hi
  | k + 1, hk, i, m, hi => by
    have ih := dpL_le h k (by omega)
    cases i with
    | zero =>
      simp only [dpL, List.getElem?_cons_zero, Option.some.injEq] at hi
      exact lsAt_le (h k (by omega)) (fun i m hm => by have := ih i m hm; rwa [show k + 1 - (i + 1) = k - i by omega]) Option.none (fun m hm => by cases hm) m hi
    | succ i =>
      simp only [dpL, List.getElem?_cons_succ] at hi
      have := ih i m hi
      rwa [show k + 1 - (i + 1) = k - i by omega]
def optI : Option Nat → Int
  | some m => (m : Int)
  | Option.none => -1
abbrev opts (l : List (Option Nat)) : List Value := l.map fun m => Value.int .i64 (optI m)
def optZ (m : Nat) (tb : List (Option Nat)) : List Value := List.replicate m (Value.int .i64 0) ++ opts tb
theorem optZ_at {m : Nat} {a : Option Nat} {tb : List (Option Nat)} : (optZ m (a :: tb))[m]? = some (.int .i64 (optI a)) := by
  unfold optZ; rw [List.getElem?_append_right (by simp)]; simp
theorem optZ_on {m d : Nat} {a b : Option Nat} {tb : List (Option Nat)} (h : tb[d]? = some b) : (optZ m (a :: tb))[m + 1 + d]? = some (.int .i64 (optI b)) := by
  unfold optZ; rw [List.getElem?_append_right (by simp; omega)]; simp [show m + 1 + d - m = d + 1 by omega, h]
theorem optZ_set {m : Nat} {a b : Option Nat} {tb : List (Option Nat)} : (optZ m (a :: tb)).set m (.int .i64 (optI b)) = optZ m (b :: tb) := by
  unfold optZ
  rw [List.set_append_right _ _ (by simp)]; simp
theorem optZ_down {m : Nat} {tb : List (Option Nat)} : (optZ (m + 1) tb).set m (.int .i64 (-1)) = optZ m (Option.none :: tb) := by
  unfold optZ
  rw [List.replicate_succ', List.append_assoc, List.set_append_right _ _ (by simp)]; simp [optI]
theorem optZ_below {m : Nat} {tb : List (Option Nat)} : (optZ (m + 1) tb)[m]? = some (.int .i64 0) := by
  unfold optZ; rw [List.getElem?_append_left (by simp)]; simp
theorem optZ_start (n : Nat) : (zeros (n + 1)).toList = optZ n [some 0] := by
  unfold optZ zeros
  simp [optI, List.replicate_succ']
abbrev sigCost (p : Phr) : Nat := p.2.length
/-- The table of letters. -/
def tblT (ps : List Phr) (s : ByteArray) : List (Option Nat) := dpL (fitT s) txtLen sigCost ps s.size s.size
theorem tblT_hyp {ps : List Phr} (h : bookB ps = true) (s : ByteArray) : ∀ k, k < s.size → ∀ p ∈ ps, fitT s (s.size - (k + 1)) p = true → 1 ≤ txtLen p ∧ txtLen p ≤ k + 1 ∧ sigCost p ≤ 3 := by
  intro k hk p hp hf
  have h1 := (apart_txt h s (s.size - (k + 1))).2 p hp hf
  have h2 := phrOk_sig (bookB_phr h hp)
  rw [show s.size - (s.size - (k + 1)) = k + 1 by omega] at h1
  exact ⟨h1.1, h1.2, h2.2.1⟩
theorem dpL_txt {ps : List Phr} (h : bookB ps = true) (s : ByteArray) : ∀ k, k ≤ s.size → ∀ i m, (dpL (fitT s) txtLen sigCost ps s.size k)[i]? = some (some m) → m ≤ 3 * (k - i) := dpL_le (tblT_hyp h s)
end Go.Proofs.Ytabiobjcfopakaa
/- Plain laws: the first path through a table, place by place; of readings and of spellings. -/
namespace Go.Proofs.Ytabiobjcfopakaa
/-- The choices from place m on: nx names the phrase, ln how far it leads. -/
def pathF (n : Nat) (nx : Nat → Option Nat) (ln : Nat → Nat) : Nat → Nat → List Nat
  | 0, _ => []
  | f + 1, m => if m < n then match nx m with
      | Option.none => []
      | some i => i :: pathF n nx ln f (m + ln i)
    else []
theorem pathF_end {n : Nat} {nx : Nat → Option Nat} {ln : Nat → Nat} {f m : Nat} (h : n ≤ m) : pathF n nx ln f m = [] := by
  cases f with
  | zero => rfl
  | succ f => unfold pathF; rw [if_neg (by omega)]
theorem pathF_on {n : Nat} {nx : Nat → Option Nat} {ln : Nat → Nat} {f m i : Nat} (h : m < n) (h2 : nx m = some i) : pathF n nx ln (f + 1) m = i :: pathF n nx ln f (m + ln i) := by
  rw [pathF, if_pos h, h2]
theorem pathF_len {n : Nat} {nx : Nat → Option Nat} {ln : Nat → Nat} : ∀ (f m : Nat), (pathF n nx ln f m).length ≤ f
  | 0, m => by simp [pathF]
  | f + 1, m => by
    unfold pathF
    split
    · split
      · simp
      · rw [List.length_cons]
        exact Nat.succ_le_succ (pathF_len f _)
    · simp
/-- So far the path l was taken, it stands at m. -/
def PathTo (n : Nat) (nx : Nat → Option Nat) (ln : Nat → Nat) (l : List Nat) (m : Nat) : Prop := ∃ f, n - m ≤ f ∧ f + l.length ≤ n ∧ l ++ pathF n nx ln f m = pathF n nx ln n 0
theorem PathTo.start {n : Nat} {nx : Nat → Option Nat} {ln : Nat → Nat} : PathTo n nx ln [] 0 := ⟨n, by omega, by simp, rfl⟩
theorem PathTo.on {n : Nat} {nx : Nat → Option Nat} {ln : Nat → Nat} {l : List Nat} {m i : Nat} (h : PathTo n nx ln l m) (hm : m < n) (hn : nx m = some i) (hl : 1 ≤ ln i) : PathTo n nx ln (l ++ [i]) (m + ln i) := by
  obtain ⟨f, h1, h2, h3⟩ := h
  obtain ⟨f, rfl⟩ : ∃ g, f = g + 1 := ⟨f - 1, by omega⟩
  rw [pathF_on hm hn] at h3
  exact ⟨f, by omega, by rw [List.length_append, List.length_singleton]; omega, by rw [List.append_assoc]; exact h3⟩
theorem PathTo.done {n : Nat} {nx : Nat → Option Nat} {ln : Nat → Nat} {l : List Nat} {m : Nat} (h : PathTo n nx ln l m) (hm : n ≤ m) : l = pathF n nx ln n 0 := by
  obtain ⟨f, _, _, h3⟩ := h
  rw [pathF_end hm, List.append_nil] at h3
  exact h3
theorem PathTo.short {n : Nat} {nx : Nat → Option Nat} {ln : Nat → Nat} {l : List Nat} {m : Nat} (h : PathTo n nx ln l m) : l.length ≤ n := by
  obtain ⟨f, _, h2, _⟩ := h; omega
/-- How far the i-th phrase leads. -/
def lnOf (len : Phr → Nat) (ps : List Phr) (i : Nat) : Nat := (ps[i]?.map len).getD 0
theorem lnOf_at {len : Phr → Nat} {ps : List Phr} {i : Nat} {p : Phr} (h : ps[i]? = some p) : lnOf len ps i = len p := by unfold lnOf; rw [h]; rfl
theorem dpW_drop (fit : Nat → Phr → Bool) (len : Phr → Nat) (ps : List Phr) (n : Nat) : ∀ k j, j ≤ k → (dpW fit len ps n k).drop j = dpW fit len ps n (k - j)
  | 0, j, h => by obtain rfl : j = 0 := by omega
                  rfl
  | k + 1, 0, _ => rfl
  | k + 1, j + 1, h => by rw [dpW, List.drop_succ_cons, dpW_drop fit len ps n k j (by omega), show k + 1 - (j + 1) = k - j by omega]
theorem dpL_drop (fit : Nat → Phr → Bool) (len cost : Phr → Nat) (ps : List Phr) (n : Nat) : ∀ k j, j ≤ k → (dpL fit len cost ps n k).drop j = dpL fit len cost ps n (k - j)
  | 0, j, h => by obtain rfl : j = 0 := by omega
                  rfl
  | k + 1, 0, _ => rfl
  | k + 1, j + 1, h => by rw [dpL, List.drop_succ_cons, dpL_drop fit len cost ps n k j (by omega), show k + 1 - (j + 1) = k - j by omega]
theorem dpW_at {fit : Nat → Phr → Bool} {len : Phr → Nat} {ps : List Phr} {n m : Nat} (h : m < n) : (dpW fit len ps n n)[m]? = some (wayAt (fit m) len ps (dpW fit len ps n (n - (m + 1)))) := by
  have h1 := dpW_drop fit len ps n n m (by omega)
  obtain ⟨k, hk⟩ : ∃ k, n - m = k + 1 := ⟨n - m - 1, by omega⟩
  rw [hk, dpW] at h1
  have h2 : ((dpW fit len ps n n).drop m)[0]? = some (wayAt (fit (n - (k + 1))) len ps (dpW fit len ps n k)) := by rw [h1]; rfl
  rw [List.getElem?_drop, Nat.add_zero] at h2
  rw [h2, show n - (k + 1) = m by omega, show k = n - (m + 1) by omega]
theorem dpW_rest {fit : Nat → Phr → Bool} {len : Phr → Nat} {ps : List Phr} {n m d : Nat} (h : m < n) : (dpW fit len ps n (n - (m + 1)))[d]? = (dpW fit len ps n n)[m + 1 + d]? := by
  rw [← dpW_drop fit len ps n n (m + 1) (by omega), List.getElem?_drop]
theorem dpL_at {fit : Nat → Phr → Bool} {len cost : Phr → Nat} {ps : List Phr} {n m : Nat} (h : m < n) : (dpL fit len cost ps n n)[m]? = some (lsAt (fit m) len cost ps (dpL fit len cost ps n (n - (m + 1)))) := by
  have h1 := dpL_drop fit len cost ps n n m (by omega)
  obtain ⟨k, hk⟩ : ∃ k, n - m = k + 1 := ⟨n - m - 1, by omega⟩
  rw [hk, dpL] at h1
  have h2 : ((dpL fit len cost ps n n).drop m)[0]? = some (lsAt (fit (n - (k + 1))) len cost ps (dpL fit len cost ps n k)) := by rw [h1]; rfl
  rw [List.getElem?_drop, Nat.add_zero] at h2
  rw [h2, show n - (k + 1) = m by omega, show k = n - (m + 1) by omega]
theorem dpL_rest {fit : Nat → Phr → Bool} {len cost : Phr → Nat} {ps : List Phr} {n m d : Nat} (h : m < n) : (dpL fit len cost ps n (n - (m + 1)))[d]? = (dpL fit len cost ps n n)[m + 1 + d]? := by
  rw [← dpL_drop fit len cost ps n n (m + 1) (by omega), List.getElem?_drop]
/-- The first phrase that fits at m and leads on to where there is a way. -/
def okW (fit : Nat → Phr → Bool) (len : Phr → Nat) (tb : List Nat) (m : Nat) (p : Phr) : Bool := fit m p && decide (0 < tb.getD (m + len p) 0)
def nextW (fit : Nat → Phr → Bool) (len : Phr → Nat) (ps : List Phr) (tb : List Nat) (m : Nat) : Option Nat := ps.findIdx? (okW fit len tb m)
theorem wayAt_pos {fit : Phr → Bool} {len : Phr → Nat} {tb : List Nat} : ∀ {ps : List Phr}, 0 < wayAt fit len ps tb → ∃ p ∈ ps, fit p = true ∧ 0 < tb.getD (len p - 1) 0
  | [], h => by simp [wayAt] at h
  | p :: ps, h => by
    have e : wayAt fit len (p :: ps) tb = (if fit p then tb.getD (len p - 1) 0 else 0) + wayAt fit len ps tb := by simp [wayAt]
    rw [e] at h
    by_cases h1 : 0 < wayAt fit len ps tb
    · obtain ⟨q, hq, h2⟩ := wayAt_pos h1
      exact ⟨q, List.mem_cons_of_mem _ hq, h2⟩
    · split at h
      · rename_i hf
        exact ⟨p, by simp, hf, by omega⟩
      · omega
theorem nextW_some {fit : Nat → Phr → Bool} {len : Phr → Nat} {ps : List Phr} {n m : Nat} (hm : m < n) (hl : ∀ p ∈ ps, fit m p = true → 1 ≤ len p) (h : 0 < (dpW fit len ps n n).getD m 0) :
    ∃ i p, nextW fit len ps (dpW fit len ps n n) m = some i ∧ ps[i]? = some p ∧ fit m p = true ∧ 0 < (dpW fit len ps n n).getD (m + len p) 0 := by
  rw [List.getD_eq_getElem?_getD, dpW_at hm] at h
  obtain ⟨q, hq, hf, h2⟩ := wayAt_pos h
  have hq1 := hl q hq hf
  rw [List.getD_eq_getElem?_getD, dpW_rest hm, show m + 1 + (len q - 1) = m + len q by omega] at h2
  cases hn : nextW fit len ps (dpW fit len ps n n) m with
  | none =>
    unfold nextW at hn
    rw [List.findIdx?_eq_none_iff] at hn
    have := hn q hq
    unfold okW at this
    rw [hf, Bool.true_and, decide_eq_false_iff_not, List.getD_eq_getElem?_getD] at this
    exact absurd h2 this
  | some i =>
    have h3 := hn
    unfold nextW at h3
    rw [List.findIdx?_eq_some_iff_getElem] at h3
    obtain ⟨hi, h4, _⟩ := h3
    unfold okW at h4
    rw [Bool.and_eq_true, decide_eq_true_eq] at h4
    exact ⟨i, ps[i], rfl, List.getElem?_eq_getElem hi, h4.1, h4.2⟩
/-- What a phrase would cost at a place. -/
def valP (fit : Phr → Bool) (len cost : Phr → Nat) (tb : List (Option Nat)) (p : Phr) : Option Nat := if fit p then (tb.getD (len p - 1) Option.none).map (cost p + ·) else Option.none
theorem lsStep_val {fit : Phr → Bool} {len cost : Phr → Nat} {tb : List (Option Nat)} {cur : Option Nat} {p : Phr} : lsStep fit len cost tb cur p = match valP fit len cost tb p with
    | Option.none => cur
    | some v => lsUpd cur v := by
  unfold lsStep valP
  split
  · cases tb.getD (len p - 1) Option.none <;> rfl
  · rfl
/-- cur is the least of what the phrases seen cost. -/
structure Least (val : Phr → Option Nat) (ps : List Phr) (cur : Option Nat) : Prop where
  le : ∀ p ∈ ps, ∀ v, val p = some v → ∃ c, cur = some c ∧ c ≤ v
  hit : ∀ c, cur = some c → ∃ p ∈ ps, val p = some c
theorem least_lsAt {fit : Phr → Bool} {len cost : Phr → Nat} {ps : List Phr} {tb : List (Option Nat)} : ∀ j, j ≤ ps.length → Least (valP fit len cost tb) (ps.take j) (lsAt fit len cost (ps.take j) tb)
  | 0, _ => ⟨fun p hp => by simp at hp, fun c hc => by cases hc⟩
  | j + 1, hj => by
    have ih := least_lsAt (ps := ps) (fit := fit) (len := len) (cost := cost) (tb := tb) j (by omega)
    obtain ⟨q, hx⟩ : ∃ q, ps[j]? = some q := ⟨ps[j]'hj, List.getElem?_eq_getElem hj⟩
    rw [lsAt_snoc hx, take_snocN hx, lsStep_val]
    generalize ps.take j = qs at ih ⊢
    generalize lsAt fit len cost qs tb = cur at ih ⊢
    cases hv : valP fit len cost tb q with
    | none =>
      refine ⟨fun p hp v h => ?_, fun c hc => ?_⟩
      · rw [List.mem_append, List.mem_singleton] at hp
        rcases hp with hp | rfl
        · exact ih.le p hp v h
        · rw [hv] at h; cases h
      · obtain ⟨p, hp, h⟩ := ih.hit c hc
        exact ⟨p, List.mem_append_left _ hp, h⟩
    | some v =>
      have key : ∃ c, lsUpd cur v = some c ∧ c ≤ v ∧ (∀ b, cur = some b → c ≤ b) ∧ (c = v ∨ cur = some c) := by
        cases cur with
        | none => exact ⟨v, rfl, Nat.le_refl _, ⟨fun b hb => (by cases hb), Or.inl rfl⟩⟩
        | some b =>
          by_cases hlt : v < b
          · exact ⟨v, by simp only [lsUpd]; rw [if_pos hlt], Nat.le_refl _, ⟨fun b' hb => (by cases hb; omega), Or.inl rfl⟩⟩
          · exact ⟨b, by simp only [lsUpd]; rw [if_neg hlt], by omega, ⟨fun b' hb => (by cases hb; omega), Or.inr rfl⟩⟩
      obtain ⟨c, hc, h1, h2, h3⟩ := key
      dsimp only
      rw [hc]
      refine ⟨fun p hp u h => ?_, fun c' hc' => ?_⟩
      · rw [List.mem_append, List.mem_singleton] at hp
        rcases hp with hp | rfl
        · obtain ⟨b, hb, hbu⟩ := ih.le p hp u h
          exact ⟨c, rfl, Nat.le_trans (h2 b hb) hbu⟩
        · rw [hv] at h; cases h
          exact ⟨c, rfl, h1⟩
      · cases hc'
        rcases h3 with rfl | h3
        · exact ⟨q, by simp, hv⟩
        · obtain ⟨p, hp, h⟩ := ih.hit c h3
          exact ⟨p, List.mem_append_left _ hp, h⟩
/-- The first phrase that costs no more than the least. -/
def fstAt (val : Phr → Option Nat) (ps : List Phr) (cur : Option Nat) : Option Nat := match cur with
  | Option.none => Option.none
  | some c => ps.findIdx? fun p => val p == some c
theorem fstAt_some {val : Phr → Option Nat} {ps : List Phr} {c : Nat} (h : Least val ps (some c)) : ∃ i p, fstAt val ps (some c) = some i ∧ ps[i]? = some p ∧ val p = some c := by
  obtain ⟨p, hp, hv⟩ := h.hit c rfl
  unfold fstAt
  cases e : ps.findIdx? fun p => val p == some c with
  | none =>
    rw [List.findIdx?_eq_none_iff] at e
    have := e p hp
    simp [hv] at this
  | some i =>
    have h3 := e
    rw [List.findIdx?_eq_some_iff_getElem] at h3
    obtain ⟨hi, h4, _⟩ := h3
    exact ⟨i, ps[i], e, List.getElem?_eq_getElem hi, by simpa using h4⟩
/-- One phrase more that does not better the least. -/
theorem fstAt_keep {val : Phr → Option Nat} {ps : List Phr} {cur : Option Nat} {q : Phr} (h : Least val ps cur) : fstAt val (ps ++ [q]) cur = fstAt val ps cur := by
  cases cur with
  | none => rfl
  | some c =>
    obtain ⟨i, p, h1, _⟩ := fstAt_some h
    unfold fstAt at h1 ⊢
    dsimp only at h1 ⊢
    rw [List.findIdx?_append, h1]; rfl
/-- One phrase more that betters it. -/
theorem fstAt_new {val : Phr → Option Nat} {ps : List Phr} {cur : Option Nat} {q : Phr} {v : Nat} (h : Least val ps cur) (hv : val q = some v) (hb : ∀ b, cur = some b → v < b) : fstAt val (ps ++ [q]) (some v) = some ps.length := by
  unfold fstAt
  dsimp only
  rw [List.findIdx?_append]
  have : (ps.findIdx? fun p => val p == some v) = Option.none := by
    rw [List.findIdx?_eq_none_iff]
    intro p hp
    rw [beq_eq_false_iff_ne]
    intro e
    obtain ⟨c, hc, hcv⟩ := h.le p hp v e
    have := hb c hc
    omega
  rw [this]
  simp [hv]
/-- The next phrase of the first list of the least cost. -/
def nextL (fit : Nat → Phr → Bool) (len cost : Phr → Nat) (ps : List Phr) (n m : Nat) : Option Nat :=
  fstAt (valP (fit m) len cost (dpL fit len cost ps n (n - (m + 1)))) ps ((dpL fit len cost ps n n).getD m Option.none)
theorem valP_some {fit : Phr → Bool} {len cost : Phr → Nat} {tb : List (Option Nat)} {p : Phr} {c : Nat} (h : valP fit len cost tb p = some c) : fit p = true ∧ ∃ v, tb.getD (len p - 1) Option.none = some v ∧ cost p + v = c := by
  unfold valP at h
  split at h
  · rename_i hf
    cases e : tb.getD (len p - 1) Option.none with
    | none => rw [e] at h; cases h
    | some v => rw [e] at h; simp at h; exact ⟨hf, v, rfl, h⟩
  · cases h
theorem nextL_some {fit : Nat → Phr → Bool} {len cost : Phr → Nat} {ps : List Phr} {n m c : Nat} (hm : m < n) (hl : ∀ p ∈ ps, fit m p = true → 1 ≤ len p) (h : (dpL fit len cost ps n n).getD m Option.none = some c) :
    ∃ i p v, nextL fit len cost ps n m = some i ∧ ps[i]? = some p ∧ fit m p = true ∧ 1 ≤ len p ∧ (dpL fit len cost ps n n).getD (m + len p) Option.none = some v ∧ cost p + v = c := by
  unfold nextL
  rw [h]
  rw [List.getD_eq_getElem?_getD, dpL_at hm] at h
  have hls := least_lsAt (fit := fit m) (len := len) (cost := cost) (tb := dpL fit len cost ps n (n - (m + 1))) ps.length (Nat.le_refl _)
  rw [List.take_length] at hls
  rw [show lsAt (fit m) len cost ps (dpL fit len cost ps n (n - (m + 1))) = some c from h] at hls
  obtain ⟨i, p, h1, h2, h3⟩ := fstAt_some hls
  obtain ⟨h4, v, h5, h6⟩ := valP_some h3
  have h7 := hl p (List.mem_of_getElem? h2) h4
  rw [List.getD_eq_getElem?_getD, dpL_rest hm, show m + 1 + (len p - 1) = m + len p by omega, ← List.getD_eq_getElem?_getD] at h5
  exact ⟨i, p, v, h1, h2, h4, h7, h5, h6⟩
/-- What a list of phrases costs. -/
def costS (cost : Phr → Nat) (ps : List Phr) (l : List Nat) : Nat := (l.map (lnOf cost ps)).sum
theorem dpL_last (fit : Nat → Phr → Bool) (len cost : Phr → Nat) (ps : List Phr) (n : Nat) : (dpL fit len cost ps n n).getD n Option.none = some 0 := by
  have h1 := dpL_drop fit len cost ps n n n (Nat.le_refl _)
  rw [Nat.sub_self] at h1
  have h2 : ((dpL fit len cost ps n n).drop n)[0]? = some (some 0) := by rw [h1]; rfl
  rw [List.getElem?_drop, Nat.add_zero] at h2
  rw [List.getD_eq_getElem?_getD, h2]; rfl
theorem path_cost {fit : Nat → Phr → Bool} {len cost : Phr → Nat} {ps : List Phr} {n : Nat} (hl : ∀ m, ∀ p ∈ ps, fit m p = true → 1 ≤ len p) :
    ∀ f m c, n - m ≤ f → (dpL fit len cost ps n n).getD m Option.none = some c → costS cost ps (pathF n (nextL fit len cost ps n) (lnOf len ps) f m) = c
  | f, m, c, hf, h => by
    by_cases hm : m < n
    · obtain ⟨f, rfl⟩ : ∃ g, f = g + 1 := ⟨f - 1, by omega⟩
      obtain ⟨i, p, v, h1, h2, _, h4, h5, h6⟩ := nextL_some hm (hl m) h
      rw [pathF_on hm h1, lnOf_at h2]
      have := path_cost hl f (m + len p) v (by omega) h5
      unfold costS at this ⊢
      rw [List.map_cons, List.sum_cons, this, lnOf_at h2, h6]
    · rw [pathF_end (by omega)]
      have hlen := dpL_len fit len cost ps n n
      by_cases e : m = n
      · subst e
        rw [dpL_last] at h
        cases h; rfl
      · rw [List.getD_eq_getElem?_getD, List.getElem?_eq_none (by omega)] at h
        cases h
/-- Each choice on the path is a phrase. -/
theorem path_mem {n : Nat} {nx : Nat → Option Nat} {ln : Nat → Nat} {P : Nat → Prop} (h : ∀ m i, nx m = some i → P i) : ∀ f m, ∀ i ∈ pathF n nx ln f m, P i
  | 0, m, i, hi => by cases hi
  | f + 1, m, i, hi => by
    unfold pathF at hi
    split at hi
    · split at hi
      · cases hi
      · rename_i j hj
        rw [List.mem_cons] at hi
        rcases hi with rfl | hi
        · exact h m i hj
        · exact path_mem h f _ i hi
    · cases hi
/-- The signals of phrases, one after the other. -/
def sigsOf (ps : List Phr) (l : List Nat) : List Int := l.flatMap fun i => (ps[i]?.map (·.2)).getD []
theorem sigsOf_len {ps : List Phr} : ∀ (l : List Nat), (sigsOf ps l).length = costS sigCost ps l
  | [] => rfl
  | i :: l => by
    have := sigsOf_len (ps := ps) l
    unfold sigsOf costS at this ⊢
    rw [List.flatMap_cons, List.length_append, this, List.map_cons, List.sum_cons]
    unfold lnOf
    cases ps[i]? <;> rfl
theorem sigsOf_snoc {ps : List Phr} {l : List Nat} {i : Nat} {p : Phr} (h : ps[i]? = some p) : sigsOf ps (l ++ [i]) = sigsOf ps l ++ p.2 := by
  unfold sigsOf; rw [List.flatMap_append]; simp [h]
end Go.Proofs.Ytabiobjcfopakaa
/- Plain laws: where no rest is empty, signals are read in one way alone. -/
namespace Go.Proofs.Ytabiobjcfopakaa
open Go.RowKit
/-- The first n rests have been held against all phrases. -/
def CloN (ps : List Phr) (n : Nat) (L : List (List Int)) : Prop :=
  ∀ (j : Nat) (r : List Int) (y : Phr), j < n → L[j]? = some r → y ∈ ps → (begB r y.2 = true → y.2.drop r.length ∈ L) ∧ (begB y.2 r = true → r.drop y.2.length ∈ L)
theorem turn1_mem {x : List Int} {L : List (List Int)} {y : Phr} : (begB x y.2 = true → y.2.drop x.length ∈ turn1 x L y) ∧ (begB y.2 x = true → x.drop y.2.length ∈ turn1 x L y) := by
  unfold turn1
  dsimp only
  constructor
  · intro h
    rw [if_pos h]
    split
    · exact putR_pre.subset putR_mem
    · exact putR_mem
  · intro h
    rw [if_pos h]
    exact putR_mem
theorem turnR_mem {ps : List Phr} {x : List Int} {L : List (List Int)} {y : Phr} (hy : y ∈ ps) : (begB x y.2 = true → y.2.drop x.length ∈ turnR ps x L ps.length) ∧ (begB y.2 x = true → x.drop y.2.length ∈ turnR ps x L ps.length) := by
  obtain ⟨j, hj, rfl⟩ := List.getElem_of_mem hy
  have hs := turnR_succ (ps := ps) (x := x) (L := L) (j := j) (y := ps[j]) (List.getElem?_eq_getElem hj)
  have hm := turnR_mono (ps := ps) (x := x) (L := L) (j := j + 1) (k := ps.length) (by omega)
  rw [hs] at hm
  exact ⟨fun h => hm.subset (turn1_mem.1 h), fun h => hm.subset (turn1_mem.2 h)⟩
theorem clo_run {ps : List Phr} (hb : bookB ps = true) : ∀ (f n : Nat) (L : List (List Int)), f = 200 - n → RunTo ps n L → CloN ps n L → CloN ps (restsR ps).length (restsR ps)
  | 0, n, L, hf, hr, _ => by have := hr.bd hb; omega
  | f + 1, n, L, hf, hr, hc => by
    have hn := hr.2.1
    rcases Nat.lt_or_ge n L.length with h | h
    · have hx : L[n]? = some L[n] := List.getElem?_eq_getElem h
      obtain ⟨x, hxe⟩ : ∃ x, x = L[n] := ⟨_, rfl⟩
      rw [← hxe] at hx
      obtain ⟨T, hT⟩ := turnR_pre (ps := ps) (x := x) (L := L) (j := ps.length)
      refine clo_run hb f (n + 1) (turnR ps x L ps.length) (by omega) (hr.on hb hx) ?_
      intro j r y hj hjr hy
      rw [← hT, List.getElem?_append_left (by omega)] at hjr
      by_cases e : j = n
      · subst e
        rw [hx] at hjr; cases hjr
        exact turnR_mem hy
      · have h2 := hc j r y (by omega) hjr hy
        have hp := turnR_pre (ps := ps) (x := x) (L := L) (j := ps.length)
        exact ⟨fun h => hp.subset (h2.1 h), fun h => hp.subset (h2.2 h)⟩
    · have e := hr.fin h
      have : n = L.length := by omega
      rw [← e, ← this]; exact hc
theorem rests_turn {ps : List Phr} (hb : bookB ps = true) {r : List Int} {y : Phr} (hr : r ∈ restsR ps) (hy : y ∈ ps) : (begB r y.2 = true → y.2.drop r.length ∈ restsR ps) ∧ (begB y.2 r = true → r.drop y.2.length ∈ restsR ps) := by
  have h := clo_run hb 200 0 (seedR ps) rfl (RunTo.start ps) (fun j r y hj => by omega)
  obtain ⟨j, hj, rfl⟩ := List.getElem_of_mem hr
  exact h j _ y hj (List.getElem?_eq_getElem hj) hy
theorem seed1_pre {ps : List Phr} {i : Nat} {x : Phr} {L : List (List Int)} {k : Nat} : L <+: seed1 ps i x L k := by
  unfold seed1
  split
  · split
    · exact putR_pre
    · exact List.prefix_refl _
  · exact List.prefix_refl _
theorem seedK_mono {ps : List Phr} {i : Nat} {x : Phr} {L : List (List Int)} {j : Nat} : ∀ d, seedK ps i x L j <+: seedK ps i x L (j + d)
  | 0 => List.prefix_refl _
  | d + 1 => by rw [show j + (d + 1) = (j + d) + 1 by omega, seedK_succ]; exact (seedK_mono d).trans seed1_pre
theorem seedI_mono {ps : List Phr} {i : Nat} : ∀ d, seedI ps i <+: seedI ps (i + d)
  | 0 => List.prefix_refl _
  | d + 1 => by
    rw [show i + (d + 1) = (i + d) + 1 by omega, seedI]
    split
    · have := seedK_mono (ps := ps) (i := i + d) (x := (by assumption)) (L := seedI ps (i + d)) (j := 0) ps.length
      rw [Nat.zero_add] at this
      exact (seedI_mono d).trans this
    · exact seedI_mono d
theorem rests_seed {ps : List Phr} {i k : Nat} {x y : Phr} (hx : ps[i]? = some x) (hy : ps[k]? = some y) (hne : i ≠ k) (h : begB x.2 y.2 = true) : y.2.drop x.2.length ∈ restsR ps := by
  have hi := (List.getElem?_eq_some_iff.1 hx).1
  have hk := (List.getElem?_eq_some_iff.1 hy).1
  have h1 : y.2.drop x.2.length ∈ seedK ps i x (seedI ps i) (k + 1) := by rw [seedK_succ, seed1_yes hy hne h]; exact putR_mem
  have h2 := (seedK_mono (ps := ps) (i := i) (x := x) (L := seedI ps i) (j := k + 1) (ps.length - (k + 1))).subset h1
  rw [show k + 1 + (ps.length - (k + 1)) = ps.length by omega, ← seedI_succ hx] at h2
  have h3 := (seedI_mono (ps := ps) (i := i + 1) (ps.length - (i + 1))).subset h2
  rw [show i + 1 + (ps.length - (i + 1)) = ps.length by omega] at h3
  exact (RunTo.start ps).sub.subset h3
/-- Signals that phrases have, one after the other. -/
def Rdb (ps : List Phr) (xs : List Int) : Prop := ∃ l : List Nat, (∀ i ∈ l, i < ps.length) ∧ sigsOf ps l = xs
theorem sigsOf_cons {ps : List Phr} {l : List Nat} {i : Nat} {p : Phr} (h : ps[i]? = some p) : sigsOf ps (i :: l) = p.2 ++ sigsOf ps l := by
  unfold sigsOf; rw [List.flatMap_cons, h]; rfl
theorem Rdb.nil (ps : List Phr) : Rdb ps [] := ⟨[], by simp, rfl⟩
theorem Rdb.cons {ps : List Phr} {xs : List Int} {p : Phr} (hp : p ∈ ps) (h : Rdb ps xs) : Rdb ps (p.2 ++ xs) := by
  obtain ⟨l, h1, h2⟩ := h
  obtain ⟨i, hi, rfl⟩ := List.getElem_of_mem hp
  refine ⟨i :: l, fun j hj => ?_, by rw [sigsOf_cons (List.getElem?_eq_getElem hi), h2]⟩
  rcases List.mem_cons.1 hj with rfl | hj
  · exact hi
  · exact h1 j hj
theorem begB_pre (a t : List Int) : begB a (a ++ t) = true := begB_iff.2 (List.prefix_append _ _)
theorem no_bad {ps : List Phr} (hb : bookB ps = true) (ho : oneB ps = true) : ∀ (n : Nat) (r zs : List Int), (r ++ zs).length ≤ n → r ∈ restsR ps → Rdb ps (r ++ zs) → Rdb ps zs → False := by
  have ho' : [] ∉ restsR ps := by unfold oneB at ho; exact of_decide_eq_true ho
  intro n
  induction n with
  | zero =>
    intro r zs hl hr _ _
    have : r = [] := by
      rw [List.length_append] at hl
      exact List.eq_nil_of_length_eq_zero (by omega)
    rw [this] at hr
    exact ho' hr
  | succ n ih =>
    intro r zs hl hr h1 h2
    have hr0 : 1 ≤ r.length := by
      rcases Nat.eq_zero_or_pos r.length with h | h
      · rw [List.eq_nil_of_length_eq_zero h] at hr; exact absurd hr ho'
      · exact h
    obtain ⟨l, hv, he⟩ := h1
    cases l with
    | nil =>
      have := congrArg List.length he
      simp [sigsOf] at this
      omega
    | cons i l =>
      have hi := hv i (by simp)
      obtain ⟨p, hp⟩ : ∃ p, ps[i]? = some p := ⟨_, List.getElem?_eq_getElem hi⟩
      have hpm := List.mem_of_getElem? hp
      have hp1 := (phrOk_sig (bookB_phr hb hpm)).1
      rw [sigsOf_cons hp] at he
      have hrl : Rdb ps (sigsOf ps l) := ⟨l, fun j hj => hv j (by simp [hj]), rfl⟩
      rw [List.length_append] at hl
      rcases List.append_eq_append_iff.1 he with ⟨t, e1, e2⟩ | ⟨t, e1, e2⟩
      · subst e1
        have ht := (rests_turn hb hr hpm).2 (begB_pre _ _)
        rw [List.drop_left] at ht
        refine ih t zs (by rw [List.length_append]; rw [List.length_append] at hl; omega) ht ?_ h2
        rw [← e2]; exact hrl
      · have ht := (rests_turn hb hr hpm).1 (by rw [e1]; exact begB_pre _ _)
        rw [e1, List.drop_left] at ht
        refine ih t (sigsOf ps l) ?_ ht (by rw [← e2]; exact h2) hrl
        rw [← e2]; omega
/-- Two different phrases at one place. -/
theorem no_two {ps : List Phr} (hb : bookB ps = true) (ho : oneB ps = true) {i k : Nat} {x y : Phr} (hx : ps[i]? = some x) (hy : ps[k]? = some y) (hne : i ≠ k) {a b : List Int} (ha : Rdb ps a) (hbb : Rdb ps b) (he : x.2 ++ a = y.2 ++ b) : False := by
  rcases List.append_eq_append_iff.1 he with ⟨t, e1, e2⟩ | ⟨t, e1, e2⟩
  · have ht := rests_seed hx hy hne (by rw [e1]; exact begB_pre _ _)
    rw [e1, List.drop_left] at ht
    exact no_bad hb ho _ t b (Nat.le_refl _) ht (by rw [← e2]; exact ha) hbb
  · have ht := rests_seed hy hx (fun h => hne h.symm) (by rw [e1]; exact begB_pre _ _)
    rw [e1, List.drop_left] at ht
    exact no_bad hb ho _ t a (Nat.le_refl _) ht (by rw [← e2]; exact hbb) ha
/-- Two lists of phrases with the same signals are one. -/
theorem one_inj {ps : List Phr} (hb : bookB ps = true) (ho : oneB ps = true) : ∀ (l m : List Nat), (∀ i ∈ l, i < ps.length) → (∀ i ∈ m, i < ps.length) → sigsOf ps l = sigsOf ps m → l = m
  | [], [], _, _, _ => rfl
  | [], k :: m, _, hm, he => by
    have hk := hm k (by simp)
    have hp := List.getElem?_eq_getElem hk
    have := (phrOk_sig (bookB_phr hb (List.mem_of_getElem? hp))).1
    rw [sigsOf_cons hp] at he
    have h0 : (ps[k].2 ++ sigsOf ps m).length = 0 := by rw [← he]; rfl
    rw [List.length_append] at h0
    omega
  | i :: l, [], hl, _, he => by
    have hk := hl i (by simp)
    have hp := List.getElem?_eq_getElem hk
    have := (phrOk_sig (bookB_phr hb (List.mem_of_getElem? hp))).1
    rw [sigsOf_cons hp] at he
    have h0 : (ps[i].2 ++ sigsOf ps l).length = 0 := by rw [he]; rfl
    rw [List.length_append] at h0
    omega
  | i :: l, k :: m, hl, hm, he => by
    have hi := hl i (by simp)
    have hk := hm k (by simp)
    have hl' : ∀ j ∈ l, j < ps.length := fun j hj => hl j (by simp [hj])
    have hm' : ∀ j ∈ m, j < ps.length := fun j hj => hm j (by simp [hj])
    have hp := List.getElem?_eq_getElem hi
    have hq := List.getElem?_eq_getElem hk
    by_cases e : i = k
    · subst e
      rw [sigsOf_cons hp, sigsOf_cons hp] at he
      rw [one_inj hb ho l m hl' hm' (List.append_cancel_left he)]
    · rw [sigsOf_cons hp, sigsOf_cons hq] at he
      exact absurd (no_two hb ho hp hq e ⟨l, hl', rfl⟩ ⟨m, hm', rfl⟩ he) id
theorem sum_le_one : ∀ (l : List Nat), (∀ x ∈ l, x ≤ 1) → (∀ (i k : Nat), i ≠ k → l[i]? = some 1 → l[k]? = some 1 → False) → l.sum ≤ 1
  | [], _, _ => by simp
  | x :: l, h1, h2 => by
    have hx := h1 x (by simp)
    have ih := sum_le_one l (fun y hy => h1 y (by simp [hy])) (fun i k hne a b => h2 (i + 1) (k + 1) (by omega) (by simpa using a) (by simpa using b))
    rw [List.sum_cons]
    rcases Nat.eq_zero_or_pos x with e | e
    · omega
    · have e1 : x = 1 := by omega
      have hz : ∀ y ∈ l, y = 0 := by
        intro y hy
        obtain ⟨k, hk, rfl⟩ := List.getElem_of_mem hy
        have hy1 := h1 l[k] (by simp)
        rcases Nat.eq_zero_or_pos l[k] with e2 | e2
        · exact e2
        · exact absurd (h2 0 (k + 1) (by omega) (by simp [e1]) (by rw [List.getElem?_cons_succ, List.getElem?_eq_getElem hk]; congr 1; omega)) id
      have : l.sum = 0 := by
        clear ih h1 h2
        induction l with
        | nil => rfl
        | cons y l ih => rw [List.sum_cons, hz y (by simp), ih (fun z hz' => hz z (by simp [hz']))]
      omega
/-- Each place has one way at most, and where it has one, the signals from there on can be read. -/
theorem ways_one {ps : List Phr} (hb : bookB ps = true) (ho : oneB ps = true) (sig : List Int) : ∀ k, k ≤ sig.length →
    ∀ j, j ≤ k → (dpW (fitS sig) (fun p => p.2.length) ps sig.length j).getD 0 0 ≤ 1 ∧ (0 < (dpW (fitS sig) (fun p => p.2.length) ps sig.length j).getD 0 0 → Rdb ps (sig.drop (sig.length - j)))
  | 0, _, j, hj => by
    obtain rfl : j = 0 := by omega
    refine ⟨by simp [dpW], fun _ => ?_⟩
    rw [Nat.sub_zero, List.drop_length]; exact Rdb.nil ps
  | k + 1, hk, j, hj => by
    have ih := ways_one hb ho sig k (by omega)
    rcases Nat.lt_or_ge k j with h | h
    · obtain rfl : j = k + 1 := by omega
      obtain ⟨tb, htb⟩ : ∃ tb, tb = dpW (fitS sig) (fun p => p.2.length) ps sig.length k := ⟨_, rfl⟩
      have hd : ∀ d, d ≤ k → tb.getD d 0 = (dpW (fitS sig) (fun p => p.2.length) ps sig.length (k - d)).getD 0 0 := by
        intro d hd
        have := dpW_drop (fitS sig) (fun p => p.2.length) ps sig.length k d hd
        rw [← this, ← htb]
        simp [List.getD_eq_getElem?_getD]
      have hap := apart_sig hb sig (sig.length - (k + 1))
      rw [show sig.length - (sig.length - (k + 1)) = k + 1 by omega] at hap
      have hone : ∀ p ∈ ps, fitS sig (sig.length - (k + 1)) p = true → tb.getD (p.2.length - 1) 0 ≤ 1 ∧ (0 < tb.getD (p.2.length - 1) 0 → Rdb ps (sig.drop (sig.length - (k + 1) + p.2.length)) ∧ sig.drop (sig.length - (k + 1)) = p.2 ++ sig.drop (sig.length - (k + 1) + p.2.length)) := by
        intro p hp hf
        have hl := hap.2 p hp hf
        have hl1 : 1 ≤ p.2.length ∧ p.2.length ≤ k + 1 := hl
        rw [hd (p.2.length - 1) (by omega)]
        have := ih (k - (p.2.length - 1)) (by omega)
        refine ⟨this.1, fun h0 => ⟨?_, ?_⟩⟩
        · have h3 := this.2 h0
          rwa [show sig.length - (k - (p.2.length - 1)) = sig.length - (k + 1) + p.2.length by omega] at h3
        · unfold fitS at hf
          obtain ⟨t, ht⟩ := begB_iff.1 hf
          rw [← List.drop_drop, ← ht, List.drop_left]
      rw [dpW, ← htb]
      simp only [List.getD_cons_zero]
      constructor
      · unfold wayAt
        refine sum_le_one _ ?_ ?_
        · intro x hx
          obtain ⟨p, hp, rfl⟩ := List.mem_map.1 hx
          split
          · rename_i hf; exact (hone p hp hf).1
          · omega
        · intro i l hne h1 h2
          rw [List.getElem?_map] at h1 h2
          cases hpi : ps[i]? with
          | none => rw [hpi] at h1; cases h1
          | some p =>
            cases hql : ps[l]? with
            | none => rw [hql] at h2; cases h2
            | some q =>
              rw [hpi] at h1
              rw [hql] at h2
              simp only [Option.map_some, Option.some.injEq] at h1 h2
              split at h1
              · rename_i hf
                split at h2
                · rename_i hg
                  have a1 := (hone p (List.mem_of_getElem? hpi) hf).2 (by omega)
                  have a2 := (hone q (List.mem_of_getElem? hql) hg).2 (by omega)
                  exact no_two hb ho hpi hql hne a1.1 a2.1 (by rw [← a1.2, ← a2.2])
                · omega
              · omega
      · intro h0
        obtain ⟨p, hp, hf, h1⟩ := wayAt_pos h0
        have a1 := (hone p hp hf).2 h1
        rw [a1.2]
        exact Rdb.cons hp a1.1
    · exact ih j h
end Go.Proofs.Ytabiobjcfopakaa
/- Plain laws: which first parts of letters can be spelled. -/
namespace Go.Proofs.Ytabiobjcfopakaa
/-- A place that phrases reach, one after the other. -/
inductive Rch (ps : List Phr) (s : ByteArray) : Nat → Prop
  | zero : Rch ps s 0
  | step {a : Nat} {p : Phr} : Rch ps s a → p ∈ ps → fitT s a p = true → Rch ps s (a + p.1.size)
/-- A place from which phrases reach the end. -/
inductive Bck (ps : List Phr) (s : ByteArray) : Nat → Prop
  | fin : Bck ps s s.size
  | step {a : Nat} {p : Phr} : Bck ps s (a + p.1.size) → p ∈ ps → fitT s a p = true → Bck ps s a
theorem Bck.rch {ps : List Phr} {s : ByteArray} {a : Nat} (h : Bck ps s a) : Rch ps s a → Rch ps s s.size := by
  induction h with
  | fin => exact id
  | step _ hp hf ih => exact fun hr => ih (hr.step hp hf)
theorem Rch.bck {ps : List Phr} {s : ByteArray} {a : Nat} (h : Rch ps s a) : Bck ps s a → Bck ps s 0 := by
  induction h with
  | zero => exact id
  | step _ hp hf ih => exact fun hb => ih (hb.step hp hf)
theorem bck_rch {ps : List Phr} {s : ByteArray} : Bck ps s 0 ↔ Rch ps s s.size := ⟨fun h => h.rch .zero, fun h => h.bck .fin⟩
theorem ls_some {fit : Phr → Bool} {len cost : Phr → Nat} {tb : List (Option Nat)} : ∀ (ps : List Phr) (cur : Option Nat),
    ((ps.foldl (lsStep fit len cost tb) cur).isSome = true ↔ (cur.isSome = true ∨ ∃ p ∈ ps, fit p = true ∧ (tb.getD (len p - 1) Option.none).isSome = true))
  | [], cur => by simp
  | p :: ps, cur => by
    rw [List.foldl_cons, ls_some ps]
    have e : (lsStep fit len cost tb cur p).isSome = true ↔ (cur.isSome = true ∨ (fit p = true ∧ (tb.getD (len p - 1) Option.none).isSome = true)) := by
      unfold lsStep
      split
      · rename_i hf
        split
        · rename_i ht; rw [ht]; simp
        · rename_i m ht
          simp only [ht, hf, Option.isSome_some, and_true, or_true, iff_true]
          cases cur with
          | none => rfl
          | some c => show (if _ then _ else _ : Option Nat).isSome = true; split <;> rfl
      · rename_i hf; simp [hf]
    rw [e]
    simp only [List.mem_cons, exists_eq_or_imp, or_assoc]
theorem dpL_get (fit : Nat → Phr → Bool) (len cost : Phr → Nat) (ps : List Phr) (n : Nat) : ∀ (k i : Nat), i ≤ k → (dpL fit len cost ps n k)[i]? = (dpL fit len cost ps n (k - i))[0]?
  | k, 0, _ => rfl
  | 0, i + 1, h => by omega
  | k + 1, i + 1, h => by
    rw [show k + 1 - (i + 1) = k - i by omega, ← dpL_get fit len cost ps n k i (by omega)]
    simp [dpL]
theorem fitT_le {s : ByteArray} {a : Nat} {p : Phr} (h : fitT s a p = true) (hp : 1 ≤ p.1.size) : a + p.1.size ≤ s.size := by
  rw [fitT_eq] at h
  have := h.length_le
  rw [List.length_drop] at this
  simp at this
  omega
theorem dpL_head {ps : List Phr} (hbk : bookB ps = true) (s : ByteArray) : ∀ k, k ≤ s.size → (((dpL (fitT s) txtLen sigCost ps s.size k).getD 0 Option.none).isSome = true ↔ Bck ps s (s.size - k)) := by
  intro k
  induction k using Nat.strongRecOn with
  | _ k ih =>
    intro hk
    cases k with
    | zero => simp [dpL]; exact .fin
    | succ k =>
      have e : (dpL (fitT s) txtLen sigCost ps s.size (k + 1)).getD 0 Option.none = lsAt (fitT s (s.size - (k + 1))) txtLen sigCost ps (dpL (fitT s) txtLen sigCost ps s.size k) := by simp [dpL]
      rw [e]
      unfold lsAt
      rw [ls_some]
      simp only [Option.isSome_none, Bool.false_eq_true, false_or]
      constructor
      · rintro ⟨p, hp, hf, ht⟩
        have h1 := tblT_hyp hbk s k (by omega) p hp hf
        rw [List.getD_eq_getElem?_getD, dpL_get _ _ _ _ _ _ _ (by have := h1.2.1; omega), ← List.getD_eq_getElem?_getD, ih (k - (txtLen p - 1)) (by omega) (by omega)] at ht
        have h2 : s.size - (k - (txtLen p - 1)) = s.size - (k + 1) + p.1.size := by have := h1.1; have := h1.2.1; show _ = _ + txtLen p; omega
        rw [h2] at ht
        exact ht.step hp hf
      · intro hb
        generalize ha : s.size - (k + 1) = a at hb
        cases hb with
        | fin => omega
        | @step _ p h2 hp hf =>
          rw [← ha] at hf h2
          have h1 := tblT_hyp hbk s k (by omega) p hp hf
          refine ⟨p, hp, by rw [ha] at hf; exact hf, ?_⟩
          rw [List.getD_eq_getElem?_getD, dpL_get _ _ _ _ _ _ _ (by have := h1.2.1; omega), ← List.getD_eq_getElem?_getD, ih (k - (txtLen p - 1)) (by omega) (by omega)]
          have h3 : s.size - (k - (txtLen p - 1)) = s.size - (k + 1) + p.1.size := by have := h1.1; have := h1.2.1; show _ = _ + txtLen p; omega
          rw [h3]; exact h2
/-- Can the first m letters be spelled? -/
def spellB (ps : List Phr) (s : ByteArray) (m : Nat) : Bool := ((tblT ps (s.extract 0 m)).getD 0 Option.none).isSome
theorem fitT_cut {s : ByteArray} {m a : Nat} {p : Phr} (ha : a ≤ m) : fitT (s.extract 0 m) a p = true ↔ (fitT s a p = true ∧ a + p.1.size ≤ m) := by
  rw [fitT_eq, fitT_eq]
  have e : (s.extract 0 m).data.toList.drop a = (s.data.toList.drop a).take (m - a) := by
    rw [← List.drop_take]; simp
  rw [e, List.prefix_take_iff]
  have : p.1.data.toList.length = p.1.size := by simp
  rw [this]
  constructor
  · rintro ⟨h1, h2⟩; exact ⟨h1, by omega⟩
  · rintro ⟨h1, h2⟩; exact ⟨h1, by omega⟩
theorem rch_cut {ps : List Phr} {s : ByteArray} {m : Nat} {a : Nat} : a ≤ m → (Rch ps (s.extract 0 m) a ↔ Rch ps s a) := by
  intro ha
  constructor
  · intro h
    induction h with
    | zero => exact .zero
    | @step b p _ hp hf ih =>
      have hb : b ≤ m := by omega
      exact (ih hb).step hp ((fitT_cut hb).1 hf).1
  · intro h
    induction h with
    | zero => exact .zero
    | @step b p _ hp hf ih =>
      have hb : b ≤ m := by omega
      exact (ih hb).step hp ((fitT_cut hb).2 ⟨hf, ha⟩)
theorem spellB_iff {ps : List Phr} {s : ByteArray} {m : Nat} (hbk : bookB ps = true) (hm : m ≤ s.size) : spellB ps s m = true ↔ Rch ps s m := by
  have hs : (s.extract 0 m).size = m := by simp; omega
  unfold spellB tblT
  rw [dpL_head hbk (s.extract 0 m) _ (Nat.le_refl _), Nat.sub_self, bck_rch, hs]
  exact rch_cut (Nat.le_refl _)
/-- The greatest number of first letters, k at most, that can be spelled. -/
def partM (ps : List Phr) (s : ByteArray) : Nat → Nat
  | 0 => 0
  | k + 1 => if spellB ps s (k + 1) then k + 1 else partM ps s k
theorem partM_le (ps : List Phr) (s : ByteArray) (k : Nat) : partM ps s k ≤ k := by
  induction k with
  | zero => exact Nat.le_refl _
  | succ k ih => unfold partM; split <;> omega
theorem partM_eq {ps : List Phr} {s : ByteArray} {n m : Nat} (hbk : bookB ps = true) (hn : n ≤ s.size) (h1 : Rch ps s m) (hm : m ≤ n) (h2 : ∀ p, p ≤ n → Rch ps s p → p ≤ m) : partM ps s n = m := by
  induction n with
  | zero => show 0 = m; omega
  | succ n ih =>
    unfold partM
    split
    · rename_i h
      have := h2 (n + 1) (Nat.le_refl _) ((spellB_iff hbk hn).1 h)
      omega
    · rename_i h
      have hne : m ≠ n + 1 := by rintro rfl; exact h ((spellB_iff hbk hn).2 h1)
      exact ih (by omega) (by omega) (fun p hp => h2 p (by omega))
/-- What has been reached: from the places before at_, and from at_ by some phrases. -/
def RchTo (ps : List Phr) (s : ByteArray) (at_ : Nat) (qs : List Phr) (p : Nat) : Prop :=
  p = 0 ∨ (∃ a q, a < at_ ∧ Rch ps s a ∧ q ∈ ps ∧ fitT s a q = true ∧ p = a + q.1.size) ∨ (Rch ps s at_ ∧ ∃ q, q ∈ qs ∧ fitT s at_ q = true ∧ p = at_ + q.1.size)
theorem RchTo.rch {ps qs : List Phr} {s : ByteArray} {at_ p : Nat} (hq : ∀ q ∈ qs, q ∈ ps) (h : RchTo ps s at_ qs p) : Rch ps s p := by
  rcases h with rfl | ⟨a, q, _, h1, h2, h3, rfl⟩ | ⟨h1, q, h2, h3, rfl⟩
  · exact .zero
  · exact h1.step h2 h3
  · exact h1.step (hq q h2) h3
theorem Rch.to {ps : List Phr} {s : ByteArray} {at_ p : Nat} (hbk : bookB ps = true) (h : Rch ps s p) (hp : p ≤ at_) : RchTo ps s at_ [] p := by
  cases h with
  | zero => exact .inl rfl
  | @step a q h1 h2 h3 =>
    have := (phrOk_txt (bookB_phr hbk h2)).1
    exact .inr (.inl ⟨a, q, by omega, h1, h2, h3, rfl⟩)
theorem RchTo.turn {ps : List Phr} {s : ByteArray} {at_ p : Nat} : RchTo ps s at_ ps p ↔ RchTo ps s (at_ + 1) [] p := by
  constructor
  · rintro (h | ⟨a, q, h0, h1⟩ | ⟨h1, q, h2, h3, h4⟩)
    · exact .inl h
    · exact .inr (.inl ⟨a, q, by omega, h1⟩)
    · exact .inr (.inl ⟨at_, q, by omega, h1, h2, h3, h4⟩)
  · rintro (h | ⟨a, q, h0, h1, h2, h3, h4⟩ | ⟨_, q, h2, _⟩)
    · exact .inl h
    · by_cases e : a = at_
      · subst e; exact .inr (.inr ⟨h1, q, h2, h3, h4⟩)
      · exact .inr (.inl ⟨a, q, by omega, h1, h2, h3, h4⟩)
    · cases h2
theorem RchTo.no {ps qs : List Phr} {s : ByteArray} {at_ p : Nat} {q : Phr} (h : ¬ (Rch ps s at_ ∧ fitT s at_ q = true)) : RchTo ps s at_ (qs ++ [q]) p ↔ RchTo ps s at_ qs p := by
  unfold RchTo
  constructor
  · rintro (h1 | h1 | ⟨h1, r, h2, h3, h4⟩)
    · exact .inl h1
    · exact .inr (.inl h1)
    · rw [List.mem_append, List.mem_singleton] at h2
      rcases h2 with h2 | rfl
      · exact .inr (.inr ⟨h1, r, h2, h3, h4⟩)
      · exact absurd ⟨h1, h3⟩ h
  · rintro (h1 | h1 | ⟨h1, r, h2, h3, h4⟩)
    · exact .inl h1
    · exact .inr (.inl h1)
    · exact .inr (.inr ⟨h1, r, List.mem_append_left _ h2, h3, h4⟩)
theorem RchTo.yes {ps qs : List Phr} {s : ByteArray} {at_ p : Nat} {q : Phr} (h1 : Rch ps s at_) (h2 : fitT s at_ q = true) : RchTo ps s at_ (qs ++ [q]) p ↔ (RchTo ps s at_ qs p ∨ p = at_ + q.1.size) := by
  unfold RchTo
  constructor
  · rintro (h | h | ⟨_, r, h4, h5, h6⟩)
    · exact .inl (.inl h)
    · exact .inl (.inr (.inl h))
    · rw [List.mem_append, List.mem_singleton] at h4
      rcases h4 with h4 | rfl
      · exact .inl (.inr (.inr ⟨h1, r, h4, h5, h6⟩))
      · exact .inr h6
  · rintro ((h | h | ⟨_, r, h4, h5, h6⟩) | h)
    · exact .inl h
    · exact .inr (.inl h)
    · exact .inr (.inr ⟨h1, r, List.mem_append_left _ h4, h5, h6⟩)
    · exact .inr (.inr ⟨h1, q, by simp, h2, h⟩)
end Go.Proofs.Ytabiobjcfopakaa
