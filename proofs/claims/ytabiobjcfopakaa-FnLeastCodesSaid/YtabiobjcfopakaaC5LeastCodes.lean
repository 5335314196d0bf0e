/- Texts of one claim, joined: E3, R8, R9, R10, R11. -/
import Derived.StillTailTactics
import Derived.BigQuiet
import Derived.Lib.SliceRun
import Derived.Deep.QuietTactic
import Derived.Deep.RegionHeld3
import Derived.Deep.AppendLies
import Derived.Deep.RegionLaw
import Derived.Test.YtabiobjcfopakaaC4LeastCodes
/- Contracts of the tables of readings, of the program and of the reference. -/
namespace Go.Proofs.Ytabiobjcfopakaa
open Go.RowKit
abbrev sigLen (p : Phr) : Nat := p.2.length
abbrev txtLen (p : Phr) : Nat := p.1.size
def waysI (l : List Nat) : List Int := l.map fun m : Nat => (m : Int)
theorem nats_ints (l : List Nat) : nats l = ints (waysI l) := by simp [waysI]
theorem dpW_sig {ps : List Phr} (h : bookB ps = true) (sig : List Int) : ∀ k, k ≤ sig.length → ∀ i m, (dpW (fitS sig) sigLen ps sig.length k)[i]? = some m → m ≤ 2 ^ (k - i) :=
  dpW_le fun k hk => by
    have := apart_sig h sig (sig.length - (k + 1))
    rwa [show sig.length - (sig.length - (k + 1)) = k + 1 by omega] at this
theorem dpW_txt {ps : List Phr} (h : bookB ps = true) (s : ByteArray) : ∀ k, k ≤ s.size → ∀ i m, (dpW (fitT s) txtLen ps s.size k)[i]? = some m → m ≤ 2 ^ (k - i) :=
  dpW_le fun k hk => by
    have := apart_txt h s (s.size - (k + 1))
    rwa [show s.size - (s.size - (k + 1)) = k + 1 by omega] at this
set_option maxRecDepth 100000 in
set_option maxHeartbeats 4000000 in
theorem spWays_any (ps : List Phr) (sig : List Int) (v u : Value) (hi hj : Nat) (w : World) (h : RdB w hi v ps) (g : RdI w hj u sig) (hh : hi ≤ w.heap.size) (hg : hj ≤ w.heap.size) (hbk : bookB ps = true) (hlen : sig.length ≤ 60) :
    Calls Try.prog 178 #[v, u] w (RetOwI (waysI (dpW (fitS sig) sigLen ps sig.length sig.length)) w) := by
  obtain ⟨A', c', rfl, hc', hm'⟩ := Rd.form g
  have G := Lib.hid g
  clear g
  obtain ⟨a, rfl, ha⟩ := h
  obtain ⟨A, c, rfl, hc, hm⟩ := ha.form
  have HA0 := Lib.hid ha
  have hba : Below w.heap.size w (w.alloc (.cells #[.slice A ps.length c] 48)) := (Below.refl _ _).alloc (Nat.le_refl _) _
  have HB := Lib.hid hba
  have HA := Lib.hid (ha.below hba hh)
  have HG : Hid (RdB (w.alloc (.cells #[.slice A ps.length c] 48)) hi (.agg #[.slice A ps.length c]) ps) := ⟨_, rfl, HA.out⟩
  have hcb0 : (w.alloc (.cells #[.slice A ps.length c] 48)).cell? ⟨w.heap.size, 0, Option.none⟩ = some (.slice A ps.length c) := (Blk.new w 48 #[.slice A ps.length c]).cell 0
  have HCB := Lib.hid hcb0
  have hsz1 : hi ≤ (w.alloc (.cells #[.slice A ps.length c] 48)).heap.size := by simp; omega
  clear ha hba hcb0
  have HBK := Lib.hid hbk
  clear hbk
  have hmk := make_ints (sig.length + 1) (by omega)
  rw [show ((sig.length + 1 : Nat) : Int) = (sig.length : Int) + 1 from rfl] at hmk
  have HBW : Hid (Below w.heap.size w ((w.alloc (.cells #[.slice A ps.length c] 48)).alloc (.cells ((zeros (sig.length + 1)).setIfInBounds sig.length (.int .i64 1)) 3))) := ((Below.refl _ _).alloc (Nat.le_refl _) _).alloc (by simp) _
  have HTB0 : Hid (Blk ((w.alloc (.cells #[.slice A ps.length c] 48)).alloc (.cells ((zeros (sig.length + 1)).setIfInBounds sig.length (.int .i64 1)) 3)) (w.heap.size + 1) 3 (tblZ sig.length (dpW (fitS sig) sigLen ps sig.length 0))) := by
    have := Blk.new (w.alloc (.cells #[.slice A ps.length c] 48)) 3 ((zeros (sig.length + 1)).setIfInBounds sig.length (.int .i64 1))
    rw [tblZ_start] at this
    simp at this
    exact this
  have HCBX : Hid (((w.alloc (.cells #[.slice A ps.length c] 48)).alloc (.cells ((zeros (sig.length + 1)).setIfInBounds sig.length (.int .i64 1)) 3)).cell? ⟨w.heap.size, 0, Option.none⟩ = some (.slice A ps.length c)) :=
    (((Below.refl (w.alloc (.cells #[.slice A ps.length c] 48)).heap.size (w.alloc (.cells #[.slice A ps.length c] 48))).alloc (Nat.le_refl _) (.cells ((zeros (sig.length + 1)).setIfInBounds sig.length (.int .i64 1)) 3)).cell (p := ⟨w.heap.size, 0, Option.none⟩) (by simp)).trans HCB.out
  have hz0 : ((w.alloc (.cells #[.slice A ps.length c] 48)).alloc (.cells (zeros (sig.length + 1)) 3)).cell? ⟨w.heap.size + 1, sig.length, Option.none⟩ = some (.int .i64 0) := by
    have := (Blk.new (w.alloc (.cells #[.slice A ps.length c] 48)) 3 (zeros (sig.length + 1))).cell sig.length
    rw [show (zeros (sig.length + 1)).toList[sig.length]? = some (.int .i64 0) by simp [zeros]] at this
    simpa using this
  go_enter Try.func178, Try.ntmps178
  go_wp2_with fail
  go_loopw [6] (fun i wr => ∃ (m k : Nat) (z : Int), Hid (m + k = sig.length) ∧ Hid (z = (m : Int) - 1) ∧ i = .int .i64 z ∧ Hid (Blk wr (w.heap.size + 1) 3 (tblZ m (dpW (fitS sig) sigLen ps sig.length k))) ∧ Hid (Below (w.heap.size + 1) ((w.alloc (.cells #[.slice A ps.length c] 48)).alloc (.cells ((zeros (sig.length + 1)).setIfInBounds sig.length (.int .i64 1)) 3)) wr)) (fun i _ => (intOf i + 1).toNat)
  case atStart => exact ⟨sig.length, 0, (sig.length : Int) - 1, rfl, rfl, rfl, HTB0.out, Below.refl _ _⟩
  case round =>
    obtain ⟨m, k, z, hmk1, hz, rfl, hblk, hbr⟩ := hrel
    have hs : (w.heap.size + 1) + 1 ≤ wr.heap.size := by have := hblk.out.lt; omega
    rcases m with _ | m
    · obtain rfl : z = -1 := by have := hz.out; omega
      have HK : Hid (k = sig.length) := by have := hmk1.out; show k = _; omega
      go_wp2_with fail
      go_ret
      have h1 := hblk.out
      rw [HK.out] at h1
      refine ⟨_, rfl, ?_, HBW.out.trans (hbr.out.mono (by omega))⟩
      have e : (waysI (dpW (fitS sig) sigLen ps sig.length sig.length)).length = sig.length + 1 := by simp [waysI, dpW_len]
      have h2 : Blk wr (w.heap.size + 1) 3 (ints (waysI (dpW (fitS sig) sigLen ps sig.length sig.length))) := by rw [← nats_ints]; simpa [tblZ] using h1
      have := own_of_blk (lo := w.heap.size) (hi := wr.heap.size) h2 (by omega) (by omega) (by rw [e]; unfold maxLen; omega)
      rw [e] at this
      exact this
    · obtain rfl : z = (m : Int) := by have := hz.out; omega
      have hm1 : m < sig.length := by have := hmk1.out; omega
      have hboxr := (hbr.out.cell (p := ⟨w.heap.size, 0, Option.none⟩) (by show w.heap.size < (w.heap.size + 1); omega)).trans HCBX.out
      obtain ⟨b3, o3, c3, y3, hv3, _, _, _⟩ := Rd.at_ G.out hm1
      injection hv3 with hv4 hv5 hv6
      subst hv4
      clear hv5 hv6
      rename World => wo
      go_wp2_with fail
      go_loopw [27] (fun i wr => ∃ j : Nat, j ≤ ps.length ∧ i = .int .i64 j ∧ Hid (Blk wr (w.heap.size + 1) 3 (tblC m (wayAt (fitS sig m) sigLen (ps.take j) (dpW (fitS sig) sigLen ps sig.length k)) (dpW (fitS sig) sigLen ps sig.length k))) ∧ Hid (Below (w.heap.size + 1) ((w.alloc (.cells #[.slice A ps.length c] 48)).alloc (.cells ((zeros (sig.length + 1)).setIfInBounds sig.length (.int .i64 1)) 3)) wr)) (fun i _ => ps.length - (intOf i).toNat)
      case atStart => exact ⟨0, Nat.zero_le _, rfl, by have := hblk.out; rw [tblZ_down] at this; exact this, hbr⟩
      case round =>
        obtain ⟨j, hjl, rfl, hblk2, hbr2⟩ := hrel
        have hs2 : (w.heap.size + 1) + 1 ≤ wr.heap.size := by have := hblk2.out.lt; omega
        have HBR := Lib.hid (HBW.out.trans (hbr2.out.mono (by omega)))
        by_cases hlt : j < ps.length
        · obtain ⟨b1, o1, c1, a, t, xs, hv, hb1, hx, hcell1, hcell2, hra, hta⟩ := (HA0.out.below HBR.out (by omega)).at_ hlt
          cases hv
          obtain ⟨A2, c2, rfl, hc2, hm2⟩ := Rd.form hra
          have HX := Lib.hid hx
          have HRA := Lib.hid hra
          clear hra
          have hfit : fitS sig m (t, xs) = begB xs (sig.drop m) := rfl
          have HF := Lib.hid hfit
          have HAP := Lib.hid (((apart_sig HBK.out sig m).2 (t, xs) (List.mem_of_getElem? HX.out)))
          have HBP := Lib.hid (hbr2.out.alloc (show (w.heap.size + 1) ≤ wr.heap.size by omega) (.cells #[.string t, .slice A2 xs.length c2] 60))
          have HBLP : Hid (Blk (wr.alloc (.cells #[.string t, .slice A2 xs.length c2] 60)) (w.heap.size + 1) 3 (tblC m (wayAt (fitS sig m) sigLen (ps.take j) (dpW (fitS sig) sigLen ps sig.length k)) (dpW (fitS sig) sigLen ps sig.length k))) := hblk2.out.alloc _
          clear hx hfit
          have HGD : Hid (RdI (wr.alloc (.cells #[.string t, .slice A2 xs.length c2] 60)) hj (.slice (some ⟨b3, o3 + m, Option.none⟩) (sig.length - m) (c' - m)) (sig.drop m)) := (RdI.below G.out (HBR.out.trans ((Below.refl wr.heap.size wr).alloc (Nat.le_refl _) _ |>.mono (by omega))) (by omega)).drop (by omega)
          have HRX : Hid (RdI (wr.alloc (.cells #[.string t, .slice A2 xs.length c2] 60)) hi (.slice A2 xs.length c2) xs) := HRA.out.below ((Below.refl wr.heap.size wr).alloc (Nat.le_refl _) _) (by omega)
          have cB := fun n => bkBegins_any xs (sig.drop m) (.slice A2 xs.length c2) (.slice (some ⟨b3, o3 + m, Option.none⟩) (sig.length - m) (c' - m)) hi hj ((wr.alloc (.cells #[.string t, .slice A2 xs.length c2] 60)).drewN n) (show RdI ((wr.alloc (.cells #[.string t, .slice A2 xs.length c2] 60)).drewN n) hi _ _ from HRX.out) (show RdI ((wr.alloc (.cells #[.string t, .slice A2 xs.length c2] 60)).drewN n) hj _ _ from HGD.out)
          cases hbg : begB xs (sig.drop m)
          · rw [hbg] at cB
            have CB := Lib.hid cB
            have HBG := Lib.hid hbg
            clear cB hbg
            go_wp2_with fail
            go_quiet ((go_at_call 209; exact Calls.quiet_of (CB.out _)))
            go_wp2_with fail
            go_roundw
            case rel => exact ⟨j + 1, by omega, by go_num, by rw [wayAt_snoc HX.out, HF.out, HBG.out]; exact HBLP.out, HBP.out.trans (bel_drewN _ _ _)⟩
            case measure => simp [intOf]; omega
          · rw [hbg] at cB
            have CB := Lib.hid cB
            have HBG := Lib.hid hbg
            have hl := HAP.out (by rw [HF.out, HBG.out])
            have hl1 : 1 ≤ xs.length := hl.1
            have hl2 : xs.length ≤ sig.length - m := hl.2
            have hmk2 := hmk1.out
            obtain ⟨va, hva⟩ : ∃ va, va = wayAt (fitS sig m) sigLen (ps.take j) (dpW (fitS sig) sigLen ps sig.length k) := ⟨_, rfl⟩
            obtain ⟨vb, hvb⟩ : ∃ vb, (dpW (fitS sig) sigLen ps sig.length k)[xs.length - 1]? = some vb := ⟨_, List.getElem?_eq_getElem (by rw [dpW_len]; omega)⟩
            have hsum : va + vb ≤ 2 ^ 61 := by
              have h1 : va < 2 ^ (sig.length - m) := by rw [hva]; exact wayAt_lt ((apart_sig HBK.out sig m).take j) (fun i q hq => by have := (dpW_sig HBK.out sig) k (by omega) i q hq; rwa [show sig.length - m - (i + 1) = k - i by omega])
              have h2 := (dpW_sig HBK.out sig) k (by omega) _ _ hvb
              have h3 : 2 ^ (sig.length - m) ≤ 2 ^ 60 := Nat.pow_le_pow_right (by decide) (by omega)
              have h4 : 2 ^ (k - (xs.length - 1)) ≤ 2 ^ 60 := Nat.pow_le_pow_right (by decide) (by omega)
              omega
            have HVA := Lib.hid hva
            have HVB := Lib.hid hvb
            have HS := Lib.hid hsum
            have HMK := Lib.hid hmk2
            rw [← HVA.out] at HBLP
            have c0 := HBLP.out.cell m
            rw [tblC_at] at c0
            have c1' := HBLP.out.cell (m + xs.length)
            rw [show m + xs.length = m + 1 + (xs.length - 1) by omega, tblC_on hvb, show m + 1 + (xs.length - 1) = m + xs.length by omega] at c1'
            have f0 := HBLP.out.frozen m
            have i1 : IntKind.i64.wrap ((m : Int) + (xs.length : Int)) = (m : Int) + (xs.length : Int) := wrap_in (by omega)
            have i2 : (0 : Int) ≤ (m : Int) + (xs.length : Int) := by omega
            have i3 : (m : Int) + (xs.length : Int) < (sig.length : Int) + 1 := by omega
            have i4 : ((m : Int) + (xs.length : Int)).toNat = m + xs.length := by omega
            have i6 : (m : Int) < (sig.length : Int) + 1 := by omega
            have i7 : (0 : Int) ≤ (m : Int) := by omega
            have i8 : ((m : Int)).toNat = m := by omega
            have i5 : IntKind.i64.wrap ((va : Int) + (vb : Int)) = (va : Int) + (vb : Int) := wrap_in (by omega)
            clear cB hbg hl hva hvb hsum hmk2
            go_wp2_with fail
            go_quiet ((go_at_call 209; exact Calls.quiet_of (CB.out _)))
            go_wp2_with fail
            have d0 : ((wr.alloc (.cells #[.string t, .slice A2 xs.length c2] 60)).drewN nq).cell? ⟨w.heap.size + 1, m, Option.none⟩ = some (.int .i64 (va : Int)) := c0
            have d1 : ((wr.alloc (.cells #[.string t, .slice A2 xs.length c2] 60)).drewN nq).cell? ⟨w.heap.size + 1, m + xs.length, Option.none⟩ = some (.int .i64 (vb : Int)) := c1'
            have d2 : ((wr.alloc (.cells #[.string t, .slice A2 xs.length c2] 60)).drewN nq).frozen? ⟨w.heap.size + 1, m, Option.none⟩ = false := f0
            have d3 : ((wr.alloc (.cells #[.string t, .slice A2 xs.length c2] 60)).drewN nq).cell? ⟨wr.heap.size, 1, Option.none⟩ = some (.slice A2 xs.length c2) := (Blk.new wr 60 #[.string t, .slice A2 xs.length c2]).cell 1
            have HBQ := Lib.hid (HBP.out.trans (bel_drewN (w.heap.size + 1) (wr.alloc (.cells #[.string t, .slice A2 xs.length c2] 60)) nq))
            have HBLQ : Hid (Blk ((wr.alloc (.cells #[.string t, .slice A2 xs.length c2] 60)).drewN nq) (w.heap.size + 1) 3 (tblC m va (dpW (fitS sig) sigLen ps sig.length k))) := HBLP.out
            clear c0 c1' f0
            generalize (wr.alloc (.cells #[.string t, .slice A2 xs.length c2] 60)).drewN nq = wq at d0 d1 d2 d3 HBQ HBLQ ⊢
            go_still_tail 14, (by kernel_rfl)
            change wpList _ _ _ _ _ wq.drew
            clear i1 i2 i3 i4 i5 i6 i7 i8 d1 d3
            have d4 : wq.drew.frozen? ⟨w.heap.size + 1, m, Option.none⟩ = false := d2
            have d5 : wq.drew.cell? ⟨w.heap.size + 1, m, Option.none⟩ = some (.int .i64 (va : Int)) := d0
            clear d2 d0
            go_wp2_with fail
            go_roundw
            case rel =>
              refine ⟨j + 1, by omega, by go_num, ?_, ?_⟩
              · rw [wayAt_snoc HX.out, HF.out, HBG.out]
                show Blk _ _ _ (tblC m (_ + List.getD _ (xs.length - 1) 0) _)
                rw [← HVA.out, List.getD_eq_getElem?_getD, HVB.out]
                have := Blk.set_ (show Blk wq.drew (w.heap.size + 1) 3 _ from HBLQ.out) m (.int .i64 ((va + vb : Nat) : Int))
                rw [tblC_set] at this
                exact this
              · exact (HBQ.out.drew).setCell (Nat.le_refl _) _
            case measure => simp [intOf]; omega
        · obtain rfl : j = ps.length := by omega
          go_wp2_with fail
          go_roundw
          case rel => exact ⟨m, k + 1, (m : Int) - 1, by have := hmk1.out; show m + (k + 1) = _; omega, rfl, rfl, by
            have h1 := hblk2.out
            rw [List.take_of_length_le (Nat.le_refl _), tblC_Z] at h1
            have h2 : sig.length - (k + 1) = m := by have := hmk1.out; omega
            show Blk _ _ _ (tblZ m (dpW _ _ _ _ (k + 1)))
            rw [dpW, h2]; exact h1, hbr2⟩
          case measure => (simp [intOf]; try omega)
set_option maxRecDepth 100000 in
set_option maxHeartbeats 4000000 in
theorem readings_any (ps : List Phr) (sig : List Int) (v u : Value) (hi hj : Nat) (w : World) (h : RdB w hi v ps) (g : RdI w hj u sig) (hh : hi ≤ w.heap.size) (hg : hj ≤ w.heap.size) (hbk : bookB ps = true) (hlen : sig.length ≤ 60) :
    Calls Try.prog 177 #[v, u] w (RetOwI (waysI (dpW (fitS sig) sigLen ps sig.length sig.length)) w) := by
  obtain ⟨A', c', rfl, hc', hm'⟩ := Rd.form g
  have G := Lib.hid g
  clear g
  obtain ⟨a, rfl, ha⟩ := h
  obtain ⟨A, c, rfl, hc, hm⟩ := ha.form
  have HA0 := Lib.hid ha
  have hba : Below w.heap.size w (w.alloc (.cells #[.slice A ps.length c] 48)) := (Below.refl _ _).alloc (Nat.le_refl _) _
  have HB := Lib.hid hba
  have HA := Lib.hid (ha.below hba hh)
  have HG : Hid (RdB (w.alloc (.cells #[.slice A ps.length c] 48)) hi (.agg #[.slice A ps.length c]) ps) := ⟨_, rfl, HA.out⟩
  have hcb0 : (w.alloc (.cells #[.slice A ps.length c] 48)).cell? ⟨w.heap.size, 0, Option.none⟩ = some (.slice A ps.length c) := (Blk.new w 48 #[.slice A ps.length c]).cell 0
  have HCB := Lib.hid hcb0
  have hsz1 : hi ≤ (w.alloc (.cells #[.slice A ps.length c] 48)).heap.size := by simp; omega
  clear ha hba hcb0
  have HBK := Lib.hid hbk
  clear hbk
  have hmk := make_ints (sig.length + 1) (by omega)
  rw [show ((sig.length + 1 : Nat) : Int) = (sig.length : Int) + 1 from rfl] at hmk
  have HBW : Hid (Below w.heap.size w ((w.alloc (.cells #[.slice A ps.length c] 48)).alloc (.cells ((zeros (sig.length + 1)).setIfInBounds sig.length (.int .i64 1)) 3))) := ((Below.refl _ _).alloc (Nat.le_refl _) _).alloc (by simp) _
  have HTB0 : Hid (Blk ((w.alloc (.cells #[.slice A ps.length c] 48)).alloc (.cells ((zeros (sig.length + 1)).setIfInBounds sig.length (.int .i64 1)) 3)) (w.heap.size + 1) 3 (tblZ sig.length (dpW (fitS sig) sigLen ps sig.length 0))) := by
    have := Blk.new (w.alloc (.cells #[.slice A ps.length c] 48)) 3 ((zeros (sig.length + 1)).setIfInBounds sig.length (.int .i64 1))
    rw [tblZ_start] at this
    simp at this
    exact this
  have HCBX : Hid (((w.alloc (.cells #[.slice A ps.length c] 48)).alloc (.cells ((zeros (sig.length + 1)).setIfInBounds sig.length (.int .i64 1)) 3)).cell? ⟨w.heap.size, 0, Option.none⟩ = some (.slice A ps.length c)) :=
    (((Below.refl (w.alloc (.cells #[.slice A ps.length c] 48)).heap.size (w.alloc (.cells #[.slice A ps.length c] 48))).alloc (Nat.le_refl _) (.cells ((zeros (sig.length + 1)).setIfInBounds sig.length (.int .i64 1)) 3)).cell (p := ⟨w.heap.size, 0, Option.none⟩) (by simp)).trans HCB.out
  have hz0 : ((w.alloc (.cells #[.slice A ps.length c] 48)).alloc (.cells (zeros (sig.length + 1)) 3)).cell? ⟨w.heap.size + 1, sig.length, Option.none⟩ = some (.int .i64 0) := by
    have := (Blk.new (w.alloc (.cells #[.slice A ps.length c] 48)) 3 (zeros (sig.length + 1))).cell sig.length
    rw [show (zeros (sig.length + 1)).toList[sig.length]? = some (.int .i64 0) by simp [zeros]] at this
    simpa using this
  go_enter Try.func177, Try.ntmps177
  go_wp2_with fail
  go_loopw [6] (fun i wr => ∃ (m k : Nat) (z : Int), Hid (m + k = sig.length) ∧ Hid (z = (m : Int) - 1) ∧ i = .int .i64 z ∧ Hid (Blk wr (w.heap.size + 1) 3 (tblZ m (dpW (fitS sig) sigLen ps sig.length k))) ∧ Hid (Below (w.heap.size + 1) ((w.alloc (.cells #[.slice A ps.length c] 48)).alloc (.cells ((zeros (sig.length + 1)).setIfInBounds sig.length (.int .i64 1)) 3)) wr)) (fun i _ => (intOf i + 1).toNat)
  case atStart => exact ⟨sig.length, 0, (sig.length : Int) - 1, rfl, rfl, rfl, HTB0.out, Below.refl _ _⟩
  case round =>
    obtain ⟨m, k, z, hmk1, hz, rfl, hblk, hbr⟩ := hrel
    have hs : (w.heap.size + 1) + 1 ≤ wr.heap.size := by have := hblk.out.lt; omega
    rcases m with _ | m
    · obtain rfl : z = -1 := by have := hz.out; omega
      have HK : Hid (k = sig.length) := by have := hmk1.out; show k = _; omega
      go_wp2_with fail
      go_ret
      have h1 := hblk.out
      rw [HK.out] at h1
      refine ⟨_, rfl, ?_, HBW.out.trans (hbr.out.mono (by omega))⟩
      have e : (waysI (dpW (fitS sig) sigLen ps sig.length sig.length)).length = sig.length + 1 := by simp [waysI, dpW_len]
      have h2 : Blk wr (w.heap.size + 1) 3 (ints (waysI (dpW (fitS sig) sigLen ps sig.length sig.length))) := by rw [← nats_ints]; simpa [tblZ] using h1
      have := own_of_blk (lo := w.heap.size) (hi := wr.heap.size) h2 (by omega) (by omega) (by rw [e]; unfold maxLen; omega)
      rw [e] at this
      exact this
    · obtain rfl : z = (m : Int) := by have := hz.out; omega
      have hm1 : m < sig.length := by have := hmk1.out; omega
      have hboxr := (hbr.out.cell (p := ⟨w.heap.size, 0, Option.none⟩) (by show w.heap.size < (w.heap.size + 1); omega)).trans HCBX.out
      obtain ⟨b3, o3, c3, y3, hv3, _, _, _⟩ := Rd.at_ G.out hm1
      injection hv3 with hv4 hv5 hv6
      subst hv4
      clear hv5 hv6
      rename World => wo
      go_wp2_with fail
      go_loopw [27] (fun i wr => ∃ j : Nat, j ≤ ps.length ∧ i = .int .i64 j ∧ Hid (Blk wr (w.heap.size + 1) 3 (tblC m (wayAt (fitS sig m) sigLen (ps.take j) (dpW (fitS sig) sigLen ps sig.length k)) (dpW (fitS sig) sigLen ps sig.length k))) ∧ Hid (Below (w.heap.size + 1) ((w.alloc (.cells #[.slice A ps.length c] 48)).alloc (.cells ((zeros (sig.length + 1)).setIfInBounds sig.length (.int .i64 1)) 3)) wr)) (fun i _ => ps.length - (intOf i).toNat)
      case atStart => exact ⟨0, Nat.zero_le _, rfl, by have := hblk.out; rw [tblZ_down] at this; exact this, hbr⟩
      case round =>
        obtain ⟨j, hjl, rfl, hblk2, hbr2⟩ := hrel
        have hs2 : (w.heap.size + 1) + 1 ≤ wr.heap.size := by have := hblk2.out.lt; omega
        have HBR := Lib.hid (HBW.out.trans (hbr2.out.mono (by omega)))
        by_cases hlt : j < ps.length
        · obtain ⟨b1, o1, c1, a, t, xs, hv, hb1, hx, hcell1, hcell2, hra, hta⟩ := (HA0.out.below HBR.out (by omega)).at_ hlt
          cases hv
          obtain ⟨A2, c2, rfl, hc2, hm2⟩ := Rd.form hra
          have HX := Lib.hid hx
          have HRA := Lib.hid hra
          clear hra
          have hfit : fitS sig m (t, xs) = begB xs (sig.drop m) := rfl
          have HF := Lib.hid hfit
          have HAP := Lib.hid (((apart_sig HBK.out sig m).2 (t, xs) (List.mem_of_getElem? HX.out)))
          have HBP := Lib.hid (hbr2.out.alloc (show (w.heap.size + 1) ≤ wr.heap.size by omega) (.cells #[.string t, .slice A2 xs.length c2] 60))
          have HBLP : Hid (Blk (wr.alloc (.cells #[.string t, .slice A2 xs.length c2] 60)) (w.heap.size + 1) 3 (tblC m (wayAt (fitS sig m) sigLen (ps.take j) (dpW (fitS sig) sigLen ps sig.length k)) (dpW (fitS sig) sigLen ps sig.length k))) := hblk2.out.alloc _
          clear hx hfit
          have HGD : Hid (RdI (wr.alloc (.cells #[.string t, .slice A2 xs.length c2] 60)) hj (.slice (some ⟨b3, o3 + m, Option.none⟩) (sig.length - m) (c' - m)) (sig.drop m)) := (RdI.below G.out (HBR.out.trans ((Below.refl wr.heap.size wr).alloc (Nat.le_refl _) _ |>.mono (by omega))) (by omega)).drop (by omega)
          have HRX : Hid (RdI (wr.alloc (.cells #[.string t, .slice A2 xs.length c2] 60)) hi (.slice A2 xs.length c2) xs) := HRA.out.below ((Below.refl wr.heap.size wr).alloc (Nat.le_refl _) _) (by omega)
          have cB := fun n => begins_any xs (sig.drop m) (.slice A2 xs.length c2) (.slice (some ⟨b3, o3 + m, Option.none⟩) (sig.length - m) (c' - m)) hi hj ((wr.alloc (.cells #[.string t, .slice A2 xs.length c2] 60)).drewN n) (show RdI ((wr.alloc (.cells #[.string t, .slice A2 xs.length c2] 60)).drewN n) hi _ _ from HRX.out) (show RdI ((wr.alloc (.cells #[.string t, .slice A2 xs.length c2] 60)).drewN n) hj _ _ from HGD.out)
          cases hbg : begB xs (sig.drop m)
          · rw [hbg] at cB
            have CB := Lib.hid cB
            have HBG := Lib.hid hbg
            clear cB hbg
            go_wp2_with fail
            go_quiet ((go_at_call 208; exact Calls.quiet_of (CB.out _)))
            go_wp2_with fail
            go_roundw
            case rel => exact ⟨j + 1, by omega, by go_num, by rw [wayAt_snoc HX.out, HF.out, HBG.out]; exact HBLP.out, HBP.out.trans (bel_drewN _ _ _)⟩
            case measure => simp [intOf]; omega
          · rw [hbg] at cB
            have CB := Lib.hid cB
            have HBG := Lib.hid hbg
            have hl := HAP.out (by rw [HF.out, HBG.out])
            have hl1 : 1 ≤ xs.length := hl.1
            have hl2 : xs.length ≤ sig.length - m := hl.2
            have hmk2 := hmk1.out
            obtain ⟨va, hva⟩ : ∃ va, va = wayAt (fitS sig m) sigLen (ps.take j) (dpW (fitS sig) sigLen ps sig.length k) := ⟨_, rfl⟩
            obtain ⟨vb, hvb⟩ : ∃ vb, (dpW (fitS sig) sigLen ps sig.length k)[xs.length - 1]? = some vb := ⟨_, List.getElem?_eq_getElem (by rw [dpW_len]; omega)⟩
            have hsum : va + vb ≤ 2 ^ 61 := by
              have h1 : va < 2 ^ (sig.length - m) := by rw [hva]; exact wayAt_lt ((apart_sig HBK.out sig m).take j) (fun i q hq => by have := (dpW_sig HBK.out sig) k (by omega) i q hq; rwa [show sig.length - m - (i + 1) = k - i by omega])
              have h2 := (dpW_sig HBK.out sig) k (by omega) _ _ hvb
              have h3 : 2 ^ (sig.length - m) ≤ 2 ^ 60 := Nat.pow_le_pow_right (by decide) (by omega)
              have h4 : 2 ^ (k - (xs.length - 1)) ≤ 2 ^ 60 := Nat.pow_le_pow_right (by decide) (by omega)
              omega
            have HVA := Lib.hid hva
            have HVB := Lib.hid hvb
            have HS := Lib.hid hsum
            have HMK := Lib.hid hmk2
            rw [← HVA.out] at HBLP
            have c0 := HBLP.out.cell m
            rw [tblC_at] at c0
            have c1' := HBLP.out.cell (m + xs.length)
            rw [show m + xs.length = m + 1 + (xs.length - 1) by omega, tblC_on hvb, show m + 1 + (xs.length - 1) = m + xs.length by omega] at c1'
            have f0 := HBLP.out.frozen m
            have i1 : IntKind.i64.wrap ((m : Int) + (xs.length : Int)) = (m : Int) + (xs.length : Int) := wrap_in (by omega)
            have i2 : (0 : Int) ≤ (m : Int) + (xs.length : Int) := by omega
            have i3 : (m : Int) + (xs.length : Int) < (sig.length : Int) + 1 := by omega
            have i4 : ((m : Int) + (xs.length : Int)).toNat = m + xs.length := by omega
            have i6 : (m : Int) < (sig.length : Int) + 1 := by omega
            have i7 : (0 : Int) ≤ (m : Int) := by omega
            have i8 : ((m : Int)).toNat = m := by omega
            have i5 : IntKind.i64.wrap ((va : Int) + (vb : Int)) = (va : Int) + (vb : Int) := wrap_in (by omega)
            clear cB hbg hl hva hvb hsum hmk2
            go_wp2_with fail
            go_quiet ((go_at_call 208; exact Calls.quiet_of (CB.out _)))
            go_wp2_with fail
            have d0 : ((wr.alloc (.cells #[.string t, .slice A2 xs.length c2] 60)).drewN nq).cell? ⟨w.heap.size + 1, m, Option.none⟩ = some (.int .i64 (va : Int)) := c0
            have d1 : ((wr.alloc (.cells #[.string t, .slice A2 xs.length c2] 60)).drewN nq).cell? ⟨w.heap.size + 1, m + xs.length, Option.none⟩ = some (.int .i64 (vb : Int)) := c1'
            have d2 : ((wr.alloc (.cells #[.string t, .slice A2 xs.length c2] 60)).drewN nq).frozen? ⟨w.heap.size + 1, m, Option.none⟩ = false := f0
            have d3 : ((wr.alloc (.cells #[.string t, .slice A2 xs.length c2] 60)).drewN nq).cell? ⟨wr.heap.size, 1, Option.none⟩ = some (.slice A2 xs.length c2) := (Blk.new wr 60 #[.string t, .slice A2 xs.length c2]).cell 1
            have HBQ := Lib.hid (HBP.out.trans (bel_drewN (w.heap.size + 1) (wr.alloc (.cells #[.string t, .slice A2 xs.length c2] 60)) nq))
            have HBLQ : Hid (Blk ((wr.alloc (.cells #[.string t, .slice A2 xs.length c2] 60)).drewN nq) (w.heap.size + 1) 3 (tblC m va (dpW (fitS sig) sigLen ps sig.length k))) := HBLP.out
            clear c0 c1' f0
            generalize (wr.alloc (.cells #[.string t, .slice A2 xs.length c2] 60)).drewN nq = wq at d0 d1 d2 d3 HBQ HBLQ ⊢
            go_still_tail 14, (by kernel_rfl)
            change wpList _ _ _ _ _ wq.drew
            clear i1 i2 i3 i4 i5 i6 i7 i8 d1 d3
            have d4 : wq.drew.frozen? ⟨w.heap.size + 1, m, Option.none⟩ = false := d2
            have d5 : wq.drew.cell? ⟨w.heap.size + 1, m, Option.none⟩ = some (.int .i64 (va : Int)) := d0
            clear d2 d0
            go_wp2_with fail
            go_roundw
            case rel =>
              refine ⟨j + 1, by omega, by go_num, ?_, ?_⟩
              · rw [wayAt_snoc HX.out, HF.out, HBG.out]
                show Blk _ _ _ (tblC m (_ + List.getD _ (xs.length - 1) 0) _)
                rw [← HVA.out, List.getD_eq_getElem?_getD, HVB.out]
                have := Blk.set_ (show Blk wq.drew (w.heap.size + 1) 3 _ from HBLQ.out) m (.int .i64 ((va + vb : Nat) : Int))
                rw [tblC_set] at this
                exact this
              · exact (HBQ.out.drew).setCell (Nat.le_refl _) _
            case measure => simp [intOf]; omega
        · obtain rfl : j = ps.length := by omega
          go_wp2_with fail
          go_roundw
          case rel => exact ⟨m, k + 1, (m : Int) - 1, by have := hmk1.out; show m + (k + 1) = _; omega, rfl, rfl, by
            have h1 := hblk2.out
            rw [List.take_of_length_le (Nat.le_refl _), tblC_Z] at h1
            have h2 : sig.length - (k + 1) = m := by have := hmk1.out; omega
            show Blk _ _ _ (tblZ m (dpW _ _ _ _ (k + 1)))
            rw [dpW, h2]; exact h1, hbr2⟩
          case measure => (simp [intOf]; try omega)
end Go.Proofs.Ytabiobjcfopakaa
/- Contracts: the search of the least lengths. -/
namespace Go.Proofs.Ytabiobjcfopakaa
open Go.RowKit
/-- One number is appended to a row of the call's own: it goes behind the row, or the row goes to a new block. -/
theorem run_appI {w : World} {B : Nat} {v : Value} {xs : List Int} {y : Int} (ty : TypeId) (hown : w.ownsRow B 3 1 v xs.length (ints xs)) (hlen : xs.length < 1048576) (hB : B ≤ w.heap.size) (ad : Addr)
    (hnew : ∀ j u, [Value.int .i64 y][j]? = some u → w.cell? (ad.add j) = some u) :
    ∃ v' w', (Builtin.append_ #[29, 29] ty #[v, .slice (some ad) 1 1]).run Try.prog w = .ok v' w' ∧ w'.ownsRow B 3 1 v' (xs.length + 1) (ints (xs ++ [y])) ∧ w.grownBy w' v.ownBlock ∧ ∀ g, v'.ownBlock = some g → v.ownBlock = some g ∨ w.heap.size ≤ g := by
  obtain ⟨i, hi, hz0, hz1, hz2⟩ := info_parts info_int
  have h1 : ∀ u ∈ [Value.int .i64 y], u.oneCell' = true := by intro u hu; simp at hu; subst hu; rfl
  obtain ⟨v', w', hr, ho, hg, _⟩ := run_append_own (P := Try.prog) w B 29 ty 3 i (.int .i64 0) 1 8 Try.underlying29 hi hz0 hz1 hz2 rfl (by decide) v xs.length (ints xs) hown ad 1 1 [.int .i64 y] rfl hnew h1 (by unfold maxLen; omega) (by omega) hB
  refine ⟨v', w', hr, by simpa [ints] using ho, hg, ?_⟩
  rcases hown.2 with ⟨rfl, hn⟩ | ⟨g, cap, cur, rfl, hbg, hgg, hnc, hcm, hcs, htake⟩
  · have hx : xs = [] := List.eq_nil_of_length_eq_zero hn
    subst hx
    have h2 := _root_.Go.run_append_nil (P := Try.prog) w 29 ty 3 i (.int .i64 0) Try.underlying29 hi hz0 ad 1 1 [.int .i64 y] (by rw [hz1]; rfl) hnew (by omega) (by omega) (by rw [hz2]; omega)
    rw [h2] at hr
    cases hr
    intro g hg2
    cases hg2
    exact .inr (Nat.le_refl _)
  · by_cases hroom : xs.length + 1 ≤ cap
    · have h2 := run_append_room (P := Try.prog) w 29 ty 3 i Try.underlying29 hi g xs.length cap cur hgg ad 1 1 [.int .i64 y] (by rw [hz1]; rfl) hnew h1 hroom (by rw [hz1, hcs]; simp; omega)
      rw [h2] at hr
      cases hr
      intro g2 hg2
      exact .inl hg2
    · have hfit : Builtin.nextslicecap (xs.length + 1) cap * i.bytes ≤ 281474976710656 := by rw [hz2]; exact growslice_fits (by omega) (by omega)
      have h2 := run_append_grow (P := Try.prog) w 29 ty 3 i (.int .i64 0) Try.underlying29 hi hz0 ⟨g, 0, Option.none⟩ xs.length cap (ints xs) (by rw [hz1]; simp) (hown.cells (g := g) rfl) ad 1 1 [.int .i64 y] (by rw [hz1]; rfl) hnew (by omega) (by omega) hfit
      rw [h2] at hr
      cases hr
      intro g2 hg2
      cases hg2
      exact .inr (Nat.le_refl _)
theorem wpList_appI {w : World} {B : Nat} {v : Value} {xs : List Int} {y : Int} {ops : Array Oper} {rest : List Oper} {o : Oper} {a : Act} {Q : Exit → Act → World → Prop} (hgd : o.guard = Option.none) (s x : Operand)
    (ho : o.op = .call { callee := .builtin .append, args := #[s, x], argTypes := #[29, 29] }) (hown : w.ownsRow B 3 1 v xs.length (ints xs)) (hlen : xs.length < 1048576) (hB : B ≤ w.heap.size)
    (hs : a.eval s = v) (hx : a.eval x = .slice (some ⟨w.heap.size, 0, Option.none⟩) 1 1)
    (h : ∀ v' w', w'.ownsRow B 3 1 v' (xs.length + 1) (ints (xs ++ [y])) → (w.alloc (.cells #[.int .i64 y] 3)).grownBy w' v.ownBlock → (∀ g, v'.ownBlock = some g → v.ownBlock = some g ∨ w.heap.size < g) → wpList Try.prog ops Q rest (a.put o.dst v') w') :
    wpList Try.prog ops Q (o :: rest) a (w.alloc (.cells #[.int .i64 y] 3)) := by
  refine wpList_plain hgd fun K hK => ?_
  obtain ⟨v', w', hr, h1, h2, h3⟩ := run_appI (y := y) o.type (hown.alloc (.cells #[.int .i64 y] 3)) hlen (by simp; omega) ⟨w.heap.size, 0, Option.none⟩ (one_cell _ _ _)
  unfold Oper.wp execOp
  simp only [ho, resolve, invoke, builtin, Sem.run_bind, Sem.run_pure, Result.andThen_ok, List.map_toArray, List.map_cons, List.map_nil, hs, hx, hr]
  refine hK _ _ (h _ _ h1 h2 fun g hg => ?_)
  rcases h3 g hg with e | e
  · exact .inl e
  · right; simp at e; omega
theorem owns_take {w : World} {B g n c : Nat} {xs : List Int} {y : Int} (h : w.ownsRow B 3 1 (.slice (some ⟨g, 0, Option.none⟩) (n + 1) c) (n + 1) (ints (xs ++ [y]))) (hn : xs.length = n) : w.ownsRow B 3 1 (.slice (some ⟨g, 0, Option.none⟩) n c) n (ints xs) := by
  refine ⟨by simp [hn], ?_⟩
  rcases h.2 with ⟨e, _⟩ | ⟨g2, cap, cur, e, hb, hg, hnc, hm, hs, ht⟩
  · cases e
  · cases e
    refine .inr ⟨g, c, cur, rfl, hb, hg, by omega, hm, hs, ?_⟩
    have h2 := congrArg (List.take n) ht
    rw [List.take_take, Nat.min_eq_left (by omega)] at h2
    rw [Nat.mul_one, h2]
    simp [ints, hn]
/-- Below block B nothing but block S has turned. -/
structure ButS (B S : Nat) (w w' : World) : Prop where
  os : w'.os = w.os
  tape : w'.tape = w.tape
  output : w'.output = w.output
  size : w.heap.size ≤ w'.heap.size
  block : ∀ k, k < B → k ≠ S → w'.heap[k]? = w.heap[k]?
theorem ButS.refl (B S : Nat) (w : World) : ButS B S w w := ⟨rfl, rfl, rfl, Nat.le_refl _, fun _ _ _ => rfl⟩
theorem ButS.trans {B S : Nat} {a b c : World} (h : ButS B S a b) (k : ButS B S b c) : ButS B S a c :=
  ⟨k.os.trans h.os, k.tape.trans h.tape, k.output.trans h.output, Nat.le_trans h.size k.size, fun i h1 h2 => (k.block i h1 h2).trans (h.block i h1 h2)⟩
theorem below_butS {B S : Nat} {w w' : World} (h : Below B w w') : ButS B S w w' := ⟨h.os, h.tape, h.output, h.size, fun k hk _ => h.block k hk⟩
theorem butS_set {B S : Nat} (w : World) {p : Addr} (hp : p.block = S) (u : Value) : ButS B S w (w.setCell p u) :=
  ⟨rfl, rfl, rfl, by simp [World.setCell], fun k _ hk => Below.heap_setCell _ _ _ _ (by rw [hp]; exact hk)⟩
theorem butS_drewN (B S : Nat) (w : World) (n : Nat) : ButS B S w (w.drewN n) := ⟨rfl, rfl, rfl, Nat.le_refl _, fun _ _ _ => rfl⟩
theorem butS_grown {B S : Nat} {w w' : World} {row : Option Nat} (h : w.grownBy w' row) (hB : B ≤ w.heap.size) (hr : ∀ k, row = some k → B ≤ k) : ButS B S w w' :=
  ⟨h.os, h.tape, h.output, h.size, fun k hk _ => h.block k (by omega) (fun e => by have := hr k e.symm; omega)⟩
/-- The best list so far lies in a block of its own. -/
def bestV (w : World) (B : Nat) (A : Option Addr) (bv : Value) (least : Int) : Cand → Prop
  | Option.none => bv = .slice Option.none 0 0
  | some (l, k) => ∃ g c, bv = .slice (some ⟨g, 0, Option.none⟩) l.length c ∧ w.ownsRow B 3 1 bv l.length (ints (waysI l)) ∧ least = k ∧ ∀ o, A = some o → o.block ≠ g
structure Srch (w0 w : World) (B S bw cw : Nat) (W : List Int) (r L : Nat) (A : Option Addr) (ca : Nat) (bv : Value) (least : Int) (acc : List Nat) (bs : Cand) : Prop where
  blk : Blk w S 160 [.slice (some ⟨bw, 0, Option.none⟩) W.length cw, .int .i64 (r : Int), .int .i64 (L : Int), .slice A acc.length ca, bv, .int .i64 least]
  sb : S < B
  bwB : bw < B
  bwS : bw ≠ S
  wts : ∀ j x, W[j]? = some x → w.cell? ⟨bw, j, Option.none⟩ = some (.int .i64 x)
  len : w.ownsRow B 3 1 (.slice A acc.length ca) acc.length (ints (waysI acc))
  best : bestV w B A bv least bs
  size : B ≤ w.heap.size
  fr : ButS B S w0 w
theorem ButS.cell {B S : Nat} {w w' : World} (h : ButS B S w w') {b o : Nat} (hb : b < B) (hne : b ≠ S) : w'.cell? ⟨b, o, Option.none⟩ = w.cell? ⟨b, o, Option.none⟩ := by
  unfold World.cell?
  rw [h.block b hb hne]
theorem bestV_grown {w w' : World} {B : Nat} {A A' : Option Addr} {bv : Value} {least : Int} {bs : Cand} {row : Option Nat} (h : bestV w B A bv least bs) (hg : w.grownBy w' row) (hrow : ∀ k, row = some k → (∃ o, A = some o ∧ o.block = k) ∨ k < B)
    (hA : ∀ o, A' = some o → (∃ o2, A = some o2 ∧ o2.block = o.block) ∨ w.heap.size ≤ o.block) : bestV w' B A' bv least bs := by
  cases bs with
  | none => exact h
  | some x =>
    obtain ⟨l, k⟩ := x
    obtain ⟨g, c, rfl, ho, hk, hne⟩ := h
    have hgl := ho.lt g rfl
    refine ⟨g, c, rfl, ho.kept hg (.inr fun e => ?_), hk, fun o ho2 e => ?_⟩
    · rcases hrow g (by rw [← e]; rfl) with ⟨o, h1, h2⟩ | h1
      · exact hne o h1 h2
      · omega
    · rcases hA o ho2 with ⟨o2, h1, h2⟩ | h1
      · exact hne o2 h1 (h2.trans e)
      · omega
theorem grown_set {w : World} {S : Nat} {p : Addr} (hp : p.block = S) (u : Value) : w.grownBy (w.setCell p u) (some S) :=
  ⟨rfl, rfl, rfl, by simp [World.setCell], fun k _ hk => Below.heap_setCell _ _ _ _ (by rw [hp]; exact fun e => hk (by rw [e]))⟩
theorem grown_drewN (w : World) (n : Nat) (row : Option Nat) : w.grownBy (w.drewN n) row := ⟨rfl, rfl, rfl, Nat.le_refl _, fun _ _ _ => rfl⟩
theorem Srch.drewN {w0 w : World} {B S bw cw : Nat} {W : List Int} {r L : Nat} {A : Option Addr} {ca : Nat} {bv : Value} {least : Int} {acc : List Nat} {bs : Cand} (h : Srch w0 w B S bw cw W r L A ca bv least acc bs) (n : Nat) : Srch w0 (w.drewN n) B S bw cw W r L A ca bv least acc bs :=
  ⟨h.blk, h.sb, h.bwB, h.bwS, h.wts, h.len, bestV_grown h.best (grown_drewN w n Option.none) (fun k e => by cases e) (fun o e => .inl ⟨o, e, rfl⟩), h.size, h.fr.trans (butS_drewN _ _ _ _)⟩
/-- A number has been appended to the lengths, and stored. -/
theorem Srch.push {w0 w w' : World} {B S bw cw : Nat} {W : List Int} {r L : Nat} {A A' : Option Addr} {ca ca' : Nat} {bv : Value} {least : Int} {acc : List Nat} {bs : Cand} {m : Nat} (h : Srch w0 w B S bw cw W r L A ca bv least acc bs)
    (ho : w'.ownsRow B 3 1 (.slice A' (acc.length + 1) ca') (acc.length + 1) (ints (waysI acc ++ [(m : Int)]))) (hg : (w.alloc (.cells #[.int .i64 (m : Int)] 3)).grownBy w' (Value.slice A acc.length ca).ownBlock)
    (hA : ∀ g, (Value.slice A' (acc.length + 1) ca').ownBlock = some g → (Value.slice A acc.length ca).ownBlock = some g ∨ w.heap.size < g) :
    Srch w0 (w'.setCell ⟨S, 3, Option.none⟩ (.slice A' (acc.length + 1) ca')) B S bw cw W r L A' ca' bv least (acc ++ [m]) bs := by
  have hsl := h.blk.lt
  have hrow : ∀ k, (Value.slice A acc.length ca).ownBlock = some k → B ≤ k := fun k hk => (h.len.lt k hk).1
  have hg2 : w.grownBy w' (Value.slice A acc.length ca).ownBlock := ⟨hg.os, hg.tape, hg.output, by have := hg.size; simp at this; omega, fun k hk hne => (hg.block k (by simp; omega) hne).trans (Below.heap_alloc w _ k hk)⟩
  have hbk : Blk w' S 160 [.slice (some ⟨bw, 0, Option.none⟩) W.length cw, .int .i64 (r : Int), .int .i64 (L : Int), .slice A acc.length ca, bv, .int .i64 least] :=
    (hg2.block S hsl (fun e => by have := hrow S e.symm; have := h.sb; omega)).trans h.blk
  have hset := hbk.set_ 3 (.slice A' (acc.length + 1) ca')
  have hb1 : ButS B S w w' := butS_grown hg2 h.size hrow
  have hb2 := hb1.trans (butS_set w' (p := ⟨S, 3, Option.none⟩) rfl (.slice A' (acc.length + 1) ca'))
  have hl : (acc ++ [m]).length = acc.length + 1 := by simp
  have hown2 := ho.kept (grown_set (w := w') (p := ⟨S, 3, Option.none⟩) rfl (.slice A' (acc.length + 1) ca')) (.inr fun e => by have := (ho.lt S e).1; have := h.sb; omega)
  have hob : ∀ (A : Option Addr) n c o, A = some o → (Value.slice A n c).ownBlock = some o.block := fun A n c o e => by rw [e]; rfl
  have hbo : ∀ (A : Option Addr) n c k, (Value.slice A n c).ownBlock = some k → ∃ o, A = some o ∧ o.block = k := fun A n c k e => by
    cases A with
    | none => cases e
    | some o => cases e; exact ⟨o, rfl, rfl⟩
  refine ⟨?_, h.sb, h.bwB, h.bwS, fun j x hx => (hb2.cell h.bwB h.bwS).trans (h.wts j x hx), ?_, ?_, ?_, h.fr.trans hb2⟩
  · rw [hl]; exact hset
  · rw [hl]
    have : waysI (acc ++ [m]) = waysI acc ++ [(m : Int)] := by unfold waysI; simp
    rw [this]; exact hown2
  · refine bestV_grown (bestV_grown h.best hg2 (fun k e => .inl (hbo _ _ _ k e)) (A' := A') fun o e => ?_) (grown_set (w := w') (p := ⟨S, 3, Option.none⟩) rfl _) (fun k e => .inr (by cases e; exact h.sb)) (fun o e => .inl ⟨o, e, rfl⟩)
    rcases hA o.block (hob _ _ _ o e) with e2 | e2
    · exact .inl (hbo _ _ _ _ e2)
    · exact .inr (by omega)
  · have := h.size; have := hg2.size; show B ≤ (w'.setCell _ _).heap.size; simp [World.setCell]; omega
/-- The last length is taken off again. -/
theorem Srch.pop {w0 w : World} {B S bw cw : Nat} {W : List Int} {r L : Nat} {g ca : Nat} {bv : Value} {least : Int} {acc : List Nat} {bs : Cand} {m : Nat} (h : Srch w0 w B S bw cw W r L (some ⟨g, 0, Option.none⟩) ca bv least (acc ++ [m]) bs) :
    Srch w0 (w.setCell ⟨S, 3, Option.none⟩ (.slice (some ⟨g, 0, Option.none⟩) acc.length ca)) B S bw cw W r L (some ⟨g, 0, Option.none⟩) ca bv least acc bs := by
  have hset := h.blk.set_ 3 (.slice (some ⟨g, 0, Option.none⟩) acc.length ca)
  have hl : (acc ++ [m]).length = acc.length + 1 := by simp
  have hw : waysI (acc ++ [m]) = waysI acc ++ [(m : Int)] := by unfold waysI; simp
  have hlen := h.len
  rw [hl, hw] at hlen
  have ho := owns_take hlen (by unfold waysI; simp)
  have hb2 := butS_set (B := B) w (p := ⟨S, 3, Option.none⟩) rfl (.slice (some ⟨g, 0, Option.none⟩) acc.length ca)
  have hown2 := ho.kept (grown_set (w := w) (p := ⟨S, 3, Option.none⟩) rfl (.slice (some ⟨g, 0, Option.none⟩) acc.length ca)) (.inr fun e => by have := (ho.lt S e).1; have := h.sb; omega)
  refine ⟨hset, h.sb, h.bwB, h.bwS, fun j x hx => (hb2.cell h.bwB h.bwS).trans (h.wts j x hx), hown2, bestV_grown h.best (grown_set (w := w) (p := ⟨S, 3, Option.none⟩) rfl _) (fun k e => .inr (by cases e; exact h.sb)) (fun o e => .inl ⟨o, e, rfl⟩), ?_, h.fr.trans hb2⟩
  show B ≤ (w.setCell _ _).heap.size
  have := h.size; simp [World.setCell]; omega
/-- A full list is the best one so far: a copy of it is kept. -/
theorem Srch.keep {w0 w w' : World} {B S bw cw : Nat} {W : List Int} {r L : Nat} {A : Option Addr} {ca g c : Nat} {bv : Value} {least cost : Int} {acc : List Nat} {bs : Cand} (h : Srch w0 w B S bw cw W r L A ca bv least acc bs)
    (ho : w'.ownsRow w.heap.size 3 1 (.slice (some ⟨g, 0, Option.none⟩) acc.length c) acc.length (ints (waysI acc))) (hb : Below w.heap.size w w') :
    Srch w0 ((w'.setCell ⟨S, 4, Option.none⟩ (.slice (some ⟨g, 0, Option.none⟩) acc.length c)).setCell ⟨S, 5, Option.none⟩ (.int .i64 cost)) B S bw cw W r L A ca (.slice (some ⟨g, 0, Option.none⟩) acc.length c) cost acc (some (acc, cost)) := by
  have hsl := h.blk.lt
  have hset := ((h.blk.below hb hsl).set_ 4 (.slice (some ⟨g, 0, Option.none⟩) acc.length c)).set_ 5 (.int .i64 cost)
  have hgw : w.grownBy w' Option.none := ⟨hb.os, hb.tape, hb.output, hb.size, fun k hk _ => hb.block k hk⟩
  have hb1 : ButS B S w w' := below_butS (hb.mono h.size)
  have hb2 := (hb1.trans (butS_set w' (p := ⟨S, 4, Option.none⟩) rfl (.slice (some ⟨g, 0, Option.none⟩) acc.length c))).trans (butS_set _ (p := ⟨S, 5, Option.none⟩) rfl (.int .i64 cost))
  have hs1 := h.size
  have hs2 := hb.size
  have hself : ∀ {xs : List Value} {n : Nat} {v : Value} {Bx : Nat}, w'.ownsRow Bx 3 1 v n xs → S < Bx → ((w'.setCell ⟨S, 4, Option.none⟩ (.slice (some ⟨g, 0, Option.none⟩) acc.length c)).setCell ⟨S, 5, Option.none⟩ (.int .i64 cost)).ownsRow Bx 3 1 v n xs := by
    intro xs n v Bx hx hS
    have h1 := hx.kept (grown_set (w := w') (p := ⟨S, 4, Option.none⟩) rfl (.slice (some ⟨g, 0, Option.none⟩) acc.length c)) (.inr fun e => by have := (hx.lt S e).1; omega)
    exact h1.kept (grown_set (p := ⟨S, 5, Option.none⟩) rfl (.int .i64 cost)) (.inr fun e => by have := (h1.lt S e).1; omega)
  have hlen := h.len.kept hgw (by cases hv : (Value.slice A acc.length ca).ownBlock <;> simp)
  have hgl := ho.lt g rfl
  have hdown : w'.ownsRow B 3 1 (.slice (some ⟨g, 0, Option.none⟩) acc.length c) acc.length (ints (waysI acc)) := by
    refine ⟨ho.1, ?_⟩
    rcases ho.2 with hn | ⟨g2, cap, cur, e, hl, rest⟩
    · exact .inl hn
    · exact .inr ⟨g2, cap, cur, e, by omega, rest⟩
  refine ⟨hset, h.sb, h.bwB, h.bwS, fun j x hx => (hb2.cell h.bwB h.bwS).trans (h.wts j x hx), hself hlen h.sb, ⟨g, c, rfl, hself hdown h.sb, rfl, fun o e e2 => ?_⟩, ?_, h.fr.trans hb2⟩
  · have := (h.len.lt o.block (by rw [e]; rfl)).2
    omega
  · show B ≤ ((w'.setCell _ _).setCell _ _).heap.size
    simp [World.setCell]; omega
theorem Srch.form {w0 w : World} {B S bw cw : Nat} {W : List Int} {r L : Nat} {A : Option Addr} {ca : Nat} {bv : Value} {least : Int} {acc : List Nat} {bs : Cand} (h : Srch w0 w B S bw cw W r L A ca bv least acc bs) (h1 : 1 ≤ acc.length) :
    ∃ g, A = some ⟨g, 0, Option.none⟩ ∧ acc.length ≤ ca ∧ ca ≤ maxLen ∧ ∀ (j x : Nat), acc[j]? = some x → w.cell? ⟨g, j, Option.none⟩ = some (.int .i64 (x : Int)) := by
  rcases h.len.2 with ⟨e, hn⟩ | ⟨g, cap, cur, e, _, _, hnc, hcm, _⟩
  · omega
  · cases e
    refine ⟨g, rfl, hnc, hcm, fun j x hx => ?_⟩
    have := h.len.cells (g := g) rfl j (.int .i64 (x : Int)) (by unfold waysI; simp [hx])
    have hadd : (⟨g, 0, Option.none⟩ : Addr).add j = ⟨g, 0 + j, Option.none⟩ := by unfold Addr.add; split <;> simp_all
    rw [hadd, Nat.zero_add] at this
    exact this
end Go.Proofs.Ytabiobjcfopakaa
/- Contracts: the search goes on from a list of lengths. -/
namespace Go.Proofs.Ytabiobjcfopakaa
open Go.RowKit
theorem pick_next {bs : Cand} {acc : List Nat} {cost w cost2 : Int} {r L m fr room k room2 : Nat} {ws : List Int} (h : r ^ (L - m) ≤ room) (hm : m = fr + k) (hc : cost2 = cost + w * (m : Int)) (hr : room2 = room - r ^ (L - m)) :
    pickC (pickC bs (addC acc cost (bstTo r L w ws fr room k))) (addC (acc ++ [m]) cost2 (bst r L ws m room2)) = pickC bs (addC acc cost (bstTo r L w ws fr room (k + 1))) := by
  subst hm
  rw [bstTo_yes h, addC_pick, addC_add, pickC_assoc, ← hc, ← hr]
theorem pick_skip {bs : Cand} {acc : List Nat} {cost w : Int} {r L m fr room k : Nat} {ws : List Int} (h : ¬ r ^ (L - m) ≤ room) (hm : m = fr + k) :
    pickC bs (addC acc cost (bstTo r L w ws fr room k)) = pickC bs (addC acc cost (bstTo r L w ws fr room (k + 1))) := by
  subst hm
  rw [bstTo_no h]
theorem addC_nilS {acc : List Nat} {cost : Int} : addC acc cost (some ([], 0)) = some (acc, cost) := by simp [addC]
def PostS (w0 : World) (B S bw cw : Nat) (W : List Int) (r L : Nat) (acc : List Nat) (bs : Cand) (e : Ending) (w' : World) : Prop := (∃ z, e = .returned z) ∧ ∃ A ca bv least, Srch w0 w' B S bw cw W r L A ca bv least acc bs
theorem drop_cons {W ws : List Int} {x : Int} {k : Nat} (h : W.drop k = x :: ws) : W[k]? = some x ∧ W.drop (k + 1) = ws := by
  have h1 : (W.drop k)[0]? = some x := by rw [h]; rfl
  rw [List.getElem?_drop, Nat.add_zero] at h1
  refine ⟨h1, ?_⟩
  rw [← List.drop_drop, h]; rfl
set_option maxRecDepth 100000 in
set_option maxHeartbeats 16000000 in
theorem goOn_any {B S bw cw r L : Nat} {W : List Int} {w0 : World} (hr : r ≤ 60) (hL1 : 1 ≤ L) (hL : L ≤ 6) (hW : allB W 0 10000 = true) (hn1 : 1 ≤ W.length) (hn : W.length ≤ 20) :
    ∀ (ws : List Int) (acc : List Nat) (fr room : Nat) (cost : Int) (w : World) (A : Option Addr) (ca : Nat) (bv : Value) (least : Int) (bs : Cand), acc.length + ws.length = W.length → W.drop acc.length = ws → 1 ≤ fr → fr ≤ L → room ≤ 46656000000 → 0 ≤ cost → cost ≤ 60000 * acc.length →
      Srch w0 w B S bw cw W r L A ca bv least acc bs →
      Calls Try.prog 236 #[.pointer (some ⟨S, 0, Option.none⟩), .int .i64 (fr : Int), .int .i64 (room : Int), .int .i64 cost] w (PostS w0 B S bw cw W r L acc (pickC bs (addC acc cost (bst r L ws fr room)))) := by
  intro ws
  induction ws with
  | nil =>
    intro acc fr room cost w A ca bv least bs hlen _ _ _ _ hc0 hc1 hS
    have hal : acc.length = W.length := by simpa using hlen
    obtain ⟨g, rfl, hca, hcm, hcell⟩ := hS.form (by omega)
    have q0 := hS.blk.cell 0
    have q3 := hS.blk.cell 3
    have q4 := hS.blk.cell 4
    have q5 := hS.blk.cell 5
    have hfz := fun i => hS.blk.frozen i
    simp only [List.getElem?_cons_zero, List.getElem?_cons_succ] at q0 q3 q4 q5
    have cC := (Try.slices_Clone_int g 0 acc.length ca (waysI acc) w (by unfold waysI; simp) (by omega) (fun j hj => by
      unfold waysI at hj ⊢
      rw [List.length_map] at hj
      rw [Nat.zero_add, hcell j acc[j] (List.getElem?_eq_getElem hj), List.getD_eq_getElem?_getD]
      simp [hj]))
    have htk : ((waysI acc).take acc.length).map (Value.int .i64) = ints (waysI acc) := by rw [List.take_of_length_le (by unfold waysI; simp)]
    rw [htk] at cC
    have CC := Lib.hid cC
    have HS := Lib.hid hS
    have HE : Hid (pickC bs (addC acc cost (bst r L [] fr room)) = pickC bs (some (acc, cost))) := by show _ = _; rw [bst, addC_nilS]
    have hall : ((acc.length : Int) == (W.length : Int)) = true := by rw [beq_iff_eq]; omega
    have HAL := Lib.hid hal
    rw [HE.out]
    clear hcell cC htk hlen hal
    have hb := hS.best
    clear hS
    cases bs with
    | none =>
      obtain rfl : bv = .slice Option.none 0 0 := hb
      have heq : ∀ w, (binOp .eql 29 (.slice Option.none 0 0) (.slice Option.none 0 0)).run Try.prog w = .ok (.bool true) w := fun w => Lib.run_eql_slice_nil w _ _ Option.none 0 0 0 0 Try.underlying29
      go_enter Try.func236, Try.ntmps236
      go_wp2_with fail
      refine CC.out.mono ?_
      rintro e w1 ⟨v', rfl, ho, hnz, hb1⟩
      obtain ⟨g2, c2, rfl, hgl, hcl⟩ : ∃ g2 c2, v' = .slice (some ⟨g2, 0, Option.none⟩) acc.length c2 ∧ acc.length ≤ c2 ∧ c2 ≤ maxLen := by
        rcases ho.2 with ⟨e, _⟩ | ⟨g2, cap, cur, e, _, _, h1, h2, _⟩
        · exact absurd e hnz
        · exact ⟨g2, cap, e, h1, h2⟩
      have hK := HS.out.keep (cost := cost) ho hb1
      have hbk1 := HS.out.blk.below hb1 HS.out.blk.lt
      have p4 := hbk1.cell 4
      have p5 := hbk1.cell 5
      have hfz1 := fun i => hbk1.frozen i
      have p5b : ∀ u, (w1.setCell ⟨S, 4, Option.none⟩ u).cell? ⟨S, 5, Option.none⟩ = some (.int .i64 least) := fun u => (hbk1.set_ 4 u).cell 5
      have hfz2 : ∀ u, (w1.setCell ⟨S, 4, Option.none⟩ u).frozen? ⟨S, 5, Option.none⟩ = false := fun u => (hbk1.set_ 4 u).frozen 5
      simp only [List.getElem?_cons_zero, List.getElem?_cons_succ] at p4 p5
      have HK := Lib.hid hK
      clear hK hbk1 ho hb1 hnz
      go_wp2_with fail
      refine bodyPost_end (results_none Try.results236 _ _ _) rfl ?_
      exact ⟨⟨_, rfl⟩, _, _, _, _, HK.out⟩
    | some x =>
      obtain ⟨l, k⟩ := x
      obtain ⟨gb, cb, rfl, hob, rfl, hne⟩ := hb
      clear hob hne
      have heq : ∀ w, (binOp .eql 29 (.slice (some ⟨gb, 0, Option.none⟩) l.length cb) (.slice Option.none 0 0)).run Try.prog w = .ok (.bool false) w := fun w => Lib.run_eql_slice_nil w _ _ (some ⟨gb, 0, Option.none⟩) _ _ 0 0 Try.underlying29
      by_cases hlt : cost < least
      · have hlt2 : decide (cost < least) = true := decide_eq_true hlt
        go_enter Try.func236, Try.ntmps236
        go_wp2_with fail
        refine CC.out.mono ?_
        rintro e w1 ⟨v', rfl, ho, hnz, hb1⟩
        obtain ⟨g2, c2, rfl, hgl, hcl⟩ : ∃ g2 c2, v' = .slice (some ⟨g2, 0, Option.none⟩) acc.length c2 ∧ acc.length ≤ c2 ∧ c2 ≤ maxLen := by
          rcases ho.2 with ⟨e, _⟩ | ⟨g2, cap, cur, e, _, _, h1, h2, _⟩
          · exact absurd e hnz
          · exact ⟨g2, cap, e, h1, h2⟩
        have hK := HS.out.keep (cost := cost) ho hb1
        have hbk1 := HS.out.blk.below hb1 HS.out.blk.lt
        have p4 := hbk1.cell 4
        have p5 := hbk1.cell 5
        have hfz1 := fun i => hbk1.frozen i
        have p5b : ∀ u, (w1.setCell ⟨S, 4, Option.none⟩ u).cell? ⟨S, 5, Option.none⟩ = some (.int .i64 least) := fun u => (hbk1.set_ 4 u).cell 5
        have hfz2 : ∀ u, (w1.setCell ⟨S, 4, Option.none⟩ u).frozen? ⟨S, 5, Option.none⟩ = false := fun u => (hbk1.set_ 4 u).frozen 5
        simp only [List.getElem?_cons_zero, List.getElem?_cons_succ] at p4 p5
        have HK := Lib.hid hK
        clear hK hbk1 ho hb1 hnz
        go_wp2_with fail
        refine bodyPost_end (results_none Try.results236 _ _ _) rfl ?_
        exact ⟨⟨_, rfl⟩, _, _, _, _, by simp only [pickC]; rw [if_pos hlt]; exact HK.out⟩
      · have hlt2 : decide (cost < least) = false := decide_eq_false hlt
        go_enter Try.func236, Try.ntmps236
        go_wp2_with fail
        refine bodyPost_end (results_none Try.results236 _ _ _) rfl ?_
        exact ⟨⟨_, rfl⟩, _, _, _, _, by simp only [pickC]; rw [if_neg (by omega)]; exact HS.out⟩
  | cons x ws ih =>
    intro acc fr room cost w A ca bv least bs hlen hdrop hf1 hfL hroom hc0 hc1 hS
    have hal : acc.length < W.length := by rw [List.length_cons] at hlen; omega
    obtain ⟨hx, hdrop2⟩ := drop_cons hdrop
    have hxb : 0 ≤ x ∧ x ≤ 10000 := by
      unfold allB at hW
      rw [List.all_eq_true] at hW
      exact inB_iff.1 (hW x (List.mem_of_getElem? hx))
    have hall : ((acc.length : Int) == (W.length : Int)) = false := by rw [beq_eq_false_iff_ne]; omega
    have IH := Lib.hid fun m room2 cost2 w1 A1 ca1 bv1 least1 bs1 (h1 : 1 ≤ m) (h2 : m ≤ L) (h3 : room2 ≤ 46656000000) (h4 : 0 ≤ cost2) (h5 : cost2 ≤ 60000 * ((acc ++ [m]).length : Int)) (h6 : Srch w0 w1 B S bw cw W r L A1 ca1 bv1 least1 (acc ++ [m]) bs1) =>
      ih (acc ++ [m]) m room2 cost2 w1 A1 ca1 bv1 least1 bs1 (by rw [List.length_append, List.length_singleton]; rw [List.length_cons] at hlen; omega) (by rw [List.length_append, List.length_singleton]; exact hdrop2) h1 h2 h3 h4 h5 h6
    have HX := Lib.hid hx
    have q0 := hS.blk.cell 0
    have q3 := hS.blk.cell 3
    simp only [List.getElem?_cons_zero, List.getElem?_cons_succ] at q0 q3
    have HS0 := Lib.hid hS
    clear ih hx hdrop hdrop2 hlen hS
    go_enter Try.func236, Try.ntmps236
    go_wp2_with fail
    clear q0 q3
    go_loopw [9] (fun i wr => ∃ (m : Nat) (A : Option Addr) (ca : Nat) (bv : Value) (least : Int), i = .int .i64 (m : Int) ∧ fr ≤ m ∧ m ≤ L + 1 ∧ Hid (Srch w0 wr B S bw cw W r L A ca bv least acc (pickC bs (addC acc cost (bstTo r L x ws fr room (m - fr)))))) (fun i _ => 7 - (intOf i).toNat)
    case atStart => exact ⟨fr, A, ca, bv, least, rfl, Nat.le_refl _, by omega, by rw [Nat.sub_self, bstTo_zero]; show Srch _ _ _ _ _ _ _ _ _ _ _ _ _ _ _; rw [show addC acc cost Option.none = Option.none from rfl, pickC_none]; exact HS0.out⟩
    case round =>
      obtain ⟨m, A, ca, bv, least, rfl, hfm, hmL, hS⟩ := hrel
      have q0 := hS.out.blk.cell 0
      have q1 := hS.out.blk.cell 1
      have q2 := hS.out.blk.cell 2
      have q3 := hS.out.blk.cell 3
      simp only [List.getElem?_cons_zero, List.getElem?_cons_succ] at q0 q1 q2 q3
      by_cases hm : m ≤ L
      · have hmi : (m : Int) ≤ (L : Int) := by omega
        obtain ⟨d, hd⟩ : ∃ d, d = L - m := ⟨_, rfl⟩
        obtain ⟨pw, hpw⟩ : ∃ pw, pw = r ^ d := ⟨_, rfl⟩
        have hsub : (L : Int) - (m : Int) = (d : Int) := by omega
        have CP : Hid (∀ nq, Calls Try.prog 162 #[.int .i64 (r : Int), .int .i64 (d : Int)] (wr.drewN nq) fun e w' => e = .returned (.int .i64 (pw : Int)) ∧ ∃ n, w' = (wr.drewN nq).drewN n) := by
          intro nq
          have := powerOf_any r d (by omega) (by omega) (wr.drewN nq)
          rw [← hpw] at this
          exact this.mono fun _ _ ⟨he, hw⟩ => ⟨he, 0, by rw [← hw]; rfl⟩
        have HPW : Hid (pw = r ^ (L - m)) := by show _ = _; rw [hpw, hd]
        have hd6 : d ≤ 6 := by omega
        clear hd hpw q0 q3
        go_wp2_with fail
        go_quiet ((go_at_call 162; exact Calls.quiet_of (CP.out _)))
        have HS := Lib.hid (hS.out.drewN nq)
        clear q1 q2 CP hS
        generalize wr.drewN nq = wq at HS ⊢
        by_cases hgt : room < pw
        · have hgi : (room : Int) < (pw : Int) := by omega
          have HSK := Lib.hid (pick_skip (bs := bs) (acc := acc) (cost := cost) (w := x) (ws := ws) (L := L) (r := r) (room := room) (fr := fr) (m := m) (k := m - fr) (by rw [← HPW.out]; omega) (by omega))
          go_wp2_with fail
          go_roundw
          case rel => exact ⟨m + 1, A, ca, bv, least, by go_num, by omega, by omega, by show Srch _ _ _ _ _ _ _ _ _ _ _ _ _ _ _; rw [show m + 1 - fr = m - fr + 1 by omega, ← HSK.out]; exact HS.out⟩
          case measure => (simp [intOf]; try omega)
        · have hgi : ¬ (room : Int) < (pw : Int) := by omega
          have q3 := HS.out.blk.cell 3
          simp only [List.getElem?_cons_zero, List.getElem?_cons_succ] at q3
          have hown := HS.out.len
          have hlw : (waysI acc).length = acc.length := by unfold waysI; simp
          have q3a := (Blk.alloc HS.out.blk (.cells #[.int .i64 (m : Int)] 3)).cell 3
          simp only [List.getElem?_cons_zero, List.getElem?_cons_succ] at q3a
          have HOWN : Hid (wq.ownsRow B 3 1 (.slice A acc.length ca) (waysI acc).length (ints (waysI acc))) := by rw [hlw]; exact hown
          have HLW := Lib.hid hlw
          obtain ⟨room2, hr2⟩ : ∃ q, q = room - pw := ⟨_, rfl⟩
          have hsub2 : (room : Int) - (pw : Int) = (room2 : Int) := by omega
          obtain ⟨y, hy⟩ : ∃ y, y = x * (m : Int) := ⟨_, rfl⟩
          have hy0 : 0 ≤ y := by rw [hy]; exact Int.mul_nonneg hxb.1 (by omega)
          have hy1 : y ≤ 60000 := by
            rw [hy]
            have h1 := Int.mul_le_mul_of_nonneg_right hxb.2 (show (0 : Int) ≤ (m : Int) by omega)
            omega
          have hmul : x * (m : Int) = y := hy.symm
          have HNX := Lib.hid (pick_next (bs := bs) (acc := acc) (cost := cost) (w := x) (ws := ws) (L := L) (r := r) (room := room) (fr := fr) (m := m) (k := m - fr) (cost2 := cost + y) (room2 := room2) (by rw [← HPW.out]; omega) (by omega) (by rw [hy]) (by rw [hr2, HPW.out]))
          have HIH := Lib.hid fun w1 A1 ca1 bv1 least1 bs1 => IH.out m room2 (cost + y) w1 A1 ca1 bv1 least1 bs1 (by omega) hm (by omega) (by omega) (by rw [List.length_append, List.length_singleton]; omega)
          clear hown hlw hr2 hy
          go_wp2_with (at_builtin; refine wpList_appI rfl (.tmp 75) (.tmp 77) rfl HOWN.out (by rw [HLW.out]; omega) HS.out.size rfl rfl ?_; intro v5 w5 ho5 hg5 hA5; rw [HLW.out] at ho5; obtain ⟨g5, c5, rfl, hn5, hm5⟩ : ∃ g5 c5, v5 = .slice (some ⟨g5, 0, Option.none⟩) (acc.length + 1) c5 ∧ acc.length + 1 ≤ c5 ∧ c5 ≤ maxLen := by { rcases ho5.2 with ⟨_, e⟩ | ⟨g2, cap, cur, e, _, _, h1, h2, _⟩; exact absurd e (by omega); exact ⟨g2, cap, e, h1, h2⟩ }; have HS5 := Lib.hid (HS.out.push ho5 hg5 hA5); have p3 : w5.cell? ⟨S, 3, Option.none⟩ = some (.slice A acc.length ca) := (hg5.cell q3a (by have := HS.out.sb; intro e; have := (HS.out.len.lt S e.symm).1; omega)); have pf3 : w5.frozen? ⟨S, 3, Option.none⟩ = false := Blk.frozen (show Blk w5 S 160 _ from (hg5.block S (by have := HS.out.blk.lt; simp; omega) (by have := HS.out.sb; intro e; have := (HS.out.len.lt S e.symm).1; omega)).trans (Blk.alloc HS.out.blk _)) 3; have p0 := HS5.out.blk.cell 0; have pw0 := HS5.out.wts acc.length x HX.out; simp only [List.getElem?_cons_zero] at p0; clear ho5 hg5 hA5)
          refine (HIH.out _ _ _ _ _ _ HS5.out).mono ?_
          rintro e w7 ⟨⟨z, rfl⟩, A7, ca7, bv7, least7, hS7⟩
          rw [HNX.out] at hS7
          obtain ⟨g7, rfl, hc7, hm7, _⟩ := hS7.form (by simp)
          have hb7 := hS7.blk
          have hl7 : (acc ++ [m]).length = acc.length + 1 := by simp
          rw [hl7] at hb7 hc7
          have s3 := hb7.cell 3
          have sf3 := hb7.frozen 3
          simp only [List.getElem?_cons_zero, List.getElem?_cons_succ] at s3
          have hi7 : (acc.length : Int) ≤ (ca7 : Int) := by omega
          have hi8 : acc.length ≤ ca7 := by omega
          have HS8 := Lib.hid hS7.pop
          clear hS7 hb7 hl7 p0 p3 pf3 pw0
          go_wp2_with fail
          go_roundw
          case rel => exact ⟨m + 1, _, ca7, bv7, least7, by go_num, by omega, by omega, by show Srch _ _ _ _ _ _ _ _ _ _ _ _ _ _ _; rw [show m + 1 - fr = m - fr + 1 by omega]; exact HS8.out⟩
          case measure => (simp [intOf]; try omega)
      · obtain rfl : m = L + 1 := by omega
        have hno : ¬ ((L : Int) + 1 ≤ (L : Int)) := by omega
        go_wp2_with fail
        refine bodyPost_end (results_none Try.results236 _ _ _) rfl ?_
        exact ⟨⟨_, rfl⟩, A, ca, bv, least, by rw [bst_to, show L + 1 - fr = L + 1 - fr from rfl]; exact hS.out⟩
end Go.Proofs.Ytabiobjcfopakaa
/- Contracts: LeastLengths of the program. -/
namespace Go.Proofs.Ytabiobjcfopakaa
open Go.RowKit
def askB (ws : List Int) (r l : Int) : Bool := (weightsB ws && inB r 2 60) && inB l 1 6
/-- The weights in the order of the search. -/
def sortW (ws : List Int) : List Int := (orderBy (pWei ws) ws.length).map fun i => ws.getD i 0
/-- A list in the order of the search is laid back to the order of the weights: the first k ones. -/
def layK (os : List Nat) (n : Nat) (l : List Nat) (k : Nat) : List Int := (List.range k).foldl (fun acc k => acc.set (os.getD k 0) ((l.getD k 0 : Nat) : Int)) (List.replicate n 0)
def layB (os : List Nat) (n : Nat) (l : List Nat) : List Int := layK os n l l.length
theorem layK_succ {os : List Nat} {n : Nat} {l : List Nat} {k i x : Nat} (hi : os[k]? = some i) (hx : l[k]? = some x) : layK os n l (k + 1) = (layK os n l k).set i ((x : Nat) : Int) := by
  unfold layK
  rw [List.range_succ, List.foldl_append]
  simp [List.getD_eq_getElem?_getD, hi, hx]
theorem layK_len (os : List Nat) (n : Nat) (l : List Nat) : ∀ k, (layK os n l k).length = n
  | 0 => by simp [layK]
  | k + 1 => by
    have := layK_len os n l k
    unfold layK at this ⊢
    rw [List.range_succ, List.foldl_append]
    simpa using this
theorem sortW_all {ws : List Int} {a b : Int} (h : allB ws a b = true) : allB (sortW ws) a b = true := by
  unfold allB
  rw [List.all_eq_true]
  intro x hx
  unfold sortW at hx
  rw [List.mem_map] at hx
  obtain ⟨i, hi, rfl⟩ := hx
  have := allB_at h (orderBy_lt hi)
  exact inB_iff.2 this
def leastC (ws : List Int) (r l : Int) : Cand := if askB ws r l then bst r.toNat l.toNat (sortW ws) 1 (r.toNat ^ l.toNat) else Option.none
def leastL (ws : List Int) (r l : Int) : List Int := match leastC ws r l with
  | Option.none => []
  | some x => layB (orderBy (pWei ws) ws.length) ws.length x.1
def leastB (ws : List Int) (r l : Int) : Bool := (leastC ws r l).isSome
/-- One weight more behind the struct's first field. -/
theorem wts_push {w1 wr w5 : World} {S k c2 g cap : Nat} {A2 : Option Addr} {t : TypeId} {cs : List Value} {Z : List Int} {z : Int} (hbk : Blk wr S t (.slice A2 k c2 :: cs)) (how : wr.ownsRow (S + 1) 3 1 (.slice A2 k c2) k (ints (Z.take k))) (hbl : Below S w1 wr)
    (hown5 : w5.ownsRow (S + 1) 3 1 (.slice (some ⟨g, 0, Option.none⟩) (k + 1) cap) (k + 1) (ints (Z.take k) ++ [Value.int .i64 z])) (hgrow : (wr.alloc (.cells #[.int .i64 z] 3)).drew.grownBy w5 (Value.slice A2 k c2).ownBlock) (hz : Z[k]? = some z) :
    Blk (w5.setCell ⟨S, 0, Option.none⟩ (.slice (some ⟨g, 0, Option.none⟩) (k + 1) cap)) S t (.slice (some ⟨g, 0, Option.none⟩) (k + 1) cap :: cs) ∧
      (w5.setCell ⟨S, 0, Option.none⟩ (.slice (some ⟨g, 0, Option.none⟩) (k + 1) cap)).ownsRow (S + 1) 3 1 (.slice (some ⟨g, 0, Option.none⟩) (k + 1) cap) (k + 1) (ints (Z.take (k + 1))) ∧
      Below S w1 (w5.setCell ⟨S, 0, Option.none⟩ (.slice (some ⟨g, 0, Option.none⟩) (k + 1) cap)) := by
  have hS := hbk.lt
  have hrow : ∀ b, b ≤ S → some b ≠ (Value.slice A2 k c2).ownBlock := fun b hb e => by have := (how.lt b e.symm).1; omega
  have hal : (wr.alloc (.cells #[.int .i64 z] 3)).drew.heap.size = wr.heap.size + 1 := by simp
  have hold : ∀ b, b ≤ S → w5.heap[b]? = wr.heap[b]? := fun b hb => (hgrow.block b (by rw [hal]; omega) (hrow b hb)).trans (Below.heap_alloc wr _ b (by omega))
  refine ⟨?_, ?_, ?_⟩
  · have h1 : Blk w5 S t (.slice A2 k c2 :: cs) := (hold S (Nat.le_refl _)).trans hbk
    exact h1.set_ 0 (.slice (some ⟨g, 0, Option.none⟩) (k + 1) cap)
  · have e : ints (Z.take k) ++ [Value.int .i64 z] = ints (Z.take (k + 1)) := by rw [take_snocI hz]; simp
    rw [e] at hown5
    exact hown5.kept (grown_set (w := w5) (p := ⟨S, 0, Option.none⟩) rfl _) (.inr fun e => by have := (hown5.lt S e).1; omega)
  · have h1 : Below S wr w5 := ⟨hgrow.os, hgrow.tape, hgrow.output, by have := hgrow.size; rw [hal] at this; omega, fun b hb => hold b (by omega)⟩
    exact (hbl.trans h1).setCell (p := ⟨S, 0, Option.none⟩) (Nat.le_refl _) _
theorem cmp_wei {ls : List Int} {s : Value} {B g hi : Nat} {w : World} (h : RdI w hi s ls) (hc : w.cell? ⟨B, 0, Option.none⟩ = some s) (hB : B < g) (hh : hi ≤ g) : CmpI 235 #[.pointer (some ⟨B, 0, Option.none⟩)] g ls.length (cWei ls) w :=
  fun w' ho x y hx hy => least1_any ls s B hi x y w' (RdI.below h (ho.bel (Nat.le_refl g)) hh) hx hy (((ho.bel (Nat.le_refl g)).cell (p := ⟨B, 0, Option.none⟩) hB).trans hc)
set_option maxRecDepth 100000 in
set_option maxHeartbeats 16000000 in
theorem leastLengths_any (ls : List Int) (r l : Int) (v : Value) (hi : Nat) (w : World) (h : RdI w hi v ls) (hh : hi ≤ w.heap.size) : Calls Try.prog 165 #[v, .int .i64 r, .int .i64 l] w (RetOwT (leastL ls r l) (leastB ls r l) w) := by
  obtain ⟨A, c, rfl, hc, hm⟩ := Rd.form h
  have hba : Below w.heap.size w (w.alloc (.cells #[.slice A ls.length c] 29)) := (Below.refl _ _).alloc (Nat.le_refl _) _
  have HBA := Lib.hid hba
  have HBX : Hid (Blk (w.alloc (.cells #[.slice A ls.length c] 29)) w.heap.size 29 [.slice A ls.length c]) := Blk.new _ _ _
  have hcb := HBX.out.cell 0
  simp only [List.getElem?_cons_zero] at hcb
  have H := Lib.hid (RdI.below h hba hh)
  clear h hba
  have hnil : askB ls r l = false → leastL ls r l = [] ∧ leastB ls r l = false := by
    intro h
    have : leastC ls r l = Option.none := by unfold leastC; rw [h]; rfl
    unfold leastL leastB; rw [this]; exact ⟨rfl, rfl⟩
  cases hww : weightsB ls
  · have HF := Lib.hid (hnil (by unfold askB; rw [hww]; rfl))
    clear hnil
    rw [HF.out.1, HF.out.2]
    go_enter Try.func165, Try.ntmps165
    go_wp2_with (first | (go_at_call 189; refine (areWeights_any ls _ hi _ H.out).mono ?_; rintro e w' ⟨rfl, rfl⟩) | (go_at_call 157; refine (isRadix_any _ _).mono ?_; rintro e w' ⟨rfl, rfl⟩) | (go_at_call 125; refine (within_any _ _ _ _).mono ?_; rintro e w' ⟨rfl, rfl⟩))
    go_ret2
    exact retOwT _ (GrowI.nil HBA.out)
  · cases hr : inB r 2 60
    · have HF := Lib.hid (hnil (by unfold askB; rw [hww, hr]; rfl))
      clear hnil
      rw [HF.out.1, HF.out.2]
      go_enter Try.func165, Try.ntmps165
      go_wp2_with (first | (go_at_call 189; refine (areWeights_any ls _ hi _ H.out).mono ?_; rintro e w' ⟨rfl, rfl⟩) | (go_at_call 157; refine (isRadix_any _ _).mono ?_; rintro e w' ⟨rfl, rfl⟩) | (go_at_call 125; refine (within_any _ _ _ _).mono ?_; rintro e w' ⟨rfl, rfl⟩))
      go_ret2
      exact retOwT _ (GrowI.nil HBA.out)
    · cases hl : inB l 1 6
      · have HF := Lib.hid (hnil (by unfold askB; rw [hww, hr, hl]; rfl))
        clear hnil
        rw [HF.out.1, HF.out.2]
        go_enter Try.func165, Try.ntmps165
        go_wp2_with (first | (go_at_call 189; refine (areWeights_any ls _ hi _ H.out).mono ?_; rintro e w' ⟨rfl, rfl⟩) | (go_at_call 157; refine (isRadix_any _ _).mono ?_; rintro e w' ⟨rfl, rfl⟩) | (go_at_call 125; refine (within_any _ _ _ _).mono ?_; rintro e w' ⟨rfl, rfl⟩))
        go_ret2
        exact retOwT _ (GrowI.nil HBA.out)
      · have HASK : Hid (askB ls r l = true) := by show _ = _; unfold askB; rw [hww, hr, hl]; rfl
        clear hnil
        obtain ⟨hr1, hr2⟩ := inB_iff.1 hr
        obtain ⟨r, rfl⟩ := Int.eq_ofNat_of_zero_le (show 0 ≤ r by omega)
        obtain ⟨hl1, hl2⟩ := inB_iff.1 hl
        obtain ⟨l, rfl⟩ := Int.eq_ofNat_of_zero_le (show 0 ≤ l by omega)
        have hls := hww
        unfold weightsB at hls
        rw [Bool.and_eq_true] at hls
        have hn20 := (inB_iff.1 hls.1)
        have HAL := Lib.hid hls.2
        have hmk := make_ints ls.length (by omega)
        clear hls
        go_enter Try.func165, Try.ntmps165
        go_wp2_with (first | (go_at_call 189; refine (areWeights_any ls _ hi _ H.out).mono ?_; rintro e w' ⟨rfl, rfl⟩) | (go_at_call 157; refine (isRadix_any _ _).mono ?_; rintro e w' ⟨rfl, rfl⟩) | (go_at_call 125; refine (within_any _ _ _ _).mono ?_; rintro e w' ⟨rfl, rfl⟩))
        have hcb1 : ∀ wr, Below (w.heap.size + 1) (w.alloc (.cells #[.slice A ls.length c] 29)) wr → wr.cell? ⟨w.heap.size, 0, Option.none⟩ = some (.slice A ls.length c) := fun wr hb => (hb.cell (p := ⟨w.heap.size, 0, Option.none⟩) (Nat.lt_succ_self _)).trans hcb
        have HC1 := Lib.hid hcb1
        clear hcb hcb1
        go_loopw [34] (fun i wr => ∃ k : Nat, k ≤ ls.length ∧ i = .int .i64 (k : Int) ∧ Hid (Blk wr (w.heap.size + 1) 3 (cntI ls.length k)) ∧ Hid (Below (w.heap.size + 1) (w.alloc (.cells #[.slice A ls.length c] 29)) wr)) (fun i _ => ls.length - (intOf i).toNat)
        case atStart =>
          refine ⟨0, Nat.zero_le _, rfl, ?_, ?_⟩
          · have := Blk.new (w.alloc (.cells #[.slice A ls.length c] 29)) 3 (zeros ls.length)
            rw [cntI_zero] at this
            show Blk _ _ _ _
            simpa using this
          · exact (Below.refl _ _).alloc (by simp) _
        case round =>
          obtain ⟨k, hk2, rfl, hbk, hbl⟩ := hrel
          by_cases hlt : k < ls.length
          · have hcell := hbk.out.cell k
            rw [cntI_at hlt] at hcell
            have hfr := hbk.out.frozen k
            have HB2 := Lib.hid (hbk.out.set_ k (.int .i64 (k : Int)))
            go_wp2_with fail
            go_roundw
            case rel => exact ⟨k + 1, by omega, by go_num, by have := HB2.out; rw [cntI_set hlt] at this; exact this, hbl.out.setCell (p := ⟨w.heap.size + 1, k, Option.none⟩) (Nat.le_refl _) _⟩
            case measure => (simp [intOf]; try omega)
          · obtain rfl : k = ls.length := by omega
            have hb0 := hbk.out
            rw [cntI_full] at hb0
            have hrd := RdI.below H.out (hbl.out.mono (show w.heap.size ≤ w.heap.size + 1 by omega)) hh
            have hcx := HC1.out wr hbl.out
            have CS := Lib.hid (sortStable_any ls.length ls.length (w.heap.size + 1) 235 #[.pointer (some ⟨w.heap.size, 0, Option.none⟩)] (cWei ls) wr (by omega) (by omega) (Nat.le_refl _) hb0 (cmp_wei hrd hcx (by omega) (by omega)) (enters_of Try.func235 (by kernel_rfl) rfl))
            clear hb0 hrd hcx
            go_wp2_with fail
            refine CS.out.mono ?_
            rintro e w1 ⟨⟨zz, rfl⟩, hb1, ho1⟩
            rw [pOf_wei] at hb1
            obtain ⟨O, hO⟩ : ∃ O, O = orderBy (pWei ls) ls.length := ⟨_, rfl⟩
            have hOl : O.length = ls.length := by rw [hO, orderBy_len]
            have HOM : Hid (∀ i ∈ O, i < ls.length) := by show ∀ i ∈ O, i < ls.length; rw [hO]; exact fun i hi => orderBy_lt hi
            rw [← hO] at hb1
            have hw1 : Below (w.heap.size + 1) (w.alloc (.cells #[.slice A ls.length c] 29)) w1 := hbl.out.trans (ho1.bel (Nat.le_refl _))
            have hs1 : w.heap.size + 2 ≤ w1.heap.size := by have := hb1.lt; omega
            have HCB := Lib.hid (HC1.out w1 hw1)
            have H1 := Lib.hid (RdI.below H.out (hw1.mono (show w.heap.size ≤ w.heap.size + 1 by omega)) hh)
            have HB1 := Lib.hid hb1
            have HO := Lib.hid hO
            have HOL := Lib.hid hOl
            have HWB : Hid (Below w.heap.size w w1) := HBA.out.trans (hw1.mono (by omega))
            clear hb1 ho1 hw1 hO hOl hbk hbl CS
            go_wp2_with fail
            have HBS : Hid (Blk (w1.alloc (.cells #[.slice Option.none 0 0, .int .i64 (r : Int), .int .i64 (l : Int), .slice Option.none 0 0, .slice Option.none 0 0, .int .i64 0] 160)) w1.heap.size 160 [.slice Option.none 0 0, .int .i64 (r : Int), .int .i64 (l : Int), .slice Option.none 0 0, .slice Option.none 0 0, .int .i64 0]) := Blk.new _ _ _
            have HBD : Hid (Below w1.heap.size w1 (w1.alloc (.cells #[.slice Option.none 0 0, .int .i64 (r : Int), .int .i64 (l : Int), .slice Option.none 0 0, .slice Option.none 0 0, .int .i64 0] 160))) := (Below.refl _ _).alloc (Nat.le_refl _) _
            have hsz0 : (w1.alloc (.cells #[.slice Option.none 0 0, .int .i64 (r : Int), .int .i64 (l : Int), .slice Option.none 0 0, .slice Option.none 0 0, .int .i64 0] 160)).heap.size = w1.heap.size + 1 := by simp
            have HSZ := Lib.hid hsz0
            clear hsz0
            generalize (w1.alloc (.cells #[.slice Option.none 0 0, .int .i64 (r : Int), .int .i64 (l : Int), .slice Option.none 0 0, .slice Option.none 0 0, .int .i64 0] 160)) = w2 at HBS HBD HSZ ⊢
            obtain ⟨Z, hZ⟩ : ∃ Z, Z = sortW ls := ⟨_, rfl⟩
            have hZl : Z.length = ls.length := by rw [hZ]; unfold sortW; rw [List.length_map, orderBy_len]
            have HZ := Lib.hid hZ
            have HZL := Lib.hid hZl
            clear hZ hZl
            go_loopw [50] (fun i wr => ∃ (k : Nat) (A2 : Option Addr) (c2 : Nat), k ≤ ls.length ∧ i = .int .i64 (k : Int) ∧ Hid (Blk wr w1.heap.size 160 [.slice A2 k c2, .int .i64 (r : Int), .int .i64 (l : Int), .slice Option.none 0 0, .slice Option.none 0 0, .int .i64 0]) ∧
              Hid (wr.ownsRow (w1.heap.size + 1) 3 1 (.slice A2 k c2) k (ints (Z.take k))) ∧ Hid (Below w1.heap.size w1 wr)) (fun i _ => ls.length - (intOf i).toNat)
            case atStart => exact ⟨0, Option.none, 0, Nat.zero_le _, rfl, HBS.out, by rw [List.take_zero]; exact World.ownsRow_nil _ _ _ _, HBD.out⟩
            case round =>
              obtain ⟨k, A2, c2, hkl, rfl, hbk, how, hbl⟩ := hrel
              have hG : w1.heap.size < wr.heap.size := hbk.out.lt
              by_cases hlt : k < ls.length
              · obtain ⟨i, hi⟩ : ∃ i, O[k]? = some i := ⟨_, List.getElem?_eq_getElem (by rw [HOL.out]; exact hlt)⟩
                have hil := HOM.out i (List.mem_of_getElem? hi)
                obtain ⟨b1, o1, c1, hv, hb1h, hcl⟩ := RdI.getD (RdI.below H1.out hbl.out (by omega)) hil
                cases hv
                obtain ⟨z, hz⟩ : ∃ z, z = ls.getD i 0 := ⟨_, rfl⟩
                rw [← hz] at hcl
                have hco := (HB1.out.below hbl.out (show w.heap.size + 1 < w1.heap.size by omega)).cell k
                rw [nats_at hi] at hco
                have hcb := (hbl.out.cell (p := ⟨w.heap.size, 0, Option.none⟩) (by show w.heap.size < w1.heap.size; omega)).trans HCB.out
                have q0 := hbk.out.cell 0
                simp only [List.getElem?_cons_zero] at q0
                have hil2 : i < ls.length := hil
                have HIZ := Lib.hid hz
                have HI := Lib.hid hi
                have HZK : Hid (Z[k]? = some z) := by
                  show _ = _
                  rw [HZ.out]
                  unfold sortW
                  rw [← HO.out, List.getElem?_map, hi, hz]; rfl
                clear hz hi
                obtain ⟨ti, hti, htz, hts, htb⟩ := info_parts info_int
                have hrow : ∀ b, b ≤ w1.heap.size → some b ≠ (Value.slice A2 k c2).ownBlock := fun b hb e => by have := (how.out.lt b e.symm).1; omega
                have hfz := hbk.out.frozen 0
                have hba : Below wr.heap.size wr (wr.drew.alloc (.cells #[.int .i64 z] 3)) := (Below.refl _ _).drew.alloc (Nat.le_refl _) _
                have a0 := (hba.cell (p := ⟨w1.heap.size, 0, Option.none⟩) hG).trans q0
                have acb := (hba.cell (p := ⟨w.heap.size, 0, Option.none⟩) (by show w.heap.size < wr.heap.size; omega)).trans hcb
                have acl := (hba.cell (p := ⟨b1, o1 + i, Option.none⟩) (by show b1 < wr.heap.size; omega)).trans hcl
                have a0' : (wr.alloc (.cells #[.int .i64 z] 3)).cell? ⟨w1.heap.size, 0, Option.none⟩ = some (.slice A2 k c2) := a0
                have afz := (hba.frozen (p := ⟨w1.heap.size, 0, Option.none⟩) hG).trans hfz
                go_wp2_with fail
                go_region_law ((refine step_append_lies _ (by rfl) (.tmp 55) (.tmp 60) 29 (by rfl) (w1.heap.size + 1) 3 ti (.int .i64 0) 1 8 Try.underlying29 hti htz hts htb rfl (by decide) (.slice A2 k c2) k (ints (Z.take k)) (by rfl) (World.ownsRow.alloc (w := wr.drew) how.out _) ⟨wr.heap.size, 0, Option.none⟩ 1 1 [.int .i64 z] (by rfl) rfl (one_cell _ _ _) (by intro u hu; simp at hu; subst hu; rfl) (by decide) (by unfold maxLen; omega) (by omega) (by simp; omega) (wr.heap.size + 1) (by simp) ?_; intro g cap w5 hown5 hgrow hat5 hlt5; have p0 := (hgrow.cell_far ⟨w1.heap.size, 0, Option.none⟩ (by simp; omega) (hrow _ (Nat.le_refl _))).trans a0; have pf := (hgrow.frozen_far ⟨w1.heap.size, 0, Option.none⟩ (by simp; omega) (hrow _ (Nat.le_refl _))).trans afz))
                all_goals
                  have HP := Lib.hid (wts_push hbk.out how.out hbl.out hown5 hgrow HZK.out)
                  clear hown5 hgrow hat5 hlt5 p0 pf
                  go_wp2_with fail
                  go_roundw
                  case rel => exact ⟨k + 1, _, cap, by omega, by go_num, HP.out.1, HP.out.2.1, HP.out.2.2⟩
                  case measure => (simp [intOf]; try omega)
              · obtain rfl : k = ls.length := by omega
                obtain ⟨bw, rfl, hbw1, hbw2, hwt⟩ : ∃ bw, A2 = some ⟨bw, 0, Option.none⟩ ∧ w1.heap.size < bw ∧ bw < wr.heap.size ∧ ∀ j x, Z[j]? = some x → wr.cell? ⟨bw, j, Option.none⟩ = some (.int .i64 x) := by
                  rcases how.out.2 with ⟨e, hn⟩ | ⟨g, cap, cur, e, hgl, hgg, _⟩
                  · omega
                  · cases e
                    refine ⟨g, rfl, by omega, (Array.getElem?_eq_some_iff.1 hgg).1, fun j x hx => ?_⟩
                    have h1 := how.out.cells (g := g) rfl j (.int .i64 x) (by rw [List.take_of_length_le (by rw [HZL.out]; exact Nat.le_refl _)]; simp [hx])
                    have hadd : (⟨g, 0, Option.none⟩ : Addr).add j = ⟨g, 0 + j, Option.none⟩ := by unfold Addr.add; split <;> simp_all
                    rw [hadd, Nat.zero_add] at h1
                    exact h1
                have hbk2 := hbk.out
                rw [← HZL.out] at hbk2
                have hS0 : Srch wr wr wr.heap.size w1.heap.size bw c2 Z r l Option.none 0 (.slice Option.none 0 0) 0 [] Option.none :=
                  ⟨hbk2, hG, hbw2, by omega, hwt, World.ownsRow_nil _ _ _ _, rfl, Nat.le_refl _, ButS.refl _ _ _⟩
                obtain ⟨pw, hpw⟩ : ∃ pw, pw = r ^ l := ⟨_, rfl⟩
                have cP := powerOf_any r l (by omega) (by omega) wr
                rw [← hpw] at cP
                have CP := Lib.hid cP
                have hpb : pw ≤ 46656000000 := by rw [hpw]; exact pow_le (by omega) (by omega)
                have hZA : allB Z 0 10000 = true := by rw [HZ.out]; exact sortW_all HAL.out
                have CG : Hid (Calls Try.prog 236 #[.pointer (some ⟨w1.heap.size, 0, Option.none⟩), .int .i64 1, .int .i64 (pw : Int), .int .i64 0] wr (PostS wr wr.heap.size w1.heap.size bw c2 Z r l [] (bst r l Z 1 (r ^ l)))) := by
                  have := goOn_any (by omega) (by omega) (by omega) hZA (by rw [HZL.out]; omega) (by rw [HZL.out]; omega) Z [] 1 pw 0 wr Option.none 0 (.slice Option.none 0 0) 0 Option.none (by simp) (by simp) (Nat.le_refl _) (by omega) hpb (by omega) (by simp) hS0
                  rw [show pickC Option.none (addC [] 0 (bst r l Z 1 pw)) = bst r l Z 1 (r ^ l) by rw [addC_nil, hpw]; rfl] at this
                  exact this
                have HLC : Hid (leastC ls (r : Int) (l : Int) = bst r l Z 1 (r ^ l)) := by
                  show _ = _
                  unfold leastC
                  rw [HASK.out, HZ.out]
                  simp only [if_true, Int.toNat_natCast]
                have HBL := Lib.hid hbl.out
                clear cP hpw hpb hZA hS0 hbk2 hwt hbk how hbl
                go_wp2_with (first | (go_at_call 162; refine (CP.out).mono ?_; rintro e w' ⟨rfl, rfl⟩))
                refine CG.out.mono ?_
                rintro e w9 ⟨⟨zz2, rfl⟩, A9, ca9, bv9, least9, hS9⟩
                have hfr := hS9.fr
                have hq4 := hS9.blk.cell 4
                simp only [List.getElem?_cons_zero, List.getElem?_cons_succ] at hq4
                have HBW : Hid (Below w.heap.size w w9) := (HWB.out.trans (HBL.out.mono (by omega))).trans ⟨hfr.os, hfr.tape, hfr.output, hfr.size, fun k hk => hfr.block k (by omega) (by omega)⟩
                have HCB9 : Hid (w9.cell? ⟨w.heap.size, 0, Option.none⟩ = some (.slice A ls.length c)) := ((hfr.cell (show w.heap.size < wr.heap.size by omega) (by omega)).trans (HBL.out.cell (p := ⟨w.heap.size, 0, Option.none⟩) (by show w.heap.size < w1.heap.size; omega))).trans HCB.out
                have HO9 : Hid (Blk w9 (w.heap.size + 1) 3 (nats O)) := ((hfr.block _ (by omega) (by omega)).trans (HBL.out.block _ (by omega))).trans HB1.out
                have hsz9 := hfr.size
                have hbest := hS9.best
                have HS9L := Lib.hid hS9.blk
                clear hfr
                cases hbb : bst r l Z 1 (r ^ l) with
                | none =>
                  rw [hbb] at hbest
                  obtain rfl : bv9 = .slice Option.none 0 0 := hbest
                  have heq : ∀ w, (binOp .eql 29 (.slice Option.none 0 0) (.slice Option.none 0 0)).run Try.prog w = .ok (.bool true) w := fun w => Lib.run_eql_slice_nil w _ _ Option.none 0 0 0 0 Try.underlying29
                  have HN : Hid (leastL ls (r : Int) (l : Int) = [] ∧ leastB ls (r : Int) (l : Int) = false) := by
                    unfold leastL leastB; rw [HLC.out, hbb]; exact ⟨rfl, rfl⟩
                  clear hS9 hbb
                  go_wp2_with fail
                  go_ret2
                  rw [HN.out.1, HN.out.2]
                  exact retOwT _ (GrowI.nil HBW.out)
                | some x =>
                  rw [hbb] at hbest
                  obtain ⟨xl, xk⟩ := x
                  obtain ⟨gb, cb, rfl, hob, rfl, _⟩ := hbest
                  have hbd := bst_bd Z (fun w hw => by have h1 := sortW_all HAL.out; rw [← HZ.out] at h1; unfold allB at h1; rw [List.all_eq_true] at h1; exact (inB_iff.1 (h1 w hw)).1) _ 1 _ rfl _ hbb
                  have hxl : xl.length = ls.length := by rw [← HZL.out]; exact hbd.1
                  have heq : ∀ w, (binOp .eql 29 (.slice (some ⟨gb, 0, Option.none⟩) xl.length cb) (.slice Option.none 0 0)).run Try.prog w = .ok (.bool false) w := fun w => Lib.run_eql_slice_nil w _ _ (some ⟨gb, 0, Option.none⟩) _ _ 0 0 Try.underlying29
                  have HN : Hid (leastL ls (r : Int) (l : Int) = layB O ls.length xl ∧ leastB ls (r : Int) (l : Int) = true) := by
                    unfold leastL leastB; rw [HLC.out, hbb, HO.out]; exact ⟨rfl, rfl⟩
                  have hgl := hob.lt gb rfl
                  have HCEL : Hid (∀ (j x : Nat), xl[j]? = some x → w9.cell? ⟨gb, j, Option.none⟩ = some (.int .i64 (x : Int))) := by
                    intro j x hx
                    have h1 := hob.cells (g := gb) rfl j (.int .i64 (x : Int)) (by unfold waysI; simp [hx])
                    have hadd : (⟨gb, 0, Option.none⟩ : Addr).add j = ⟨gb, 0 + j, Option.none⟩ := by unfold Addr.add; split <;> simp_all
                    rw [hadd, Nat.zero_add] at h1
                    exact h1
                  have HXL := Lib.hid hxl
                  have hcbx := HCB9.out
                  clear hS9 hbb hbd hob hxl
                  go_wp2_with fail
                  have HB0 : Hid (Blk (w9.alloc (.cells (zeros ls.length) 3)) w9.heap.size 3 (ints (layK O ls.length xl 0))) := by
                    have := Blk.new w9 3 (zeros ls.length)
                    show Blk _ _ _ _
                    simpa [layK, zeros, ints] using this
                  have HBA0 : Hid (Below w9.heap.size w9 (w9.alloc (.cells (zeros ls.length) 3))) := (Below.refl _ _).alloc (Nat.le_refl _) _
                  clear hcbx hq4
                  go_loopw [76] (fun i wr => ∃ k : Nat, k ≤ ls.length ∧ i = .int .i64 (k : Int) ∧ Hid (Blk wr w9.heap.size 3 (ints (layK O ls.length xl k))) ∧ Hid (Below w9.heap.size w9 wr)) (fun i _ => ls.length - (intOf i).toNat)
                  case atStart => exact ⟨0, Nat.zero_le _, rfl, HB0.out, HBA0.out⟩
                  case round =>
                    obtain ⟨k, hk2, rfl, hbk, hbl⟩ := hrel
                    by_cases hlt : k < ls.length
                    · obtain ⟨i, hi⟩ : ∃ i, O[k]? = some i := ⟨_, List.getElem?_eq_getElem (by rw [HOL.out]; exact hlt)⟩
                      have hil := HOM.out i (List.mem_of_getElem? hi)
                      obtain ⟨x, hx⟩ : ∃ x, xl[k]? = some x := ⟨_, List.getElem?_eq_getElem (by rw [HXL.out]; exact hlt)⟩
                      have hco := (HO9.out.below hbl.out (show w.heap.size + 1 < w9.heap.size by omega)).cell k
                      rw [nats_at hi] at hco
                      have hq4 := (HS9L.out.below hbl.out (show w1.heap.size < w9.heap.size by omega)).cell 4
                      simp only [List.getElem?_cons_zero, List.getElem?_cons_succ] at hq4
                      have hce := (hbl.out.cell (p := ⟨gb, k, Option.none⟩) (by show gb < w9.heap.size; omega)).trans (HCEL.out k x hx)
                      have hll := layK_len O ls.length xl k
                      obtain ⟨u, hu⟩ : ∃ u, (layK O ls.length xl k)[i]? = some u := ⟨_, List.getElem?_eq_getElem (by rw [hll]; exact hil)⟩
                      have hou := hbk.out.cell i
                      rw [show (ints (layK O ls.length xl k))[i]? = some (.int .i64 u) by simp [ints, hu]] at hou
                      have hfz := hbk.out.frozen i
                      have HB3 : Hid (Blk (wr.setCell ⟨w9.heap.size, i, Option.none⟩ (.int .i64 (x : Int))) w9.heap.size 3 (ints (layK O ls.length xl (k + 1)))) := by
                        have h1 := hbk.out.set_ i (.int .i64 (x : Int))
                        show Blk _ _ _ _
                        rw [layK_succ hi hx]
                        unfold ints
                        rw [List.map_set]
                        exact h1
                      have hkx : k < xl.length := by rw [HXL.out]; exact hlt
                      have hkxi : (k : Int) < (xl.length : Int) := by omega
                      clear hi hx hu hll
                      go_wp2_with fail
                      go_roundw
                      case rel => exact ⟨k + 1, by omega, by go_num, HB3.out, hbl.out.setCell (p := ⟨w9.heap.size, i, Option.none⟩) (Nat.le_refl _) _⟩
                      case measure => (simp [intOf]; try omega)
                    · obtain rfl : k = ls.length := by omega
                      go_wp2_with fail
                      go_ret2
                      have hll := layK_len O ls.length xl ls.length
                      have hown := own_of_blk (lo := w.heap.size) (hi := wr.heap.size) hbk.out (by omega) hbk.out.lt (by rw [hll]; unfold maxLen; omega)
                      rw [hll] at hown
                      rw [HN.out.1, HN.out.2]
                      refine ⟨.slice (some ⟨w9.heap.size, 0, Option.none⟩) ls.length ls.length, ret_val rfl, ?_, HBW.out.trans (hbl.out.mono (by omega))⟩
                      unfold layB
                      rw [HXL.out]
                      exact hown
end Go.Proofs.Ytabiobjcfopakaa
/- Contracts: LeastLengths and LeastCost of the program; what the lengths are. -/
namespace Go.Proofs.Ytabiobjcfopakaa
open Go.RowKit
/-- The place of an index in the order has the length that was found for it. -/
theorem layK_at {os : List Nat} {n : Nat} {l : List Nat} (hn : os.Nodup) (ho : ∀ i ∈ os, i < n) : ∀ (m : Nat), m ≤ os.length → m ≤ l.length → ∀ (k i x : Nat), k < m → os[k]? = some i → l[k]? = some x → (layK os n l m)[i]? = some ((x : Nat) : Int)
  | 0, _, _, k, i, x, hk, _, _ => by omega
  | m + 1, hm, hml, k, i, x, hk, hi, hx => by
    have hj : os[m]? = some os[m] := List.getElem?_eq_getElem (by omega)
    have hy : l[m]? = some l[m] := List.getElem?_eq_getElem (by omega)
    rw [layK_succ hj hy]
    have hil := ho i (List.mem_of_getElem? hi)
    by_cases e : k = m
    · subst e
      rw [hj] at hi; cases hi
      rw [hy] at hx; cases hx
      rw [List.getElem?_set_self (by rw [layK_len]; exact hil)]
    · have hne : os[m] ≠ i := by
        intro e2
        have h1 : os[m]? = os[k]? := by rw [hj, hi, e2]
        have := (List.getElem?_inj (i := m) (j := k) (by omega) hn).1 h1
        omega
      rw [List.getElem?_set_ne hne]
      exact layK_at hn ho m (by omega) (by omega) k i x (by omega) hi hx
theorem layB_at {ws : List Int} {l : List Nat} (hl : l.length = ws.length) {i : Nat} (hi : i < ws.length) : ∃ (k x : Nat), (orderBy (pWei ws) ws.length)[k]? = some i ∧ l[k]? = some x ∧ (layB (orderBy (pWei ws) ws.length) ws.length l)[i]? = some ((x : Nat) : Int) := by
  obtain ⟨k, hk, he⟩ := List.getElem_of_mem (orderBy_mem (p := pWei ws) hi)
  rw [orderBy_len] at hk
  refine ⟨k, l[k], by rw [List.getElem?_eq_getElem (by rw [orderBy_len]; exact hk), he], List.getElem?_eq_getElem (by omega), ?_⟩
  unfold layB
  exact layK_at (orderBy_nodup _ _) (fun j hj => orderBy_lt hj) l.length (by rw [orderBy_len]; omega) (Nat.le_refl _) k i _ (by omega) (by rw [List.getElem?_eq_getElem (by rw [orderBy_len]; exact hk), he]) (List.getElem?_eq_getElem (by omega))
theorem sortW_len (ws : List Int) : (sortW ws).length = ws.length := by unfold sortW; rw [List.length_map, orderBy_len]
theorem sortW_pos {ws : List Int} (h : allB ws 0 10000 = true) : ∀ w ∈ sortW ws, 0 ≤ w := by
  have h1 := sortW_all h
  unfold allB at h1
  rw [List.all_eq_true] at h1
  exact fun w hw => (inB_iff.1 (h1 w hw)).1
theorem askB_iff {ws : List Int} {r l : Int} : askB ws r l = true ↔ (1 ≤ ws.length ∧ ws.length ≤ 20) ∧ allB ws 0 10000 = true ∧ (2 ≤ r ∧ r ≤ 60) ∧ (1 ≤ l ∧ l ≤ 6) := by
  unfold askB weightsB
  simp only [Bool.and_eq_true, inB_iff]
  constructor
  · rintro ⟨⟨⟨h1, h2⟩, h3⟩, h4⟩; exact ⟨by omega, h2, h3, h4⟩
  · rintro ⟨h1, h2, h3, h4⟩; exact ⟨⟨⟨by omega, h2⟩, h3⟩, h4⟩
theorem leastC_ask {ws : List Int} {r l : Int} {x : List Nat × Int} (h : leastC ws r l = some x) : askB ws r l = true ∧ bst r.toNat l.toNat (sortW ws) 1 (r.toNat ^ l.toNat) = some x := by
  unfold leastC at h
  split at h
  · exact ⟨by assumption, h⟩
  · cases h
/-- The lengths that are found. -/
theorem leastL_ok {ws : List Int} {r l : Int} (h : leastB ws r l = true) : lengthsB (leastL ws r l) = true ∧ (leastL ws r l).length = ws.length ∧ ∀ i, i < ws.length → 1 ≤ (leastL ws r l).getD i 0 ∧ (leastL ws r l).getD i 0 ≤ l := by
  unfold leastB at h
  obtain ⟨x, hx⟩ := Option.isSome_iff_exists.1 h
  obtain ⟨ha, hb⟩ := leastC_ask hx
  obtain ⟨h1, h2, h3, h4⟩ := askB_iff.1 ha
  have hbd := bst_bd _ (sortW_pos h2) _ 1 _ rfl _ hb
  rw [sortW_len] at hbd
  have hL : leastL ws r l = layB (orderBy (pWei ws) ws.length) ws.length x.1 := by unfold leastL; rw [hx]
  have hlen : (leastL ws r l).length = ws.length := by rw [hL]; unfold layB; rw [layK_len]
  have hat : ∀ i, i < ws.length → 1 ≤ (leastL ws r l).getD i 0 ∧ (leastL ws r l).getD i 0 ≤ l := by
    intro i hi
    obtain ⟨k, y, _, hy, he⟩ := layB_at hbd.1 hi
    rw [hL, List.getD_eq_getElem?_getD, he]
    have := hbd.2.2.2 y (List.mem_of_getElem? hy)
    simp only [Option.getD_some]
    omega
  refine ⟨?_, hlen, hat⟩
  unfold lengthsB
  rw [Bool.and_eq_true, inB_iff, hlen]
  refine ⟨by omega, ?_⟩
  unfold allB
  rw [List.all_eq_true]
  intro y hy
  obtain ⟨i, hi, rfl⟩ := List.getElem_of_mem hy
  have := hat i (by omega)
  rw [List.getD_eq_getElem?_getD, List.getElem?_eq_getElem hi] at this
  exact inB_iff.2 (by simp only [Option.getD_some] at this; omega)
theorem leastL_no {ws : List Int} {r l : Int} (h : leastB ws r l = false) : leastL ws r l = [] := by
  unfold leastB at h
  cases hx : leastC ws r l with
  | none => unfold leastL; rw [hx]
  | some x => rw [hx] at h; cases h
theorem leastL_len (ws : List Int) (r l : Int) : (leastL ws r l).length ≤ 20 := by
  cases h : leastB ws r l
  · rw [leastL_no h]; simp
  · have h1 := (leastL_ok h).1
    unfold lengthsB at h1
    rw [Bool.and_eq_true, inB_iff] at h1
    omega
def lcostV (ws : List Int) (r l : Int) : Value := if leastB ws r l then .tuple #[.int .i64 (dotI ws (leastL ws r l)), .bool true] else .tuple #[.int .i64 0, .bool false]
theorem lcostV_form (ws : List Int) (r l : Int) : ∃ (p : Int) (q : Bool), lcostV ws r l = .tuple #[.int .i64 p, .bool q] := by unfold lcostV; split <;> exact ⟨_, _, rfl⟩
theorem LeastLengths_any (ls : List Int) (r l : Int) (v : Value) (hi : Nat) (w : World) (h : RdI w hi v ls) (hh : hi ≤ w.heap.size) : Calls Try.prog 62 #[v, .int .i64 r, .int .i64 l] w (RetOwT (leastL ls r l) (leastB ls r l) w) := by
  have CL := Lib.hid (leastLengths_any ls r l v hi w h hh)
  obtain ⟨A, c, rfl, hc, hm⟩ := Rd.form h
  clear h
  go_enter Try.func62, Try.ntmps62
  go_wp2_with fail
  refine CL.out.mono ?_
  rintro e w1 ⟨u, rfl, hu, hb⟩
  obtain ⟨A2, c2, rfl, _⟩ := hu.form
  have HU := Lib.hid hu
  have HB := Lib.hid hb
  clear hu hb
  go_wp2_with fail
  go_ret2
  exact ⟨_, ret_val rfl, HU.out, HB.out⟩
theorem LeastCost_any (ls : List Int) (r l : Int) (v : Value) (hi : Nat) (w : World) (h : RdI w hi v ls) (hh : hi ≤ w.heap.size) : Calls Try.prog 65 #[v, .int .i64 r, .int .i64 l] w fun e w' => e = .returned (lcostV ls r l) ∧ Below w.heap.size w w' := by
  have cL := leastLengths_any ls r l v hi w h hh
  obtain ⟨A, c, rfl, hc, hm⟩ := Rd.form h
  have H := Lib.hid h
  clear h
  cases hb : leastB ls r l
  · rw [hb] at cL
    have CL := Lib.hid cL
    have HV : Hid (lcostV ls r l = .tuple #[.int .i64 0, .bool false]) := by show _ = _; unfold lcostV; rw [hb]; rfl
    clear cL
    go_enter Try.func65, Try.ntmps65
    go_wp2_with fail
    refine CL.out.mono ?_
    rintro e w1 ⟨u, rfl, hu, hb⟩
    obtain ⟨A2, c2, rfl, _⟩ := hu.form
    have HB := Lib.hid hb
    clear hu hb
    go_wp2_with fail
    go_ret2
    exact ⟨ret_val HV.out.symm, HB.out⟩
  · rw [hb] at cL
    have CL := Lib.hid cL
    have HV : Hid (lcostV ls r l = .tuple #[.int .i64 (dotI ls (leastL ls r l)), .bool true]) := by show _ = _; unfold lcostV; rw [hb]; rfl
    have hok := leastL_ok hb
    have HW : Hid (weightsB ls = true) := by
      show _ = _
      unfold leastB at hb
      obtain ⟨x, hx⟩ := Option.isSome_iff_exists.1 hb
      have ha := (leastC_ask hx).1
      unfold askB at ha
      simp only [Bool.and_eq_true] at ha
      exact ha.1.1
    have HOK := Lib.hid hok
    clear cL hok
    go_enter Try.func65, Try.ntmps65
    go_wp2_with fail
    refine CL.out.mono ?_
    rintro e w1 ⟨u, rfl, hu, hb⟩
    obtain ⟨A2, c2, rfl, _⟩ := hu.form
    have HU := Lib.hid hu
    have HB := Lib.hid hb
    have CC := Lib.hid (costOf_any ls (leastL ls r l) _ _ hi w1.heap.size w1 (RdI.below H.out hb hh) hu.rd HW.out HOK.out.1 HOK.out.2.1.symm)
    clear hu hb
    go_wp2_with (first | (go_at_call 167; refine (CC.out).mono ?_; rintro e w' ⟨rfl, rfl⟩))
    go_ret2
    exact ⟨ret_val HV.out.symm, HB.out⟩
end Go.Proofs.Ytabiobjcfopakaa
