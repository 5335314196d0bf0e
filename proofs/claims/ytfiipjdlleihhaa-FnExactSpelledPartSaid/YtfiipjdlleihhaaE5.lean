/- Contracts: how many spellings letters have; of the program and of the reference. -/
import Derived.Test.YtfiipjdlleihhaaE4
namespace Go.Proofs.Ytfiipjdlleihhaa
open Go.RowKit
def lettB (s : ByteArray) : Bool := smallB s.data.toList && decide (s.size ≤ 40)
theorem spLetters_any (s : ByteArray) (hs : s.size ≤ maxLen) (w : World) : Calls Try.prog 97 #[.string s] w fun e w' => e = .returned (.bool (lettB s)) ∧ w = w' := by
  unfold maxLen at hs
  unfold lettB
  go_enter Try.func97, Try.ntmps97
  go_wp2
  go_loop [3] (fun i => ∃ k : Nat, k ≤ s.size ∧ i = .int .i64 k ∧ Hid (smallB (s.data.toList.take k) = true)) (fun i => s.size - (intOf i).toNat)
  case atStart => exact ⟨0, Nat.zero_le _, rfl, rfl⟩
  case round =>
    obtain ⟨k, hk, rfl, hsm⟩ := hrel
    by_cases hlt : k < s.size
    · go_wp2
      · go_ret
        exact ⟨ret_bool (by rw [smallB_no s k hlt (by omega)]; rfl), rfl⟩
      · go_round
        case rel => exact ⟨k + 1, by omega, by go_num, smallB_step s k hlt hsm.out (by omega) (by omega)⟩
        case measure => simp [intOf]; omega
      · go_ret
        exact ⟨ret_bool (by rw [smallB_no s k hlt (by omega)]; rfl), rfl⟩
    · go_wp2
      go_ret
      exact ⟨ret_bool (by rw [smallB_all s k hlt hsm.out, Bool.true_and]; exact decide_eq_decide.2 (by omega)), rfl⟩
theorem isLetters_any (s : ByteArray) (hs : s.size ≤ maxLen) (w : World) : Calls Try.prog 81 #[.string s] w fun e w' => e = .returned (.bool (lettB s)) ∧ w = w' := by
  have cS := isSmall_any s hs
  unfold maxLen at hs
  have CS := Lib.hid cS
  clear cS
  by_cases hl : s.size ≤ 40
  · have HL := Lib.hid hl
    have hl2 : (s.size : Int) ≤ 40 := by omega
    go_enter Try.func81, Try.ntmps81
    go_wp2_with (go_at_call 87; refine (CS.out _).mono ?_; rintro e w' ⟨rfl, rfl⟩)
    go_ret
    exact ⟨ret_bool (by unfold lettB; rw [decide_eq_true HL.out, Bool.and_true]), rfl⟩
  · have HL := Lib.hid hl
    have hl2 : ¬ (s.size : Int) ≤ 40 := by omega
    go_enter Try.func81, Try.ntmps81
    go_wp2_with fail
    go_ret
    exact ⟨ret_bool (by unfold lettB; rw [decide_eq_false HL.out, Bool.and_false]), rfl⟩
theorem spBegins_any (s t : ByteArray) (_hs : s.size ≤ 9223372036854775807) (_ht : t.size ≤ 9223372036854775807) (w : World) :
    Calls Try.prog 80 #[.string s, .string t] w fun e w' => e = .returned (.bool (Lib.hasPrefix s.data.toList t.data.toList)) ∧ w = w' := by
  rw [← Lib.hasPrefix_raw]
  by_cases hl : t.size ≤ s.size
  · rw [decide_eq_true hl, Bool.true_and]
    have hl2 : (t.size : Int) ≤ (s.size : Int) := by omega
    go_enter Try.func80, Try.ntmps80
    go_wp2_with fail
    go_ret
    exact ⟨rfl, rfl⟩
  · rw [decide_eq_false hl, Bool.false_and]
    have hl2 : ¬ (t.size : Int) ≤ (s.size : Int) := by omega
    go_enter Try.func80, Try.ntmps80
    go_wp2_with fail
    go_ret
    exact ⟨rfl, rfl⟩
set_option maxHeartbeats 800000 in
theorem spAsked_any (ps : List Phr) (s : ByteArray) (v : Value) (hi : Nat) (w : World) (hs0 : s.size ≤ maxLen) (h : RdB w hi v ps) (hh : hi ≤ w.heap.size) :
    Calls Try.prog 79 #[v, .string s] w fun e w' => e = .returned (.bool (bookB ps && lettB s)) ∧ Below w.heap.size w w' := by
  obtain ⟨a, rfl, ha⟩ := h
  obtain ⟨A, c, rfl, hc, hm⟩ := ha.form
  have hba : Below w.heap.size w (w.alloc (.cells #[.slice A ps.length c] 40)) := (Below.refl _ _).alloc (Nat.le_refl _) _
  have HB := Lib.hid hba
  have HA := Lib.hid (ha.below hba hh)
  have HG : Hid (RdB (w.alloc (.cells #[.slice A ps.length c] 40)) hi (.agg #[.slice A ps.length c]) ps) := ⟨_, rfl, HA.out⟩
  have hcb0 : (w.alloc (.cells #[.slice A ps.length c] 40)).cell? ⟨w.heap.size, 0, Option.none⟩ = some (.slice A ps.length c) := (Blk.new w 40 #[.slice A ps.length c]).cell 0
  have HCB := Lib.hid hcb0
  have hsz1 : hi ≤ (w.alloc (.cells #[.slice A ps.length c] 40)).heap.size := by simp; omega
  clear ha hba hcb0
  have cB := bkGood_any ps (.agg #[.slice A ps.length c]) hi (w.alloc (.cells #[.slice A ps.length c] 40)) HG.out hsz1
  cases hbk : bookB ps
  · rw [hbk] at cB
    have CB := Lib.hid cB
    clear cB
    go_enter Try.func79, Try.ntmps79
    go_wp2_with (go_at_call 61; refine CB.out.mono ?_; rintro e w1 ⟨rfl, hb1⟩)
    go_ret
    exact ⟨rfl, HB.out.trans (hb1.mono (by simp))⟩
  · rw [hbk] at cB
    have CB := Lib.hid cB
    have HBK := Lib.hid hbk
    clear cB
    go_enter Try.func79, Try.ntmps79
    go_wp2_with fail
    refine CB.out.mono ?_
    rintro e w1 ⟨rfl, hb1⟩
    have hcb := (hb1.cell (p := ⟨w.heap.size, 0, Option.none⟩) (by simp)).trans HCB.out
    have hs1 : w.heap.size + 1 ≤ w1.heap.size := by have := hb1.size; simpa using this
    have HA1 := Lib.hid (HA.out.below hb1 hsz1)
    have HG1 : Hid (RdB w1 hi (.agg #[.slice A ps.length c]) ps) := ⟨_, rfl, HA1.out⟩
    have HB1 := Lib.hid (HB.out.trans (hb1.mono (by simp)))
    clear hb1
    have cL := spLetters_any s hs0 w1
    have CL := Lib.hid cL
    clear cL
    go_wp2_with (go_at_call 97; refine (CL.out).mono ?_; rintro e w' ⟨rfl, rfl⟩)
    go_ret
    exact ⟨rfl, HB1.out⟩
/-- How many spellings. -/
def cntT (ps : List Phr) (s : ByteArray) : Nat := (dpW (fitT s) txtLen ps s.size s.size).getD 0 0
theorem tblZ_head {fit : Nat → Phr → Bool} {len : Phr → Nat} {ps : List Phr} {n : Nat} : (tblZ 0 (dpW fit len ps n n))[0]? = some (.int .i64 (((dpW fit len ps n n).getD 0 0 : Nat) : Int)) := by
  have hl := dpW_len fit len ps n n
  cases e : dpW fit len ps n n with
  | nil => rw [e] at hl; simp at hl
  | cons a l => simp [tblZ]
set_option maxRecDepth 100000 in
set_option maxHeartbeats 4000000 in
theorem sCountSpellings_any (ps : List Phr) (s : ByteArray) (v : Value) (hi : Nat) (w : World) (hs0 : s.size ≤ maxLen) (h : RdB w hi v ps) (hh : hi ≤ w.heap.size) :
    Calls Try.prog 42 #[v, .string s] w fun e w' => e = .returned (cntV (bookB ps && lettB s) (cntT ps s)) ∧ Below w.heap.size w w' := by
  obtain ⟨a, rfl, ha⟩ := h
  obtain ⟨A, c, rfl, hc, hm⟩ := ha.form
  have HA0 := Lib.hid ha
  have hba : Below w.heap.size w (w.alloc (.cells #[.slice A ps.length c] 40)) := (Below.refl _ _).alloc (Nat.le_refl _) _
  have HB := Lib.hid hba
  have HA := Lib.hid (ha.below hba hh)
  have HG : Hid (RdB (w.alloc (.cells #[.slice A ps.length c] 40)) hi (.agg #[.slice A ps.length c]) ps) := ⟨_, rfl, HA.out⟩
  have hcb0 : (w.alloc (.cells #[.slice A ps.length c] 40)).cell? ⟨w.heap.size, 0, Option.none⟩ = some (.slice A ps.length c) := (Blk.new w 40 #[.slice A ps.length c]).cell 0
  have HCB := Lib.hid hcb0
  have hsz1 : hi ≤ (w.alloc (.cells #[.slice A ps.length c] 40)).heap.size := by simp; omega
  clear ha hba hcb0
  have cB := spAsked_any ps s (.agg #[.slice A ps.length c]) hi (w.alloc (.cells #[.slice A ps.length c] 40)) hs0 HG.out hsz1
  cases hbr : (bookB ps && lettB s)
  · rw [hbr] at cB
    have CB := Lib.hid cB
    clear cB
    go_enter Try.func42, Try.ntmps42
    go_wp2_with (go_at_call 79; refine CB.out.mono ?_; rintro e w1 ⟨rfl, hb1⟩)
    go_ret2
    exact ⟨ret_val rfl, HB.out.trans (hb1.mono (by simp))⟩
  · rw [hbr] at cB
    have CB := Lib.hid cB
    have HRB := Lib.hid hbr
    rw [Bool.and_eq_true] at hbr
    have HBK := Lib.hid hbr.1
    have hs40 : s.size ≤ 40 := by have := hbr.2; unfold lettB at this; rw [Bool.and_eq_true, decide_eq_true_eq] at this; exact this.2
    clear cB hbr
    go_enter Try.func42, Try.ntmps42
    go_wp2_with fail
    refine CB.out.mono ?_
    rintro e w1 ⟨rfl, hb1⟩
    have hcb := (hb1.cell (p := ⟨w.heap.size, 0, Option.none⟩) (by simp)).trans HCB.out
    have hs1 : w.heap.size + 1 ≤ w1.heap.size := by have := hb1.size; simpa using this
    have HB1 := Lib.hid (HB.out.trans (hb1.mono (by simp)))
    clear hb1
    have hmk := make_ints (s.size + 1) (by omega)
    rw [show ((s.size + 1 : Nat) : Int) = (s.size : Int) + 1 from rfl] at hmk
    have HBW : Hid (Below w.heap.size w (w1.alloc (.cells ((zeros (s.size + 1)).setIfInBounds s.size (.int .i64 1)) 3))) := HB1.out.trans ((Below.refl w.heap.size w1).alloc (by omega) _)
    have HTB0 : Hid (Blk (w1.alloc (.cells ((zeros (s.size + 1)).setIfInBounds s.size (.int .i64 1)) 3)) w1.heap.size 3 (tblZ s.size (dpW (fitT s) txtLen ps s.size 0))) := by
      have := Blk.new w1 3 ((zeros (s.size + 1)).setIfInBounds s.size (.int .i64 1))
      rw [tblZ_start] at this
      exact this
    have HCBX : Hid ((w1.alloc (.cells ((zeros (s.size + 1)).setIfInBounds s.size (.int .i64 1)) 3)).cell? ⟨w.heap.size, 0, Option.none⟩ = some (.slice A ps.length c)) :=
      (((Below.refl w1.heap.size w1).alloc (Nat.le_refl _) (.cells ((zeros (s.size + 1)).setIfInBounds s.size (.int .i64 1)) 3)).cell (p := ⟨w.heap.size, 0, Option.none⟩) (by show w.heap.size < w1.heap.size; omega)).trans hcb
    have hz0 : (w1.alloc (.cells (zeros (s.size + 1)) 3)).cell? ⟨w1.heap.size, s.size, Option.none⟩ = some (.int .i64 0) := by
      have := (Blk.new w1 3 (zeros (s.size + 1))).cell s.size
      rw [show (zeros (s.size + 1)).toList[s.size]? = some (.int .i64 0) by simp [zeros]] at this
      exact this
    clear hcb
    go_wp2_with fail
    go_loopw [7] (fun i wr => ∃ (m k : Nat) (z : Int), Hid (m + k = s.size) ∧ Hid (z = (m : Int) - 1) ∧ i = .int .i64 z ∧ Hid (Blk wr w1.heap.size 3 (tblZ m (dpW (fitT s) txtLen ps s.size k))) ∧ Hid (Below w1.heap.size (w1.alloc (.cells ((zeros (s.size + 1)).setIfInBounds s.size (.int .i64 1)) 3)) wr)) (fun i _ => (intOf i + 1).toNat)
    case atStart => exact ⟨s.size, 0, (s.size : Int) - 1, rfl, rfl, rfl, HTB0.out, Below.refl _ _⟩
    case round =>
      obtain ⟨m, k, z, hmk1, hz, rfl, hblk, hbr⟩ := hrel
      have hs : w1.heap.size + 1 ≤ wr.heap.size := by have := hblk.out.lt; omega
      rcases m with _ | m
      · obtain rfl : z = -1 := by have := hz.out; omega
        have HK : Hid (k = s.size) := by have := hmk1.out; show k = _; omega
        have h1 := hblk.out
        rw [HK.out] at h1
        have hc0 := h1.cell 0
        rw [tblZ_head] at hc0
        go_wp2_with fail
        go_ret2
        exact ⟨ret_val (by first | rfl | (rw [HRB.out]; rfl)), HBW.out.trans (hbr.out.mono (by omega))⟩
      · obtain rfl : z = (m : Int) := by have := hz.out; omega
        have hm1 : m < s.size := by have := hmk1.out; omega
        have hboxr := (hbr.out.cell (p := ⟨w.heap.size, 0, Option.none⟩) (by show w.heap.size < w1.heap.size; omega)).trans HCBX.out

        rename World => wo
        go_wp2_with fail
        go_loopw [32] (fun i wr => ∃ j : Nat, j ≤ ps.length ∧ i = .int .i64 j ∧ Hid (Blk wr w1.heap.size 3 (tblC m (wayAt (fitT s m) txtLen (ps.take j) (dpW (fitT s) txtLen ps s.size k)) (dpW (fitT s) txtLen ps s.size k))) ∧ Hid (Below w1.heap.size (w1.alloc (.cells ((zeros (s.size + 1)).setIfInBounds s.size (.int .i64 1)) 3)) wr)) (fun i _ => ps.length - (intOf i).toNat)
        case atStart => exact ⟨0, Nat.zero_le _, rfl, by have := hblk.out; rw [tblZ_down] at this; exact this, hbr⟩
        case round =>
          obtain ⟨j, hjl, rfl, hblk2, hbr2⟩ := hrel
          have hs2 : w1.heap.size + 1 ≤ wr.heap.size := by have := hblk2.out.lt; omega
          have HBR := Lib.hid (HBW.out.trans (hbr2.out.mono (by omega)))
          by_cases hlt : j < ps.length
          · obtain ⟨b1, o1, c1, a, t, xs, hv, hb1, hx, hcell1, hcell2, hra, hta⟩ := (HA0.out.below HBR.out (by omega)).at_ hlt
            cases hv
            obtain ⟨A2, c2, rfl, hc2, hm2⟩ := Rd.form hra
            have HX := Lib.hid hx
            have HRA := Lib.hid hra
            clear hra
            have hfit : fitT s m (t, xs) = Lib.hasPrefix (s.extract m s.size).data.toList t.data.toList := rfl
            have HF := Lib.hid hfit
            have HAP := Lib.hid (((apart_txt HBK.out s m).2 (t, xs) (List.mem_of_getElem? HX.out)))
            have HBP := Lib.hid (hbr2.out.alloc (show w1.heap.size ≤ wr.heap.size by omega) (.cells #[.string t, .slice A2 xs.length c2] 66))
            have HBLP : Hid (Blk (wr.alloc (.cells #[.string t, .slice A2 xs.length c2] 66)) w1.heap.size 3 (tblC m (wayAt (fitT s m) txtLen (ps.take j) (dpW (fitT s) txtLen ps s.size k)) (dpW (fitT s) txtLen ps s.size k))) := hblk2.out.alloc _
            clear hx hfit
            have cB := fun n => still_of (spBegins_any (s.extract m s.size) t (by simp; omega) hta ((wr.alloc (.cells #[.string t, .slice A2 xs.length c2] 66)).drewN n))
            cases hbg : Lib.hasPrefix (s.extract m s.size).data.toList t.data.toList
            · rw [hbg] at cB
              have CB := Lib.hid cB
              have HBG := Lib.hid hbg
              clear cB hbg
              go_wp2_with fail
              go_quiet ((go_at_call 80; exact Calls.quiet_of_same (CB.out _)))
              go_wp2_with fail
              go_roundw
              case rel => exact ⟨j + 1, by omega, by go_num, by rw [wayAt_snoc HX.out, HF.out, HBG.out]; exact HBLP.out, HBP.out.trans (bel_drewN _ _ _)⟩
              case measure => simp [intOf]; omega
            · rw [hbg] at cB
              have CB := Lib.hid cB
              have HBG := Lib.hid hbg
              have hl := HAP.out (by rw [HF.out, HBG.out])
              have hl1 : 1 ≤ t.size := hl.1
              have hl2 : t.size ≤ s.size - m := hl.2
              have hmk2 := hmk1.out
              obtain ⟨va, hva⟩ : ∃ va, va = wayAt (fitT s m) txtLen (ps.take j) (dpW (fitT s) txtLen ps s.size k) := ⟨_, rfl⟩
              obtain ⟨vb, hvb⟩ : ∃ vb, (dpW (fitT s) txtLen ps s.size k)[t.size - 1]? = some vb := ⟨_, List.getElem?_eq_getElem (by rw [dpW_len]; omega)⟩
              have hsum : va + vb ≤ 2 ^ 61 := by
                have h1 : va < 2 ^ (s.size - m) := by rw [hva]; exact wayAt_lt ((apart_txt HBK.out s m).take j) (fun i q hq => by have := (dpW_txt HBK.out s) k (by omega) i q hq; rwa [show s.size - m - (i + 1) = k - i by omega])
                have h2 := (dpW_txt HBK.out s) k (by omega) _ _ hvb
                have h3 : 2 ^ (s.size - m) ≤ 2 ^ 60 := Nat.pow_le_pow_right (by decide) (by omega)
                have h4 : 2 ^ (k - (t.size - 1)) ≤ 2 ^ 60 := Nat.pow_le_pow_right (by decide) (by omega)
                omega
              have HVA := Lib.hid hva
              have HVB := Lib.hid hvb
              have HS := Lib.hid hsum
              have HMK := Lib.hid hmk2
              rw [← HVA.out] at HBLP
              have c0 := HBLP.out.cell m
              rw [tblC_at] at c0
              have c1' := HBLP.out.cell (m + t.size)
              rw [show m + t.size = m + 1 + (t.size - 1) by omega, tblC_on hvb, show m + 1 + (t.size - 1) = m + t.size by omega] at c1'
              have f0 := HBLP.out.frozen m
              have i1 : IntKind.i64.wrap ((m : Int) + (t.size : Int)) = (m : Int) + (t.size : Int) := wrap_in (by omega)
              have i2 : (0 : Int) ≤ (m : Int) + (t.size : Int) := by omega
              have i3 : (m : Int) + (t.size : Int) < (s.size : Int) + 1 := by omega
              have i4 : ((m : Int) + (t.size : Int)).toNat = m + t.size := by omega
              have i6 : (m : Int) < (s.size : Int) + 1 := by omega
              have i7 : (0 : Int) ≤ (m : Int) := by omega
              have i8 : ((m : Int)).toNat = m := by omega
              have i5 : IntKind.i64.wrap ((va : Int) + (vb : Int)) = (va : Int) + (vb : Int) := wrap_in (by omega)
              clear cB hbg hl hva hvb hsum hmk2
              go_wp2_with fail
              go_quiet ((go_at_call 80; exact Calls.quiet_of_same (CB.out _)))
              go_wp2_with fail
              have d0 : ((wr.alloc (.cells #[.string t, .slice A2 xs.length c2] 66)).drewN nq).cell? ⟨w1.heap.size, m, Option.none⟩ = some (.int .i64 (va : Int)) := c0
              have d1 : ((wr.alloc (.cells #[.string t, .slice A2 xs.length c2] 66)).drewN nq).cell? ⟨w1.heap.size, m + t.size, Option.none⟩ = some (.int .i64 (vb : Int)) := c1'
              have d2 : ((wr.alloc (.cells #[.string t, .slice A2 xs.length c2] 66)).drewN nq).frozen? ⟨w1.heap.size, m, Option.none⟩ = false := f0
              have d3 : ((wr.alloc (.cells #[.string t, .slice A2 xs.length c2] 66)).drewN nq).cell? ⟨wr.heap.size, 0, Option.none⟩ = some (.string t) := (Blk.new wr 66 #[.string t, .slice A2 xs.length c2]).cell 0
              have HBQ := Lib.hid (HBP.out.trans (bel_drewN w1.heap.size (wr.alloc (.cells #[.string t, .slice A2 xs.length c2] 66)) nq))
              have HBLQ : Hid (Blk ((wr.alloc (.cells #[.string t, .slice A2 xs.length c2] 66)).drewN nq) w1.heap.size 3 (tblC m va (dpW (fitT s) txtLen ps s.size k))) := HBLP.out
              clear c0 c1' f0
              generalize (wr.alloc (.cells #[.string t, .slice A2 xs.length c2] 66)).drewN nq = wq at d0 d1 d2 d3 HBQ HBLQ ⊢
              go_still_tail 14, (by kernel_rfl)
              change wpList _ _ _ _ _ wq.drew
              clear i1 i2 i3 i4 i5 i6 i7 i8 d1 d3
              have d4 : wq.drew.frozen? ⟨w1.heap.size, m, Option.none⟩ = false := d2
              have d5 : wq.drew.cell? ⟨w1.heap.size, m, Option.none⟩ = some (.int .i64 (va : Int)) := d0
              clear d2 d0
              go_wp2_with fail
              go_roundw
              case rel =>
                refine ⟨j + 1, by omega, by go_num, ?_, ?_⟩
                · rw [wayAt_snoc HX.out, HF.out, HBG.out]
                  show Blk _ _ _ (tblC m (_ + List.getD _ (t.size - 1) 0) _)
                  rw [← HVA.out, List.getD_eq_getElem?_getD, HVB.out]
                  have := Blk.set_ (show Blk wq.drew w1.heap.size 3 _ from HBLQ.out) m (.int .i64 ((va + vb : Nat) : Int))
                  rw [tblC_set] at this
                  exact this
                · exact (HBQ.out.drew).setCell (Nat.le_refl _) _
              case measure => simp [intOf]; omega
          · obtain rfl : j = ps.length := by omega
            go_wp2_with fail
            go_roundw
            case rel => exact ⟨m, k + 1, (m : Int) - 1, by have := hmk1.out; show m + (k + 1) = _; omega, rfl, rfl, by
              have h1 := hblk2.out
              rw [List.take_of_length_le (Nat.le_refl _), tblC_Z] at h1
              have h2 : s.size - (k + 1) = m := by have := hmk1.out; omega
              show Blk _ _ _ (tblZ m (dpW _ _ _ _ (k + 1)))
              rw [dpW, h2]; exact h1, hbr2⟩
            case measure => (simp [intOf]; try omega)
set_option maxRecDepth 100000 in
set_option maxHeartbeats 4000000 in
theorem CountSpellings_any (ps : List Phr) (s : ByteArray) (v : Value) (hi : Nat) (w : World) (hs0 : s.size ≤ maxLen) (h : RdB w hi v ps) (hh : hi ≤ w.heap.size) :
    Calls Try.prog 43 #[v, .string s] w fun e w' => e = .returned (cntV (bookB ps && lettB s) (cntT ps s)) ∧ Below w.heap.size w w' := by
  obtain ⟨a, rfl, ha⟩ := h
  obtain ⟨A, c, rfl, hc, hm⟩ := ha.form
  have HA0 := Lib.hid ha
  have hba : Below w.heap.size w (w.alloc (.cells #[.slice A ps.length c] 40)) := (Below.refl _ _).alloc (Nat.le_refl _) _
  have HB := Lib.hid hba
  have HA := Lib.hid (ha.below hba hh)
  have HG : Hid (RdB (w.alloc (.cells #[.slice A ps.length c] 40)) hi (.agg #[.slice A ps.length c]) ps) := ⟨_, rfl, HA.out⟩
  have hcb0 : (w.alloc (.cells #[.slice A ps.length c] 40)).cell? ⟨w.heap.size, 0, Option.none⟩ = some (.slice A ps.length c) := (Blk.new w 40 #[.slice A ps.length c]).cell 0
  have HCB := Lib.hid hcb0
  have hsz1 : hi ≤ (w.alloc (.cells #[.slice A ps.length c] 40)).heap.size := by simp; omega
  clear ha hba hcb0
  have cB := IsBook_any ps (.agg #[.slice A ps.length c]) hi (w.alloc (.cells #[.slice A ps.length c] 40)) HG.out hsz1
  cases hbk : bookB ps
  · rw [hbk] at cB
    have CB := Lib.hid cB
    clear cB
    go_enter Try.func43, Try.ntmps43
    go_wp2_with (go_at_call 28; refine CB.out.mono ?_; rintro e w1 ⟨rfl, hb1⟩)
    go_ret2
    exact ⟨ret_val rfl, HB.out.trans (hb1.mono (by simp))⟩
  · rw [hbk] at cB
    have CB := Lib.hid cB
    have HBK := Lib.hid hbk
    clear cB
    go_enter Try.func43, Try.ntmps43
    go_wp2_with fail
    refine CB.out.mono ?_
    rintro e w1 ⟨rfl, hb1⟩
    have hcb := (hb1.cell (p := ⟨w.heap.size, 0, Option.none⟩) (by simp)).trans HCB.out
    have hs1 : w.heap.size + 1 ≤ w1.heap.size := by have := hb1.size; simpa using this
    have HA1 := Lib.hid (HA.out.below hb1 hsz1)
    have HG1 : Hid (RdB w1 hi (.agg #[.slice A ps.length c]) ps) := ⟨_, rfl, HA1.out⟩
    have HB1 := Lib.hid (HB.out.trans (hb1.mono (by simp)))
    clear hb1
    have cR := isLetters_any s hs0 w1
    cases hrd : lettB s
    · rw [hrd] at cR
      have CR := Lib.hid cR
      clear cR
      go_wp2_with (go_at_call 81; refine (CR.out).mono ?_; rintro e w' ⟨rfl, rfl⟩)
      go_ret2
      exact ⟨ret_val (by rw [hrd]; rfl), HB1.out⟩
    · rw [hrd] at cR
      have CR := Lib.hid cR
      have HRB : Hid ((true && lettB s) = true) := hrd
      have hs40 : s.size ≤ 40 := by have := hrd; unfold lettB at this; rw [Bool.and_eq_true, decide_eq_true_eq] at this; exact this.2
      clear cR hrd
      have hmk := make_ints (s.size + 1) (by omega)
      rw [show ((s.size + 1 : Nat) : Int) = (s.size : Int) + 1 from rfl] at hmk
      have HBW : Hid (Below w.heap.size w (w1.alloc (.cells ((zeros (s.size + 1)).setIfInBounds s.size (.int .i64 1)) 3))) := HB1.out.trans ((Below.refl w.heap.size w1).alloc (by omega) _)
      have HTB0 : Hid (Blk (w1.alloc (.cells ((zeros (s.size + 1)).setIfInBounds s.size (.int .i64 1)) 3)) w1.heap.size 3 (tblZ s.size (dpW (fitT s) txtLen ps s.size 0))) := by
        have := Blk.new w1 3 ((zeros (s.size + 1)).setIfInBounds s.size (.int .i64 1))
        rw [tblZ_start] at this
        exact this
      have HCBX : Hid ((w1.alloc (.cells ((zeros (s.size + 1)).setIfInBounds s.size (.int .i64 1)) 3)).cell? ⟨w.heap.size, 0, Option.none⟩ = some (.slice A ps.length c)) :=
        (((Below.refl w1.heap.size w1).alloc (Nat.le_refl _) (.cells ((zeros (s.size + 1)).setIfInBounds s.size (.int .i64 1)) 3)).cell (p := ⟨w.heap.size, 0, Option.none⟩) (by show w.heap.size < w1.heap.size; omega)).trans hcb
      have hz0 : (w1.alloc (.cells (zeros (s.size + 1)) 3)).cell? ⟨w1.heap.size, s.size, Option.none⟩ = some (.int .i64 0) := by
        have := (Blk.new w1 3 (zeros (s.size + 1))).cell s.size
        rw [show (zeros (s.size + 1)).toList[s.size]? = some (.int .i64 0) by simp [zeros]] at this
        exact this
      clear hcb
      go_wp2_with (go_at_call 81; refine (CR.out).mono ?_; rintro e w' ⟨rfl, rfl⟩)
      go_loopw [7] (fun i wr => ∃ (m k : Nat) (z : Int), Hid (m + k = s.size) ∧ Hid (z = (m : Int) - 1) ∧ i = .int .i64 z ∧ Hid (Blk wr w1.heap.size 3 (tblZ m (dpW (fitT s) txtLen ps s.size k))) ∧ Hid (Below w1.heap.size (w1.alloc (.cells ((zeros (s.size + 1)).setIfInBounds s.size (.int .i64 1)) 3)) wr)) (fun i _ => (intOf i + 1).toNat)
      case atStart => exact ⟨s.size, 0, (s.size : Int) - 1, rfl, rfl, rfl, HTB0.out, Below.refl _ _⟩
      case round =>
        obtain ⟨m, k, z, hmk1, hz, rfl, hblk, hbr⟩ := hrel
        have hs : w1.heap.size + 1 ≤ wr.heap.size := by have := hblk.out.lt; omega
        rcases m with _ | m
        · obtain rfl : z = -1 := by have := hz.out; omega
          have HK : Hid (k = s.size) := by have := hmk1.out; show k = _; omega
          have h1 := hblk.out
          rw [HK.out] at h1
          have hc0 := h1.cell 0
          rw [tblZ_head] at hc0
          go_wp2_with fail
          go_ret2
          exact ⟨ret_val (by first | rfl | (rw [HRB.out]; rfl)), HBW.out.trans (hbr.out.mono (by omega))⟩
        · obtain rfl : z = (m : Int) := by have := hz.out; omega
          have hm1 : m < s.size := by have := hmk1.out; omega
          have hboxr := (hbr.out.cell (p := ⟨w.heap.size, 0, Option.none⟩) (by show w.heap.size < w1.heap.size; omega)).trans HCBX.out

          rename World => wo
          go_wp2_with fail
          go_loopw [36] (fun i wr => ∃ j : Nat, j ≤ ps.length ∧ i = .int .i64 j ∧ Hid (Blk wr w1.heap.size 3 (tblC m (wayAt (fitT s m) txtLen (ps.take j) (dpW (fitT s) txtLen ps s.size k)) (dpW (fitT s) txtLen ps s.size k))) ∧ Hid (Below w1.heap.size (w1.alloc (.cells ((zeros (s.size + 1)).setIfInBounds s.size (.int .i64 1)) 3)) wr)) (fun i _ => ps.length - (intOf i).toNat)
          case atStart => exact ⟨0, Nat.zero_le _, rfl, by have := hblk.out; rw [tblZ_down] at this; exact this, hbr⟩
          case round =>
            obtain ⟨j, hjl, rfl, hblk2, hbr2⟩ := hrel
            have hs2 : w1.heap.size + 1 ≤ wr.heap.size := by have := hblk2.out.lt; omega
            have HBR := Lib.hid (HBW.out.trans (hbr2.out.mono (by omega)))
            by_cases hlt : j < ps.length
            · obtain ⟨b1, o1, c1, a, t, xs, hv, hb1, hx, hcell1, hcell2, hra, hta⟩ := (HA0.out.below HBR.out (by omega)).at_ hlt
              cases hv
              obtain ⟨A2, c2, rfl, hc2, hm2⟩ := Rd.form hra
              have HX := Lib.hid hx
              have HRA := Lib.hid hra
              clear hra
              have hfit : fitT s m (t, xs) = Lib.hasPrefix (s.extract m s.size).data.toList t.data.toList := rfl
              have HF := Lib.hid hfit
              have HAP := Lib.hid (((apart_txt HBK.out s m).2 (t, xs) (List.mem_of_getElem? HX.out)))
              have HBP := Lib.hid (hbr2.out.alloc (show w1.heap.size ≤ wr.heap.size by omega) (.cells #[.string t, .slice A2 xs.length c2] 66))
              have HBLP : Hid (Blk (wr.alloc (.cells #[.string t, .slice A2 xs.length c2] 66)) w1.heap.size 3 (tblC m (wayAt (fitT s m) txtLen (ps.take j) (dpW (fitT s) txtLen ps s.size k)) (dpW (fitT s) txtLen ps s.size k))) := hblk2.out.alloc _
              clear hx hfit
              have cB := fun n => Try.strings_HasPrefix (s.extract m s.size) t ((wr.alloc (.cells #[.string t, .slice A2 xs.length c2] 66)).drewN n)
              cases hbg : Lib.hasPrefix (s.extract m s.size).data.toList t.data.toList
              · rw [hbg] at cB
                have CB := Lib.hid cB
                have HBG := Lib.hid hbg
                clear cB hbg
                go_wp2_with fail
                go_quiet ((go_at_call 82; exact Calls.quiet_of_same (CB.out _)))
                go_wp2_with fail
                go_roundw
                case rel => exact ⟨j + 1, by omega, by go_num, by rw [wayAt_snoc HX.out, HF.out, HBG.out]; exact HBLP.out, HBP.out.trans (bel_drewN _ _ _)⟩
                case measure => simp [intOf]; omega
              · rw [hbg] at cB
                have CB := Lib.hid cB
                have HBG := Lib.hid hbg
                have hl := HAP.out (by rw [HF.out, HBG.out])
                have hl1 : 1 ≤ t.size := hl.1
                have hl2 : t.size ≤ s.size - m := hl.2
                have hmk2 := hmk1.out
                obtain ⟨va, hva⟩ : ∃ va, va = wayAt (fitT s m) txtLen (ps.take j) (dpW (fitT s) txtLen ps s.size k) := ⟨_, rfl⟩
                obtain ⟨vb, hvb⟩ : ∃ vb, (dpW (fitT s) txtLen ps s.size k)[t.size - 1]? = some vb := ⟨_, List.getElem?_eq_getElem (by rw [dpW_len]; omega)⟩
                have hsum : va + vb ≤ 2 ^ 61 := by
                  have h1 : va < 2 ^ (s.size - m) := by rw [hva]; exact wayAt_lt ((apart_txt HBK.out s m).take j) (fun i q hq => by have := (dpW_txt HBK.out s) k (by omega) i q hq; rwa [show s.size - m - (i + 1) = k - i by omega])
                  have h2 := (dpW_txt HBK.out s) k (by omega) _ _ hvb
                  have h3 : 2 ^ (s.size - m) ≤ 2 ^ 60 := Nat.pow_le_pow_right (by decide) (by omega)
                  have h4 : 2 ^ (k - (t.size - 1)) ≤ 2 ^ 60 := Nat.pow_le_pow_right (by decide) (by omega)
                  omega
                have HVA := Lib.hid hva
                have HVB := Lib.hid hvb
                have HS := Lib.hid hsum
                have HMK := Lib.hid hmk2
                rw [← HVA.out] at HBLP
                have c0 := HBLP.out.cell m
                rw [tblC_at] at c0
                have c1' := HBLP.out.cell (m + t.size)
                rw [show m + t.size = m + 1 + (t.size - 1) by omega, tblC_on hvb, show m + 1 + (t.size - 1) = m + t.size by omega] at c1'
                have f0 := HBLP.out.frozen m
                have i1 : IntKind.i64.wrap ((m : Int) + (t.size : Int)) = (m : Int) + (t.size : Int) := wrap_in (by omega)
                have i2 : (0 : Int) ≤ (m : Int) + (t.size : Int) := by omega
                have i3 : (m : Int) + (t.size : Int) < (s.size : Int) + 1 := by omega
                have i4 : ((m : Int) + (t.size : Int)).toNat = m + t.size := by omega
                have i6 : (m : Int) < (s.size : Int) + 1 := by omega
                have i7 : (0 : Int) ≤ (m : Int) := by omega
                have i8 : ((m : Int)).toNat = m := by omega
                have i5 : IntKind.i64.wrap ((va : Int) + (vb : Int)) = (va : Int) + (vb : Int) := wrap_in (by omega)
                clear cB hbg hl hva hvb hsum hmk2
                go_wp2_with fail
                go_quiet ((go_at_call 82; exact Calls.quiet_of_same (CB.out _)))
                go_wp2_with fail
                have d0 : ((wr.alloc (.cells #[.string t, .slice A2 xs.length c2] 66)).drewN nq).cell? ⟨w1.heap.size, m, Option.none⟩ = some (.int .i64 (va : Int)) := c0
                have d1 : ((wr.alloc (.cells #[.string t, .slice A2 xs.length c2] 66)).drewN nq).cell? ⟨w1.heap.size, m + t.size, Option.none⟩ = some (.int .i64 (vb : Int)) := c1'
                have d2 : ((wr.alloc (.cells #[.string t, .slice A2 xs.length c2] 66)).drewN nq).frozen? ⟨w1.heap.size, m, Option.none⟩ = false := f0
                have d3 : ((wr.alloc (.cells #[.string t, .slice A2 xs.length c2] 66)).drewN nq).cell? ⟨wr.heap.size, 0, Option.none⟩ = some (.string t) := (Blk.new wr 66 #[.string t, .slice A2 xs.length c2]).cell 0
                have HBQ := Lib.hid (HBP.out.trans (bel_drewN w1.heap.size (wr.alloc (.cells #[.string t, .slice A2 xs.length c2] 66)) nq))
                have HBLQ : Hid (Blk ((wr.alloc (.cells #[.string t, .slice A2 xs.length c2] 66)).drewN nq) w1.heap.size 3 (tblC m va (dpW (fitT s) txtLen ps s.size k))) := HBLP.out
                clear c0 c1' f0
                generalize (wr.alloc (.cells #[.string t, .slice A2 xs.length c2] 66)).drewN nq = wq at d0 d1 d2 d3 HBQ HBLQ ⊢
                go_still_tail 14, (by kernel_rfl)
                change wpList _ _ _ _ _ wq.drew
                clear i1 i2 i3 i4 i5 i6 i7 i8 d1 d3
                have d4 : wq.drew.frozen? ⟨w1.heap.size, m, Option.none⟩ = false := d2
                have d5 : wq.drew.cell? ⟨w1.heap.size, m, Option.none⟩ = some (.int .i64 (va : Int)) := d0
                clear d2 d0
                go_wp2_with fail
                go_roundw
                case rel =>
                  refine ⟨j + 1, by omega, by go_num, ?_, ?_⟩
                  · rw [wayAt_snoc HX.out, HF.out, HBG.out]
                    show Blk _ _ _ (tblC m (_ + List.getD _ (t.size - 1) 0) _)
                    rw [← HVA.out, List.getD_eq_getElem?_getD, HVB.out]
                    have := Blk.set_ (show Blk wq.drew w1.heap.size 3 _ from HBLQ.out) m (.int .i64 ((va + vb : Nat) : Int))
                    rw [tblC_set] at this
                    exact this
                  · exact (HBQ.out.drew).setCell (Nat.le_refl _) _
                case measure => simp [intOf]; omega
            · obtain rfl : j = ps.length := by omega
              go_wp2_with fail
              go_roundw
              case rel => exact ⟨m, k + 1, (m : Int) - 1, by have := hmk1.out; show m + (k + 1) = _; omega, rfl, rfl, by
                have h1 := hblk2.out
                rw [List.take_of_length_le (Nat.le_refl _), tblC_Z] at h1
                have h2 : s.size - (k + 1) = m := by have := hmk1.out; omega
                show Blk _ _ _ (tblZ m (dpW _ _ _ _ (k + 1)))
                rw [dpW, h2]; exact h1, hbr2⟩
              case measure => (simp [intOf]; try omega)
end Go.Proofs.Ytfiipjdlleihhaa
