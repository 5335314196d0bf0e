/- Contracts of the tests whether a book is valid, of the program. -/
import Derived.Test.YtabiobjcfopakaaD5
namespace Go.Proofs.Ytabiobjcfopakaa
open Go.RowKit
set_option maxRecDepth 100000 in
set_option maxHeartbeats 4000000 in
theorem IsBook_any (ps : List Phr) (v : Value) (hi : Nat) (w : World) (h : RdB w hi v ps) (hh : hi ≤ w.heap.size) :
    Calls Try.prog 137 #[v] w fun e w' => e = .returned (.bool (bookB ps)) ∧ Below w.heap.size w w' := by
  obtain ⟨a, rfl, ha⟩ := h
  obtain ⟨A, c, rfl, hc, hm⟩ := ha.form
  have hba : Below w.heap.size w (w.alloc (.cells #[.slice A ps.length c] 48)) := (Below.refl _ _).alloc (Nat.le_refl _) _
  have HBA := Lib.hid hba
  have H := Lib.hid (ha.below hba hh)
  have hbox : (w.alloc (.cells #[.slice A ps.length c] 48)).cell? ⟨w.heap.size, 0, Option.none⟩ = some (.slice A ps.length c) := (Blk.new w 48 #[.slice A ps.length c]).cell 0
  have HBOX := Lib.hid hbox
  clear ha hba hbox
  cases hl40 : inB ps.length 1 40
  · go_enter Try.func137, Try.ntmps137
    go_wp2_with (go_at_call 125; refine (within_any _ _ _ _).mono ?_; rintro e w' ⟨rfl, rfl⟩)
    go_ret
    exact ⟨ret_bool (by unfold bookB; rw [hl40]; rfl), HBA.out⟩
  go_enter Try.func137, Try.ntmps137
  go_wp2_with (go_at_call 125; refine (within_any _ _ _ _).mono ?_; rintro e w' ⟨rfl, rfl⟩)
  go_loopw [13] (fun i wr => ∃ k : Nat, k ≤ ps.length ∧ i = .int .i64 k ∧ Hid (∀ j, j < k → goodAt ps j = true) ∧ Below (w.heap.size + 1) (w.alloc (.cells #[.slice A ps.length c] 48)) wr) (fun i _ => ps.length - (intOf i).toNat)
  case atStart => exact ⟨0, Nat.zero_le _, rfl, fun j hj => by omega, Below.refl _ _⟩
  case round =>
    obtain ⟨k, hk, rfl, hup, hbr⟩ := hrel
    have hs : w.heap.size + 1 ≤ wr.heap.size := by have := hbr.size; simpa using this
    have hboxr : wr.cell? ⟨w.heap.size, 0, Option.none⟩ = some (.slice A ps.length c) := (hbr.cell (p := ⟨w.heap.size, 0, Option.none⟩) (by show w.heap.size < _; omega)).trans HBOX.out
    by_cases hlt : k < ps.length
    · obtain ⟨b1, o1, c1, a, t, xs, hv, hb1, hx, hcell1, hcell2, hra, hta⟩ := (H.out.below hbr (by omega)).at_ hlt
      cases hv
      obtain ⟨A2, c2, rfl, hc2, hm2⟩ := Rd.form hra
      have HX := Lib.hid hx
      have HBR := Lib.hid (HBA.out.trans (hbr.mono (by omega)))
      have hbw1 : Below (w.heap.size + 1) (w.alloc (.cells #[.slice (some ⟨b1, o1, Option.none⟩) ps.length c] 48)) (wr.alloc (.cells #[.string t, .slice A2 xs.length c2] 60)) := hbr.alloc hs _
      have HBR2 := Lib.hid hbw1
      have hra2 := hra.below ((Below.refl wr.heap.size wr).alloc (Nat.le_refl _) (.cells #[.string t, .slice A2 xs.length c2] 60)) (by omega)
      have HRA := Lib.hid hra2
      have HPS : Hid (RdB (wr.alloc (.cells #[.string t, .slice A2 xs.length c2] 60)) hi (.agg #[.slice (some ⟨b1, o1, Option.none⟩) ps.length c]) ps) := ⟨_, rfl, H.out.below hbw1 (by omega)⟩
      have HPQ : Hid (RdPS (wr.alloc (.cells #[.string t, .slice A2 xs.length c2] 60)) hi (.slice (some ⟨b1, o1, Option.none⟩) ps.length c) ps) := H.out.below hbw1 (by omega)
      have hlat := fun {b o : Nat} {u : Value} (hq : (wr.alloc (.cells #[.string t, .slice A2 xs.length c2] 60)).cell? ⟨b, o, Option.none⟩ = some u) (hb : b < wr.heap.size + 1) => later_cell (B := wr.heap.size + 1) hq hb
      have l0 := hlat ((Blk.new wr 60 #[.string t, .slice A2 xs.length c2]).cell 0) (by omega)
      have l1 := hlat ((Blk.new wr 60 #[.string t, .slice A2 xs.length c2]).cell 1) (by omega)
      have lb := hlat ((hbw1.cell (p := ⟨w.heap.size, 0, Option.none⟩) (by show w.heap.size < _; omega)).trans HBOX.out) (by omega)
      clear hlat hra hra2 hx hbw1 hbr hboxr
      have hxs : wr.heap.size + 1 ≤ (wr.alloc (.cells #[.string t, .slice A2 xs.length c2] 60)).heap.size := by simp
      have HXS := Lib.hid hxs
      clear hxs
      have hcut : RdB (wr.alloc (.cells #[.string t, .slice A2 xs.length c2] 60)) hi (.agg #[.slice (some ⟨b1, o1, Option.none⟩) k c]) (ps.take k) := ⟨_, rfl, HPQ.out.cut hk⟩
      have HCUT := Lib.hid hcut
      clear hcut
      have cT := fun x : LaterW (wr.heap.size + 1) (wr.alloc (.cells #[.string t, .slice A2 xs.length c2] 60)) => isPhrase_any (t, xs) (.agg #[.string t, .slice A2 xs.length c2]) hi x.val ⟨_, rfl, HRA.out.below x.bel (by omega), hta⟩ (by have := x.bel.size; have := HXS.out; omega)
      have cO := fun x : LaterW (wr.heap.size + 1) (wr.alloc (.cells #[.string t, .slice A2 xs.length c2] 60)) => phraseIndex_any (ps.take k) xs (.agg #[.slice (some ⟨b1, o1, Option.none⟩) k c]) (.slice A2 xs.length c2) hi hi x.val (HCUT.out.below x.bel (by omega)) (HRA.out.below x.bel (by omega)) (by have := x.bel.size; have := HXS.out; omega) (by have := x.bel.size; have := HXS.out; omega)
      have hkc : (k : Int) ≤ (c : Int) := by omega
      have hk0' : (0 : Int) ≤ (k : Int) := by omega
      cases hp1 : phrOk (t, xs)
      · rw [hp1] at cT
        have CT := Lib.hid cT
        have CO := Lib.hid cO
        clear cT cO
        go_wp2_with fail
        refine wp_region_later (wr.heap.size + 1) (by kernel_rfl) (by kernel_rfl) ?_; (repeat (go_big_quiet_step ((first | (go_at_call 169; exact later_of HXS.out (CT.out _)) | (go_at_call 217; exact later_of HXS.out (CO.out _)))))); refine later_nil ?_; intro w2 hb2
        go_wp2_with fail
        go_ret
        exact ⟨ret_bool (bookB_no hlt (goodAt_phr HX.out hp1)).symm, (HBA.out.trans (HBR2.out.mono (by omega))).trans (hb2.mono (by omega))⟩
      · have HP := Lib.hid hp1
        rw [hp1] at cT
        have CT := Lib.hid cT
        have CO := Lib.hid cO
        clear cT cO
        rcases Nat.eq_zero_or_pos k with h0 | hpos
        · have hk0 : decide (0 < k) = false := by rw [decide_eq_false_iff_not]; omega
          have H0 := Lib.hid h0
          clear h0
          by_cases hix : sigIx (ps.take k) xs = Option.none
          · have hne : decide (0 ≤ ixI (sigIx (ps.take k) xs)) = false := by rw [decide_eq_false_iff_not, ixI_nonneg]; exact fun h => h hix
            have HIX := Lib.hid hix
            clear hix
            go_wp2_with fail
            refine wp_region_later (wr.heap.size + 1) (by kernel_rfl) (by kernel_rfl) ?_; (repeat (go_big_quiet_step ((first | (go_at_call 169; exact later_of HXS.out (CT.out _)) | (go_at_call 217; exact later_of HXS.out (CO.out _)))))); refine later_nil ?_; intro w2 hb2
            go_wp2_with fail
            go_roundw
            case rel => exact ⟨k + 1, by omega, by go_num, fun j hj => by
              obtain rfl : k = 0 := H0.out
              obtain rfl : j = 0 := by omega
              exact goodAt_0 HX.out HP.out ((sigIx_take HX.out).2 HIX.out), HBR2.out.trans (hb2.mono (by omega))⟩
            case measure => simp [intOf]; omega
          · have hne : decide (0 ≤ ixI (sigIx (ps.take k) xs)) = true := by rw [decide_eq_true_eq, ixI_nonneg]; exact hix
            have HIX := Lib.hid hix
            clear hix
            go_wp2_with fail
            refine wp_region_later (wr.heap.size + 1) (by kernel_rfl) (by kernel_rfl) ?_; (repeat (go_big_quiet_step ((first | (go_at_call 169; exact later_of HXS.out (CT.out _)) | (go_at_call 217; exact later_of HXS.out (CO.out _)))))); refine later_nil ?_; intro w2 hb2
            go_wp2_with fail
            go_ret
            exact ⟨ret_bool (bookB_no hlt (goodAt_ix HX.out (fun h => HIX.out ((sigIx_take HX.out).1 h)))).symm, (HBA.out.trans (HBR2.out.mono (by omega))).trans (hb2.mono (by omega))⟩
        · have hk0 : decide (0 < k) = true := by rw [decide_eq_true_eq]; omega
          obtain ⟨b3, o3, c3, a3, q, ys, hv, hb3, hq, hcq, _, _, hqs⟩ := (HPQ.out).at_ (show k - 1 < ps.length by omega)
          cases hv
          have lq := later_cell (B := wr.heap.size + 1) hcq (by omega)
          have hi1 : (0 : Int) ≤ (k : Int) - 1 := by omega
          have hi2 : (k : Int) - 1 < (ps.length : Int) := by omega
          have hi3 : ((k : Int) - 1).toNat = k - 1 := by omega
          have HQ : Hid (ps[k - 1]? = some (q, ys)) := hq
          clear hq hcq
          have HK : Hid (∃ m, k = m + 1) := ⟨k - 1, by omega⟩
          cases hlt2 : ltT q t
          · have hl1 : Op.bytesLess q.toList t.toList = false := hlt2
            go_wp2_with fail
            refine wp_region_later (wr.heap.size + 1) (by kernel_rfl) (by kernel_rfl) ?_; (repeat (go_big_quiet_step ((first | (go_at_call 169; exact later_of HXS.out (CT.out _)) | (go_at_call 217; exact later_of HXS.out (CO.out _)))))); refine later_nil ?_; intro w2 hb2
            go_wp2_with fail
            go_ret
            refine ⟨ret_bool ?_, (HBA.out.trans (HBR2.out.mono (by omega))).trans (hb2.mono (by omega))⟩
            obtain ⟨m, rfl⟩ := HK.out
            exact (bookB_no hlt (goodAt_lt HX.out HQ.out hlt2)).symm
          · have hl1 : Op.bytesLess q.toList t.toList = true := hlt2
            by_cases hix : sigIx (ps.take k) xs = Option.none
            · have hne : decide (0 ≤ ixI (sigIx (ps.take k) xs)) = false := by rw [decide_eq_false_iff_not, ixI_nonneg]; exact fun h => h hix
              have HIX := Lib.hid hix
              clear hix
              go_wp2_with fail
              refine wp_region_later (wr.heap.size + 1) (by kernel_rfl) (by kernel_rfl) ?_; (repeat (go_big_quiet_step ((first | (go_at_call 169; exact later_of HXS.out (CT.out _)) | (go_at_call 217; exact later_of HXS.out (CO.out _)))))); refine later_nil ?_; intro w2 hb2
              go_wp2_with fail
              go_roundw
              case rel => exact ⟨k + 1, by omega, by go_num, fun j hj => by
                by_cases e : j = k
                · subst e
                  have h5 := (sigIx_take HX.out).2 HIX.out
                  obtain ⟨m, rfl⟩ := HK.out
                  exact goodAt_s HX.out HQ.out HP.out hlt2 h5
                · exact hup.out j (by omega), HBR2.out.trans (hb2.mono (by omega))⟩
              case measure => simp [intOf]; omega
            · have hne : decide (0 ≤ ixI (sigIx (ps.take k) xs)) = true := by rw [decide_eq_true_eq, ixI_nonneg]; exact hix
              have HIX := Lib.hid hix
              clear hix
              go_wp2_with fail
              refine wp_region_later (wr.heap.size + 1) (by kernel_rfl) (by kernel_rfl) ?_; (repeat (go_big_quiet_step ((first | (go_at_call 169; exact later_of HXS.out (CT.out _)) | (go_at_call 217; exact later_of HXS.out (CO.out _)))))); refine later_nil ?_; intro w2 hb2
              go_wp2_with fail
              go_ret
              exact ⟨ret_bool (bookB_no hlt (goodAt_ix HX.out (fun h => HIX.out ((sigIx_take HX.out).1 h)))).symm, (HBA.out.trans (HBR2.out.mono (by omega))).trans (hb2.mono (by omega))⟩
    · obtain rfl : k = ps.length := by omega
      go_wp2_with fail
      go_ret
      refine ⟨ret_bool ?_, HBA.out.trans (hbr.mono (by omega))⟩
      unfold bookB
      rw [goodB_yes hup.out, hl40, Bool.and_true]
end Go.Proofs.Ytabiobjcfopakaa
