/- Texts of one claim, joined: D4, D5, D6, D8, E2, R5, R6, R7. -/
import Derived.Shelf.GgClosure.Gives
import Derived.Test.YtabiobjcfopakaaShelf
import Derived.Shelf.Abstract
import Derived.Test.YtabiobjcfopakaaC3LeastCodes
/- Contracts of the tests whether a book is valid, of the reference. -/
namespace Go.Proofs.Ytabiobjcfopakaa
open Go.RowKit
theorem bookB_no {ps : List Phr} {k : Nat} (hk : k < ps.length) (h : goodAt ps k = false) : bookB ps = false := by unfold bookB; rw [goodB_no hk h, Bool.and_false]
set_option maxRecDepth 100000 in
set_option maxHeartbeats 4000000 in
theorem bkGood_any (ps : List Phr) (v : Value) (hi : Nat) (w : World) (h : RdB w hi v ps) (hh : hi ≤ w.heap.size) :
    Calls Try.prog 134 #[v] w fun e w' => e = .returned (.bool (bookB ps)) ∧ Below w.heap.size w w' := by
  obtain ⟨a, rfl, ha⟩ := h
  obtain ⟨A, c, rfl, hc, hm⟩ := ha.form
  have hba : Below w.heap.size w (w.alloc (.cells #[.slice A ps.length c] 48)) := (Below.refl _ _).alloc (Nat.le_refl _) _
  have HBA := Lib.hid hba
  have H := Lib.hid (ha.below hba hh)
  have hbox : (w.alloc (.cells #[.slice A ps.length c] 48)).cell? ⟨w.heap.size, 0, Option.none⟩ = some (.slice A ps.length c) := (Blk.new w 48 #[.slice A ps.length c]).cell 0
  have HBOX := Lib.hid hbox
  clear ha hba hbox
  go_enter Try.func134, Try.ntmps134
  go_wp2_with fail
  go_loopw [8] (fun i wr => ∃ k : Nat, k ≤ ps.length ∧ i = .int .i64 k ∧ Hid (∀ j, j < k → goodAt ps j = true) ∧ Below (w.heap.size + 1) (w.alloc (.cells #[.slice A ps.length c] 48)) wr) (fun i _ => ps.length - (intOf i).toNat)
  case atStart => exact ⟨0, Nat.zero_le _, rfl, fun j hj => by omega, Below.refl _ _⟩
  case round =>
    obtain ⟨k, hk, rfl, hup, hbr⟩ := hrel
    have hs : w.heap.size + 1 ≤ wr.heap.size := by have := hbr.size; simpa using this
    have hboxr : wr.cell? ⟨w.heap.size, 0, Option.none⟩ = some (.slice A ps.length c) := (hbr.cell (p := ⟨w.heap.size, 0, Option.none⟩) (by show w.heap.size < _; omega)).trans HBOX.out
    by_cases hlt : k < ps.length
    · obtain ⟨b1, o1, c1, a, t, xs, hv, hb1, hx, hcell1, hcell2, hra, hta⟩ := (H.out.below hbr (by omega)).at_ hlt
      cases hv
      obtain ⟨A2, c2, rfl, hc2, hm2⟩ := Rd.form hra
      have HX := Lib.hid hx
      have HBR := Lib.hid (HBA.out.trans (hbr.mono (by omega)))
      have hbw1 : Below (w.heap.size + 1) (w.alloc (.cells #[.slice (some ⟨b1, o1, Option.none⟩) ps.length c] 48)) (wr.alloc (.cells #[.string t, .slice A2 xs.length c2] 60)) := hbr.alloc hs _
      have HBR2 := Lib.hid hbw1
      have hra2 := hra.below ((Below.refl wr.heap.size wr).alloc (Nat.le_refl _) (.cells #[.string t, .slice A2 xs.length c2] 60)) (by omega)
      have HRA := Lib.hid hra2
      have HPS : Hid (RdB (wr.alloc (.cells #[.string t, .slice A2 xs.length c2] 60)) hi (.agg #[.slice (some ⟨b1, o1, Option.none⟩) ps.length c]) ps) := ⟨_, rfl, H.out.below hbw1 (by omega)⟩
      have HPQ : Hid (RdPS (wr.alloc (.cells #[.string t, .slice A2 xs.length c2] 60)) hi (.slice (some ⟨b1, o1, Option.none⟩) ps.length c) ps) := H.out.below hbw1 (by omega)
      have hlat := fun {b o : Nat} {u : Value} (hq : (wr.alloc (.cells #[.string t, .slice A2 xs.length c2] 60)).cell? ⟨b, o, Option.none⟩ = some u) (hb : b < wr.heap.size + 1) => later_cell (B := wr.heap.size + 1) hq hb
      have l0 := hlat ((Blk.new wr 60 #[.string t, .slice A2 xs.length c2]).cell 0) (by omega)
      have l1 := hlat ((Blk.new wr 60 #[.string t, .slice A2 xs.length c2]).cell 1) (by omega)
      have lb := hlat ((hbw1.cell (p := ⟨w.heap.size, 0, Option.none⟩) (by show w.heap.size < _; omega)).trans HBOX.out) (by omega)
      clear hlat hra hra2 hx hbw1 hbr hboxr
      have hxs : wr.heap.size + 1 ≤ (wr.alloc (.cells #[.string t, .slice A2 xs.length c2] 60)).heap.size := by simp
      have HXS := Lib.hid hxs
      clear hxs
      have cT := fun x : LaterW (wr.heap.size + 1) (wr.alloc (.cells #[.string t, .slice A2 xs.length c2] 60)) => bkPhraseText_any t (by unfold maxLen; omega) x.val
      have cS := fun x : LaterW (wr.heap.size + 1) (wr.alloc (.cells #[.string t, .slice A2 xs.length c2] 60)) => bkSignals_any xs (.slice A2 xs.length c2) hi x.val (HRA.out.below x.bel (by omega))
      have cO := fun x : LaterW (wr.heap.size + 1) (wr.alloc (.cells #[.string t, .slice A2 xs.length c2] 60)) => bkOf_any ps xs (.agg #[.slice (some ⟨b1, o1, Option.none⟩) ps.length c]) (.slice A2 xs.length c2) hi hi x.val (HPS.out.below x.bel (by omega)) (HRA.out.below x.bel (by omega)) (by have := x.bel.size; have := HXS.out; omega) (by have := x.bel.size; have := HXS.out; omega)
      cases hp1 : phraseB t.data.toList
      · rw [hp1] at cT
        have CT := Lib.hid cT
        clear cT cS cO
        go_wp2_with fail
        refine wp_region_later (wr.heap.size + 1) (by kernel_rfl) (by kernel_rfl) ?_; (repeat (go_big_quiet_step ((go_at_call 213; exact later_same (CT.out _))))); refine later_nil ?_; intro w2 hb2
        go_wp2_with fail
        go_ret
        exact ⟨ret_bool (bookB_no hlt (goodAt_phr HX.out (by unfold phrOk; rw [hp1]; rfl))).symm, (HBA.out.trans (HBR2.out.mono (by omega))).trans (hb2.mono (by omega))⟩
      · cases hp2 : sigOk xs
        · rw [hp1] at cT
          rw [hp2] at cS
          have CT := Lib.hid cT
          have CS := Lib.hid cS
          clear cT cS cO
          go_wp2_with fail
          refine wp_region_later (wr.heap.size + 1) (by kernel_rfl) (by kernel_rfl) ?_; (repeat (go_big_quiet_step ((first | (go_at_call 213; exact later_same (CT.out _)) | (go_at_call 214; exact later_same (CS.out _)))))); refine later_nil ?_; intro w2 hb2
          go_wp2_with fail
          go_ret
          exact ⟨ret_bool (bookB_no hlt (goodAt_phr HX.out (by unfold phrOk; rw [hp1, hp2]; rfl))).symm, (HBA.out.trans (HBR2.out.mono (by omega))).trans (hb2.mono (by omega))⟩
        · have HP : Hid (phrOk (t, xs) = true) := by show phrOk (t, xs) = true; unfold phrOk; rw [hp1, hp2]; rfl
          rw [hp1] at cT
          rw [hp2] at cS
          have CT := Lib.hid cT
          have CS := Lib.hid cS
          have CO := Lib.hid cO
          clear cT cS cO
          rcases Nat.eq_zero_or_pos k with h0 | hpos
          · have hk0 : decide (0 < k) = false := by rw [decide_eq_false_iff_not]; omega
            have H0 := Lib.hid h0
            clear h0
            by_cases hix : sigIx ps xs = some k
            · have hne := ixI_eq hix
              have HIX := Lib.hid hix
              clear hix
              go_wp2_with fail
              refine wp_region_later (wr.heap.size + 1) (by kernel_rfl) (by kernel_rfl) ?_; (repeat (go_big_quiet_step ((first | (go_at_call 213; exact later_same (CT.out _)) | (go_at_call 214; exact later_same (CS.out _)) | (go_at_call 215; exact later_of (HXS.out) (CO.out _)))))); refine later_nil ?_; intro w2 hb2
              go_wp2_with fail
              go_roundw
              case rel => exact ⟨k + 1, by omega, by go_num, fun j hj => by
                obtain rfl : k = 0 := H0.out
                obtain rfl : j = 0 := by omega
                exact goodAt_0 HX.out HP.out HIX.out, HBR2.out.trans (hb2.mono (by omega))⟩
              case measure => simp [intOf]; omega
            · have hne := ixI_ne hix
              go_wp2_with fail
              refine wp_region_later (wr.heap.size + 1) (by kernel_rfl) (by kernel_rfl) ?_; (repeat (go_big_quiet_step ((first | (go_at_call 213; exact later_same (CT.out _)) | (go_at_call 214; exact later_same (CS.out _)) | (go_at_call 215; exact later_of (HXS.out) (CO.out _)))))); refine later_nil ?_; intro w2 hb2
              go_wp2_with fail
              go_ret
              exact ⟨ret_bool (bookB_no hlt (goodAt_ix HX.out hix)).symm, (HBA.out.trans (HBR2.out.mono (by omega))).trans (hb2.mono (by omega))⟩
          · have hk0 : decide (0 < k) = true := by rw [decide_eq_true_eq]; omega
            obtain ⟨b3, o3, c3, a3, q, ys, hv, hb3, hq, hcq, _, _, hqs⟩ := (HPQ.out).at_ (show k - 1 < ps.length by omega)
            cases hv
            have lq := later_cell (B := wr.heap.size + 1) hcq (by omega)
            have hi1 : (0 : Int) ≤ (k : Int) - 1 := by omega
            have hi2 : (k : Int) - 1 < (ps.length : Int) := by omega
            have hi3 : ((k : Int) - 1).toNat = k - 1 := by omega
            have HQ : Hid (ps[k - 1]? = some (q, ys)) := hq
            clear hq hcq
            have HK : Hid (∃ m, k = m + 1) := ⟨k - 1, by omega⟩
            cases hlt2 : ltT q t
            · have hl1 : Op.bytesLess q.toList t.toList = false := hlt2
              go_wp2_with fail
              refine wp_region_later (wr.heap.size + 1) (by kernel_rfl) (by kernel_rfl) ?_; (repeat (go_big_quiet_step ((first | (go_at_call 213; exact later_same (CT.out _)) | (go_at_call 214; exact later_same (CS.out _)) | (go_at_call 215; exact later_of (HXS.out) (CO.out _)))))); refine later_nil ?_; intro w2 hb2
              go_wp2_with fail
              go_ret
              refine ⟨ret_bool ?_, (HBA.out.trans (HBR2.out.mono (by omega))).trans (hb2.mono (by omega))⟩
              obtain ⟨m, rfl⟩ := HK.out
              exact (bookB_no hlt (goodAt_lt HX.out HQ.out hlt2)).symm
            · have hl1 : Op.bytesLess q.toList t.toList = true := hlt2
              by_cases hix : sigIx ps xs = some k
              · have hne := ixI_eq hix
                have HIX := Lib.hid hix
                clear hix
                go_wp2_with fail
                refine wp_region_later (wr.heap.size + 1) (by kernel_rfl) (by kernel_rfl) ?_; (repeat (go_big_quiet_step ((first | (go_at_call 213; exact later_same (CT.out _)) | (go_at_call 214; exact later_same (CS.out _)) | (go_at_call 215; exact later_of (HXS.out) (CO.out _)))))); refine later_nil ?_; intro w2 hb2
                go_wp2_with fail
                go_roundw
                case rel => exact ⟨k + 1, by omega, by go_num, fun j hj => by
                  by_cases e : j = k
                  · subst e
                    obtain ⟨m, rfl⟩ := HK.out
                    exact goodAt_s HX.out HQ.out HP.out hlt2 HIX.out
                  · exact hup.out j (by omega), HBR2.out.trans (hb2.mono (by omega))⟩
                case measure => simp [intOf]; omega
              · have hne := ixI_ne hix
                go_wp2_with fail
                refine wp_region_later (wr.heap.size + 1) (by kernel_rfl) (by kernel_rfl) ?_; (repeat (go_big_quiet_step ((first | (go_at_call 213; exact later_same (CT.out _)) | (go_at_call 214; exact later_same (CS.out _)) | (go_at_call 215; exact later_of (HXS.out) (CO.out _)))))); refine later_nil ?_; intro w2 hb2
                go_wp2_with fail
                go_ret
                exact ⟨ret_bool (bookB_no hlt (goodAt_ix HX.out hix)).symm, (HBA.out.trans (HBR2.out.mono (by omega))).trans (hb2.mono (by omega))⟩
    · obtain rfl : k = ps.length := by omega
      go_wp2_with (go_at_call 191; refine (l1In_any _ _ _ _).mono ?_; rintro e w' ⟨rfl, rfl⟩)
      go_ret
      refine ⟨ret_bool ?_, HBA.out.trans (hbr.mono (by omega))⟩
      unfold bookB
      rw [goodB_yes hup.out, Bool.and_true]
end Go.Proofs.Ytabiobjcfopakaa
/- Contracts of the tests whether a book is valid, of the program; of the search for a phrase by a predicate. -/
namespace Go.Proofs.Ytabiobjcfopakaa
open Go.RowKit
theorem zipC_take : ∀ (ts : List ByteArray) (us : List Value) (k : Nat), (zipC ts us).take (k * 2) = zipC (ts.take k) (us.take k)
  | [], us, k => by simp [zipC]
  | t :: ts, [], k => by simp [zipC]
  | t :: ts, u :: us, 0 => by simp [zipC]
  | t :: ts, u :: us, k + 1 => by simp only [zipC, List.take_succ_cons, show (k + 1) * 2 = k * 2 + 1 + 1 by omega, zipC_take ts us k]
theorem RowsR.take {w : World} {hi : Nat} {us : List Value} {xss : List (List Int)} (h : RowsR w hi us xss) (k : Nat) : RowsR w hi (us.take k) (xss.take k) := by
  refine ⟨by simp [h.1], fun i u xs hu hx => ?_⟩
  rw [List.getElem?_take] at hu hx
  split at hu
  · rename_i hlt; rw [if_pos hlt] at hx; exact h.2 i u xs hu hx
  · cases hu
theorem RdPS.cut {w : World} {hi n c : Nat} {A : Option Addr} {ps : List Phr} (h : RdPS w hi (.slice A n c) ps) {k : Nat} (hk : k ≤ ps.length) : RdPS w hi (.slice A k c) (ps.take k) := by
  obtain ⟨us, h1, ⟨h0, A', c', hv, h2, h3, h4⟩, ht⟩ := h
  cases hv
  refine ⟨us.take k, ?_, ⟨?_, A, c, ?_, ?_, h3, fun hp => ?_⟩, fun p hp => ht p (List.mem_of_mem_take hp)⟩
  · have := h1.take k; unfold sigs at *; rwa [← List.map_take] at this
  · have e := zipC_take (txts ps) us k
    unfold txts at *
    rw [← List.map_take] at e
    rw [← e, List.length_take, h0, List.length_take]; omega
  · rw [List.length_take]; congr 1; omega
  · rw [List.length_take]; omega
  · obtain ⟨b, off, hA, hb, hc⟩ := h4 (by rw [List.length_take] at hp; omega)
    refine ⟨b, off, hA, hb, fun j u hu => hc j u ?_⟩
    have e := zipC_take (txts ps) us k
    unfold txts at *
    rw [← List.map_take] at e
    rw [← e, List.getElem?_take] at hu
    split at hu
    · exact hu
    · cases hu
/-- What is asked of a predicate on phrases. -/
def PredP (g : Nat) (lb : Array Value) (hi : Nat) (p : Phr → Bool) (w : World) : Prop :=
  ∀ (W : World) (x : Phr) (u : Value), Below w.heap.size w W → RdI W hi u x.2 → x.1.size ≤ 9223372036854775807 → Calls Try.prog g (#[.agg #[.string x.1, u]] ++ lb) W fun e w' => e = .returned (.bool (p x)) ∧ Below W.heap.size W w'
set_option maxHeartbeats 800000 in
theorem indexP_any (ps : List Phr) (v : Value) (hi : Nat) (w : World) (g : Nat) (lb : Array Value) (p : Phr → Bool) (h : RdPS w hi v ps) (hh : hi ≤ w.heap.size) (hp : PredP g lb hi p w)
    (eg : ∀ args w, (callFunc g args).run Try.prog w = .ok (.enter g args) w) :
    Calls Try.prog 224 #[v, .func (.func g) #[] lb] w fun e w' => e = .returned (.int .i64 (ixI (ps.findIdx? p))) ∧ Below w.heap.size w w' := by
  obtain ⟨A, c, rfl, hc, hm⟩ := h.form
  have H := Lib.hid h
  have HP := Lib.hid hp
  clear h hp
  go_enter Try.func224, Try.ntmps224
  go_wp2
  go_loopw [8] (fun i wr => ∃ k : Nat, k ≤ ps.length ∧ i = .int .i64 k ∧ Hid (∀ j, j < k → ∀ x, ps[j]? = some x → p x = false) ∧ Below w.heap.size w wr) (fun i _ => ps.length - (intOf i).toNat)
  case atStart => exact ⟨0, Nat.zero_le _, rfl, fun j hj => by omega, Below.refl _ _⟩
  case round =>
    obtain ⟨k, hk, rfl, hno, hbr⟩ := hrel
    by_cases hlt : k < ps.length
    · obtain ⟨b1, o1, c1, a, t, xs, hv, _, hx, hcell1, hcell2, hra, hts⟩ := (H.out.below hbr hh).at_ hlt
      cases hv
      obtain ⟨A2, c2, rfl, hc2, hm2⟩ := Rd.form hra
      have hcall := HP.out wr (t, xs) _ hbr hra hts
      have HX := Lib.hid hx
      have hs := hbr.size
      have HBR := Lib.hid hbr
      clear hra hx hbr
      cases hq : p (t, xs)
      · have HQ := Lib.hid hq
        rw [hq] at hcall
        clear hq
        have HC := Lib.hid hcall
        clear hcall
        go_wp2_with (go_at_fn g; refine HC.out.mono ?_; rintro e w' ⟨rfl, hb'⟩)
        go_roundw
        case rel => exact ⟨k + 1, by omega, by go_num, fun j hj x hx => by
          by_cases e : j = k
          · subst e; rw [HX.out] at hx; cases hx; exact HQ.out
          · exact hno.out j (by omega) x hx, HBR.out.trans (hb'.mono hs)⟩
        case measure => simp [intOf]; omega
      · have HQ := Lib.hid hq
        rw [hq] at hcall
        clear hq
        have HC := Lib.hid hcall
        clear hcall
        go_wp2_with (go_at_fn g; refine HC.out.mono ?_; rintro e w' ⟨rfl, hb'⟩)
        go_ret
        refine ⟨ret_int ?_, HBR.out.trans (hb'.mono hs)⟩
        rw [findIdx_take (fun j hj x hx => hno.out j hj x hx) HX.out HQ.out]
        rfl
    · obtain rfl : k = ps.length := by omega
      go_wp2_with fail
      go_ret
      refine ⟨ret_int ?_, hbr⟩
      rw [findIdx_none (fun j x hx => hno.out j (List.getElem?_eq_some_iff.1 hx).1 x hx)]
      rfl
theorem phraseIndex1_any (x : Phr) (ys : List Int) (u s : Value) (B hi hj : Nat) (w : World) (h : RdI w hi u x.2) (g : RdI w hj s ys) (hh : hi ≤ w.heap.size) (hg : hj ≤ w.heap.size) (hB : B < w.heap.size) (hc : w.cell? ⟨B, 0, Option.none⟩ = some s) :
    Calls Try.prog 251 #[.agg #[.string x.1, u], .pointer (some ⟨B, 0, Option.none⟩)] w fun e w' => e = .returned (.bool (decide (x.2 = ys))) ∧ Below w.heap.size w w' := by
  obtain ⟨A, c, rfl, hc1, hm⟩ := Rd.form h
  obtain ⟨A', c', rfl, hc2, hm'⟩ := Rd.form g
  have hba : Below w.heap.size w (w.alloc (.cells #[.string x.1, .slice A x.2.length c] 60)) := (Below.refl _ _).alloc (Nat.le_refl _) _
  have H := Lib.hid (RdI.below h hba hh)
  have G := Lib.hid (RdI.below g hba hg)
  clear h g
  go_enter Try.func251, Try.ntmps251
  go_wp2_with fail
  refine (slicesEqual_any x.2 ys _ _ hi hj _ H.out G.out).mono ?_
  rintro e w' ⟨rfl, n, rfl⟩
  go_wp2_with fail
  go_ret
  exact ⟨rfl, hba.trans (bel_drewN _ _ _)⟩
theorem phraseIndex_any (ps : List Phr) (xs : List Int) (v u : Value) (hi hj : Nat) (w : World) (h : RdB w hi v ps) (g : RdI w hj u xs) (hh : hi ≤ w.heap.size) (hg : hj ≤ w.heap.size) :
    Calls Try.prog 217 #[v, u] w fun e w' => e = .returned (.int .i64 (ixI (sigIx ps xs))) ∧ Below w.heap.size w w' := by
  obtain ⟨a, rfl, ha⟩ := h
  obtain ⟨A, c, rfl, hc, hm⟩ := ha.form
  obtain ⟨A', c', rfl, hc', hm'⟩ := Rd.form g
  have hba : Below w.heap.size w ((w.alloc (.cells #[.slice A ps.length c] 48)).alloc (.cells #[.slice A' xs.length c'] 29)) := ((Below.refl _ _).alloc (Nat.le_refl _) _).alloc (by simp) _
  have H := Lib.hid (ha.below hba hh)
  have G := Lib.hid (RdI.below g hba hg)
  clear ha g
  have HB := Lib.hid hba
  clear hba
  have hcap : ((w.alloc (.cells #[.slice A ps.length c] 48)).alloc (.cells #[.slice A' xs.length c'] 29)).cell? ⟨w.heap.size + 1, 0, Option.none⟩ = some (.slice A' xs.length c') := by
    have := (Blk.new (w.alloc (.cells #[.slice A ps.length c] 48)) 29 #[.slice A' xs.length c']).cell 0
    simp at this ⊢
  have hpred : PredP 251 #[.pointer (some ⟨w.heap.size + 1, 0, Option.none⟩)] hi (fun p => decide (p.2 = xs)) ((w.alloc (.cells #[.slice A ps.length c] 48)).alloc (.cells #[.slice A' xs.length c'] 29)) := by
    intro W x u hb hu _
    have hs := hb.size
    have h2 : ((w.alloc (.cells #[.slice A ps.length c] 48)).alloc (.cells #[.slice A' xs.length c'] 29)).heap.size = w.heap.size + 1 + 1 := by simp
    refine phraseIndex1_any x xs u (.slice A' xs.length c') (w.heap.size + 1) hi hj W hu (RdI.below G.out hb (by omega)) (by omega) (by omega) (by omega) ?_
    exact (hb.cell (p := ⟨w.heap.size + 1, 0, Option.none⟩) (by show w.heap.size + 1 < _; omega)).trans hcap
  have HPR := Lib.hid hpred
  have HC := Lib.hid (indexP_any ps _ hi _ _ _ _ H.out (by simp; omega) HPR.out (enters_of Try.func251 (by kernel_rfl) rfl))
  clear hpred hcap
  go_enter Try.func217, Try.ntmps217
  go_wp2_with fail
  refine HC.out.mono ?_
  rintro e w' ⟨rfl, hb'⟩
  go_wp2_with fail
  go_ret
  exact ⟨rfl, HB.out.trans (hb'.mono (by simp; omega))⟩
set_option maxHeartbeats 400000 in
theorem isPhrase_any (p : Phr) (v : Value) (hi : Nat) (w : World) (h : RdP w hi v p) (hh : hi ≤ w.heap.size) : Calls Try.prog 169 #[v] w fun e w' => e = .returned (.bool (phrOk p)) ∧ Below w.heap.size w w' := by
  obtain ⟨u, rfl, hu, ht⟩ := h
  obtain ⟨A, c, rfl, hc, hm⟩ := Rd.form hu
  have hba : Below w.heap.size w (w.alloc (.cells #[.string p.1, .slice A p.2.length c] 60)) := (Below.refl _ _).alloc (Nat.le_refl _) _
  have H := Lib.hid (RdI.below hu hba hh)
  clear hu
  have cT := IsPhraseText_any p.1 (by unfold maxLen; omega)
  have cA := allWithin_any p.2 1 60 (.slice A p.2.length c) hi _ H.out
  unfold phrOk sigOk
  cases h1 : phraseB p.1.data.toList
  · rw [h1] at cT
    have CT := Lib.hid cT
    clear cT cA
    go_enter Try.func169, Try.ntmps169
    go_wp2_with (go_at_call 223; refine (CT.out _).mono ?_; rintro e w' ⟨rfl, rfl⟩)
    go_ret
    exact ⟨rfl, hba⟩
  · rw [h1] at cT
    cases h2 : inB p.2.length 1 3
    · have CT := Lib.hid cT
      clear cT cA
      go_enter Try.func169, Try.ntmps169
      go_wp2_with (first | (go_at_call 223; refine (CT.out _).mono ?_; rintro e w' ⟨rfl, rfl⟩) | (go_at_call 125; refine (within_any _ _ _ _).mono ?_; rintro e w' ⟨rfl, rfl⟩))
      go_ret
      exact ⟨rfl, hba⟩
    · have CT := Lib.hid cT
      have CA := Lib.hid cA
      clear cT cA
      go_enter Try.func169, Try.ntmps169
      go_wp2_with (first | (go_at_call 223; refine (CT.out _).mono ?_; rintro e w' ⟨rfl, rfl⟩) | (go_at_call 125; refine (within_any _ _ _ _).mono ?_; rintro e w' ⟨rfl, rfl⟩) | (go_at_call 181; refine (CA.out).mono ?_; rintro e w' ⟨rfl, rfl⟩))
      go_ret
      exact ⟨rfl, hba⟩
theorem sigIx_take {ps : List Phr} {k : Nat} {p : Phr} (hp : ps[k]? = some p) : sigIx ps p.2 = some k ↔ sigIx (ps.take k) p.2 = Option.none := by
  unfold sigIx
  have hk := (List.getElem?_eq_some_iff.1 hp).1
  constructor
  · intro h
    rw [List.findIdx?_eq_none_iff]
    intro x hx
    rw [List.findIdx?_eq_some_iff_getElem] at h
    obtain ⟨_, _, h3⟩ := h
    obtain ⟨j, hj⟩ := List.getElem?_of_mem hx
    rw [List.getElem?_take] at hj
    split at hj
    · rename_i hlt
      have := h3 j hlt
      have e := (List.getElem?_eq_some_iff.1 hj).2
      rw [← e]; simpa using this
    · cases hj
  · intro h
    rw [List.findIdx?_eq_none_iff] at h
    refine findIdx_take (fun j hj x hx => h x ?_) hp (by simp)
    exact List.mem_of_getElem? (by rw [List.getElem?_take, if_pos hj]; exact hx)
theorem ixI_nonneg {o : Option Nat} : (0 ≤ ixI o) ↔ o ≠ Option.none := by cases o <;> simp [ixI]
end Go.Proofs.Ytabiobjcfopakaa
/- Contracts of the tests whether a book is valid, of the program. -/
namespace Go.Proofs.Ytabiobjcfopakaa
open Go.RowKit
set_option maxRecDepth 100000 in
set_option maxHeartbeats 4000000 in
theorem IsBook_any (ps : List Phr) (v : Value) (hi : Nat) (w : World) (h : RdB w hi v ps) (hh : hi ≤ w.heap.size) :
    Calls Try.prog 137 #[v] w fun e w' => e = .returned (.bool (bookB ps)) ∧ Below w.heap.size w w' := by
  obtain ⟨a, rfl, ha⟩ := h
  obtain ⟨A, c, rfl, hc, hm⟩ := ha.form
  have hba : Below w.heap.size w (w.alloc (.cells #[.slice A ps.length c] 48)) := (Below.refl _ _).alloc (Nat.le_refl _) _
  have HBA := Lib.hid hba
  have H := Lib.hid (ha.below hba hh)
  have hbox : (w.alloc (.cells #[.slice A ps.length c] 48)).cell? ⟨w.heap.size, 0, Option.none⟩ = some (.slice A ps.length c) := (Blk.new w 48 #[.slice A ps.length c]).cell 0
  have HBOX := Lib.hid hbox
  clear ha hba hbox
  cases hl40 : inB ps.length 1 40
  · go_enter Try.func137, Try.ntmps137
    go_wp2_with (go_at_call 125; refine (within_any _ _ _ _).mono ?_; rintro e w' ⟨rfl, rfl⟩)
    go_ret
    exact ⟨ret_bool (by unfold bookB; rw [hl40]; rfl), HBA.out⟩
  go_enter Try.func137, Try.ntmps137
  go_wp2_with (go_at_call 125; refine (within_any _ _ _ _).mono ?_; rintro e w' ⟨rfl, rfl⟩)
  go_loopw [13] (fun i wr => ∃ k : Nat, k ≤ ps.length ∧ i = .int .i64 k ∧ Hid (∀ j, j < k → goodAt ps j = true) ∧ Below (w.heap.size + 1) (w.alloc (.cells #[.slice A ps.length c] 48)) wr) (fun i _ => ps.length - (intOf i).toNat)
  case atStart => exact ⟨0, Nat.zero_le _, rfl, fun j hj => by omega, Below.refl _ _⟩
  case round =>
    obtain ⟨k, hk, rfl, hup, hbr⟩ := hrel
    have hs : w.heap.size + 1 ≤ wr.heap.size := by have := hbr.size; simpa using this
    have hboxr : wr.cell? ⟨w.heap.size, 0, Option.none⟩ = some (.slice A ps.length c) := (hbr.cell (p := ⟨w.heap.size, 0, Option.none⟩) (by show w.heap.size < _; omega)).trans HBOX.out
    by_cases hlt : k < ps.length
    · obtain ⟨b1, o1, c1, a, t, xs, hv, hb1, hx, hcell1, hcell2, hra, hta⟩ := (H.out.below hbr (by omega)).at_ hlt
      cases hv
      obtain ⟨A2, c2, rfl, hc2, hm2⟩ := Rd.form hra
      have HX := Lib.hid hx
      have HBR := Lib.hid (HBA.out.trans (hbr.mono (by omega)))
      have hbw1 : Below (w.heap.size + 1) (w.alloc (.cells #[.slice (some ⟨b1, o1, Option.none⟩) ps.length c] 48)) (wr.alloc (.cells #[.string t, .slice A2 xs.length c2] 60)) := hbr.alloc hs _
      have HBR2 := Lib.hid hbw1
      have hra2 := hra.below ((Below.refl wr.heap.size wr).alloc (Nat.le_refl _) (.cells #[.string t, .slice A2 xs.length c2] 60)) (by omega)
      have HRA := Lib.hid hra2
      have HPS : Hid (RdB (wr.alloc (.cells #[.string t, .slice A2 xs.length c2] 60)) hi (.agg #[.slice (some ⟨b1, o1, Option.none⟩) ps.length c]) ps) := ⟨_, rfl, H.out.below hbw1 (by omega)⟩
      have HPQ : Hid (RdPS (wr.alloc (.cells #[.string t, .slice A2 xs.length c2] 60)) hi (.slice (some ⟨b1, o1, Option.none⟩) ps.length c) ps) := H.out.below hbw1 (by omega)
      have hlat := fun {b o : Nat} {u : Value} (hq : (wr.alloc (.cells #[.string t, .slice A2 xs.length c2] 60)).cell? ⟨b, o, Option.none⟩ = some u) (hb : b < wr.heap.size + 1) => later_cell (B := wr.heap.size + 1) hq hb
      have l0 := hlat ((Blk.new wr 60 #[.string t, .slice A2 xs.length c2]).cell 0) (by omega)
      have l1 := hlat ((Blk.new wr 60 #[.string t, .slice A2 xs.length c2]).cell 1) (by omega)
      have lb := hlat ((hbw1.cell (p := ⟨w.heap.size, 0, Option.none⟩) (by show w.heap.size < _; omega)).trans HBOX.out) (by omega)
      clear hlat hra hra2 hx hbw1 hbr hboxr
      have hxs : wr.heap.size + 1 ≤ (wr.alloc (.cells #[.string t, .slice A2 xs.length c2] 60)).heap.size := by simp
      have HXS := Lib.hid hxs
      clear hxs
      have hcut : RdB (wr.alloc (.cells #[.string t, .slice A2 xs.length c2] 60)) hi (.agg #[.slice (some ⟨b1, o1, Option.none⟩) k c]) (ps.take k) := ⟨_, rfl, HPQ.out.cut hk⟩
      have HCUT := Lib.hid hcut
      clear hcut
      have cT := fun x : LaterW (wr.heap.size + 1) (wr.alloc (.cells #[.string t, .slice A2 xs.length c2] 60)) => isPhrase_any (t, xs) (.agg #[.string t, .slice A2 xs.length c2]) hi x.val ⟨_, rfl, HRA.out.below x.bel (by omega), hta⟩ (by have := x.bel.size; have := HXS.out; omega)
      have cO := fun x : LaterW (wr.heap.size + 1) (wr.alloc (.cells #[.string t, .slice A2 xs.length c2] 60)) => phraseIndex_any (ps.take k) xs (.agg #[.slice (some ⟨b1, o1, Option.none⟩) k c]) (.slice A2 xs.length c2) hi hi x.val (HCUT.out.below x.bel (by omega)) (HRA.out.below x.bel (by omega)) (by have := x.bel.size; have := HXS.out; omega) (by have := x.bel.size; have := HXS.out; omega)
      have hkc : (k : Int) ≤ (c : Int) := by omega
      have hk0' : (0 : Int) ≤ (k : Int) := by omega
      cases hp1 : phrOk (t, xs)
      · rw [hp1] at cT
        have CT := Lib.hid cT
        have CO := Lib.hid cO
        clear cT cO
        go_wp2_with fail
        refine wp_region_later (wr.heap.size + 1) (by kernel_rfl) (by kernel_rfl) ?_; (repeat (go_big_quiet_step ((first | (go_at_call 169; exact later_of HXS.out (CT.out _)) | (go_at_call 217; exact later_of HXS.out (CO.out _)))))); refine later_nil ?_; intro w2 hb2
        go_wp2_with fail
        go_ret
        exact ⟨ret_bool (bookB_no hlt (goodAt_phr HX.out hp1)).symm, (HBA.out.trans (HBR2.out.mono (by omega))).trans (hb2.mono (by omega))⟩
      · have HP := Lib.hid hp1
        rw [hp1] at cT
        have CT := Lib.hid cT
        have CO := Lib.hid cO
        clear cT cO
        rcases Nat.eq_zero_or_pos k with h0 | hpos
        · have hk0 : decide (0 < k) = false := by rw [decide_eq_false_iff_not]; omega
          have H0 := Lib.hid h0
          clear h0
          by_cases hix : sigIx (ps.take k) xs = Option.none
          · have hne : decide (0 ≤ ixI (sigIx (ps.take k) xs)) = false := by rw [decide_eq_false_iff_not, ixI_nonneg]; exact fun h => h hix
            have HIX := Lib.hid hix
            clear hix
            go_wp2_with fail
            refine wp_region_later (wr.heap.size + 1) (by kernel_rfl) (by kernel_rfl) ?_; (repeat (go_big_quiet_step ((first | (go_at_call 169; exact later_of HXS.out (CT.out _)) | (go_at_call 217; exact later_of HXS.out (CO.out _)))))); refine later_nil ?_; intro w2 hb2
            go_wp2_with fail
            go_roundw
            case rel => exact ⟨k + 1, by omega, by go_num, fun j hj => by
              obtain rfl : k = 0 := H0.out
              obtain rfl : j = 0 := by omega
              exact goodAt_0 HX.out HP.out ((sigIx_take HX.out).2 HIX.out), HBR2.out.trans (hb2.mono (by omega))⟩
            case measure => simp [intOf]; omega
          · have hne : decide (0 ≤ ixI (sigIx (ps.take k) xs)) = true := by rw [decide_eq_true_eq, ixI_nonneg]; exact hix
            have HIX := Lib.hid hix
            clear hix
            go_wp2_with fail
            refine wp_region_later (wr.heap.size + 1) (by kernel_rfl) (by kernel_rfl) ?_; (repeat (go_big_quiet_step ((first | (go_at_call 169; exact later_of HXS.out (CT.out _)) | (go_at_call 217; exact later_of HXS.out (CO.out _)))))); refine later_nil ?_; intro w2 hb2
            go_wp2_with fail
            go_ret
            exact ⟨ret_bool (bookB_no hlt (goodAt_ix HX.out (fun h => HIX.out ((sigIx_take HX.out).1 h)))).symm, (HBA.out.trans (HBR2.out.mono (by omega))).trans (hb2.mono (by omega))⟩
        · have hk0 : decide (0 < k) = true := by rw [decide_eq_true_eq]; omega
          obtain ⟨b3, o3, c3, a3, q, ys, hv, hb3, hq, hcq, _, _, hqs⟩ := (HPQ.out).at_ (show k - 1 < ps.length by omega)
          cases hv
          have lq := later_cell (B := wr.heap.size + 1) hcq (by omega)
          have hi1 : (0 : Int) ≤ (k : Int) - 1 := by omega
          have hi2 : (k : Int) - 1 < (ps.length : Int) := by omega
          have hi3 : ((k : Int) - 1).toNat = k - 1 := by omega
          have HQ : Hid (ps[k - 1]? = some (q, ys)) := hq
          clear hq hcq
          have HK : Hid (∃ m, k = m + 1) := ⟨k - 1, by omega⟩
          cases hlt2 : ltT q t
          · have hl1 : Op.bytesLess q.toList t.toList = false := hlt2
            go_wp2_with fail
            refine wp_region_later (wr.heap.size + 1) (by kernel_rfl) (by kernel_rfl) ?_; (repeat (go_big_quiet_step ((first | (go_at_call 169; exact later_of HXS.out (CT.out _)) | (go_at_call 217; exact later_of HXS.out (CO.out _)))))); refine later_nil ?_; intro w2 hb2
            go_wp2_with fail
            go_ret
            refine ⟨ret_bool ?_, (HBA.out.trans (HBR2.out.mono (by omega))).trans (hb2.mono (by omega))⟩
            obtain ⟨m, rfl⟩ := HK.out
            exact (bookB_no hlt (goodAt_lt HX.out HQ.out hlt2)).symm
          · have hl1 : Op.bytesLess q.toList t.toList = true := hlt2
            by_cases hix : sigIx (ps.take k) xs = Option.none
            · have hne : decide (0 ≤ ixI (sigIx (ps.take k) xs)) = false := by rw [decide_eq_false_iff_not, ixI_nonneg]; exact fun h => h hix
              have HIX := Lib.hid hix
              clear hix
              go_wp2_with fail
              refine wp_region_later (wr.heap.size + 1) (by kernel_rfl) (by kernel_rfl) ?_; (repeat (go_big_quiet_step ((first | (go_at_call 169; exact later_of HXS.out (CT.out _)) | (go_at_call 217; exact later_of HXS.out (CO.out _)))))); refine later_nil ?_; intro w2 hb2
              go_wp2_with fail
              go_roundw
              case rel => exact ⟨k + 1, by omega, by go_num, fun j hj => by
                by_cases e : j = k
                · subst e
                  have h5 := (sigIx_take HX.out).2 HIX.out
                  obtain ⟨m, rfl⟩ := HK.out
                  exact goodAt_s HX.out HQ.out HP.out hlt2 h5
                · exact hup.out j (by omega), HBR2.out.trans (hb2.mono (by omega))⟩
              case measure => simp [intOf]; omega
            · have hne : decide (0 ≤ ixI (sigIx (ps.take k) xs)) = true := by rw [decide_eq_true_eq, ixI_nonneg]; exact hix
              have HIX := Lib.hid hix
              clear hix
              go_wp2_with fail
              refine wp_region_later (wr.heap.size + 1) (by kernel_rfl) (by kernel_rfl) ?_; (repeat (go_big_quiet_step ((first | (go_at_call 169; exact later_of HXS.out (CT.out _)) | (go_at_call 217; exact later_of HXS.out (CO.out _)))))); refine later_nil ?_; intro w2 hb2
              go_wp2_with fail
              go_ret
              exact ⟨ret_bool (bookB_no hlt (goodAt_ix HX.out (fun h => HIX.out ((sigIx_take HX.out).1 h)))).symm, (HBA.out.trans (HBR2.out.mono (by omega))).trans (hb2.mono (by omega))⟩
    · obtain rfl : k = ps.length := by omega
      go_wp2_with fail
      go_ret
      refine ⟨ret_bool ?_, HBA.out.trans (hbr.mono (by omega))⟩
      unfold bookB
      rw [goodB_yes hup.out, hl40, Bool.and_true]
end Go.Proofs.Ytabiobjcfopakaa
/- Contracts of the searches in a book by a text, by signals, and for texts of one letter; of the program and of the reference. -/
namespace Go.Proofs.Ytabiobjcfopakaa
open Go.RowKit
theorem str_inj {a b : ByteArray} (h : (a.toList == b.toList) = true) : a = b := by
  rw [ByteArray.toList_eq, ByteArray.toList_eq, beq_iff_eq] at h
  exact ByteArray.ext (Array.toList_inj.1 h)
/-- The place of the phrase with a text. -/
def txtIx (ps : List Phr) (s : ByteArray) : Option Nat := ps.findIdx? fun p => p.1.toList == s.toList
/-- A place, if the book is good and there is one. -/
def findV (b : Bool) (o : Option Nat) : Value := match b, o with
  | true, some i => .tuple #[.int .i64 (i : Int), .bool true]
  | _, _ => .tuple #[.int .i64 0, .bool false]
theorem findV_form (b : Bool) (o : Option Nat) : ∃ p q, findV b o = .tuple #[.int .i64 p, .bool q] := by
  cases b <;> cases o <;> exact ⟨_, _, rfl⟩
theorem txtIx_lt {ps : List Phr} {s : ByteArray} {i : Nat} (h : txtIx ps s = some i) : i < ps.length := by
  unfold txtIx at h; rw [List.findIdx?_eq_some_iff_getElem] at h; exact h.1
theorem sigIx_lt {ps : List Phr} {s : List Int} {i : Nat} (h : sigIx ps s = some i) : i < ps.length := by
  unfold sigIx at h; rw [List.findIdx?_eq_some_iff_getElem] at h; exact h.1
theorem bookB_phr {ps : List Phr} {p : Phr} (h : bookB ps = true) (hp : p ∈ ps) : phrOk p = true := by
  obtain ⟨j, hj⟩ := List.getElem?_of_mem hp
  have hl := (List.getElem?_eq_some_iff.1 hj).1
  unfold bookB goodB at h
  rw [Bool.and_eq_true, List.all_eq_true] at h
  have := h.2 j (List.mem_range.2 hl)
  unfold goodAt at this
  rw [hj] at this
  simp only [Bool.and_eq_true] at this
  exact this.1
theorem txtIx_no {ps : List Phr} {s : ByteArray} (h : bookB ps = true) (hp : phraseB s.data.toList = false) : txtIx ps s = Option.none := by
  unfold txtIx
  rw [List.findIdx?_eq_none_iff]
  intro x hx
  rcases he : (x.1.toList == s.toList)
  · rfl
  · have := bookB_phr h hx
    unfold phrOk at this
    rw [str_inj he, hp] at this
    cases this
theorem bookB_len {ps : List Phr} (h : bookB ps = true) : 1 ≤ ps.length ∧ ps.length ≤ 40 := by
  unfold bookB at h
  rw [Bool.and_eq_true, inB_iff] at h
  omega
set_option maxHeartbeats 800000 in
theorem bkFind_any (ps : List Phr) (s : ByteArray) (v : Value) (hi : Nat) (w : World) (h : RdB w hi v ps) (hh : hi ≤ w.heap.size) :
    Calls Try.prog 140 #[v, .string s] w fun e w' => e = .returned (.int .i64 (ixI (txtIx ps s))) ∧ Below w.heap.size w w' := by
  obtain ⟨a, rfl, ha⟩ := h
  obtain ⟨A, c, rfl, hc, hm⟩ := ha.form
  have hba : Below w.heap.size w (w.alloc (.cells #[.slice A ps.length c] 48)) := (Below.refl _ _).alloc (Nat.le_refl _) _
  have HB := Lib.hid hba
  have HA := Lib.hid (ha.below hba hh)
  have HG : Hid (RdB (w.alloc (.cells #[.slice A ps.length c] 48)) hi (.agg #[.slice A ps.length c]) ps) := ⟨_, rfl, HA.out⟩
  have hcb0 : (w.alloc (.cells #[.slice A ps.length c] 48)).cell? ⟨w.heap.size, 0, Option.none⟩ = some (.slice A ps.length c) := (Blk.new w 48 #[.slice A ps.length c]).cell 0
  have HCB := Lib.hid hcb0
  have hsz1 : hi ≤ (w.alloc (.cells #[.slice A ps.length c] 48)).heap.size := by simp; omega
  clear ha hba hcb0
  go_enter Try.func140, Try.ntmps140
  go_wp2_with fail
  go_loopw [10] (fun i wr => ∃ k : Nat, k ≤ ps.length ∧ i = .int .i64 k ∧ Hid (∀ j, j < k → ∀ x, ps[j]? = some x → (x.1.toList == s.toList) = false) ∧ Below (w.heap.size + 1) (w.alloc (.cells #[.slice A ps.length c] 48)) wr) (fun i _ => ps.length - (intOf i).toNat)
  case atStart => exact ⟨0, Nat.zero_le _, rfl, fun j hj => by omega, Below.refl _ _⟩
  case round =>
    obtain ⟨k, hk, rfl, hno, hbr⟩ := hrel
    have hs : w.heap.size + 1 ≤ wr.heap.size := by have := hbr.size; simpa using this
    by_cases hlt : k < ps.length
    · obtain ⟨b1, o1, c1, a, t, xs, hv, hb1, hx, hcell1, hcell2, hra, hta⟩ := (HA.out.below hbr (by omega)).at_ hlt
      cases hv
      obtain ⟨A2, c2, rfl, hc2, hm2⟩ := Rd.form hra
      have HX := Lib.hid hx
      have HRA := Lib.hid hra
      clear hx hra
      cases hts : (t.toList == s.toList)
      · have HTS := Lib.hid hts
        go_wp2_with fail
        go_roundw
        case rel => exact ⟨k + 1, by omega, by go_num, fun j hj x hx => by
          by_cases e : j = k
          · subst e; rw [HX.out] at hx; cases hx; exact HTS.out
          · exact hno.out j (by omega) x hx, hbr.alloc hs _⟩
        case measure => simp [intOf]; omega
      · have HTS := Lib.hid hts
        go_wp2_with fail
        go_ret
        refine ⟨ret_int ?_, HB.out.trans ((hbr.alloc hs _).mono (by omega))⟩
        unfold txtIx
        rw [findIdx_take (fun j hj x hx => hno.out j hj x hx) HX.out HTS.out]
        rfl
    · obtain rfl : k = ps.length := by omega
      go_wp2_with fail
      go_ret
      refine ⟨ret_int ?_, HB.out.trans (hbr.mono (by omega))⟩
      unfold txtIx
      rw [findIdx_none (fun j x hx => hno.out j (List.getElem?_eq_some_iff.1 hx).1 x hx)]
      rfl
theorem FindPhrase1_any (x : Phr) (s : ByteArray) (u : Value) (B hi : Nat) (w : World) (h : RdI w hi u x.2) (hB : B < w.heap.size) (hc : w.cell? ⟨B, 0, Option.none⟩ = some (.string s)) :
    Calls Try.prog 225 #[.agg #[.string x.1, u], .pointer (some ⟨B, 0, Option.none⟩)] w fun e w' => e = .returned (.bool (x.1.toList == s.toList)) ∧ Below w.heap.size w w' := by
  obtain ⟨A, c, rfl, hc1, hm⟩ := Rd.form h
  have hba : Below w.heap.size w (w.alloc (.cells #[.string x.1, .slice A x.2.length c] 60)) := (Below.refl _ _).alloc (Nat.le_refl _) _
  clear h
  go_enter Try.func225, Try.ntmps225
  go_wp2_with fail
  go_ret
  exact ⟨rfl, hba⟩
set_option maxHeartbeats 1600000 in
theorem FindPhrase_any (ps : List Phr) (s : ByteArray) (v : Value) (hi : Nat) (w : World) (hs0 : s.size ≤ maxLen) (h : RdB w hi v ps) (hh : hi ≤ w.heap.size) :
    Calls Try.prog 143 #[v, .string s] w fun e w' => e = .returned (findV (bookB ps) (txtIx ps s)) ∧ Below w.heap.size w w' := by
  obtain ⟨a, rfl, ha⟩ := h
  obtain ⟨A, c, rfl, hc, hm⟩ := ha.form
  have hba : Below w.heap.size w ((w.alloc (.cells #[.slice A ps.length c] 48)).alloc (.cells #[.string s] 9)) := ((Below.refl _ _).alloc (Nat.le_refl _) _).alloc (by simp) _
  have HB := Lib.hid hba
  have HA := Lib.hid (ha.below hba hh)
  have HG : Hid (RdB ((w.alloc (.cells #[.slice A ps.length c] 48)).alloc (.cells #[.string s] 9)) hi (.agg #[.slice A ps.length c]) ps) := ⟨_, rfl, HA.out⟩
  have hcb0 : ((w.alloc (.cells #[.slice A ps.length c] 48)).alloc (.cells #[.string s] 9)).cell? ⟨w.heap.size, 0, Option.none⟩ = some (.slice A ps.length c) := ((Blk.new w 48 #[.slice A ps.length c]).alloc _).cell 0
  have hcs0 : ((w.alloc (.cells #[.slice A ps.length c] 48)).alloc (.cells #[.string s] 9)).cell? ⟨w.heap.size + 1, 0, Option.none⟩ = some (.string s) := by
    have := (Blk.new (w.alloc (.cells #[.slice A ps.length c] 48)) 9 #[.string s]).cell 0
    simp at this ⊢
  have HCB := Lib.hid hcb0
  have HCS := Lib.hid hcs0
  have hsz1 : hi ≤ ((w.alloc (.cells #[.slice A ps.length c] 48)).alloc (.cells #[.string s] 9)).heap.size := by simp; omega
  clear ha hba hcb0 hcs0
  have cB := IsBook_any ps (.agg #[.slice A ps.length c]) hi ((w.alloc (.cells #[.slice A ps.length c] 48)).alloc (.cells #[.string s] 9)) HG.out hsz1
  cases hbk : bookB ps
  · rw [hbk] at cB
    have CB := Lib.hid cB
    clear cB
    go_enter Try.func143, Try.ntmps143
    go_wp2_with (go_at_call 137; refine CB.out.mono ?_; rintro e w1 ⟨rfl, hb1⟩)
    go_ret2
    exact ⟨ret_val rfl, HB.out.trans (hb1.mono (by simp; omega))⟩
  · rw [hbk] at cB
    have CB := Lib.hid cB
    have cT := IsPhraseText_any s hs0
    cases hp : phraseB s.data.toList
    · have hno : txtIx ps s = Option.none := txtIx_no hbk hp
      rw [hp] at cT
      have CT := Lib.hid cT
      clear cB cT
      go_enter Try.func143, Try.ntmps143
      go_wp2_with fail
      refine CB.out.mono ?_
      rintro e w1 ⟨rfl, hb1⟩
      have hcs := (hb1.cell (p := ⟨w.heap.size + 1, 0, Option.none⟩) (by simp)).trans HCS.out
      go_wp2_with (go_at_call 223; refine (CT.out _).mono ?_; rintro e w' ⟨rfl, rfl⟩)
      go_ret2
      exact ⟨ret_val (by rw [hno]; rfl), HB.out.trans (hb1.mono (by simp; omega))⟩
    · rw [hp] at cT
      have CT := Lib.hid cT
      clear cB cT
      go_enter Try.func143, Try.ntmps143
      go_wp2_with fail
      refine CB.out.mono ?_
      rintro e w1 ⟨rfl, hb1⟩
      have hcs := (hb1.cell (p := ⟨w.heap.size + 1, 0, Option.none⟩) (by simp)).trans HCS.out
      have hcb := (hb1.cell (p := ⟨w.heap.size, 0, Option.none⟩) (by simp; omega)).trans HCB.out
      have hs1 : w.heap.size + 2 ≤ w1.heap.size := by have := hb1.size; simpa using this
      have HA1 := Lib.hid (HA.out.below hb1 hsz1)
      have HB1 := Lib.hid (HB.out.trans (hb1.mono (by simp; omega)))
      have hpred : PredP 225 #[.pointer (some ⟨w.heap.size + 1, 0, Option.none⟩)] hi (fun p => p.1.toList == s.toList) w1 := by
        intro W x u hb hu _
        have hs := hb.size
        exact FindPhrase1_any x s u (w.heap.size + 1) hi W hu (by omega) ((hb.cell (p := ⟨w.heap.size + 1, 0, Option.none⟩) (by show w.heap.size + 1 < _; omega)).trans hcs)
      have HC := Lib.hid (indexP_any ps _ hi w1 _ _ _ HA1.out (by omega) hpred (enters_of Try.func225 (by kernel_rfl) rfl))
      clear hpred hb1
      go_wp2_with (go_at_call 223; refine (CT.out _).mono ?_; rintro e w' ⟨rfl, rfl⟩)
      refine HC.out.mono ?_
      rintro e w2 ⟨rfl, hb2⟩
      have HB2 := Lib.hid (HB1.out.trans (hb2.mono (by omega)))
      clear hb2
      show _
      cases ho : txtIx ps s with
      | none =>
        have ho' : ps.findIdx? (fun p => p.1.toList == s.toList) = Option.none := ho
        rw [ho']
        unfold ixI
        go_wp2_with fail
        go_ret2
        exact ⟨ret_val (by rw [ho]; rfl), HB2.out⟩
      | some i =>
        have hil : i < ps.length := txtIx_lt ho
        have ho' : ps.findIdx? (fun p => p.1.toList == s.toList) = some i := ho
        rw [ho']
        unfold ixI
        have HO := Lib.hid ho
        clear ho ho'
        go_wp2_with fail
        go_ret2
        exact ⟨ret_val (by rw [HO.out]; rfl), HB2.out⟩
end Go.Proofs.Ytabiobjcfopakaa
/- Plain laws on good books: no two phrases have one text, nor the same signals; phrases that fit at one place have lengths of their own. Slices cut off at their head. -/
namespace Go.Proofs.Ytabiobjcfopakaa
open Go.RowKit
theorem less_irrefl : ∀ a : List UInt8, Op.bytesLess a a = false
  | [] => by simp [Op.bytesLess]
  | x :: a => by simp [Op.bytesLess, less_irrefl a]
theorem less_trans : ∀ {a b c : List UInt8}, Op.bytesLess a b = true → Op.bytesLess b c = true → Op.bytesLess a c = true
  | a, [], c, h, _ => by cases a <;> simp [Op.bytesLess] at h
  | a, b :: bs, [], _, h => by simp [Op.bytesLess] at h
  | [], b :: bs, c :: cs, _, _ => by simp [Op.bytesLess]
  | a :: l, b :: bs, c :: cs, h, g => by
    simp only [Op.bytesLess, Bool.or_eq_true, Bool.and_eq_true, decide_eq_true_eq, beq_iff_eq] at h g ⊢
    rcases h with h | ⟨rfl, h⟩
    · rcases g with g | ⟨rfl, g⟩
      · exact .inl (UInt8.lt_trans h g)
      · exact .inl h
    · rcases g with g | ⟨rfl, g⟩
      · exact .inl g
      · exact .inr ⟨rfl, less_trans h g⟩
theorem bookB_at {ps : List Phr} (h : bookB ps = true) {j : Nat} (hj : j < ps.length) : goodAt ps j = true := by
  unfold bookB goodB at h
  rw [Bool.and_eq_true, List.all_eq_true] at h
  exact h.2 j (List.mem_range.2 hj)
theorem book_sig {ps : List Phr} (h : bookB ps = true) {j : Nat} {p : Phr} (hp : ps[j]? = some p) : sigIx ps p.2 = some j := by
  have hj := (List.getElem?_eq_some_iff.1 hp).1
  have := bookB_at h hj
  unfold goodAt at this
  rw [hp] at this
  simp only [Bool.and_eq_true, beq_iff_eq] at this
  exact this.2.2
theorem book_lt {ps : List Phr} (h : bookB ps = true) {j : Nat} {p q : Phr} (hp : ps[j]? = some p) (hq : ps[j + 1]? = some q) : ltT p.1 q.1 = true := by
  have hj := (List.getElem?_eq_some_iff.1 hq).1
  have := bookB_at h hj
  unfold goodAt at this
  rw [hq] at this
  simp only [hp, Bool.and_eq_true] at this
  exact this.2.1
theorem book_mono {ps : List Phr} (h : bookB ps = true) {i : Nat} {p : Phr} (hp : ps[i]? = some p) : ∀ (d : Nat) {q : Phr}, ps[i + 1 + d]? = some q → ltT p.1 q.1 = true
  | 0, q, hq => book_lt h hp hq
  | d + 1, q, hq => by
    have hl := (List.getElem?_eq_some_iff.1 hq).1
    have hr : ps[i + 1 + d]? = some ps[i + 1 + d] := List.getElem?_eq_getElem (by omega)
    have h1 := book_mono h hp d hr
    have h2 := book_lt h hr (by rw [show i + 1 + d + 1 = i + 1 + (d + 1) by omega]; exact hq)
    exact less_trans h1 h2
theorem book_txt {ps : List Phr} (h : bookB ps = true) {i j : Nat} {p q : Phr} (hp : ps[i]? = some p) (hq : ps[j]? = some q) (hij : i < j) : p.1 ≠ q.1 := by
  have := book_mono h hp (j - i - 1) (by rw [show i + 1 + (j - i - 1) = j by omega]; exact hq)
  intro e
  unfold ltT at this
  rw [e, less_irrefl] at this
  cases this
theorem book_sigs {ps : List Phr} (h : bookB ps = true) {i j : Nat} {p q : Phr} (hp : ps[i]? = some p) (hq : ps[j]? = some q) (hij : i < j) : p.2 ≠ q.2 := by
  intro e
  have h1 := book_sig h hp
  have h2 := book_sig h hq
  rw [e, h2] at h1
  injection h1 with h1
  omega
theorem phrOk_txt {p : Phr} (h : phrOk p = true) : 1 ≤ p.1.size ∧ p.1.size ≤ 12 ∧ smallB p.1.data.toList = true := by
  unfold phrOk phraseB at h
  simp only [Bool.and_eq_true, decide_eq_true_eq] at h
  obtain ⟨⟨⟨h1, h2⟩, h3⟩, _⟩ := h
  exact ⟨by simpa using h1, by simpa using h2, h3⟩
theorem phrOk_sig {p : Phr} (h : phrOk p = true) : 1 ≤ p.2.length ∧ p.2.length ≤ 3 ∧ allB p.2 1 60 = true := by
  unfold phrOk sigOk at h
  simp only [Bool.and_eq_true, inB_iff] at h
  obtain ⟨_, h1, h2⟩ := h
  exact ⟨by omega, by omega, h2⟩
/-- Does a phrase's signals lie at a place? -/
def fitS (sig : List Int) (m : Nat) (p : Phr) : Bool := begB p.2 (sig.drop m)
/-- Does a phrase's text lie at a place? -/
def fitT (s : ByteArray) (m : Nat) (p : Phr) : Bool := Lib.hasPrefix (s.extract m s.size).data.toList p.1.data.toList
theorem fitT_eq {s : ByteArray} {m : Nat} {p : Phr} : fitT s m p = true ↔ p.1.data.toList <+: s.data.toList.drop m := by
  unfold fitT Lib.hasPrefix
  rw [List.isPrefixOf_iff_prefix]
  have : (s.extract m s.size).data.toList = s.data.toList.drop m := by
    simp [List.take_of_length_le]
  rw [this]
theorem apart_sig {ps : List Phr} (h : bookB ps = true) (sig : List Int) (m : Nat) : Apart (fitS sig m) (fun p => p.2.length) (sig.length - m) ps := by
  refine ⟨?_, fun p hp hf => ?_⟩
  · rw [List.pairwise_iff_getElem]
    intro i j hi hj hij f1 f2 e
    unfold fitS at f1 f2
    rw [begB_iff, List.prefix_iff_eq_take] at f1 f2
    refine book_sigs h (List.getElem?_eq_getElem hi) (List.getElem?_eq_getElem hj) hij ?_
    have e' : ps[i].2.length = ps[j].2.length := e
    rw [f1, f2, e']
  · have h1 := phrOk_sig (bookB_phr h hp)
    unfold fitS at hf
    rw [begB_iff] at hf
    have := hf.length_le
    rw [List.length_drop] at this
    exact ⟨h1.1, this⟩
theorem apart_txt {ps : List Phr} (h : bookB ps = true) (s : ByteArray) (m : Nat) : Apart (fitT s m) (fun p => p.1.size) (s.size - m) ps := by
  refine ⟨?_, fun p hp hf => ?_⟩
  · rw [List.pairwise_iff_getElem]
    intro i j hi hj hij f1 f2 e
    rw [fitT_eq, List.prefix_iff_eq_take] at f1 f2
    refine book_txt h (List.getElem?_eq_getElem hi) (List.getElem?_eq_getElem hj) hij ?_
    have e' : ps[i].1.size = ps[j].1.size := e
    have e2 : ps[i].1.data.toList.length = ps[j].1.data.toList.length := by simpa using e'
    have : ps[i].1.data.toList = ps[j].1.data.toList := by rw [f1, f2, e2]
    exact ByteArray.ext (Array.toList_inj.1 this)
  · have h1 := phrOk_txt (bookB_phr h hp)
    rw [fitT_eq] at hf
    have := hf.length_le
    rw [List.length_drop] at this
    exact ⟨h1.1, by simpa using this⟩
/-- The table's cells: m places still empty, then the table. -/
def tblZ (m : Nat) (tb : List Nat) : List Value := List.replicate m (Value.int .i64 0) ++ nats tb
theorem tblZ_down {m : Nat} {tb : List Nat} : tblZ (m + 1) tb = tblC m 0 tb := by
  unfold tblZ tblC
  rw [List.replicate_succ']; simp
theorem tblC_Z {m a : Nat} {tb : List Nat} : tblC m a tb = tblZ m (a :: tb) := rfl
theorem tblZ_start (n : Nat) : ((zeros (n + 1)).setIfInBounds n (.int .i64 1)).toList = tblZ n [1] := by
  unfold tblZ zeros
  rw [Array.toList_setIfInBounds, List.replicate_succ']
  rw [List.set_append_right _ _ (by simp)]
  simp
theorem RdI.drop {w : World} {hi c : Nat} {b off : Nat} {xs : List Int} (h : RdI w hi (.slice (some ⟨b, off, Option.none⟩) xs.length c) xs) {k : Nat} (hk : k < xs.length) :
    RdI w hi (.slice (some ⟨b, off + k, Option.none⟩) (xs.length - k) (c - k)) (xs.drop k) := by
  obtain ⟨h0, A', c', hv, h1, h2, h3⟩ := h
  cases hv
  obtain ⟨b', off', hA, hb, hc⟩ := h3 (by omega)
  cases hA
  refine ⟨by simp, some ⟨b, off + k, Option.none⟩, c - k, by rw [List.length_drop], by rw [List.length_drop]; omega, by omega, fun _ => ⟨b, off + k, rfl, hb, fun j u hu => ?_⟩⟩
  have := hc (k + j) u (by
    rw [ints, List.getElem?_map, List.getElem?_drop] at hu
    rw [ints, List.getElem?_map]; exact hu)
  rwa [← Nat.add_assoc] at this
theorem wrap_in {x : Int} (h : -9223372036854775808 ≤ x ∧ x ≤ 9223372036854775807) : IntKind.i64.wrap x = x := IntWalk.i64_in _ h
end Go.Proofs.Ytabiobjcfopakaa
/- Contracts: the stable sort of a program's order, its comparison of lengths; the digits of a number. -/
namespace Go.Proofs.Ytabiobjcfopakaa
open Go.RowKit
set_option maxHeartbeats 800000 in
theorem insSort_none (n cp g f a : Nat) (lb : Array Value) (w : World) (ha : a ≤ 20) :
    Calls Try.prog 252 #[.slice (some ⟨g, 0, Option.none⟩) n cp, .int .i64 (a : Int), .int .i64 (a : Int), .func (.func f) #[] lb] w fun e w' => (∃ z, e = .returned z) ∧ w = w' := by
  go_enter Try.func252, Try.ntmps252
  go_wp2
  go_loopw [8] (fun i wr => i = .int .i64 ((a : Int) + 1) ∧ w = wr) (fun _ _ => 0)
  case atStart => exact ⟨rfl, rfl⟩
  case round =>
    obtain ⟨rfl, rfl⟩ := hrel
    have hno : decide ((a : Int) + 1 < (a : Int)) = false := decide_eq_false (by omega)
    have hno2 : ¬ ((a : Int) + 1 < (a : Int)) := by omega
    go_wp2_with fail
    refine bodyPost_end (results_none Try.results252 _ _ _) rfl ?_
    exact ⟨⟨_, rfl⟩, rfl⟩
set_option maxHeartbeats 4000000 in
theorem stable_any (n cp g f : Nat) (lb : Array Value) (c : Nat → Nat → Int) (w : World) (hn1 : 1 ≤ n) (hn : n ≤ 20) (hcp : n ≤ cp) (h : Blk w g 3 (nats (List.range n))) (hp : CmpI f lb g n c w)
    (eg : ∀ args w, (callFunc f args).run Try.prog w = .ok (.enter f args) w) :
    Calls Try.prog 228 #[.slice (some ⟨g, 0, Option.none⟩) n cp, .int .i64 (n : Int), .func (.func f) #[] lb] w fun e w' => (∃ z, e = .returned z) ∧ Blk w' g 3 (nats (orderBy (pOf c) n)) ∧ Only (some g) w w' := by
  have CI := Lib.hid (insSort_any n cp g f lb c w hn1 hn hcp h hp eg)
  clear h hp
  by_cases h20 : n < 20
  · have hno : ¬ (20 : Int) ≤ (n : Int) := by omega
    have hno2 : ¬ (20 : Int) < (n : Int) := by omega
    have hno3 : ¬ 20 ≤ n := by omega
    have hno4 : ¬ 20 < n := by omega
    go_enter Try.func228, Try.ntmps228
    go_wp2
    go_loopw [7, 8] (fun i j wr => i = .int .i64 0 ∧ j = .int .i64 20 ∧ w = wr) (fun _ _ _ => 0)
    case atStart => exact ⟨rfl, rfl, rfl⟩
    case round =>
      obtain ⟨rfl, rfl, rfl⟩ := hrel
      go_wp2_with fail
      refine CI.out.mono ?_
      rintro e w1 ⟨⟨z, rfl⟩, hb1, ho1⟩
      have HB1 := Lib.hid hb1
      have HO1 := Lib.hid ho1
      clear hb1 ho1
      go_wp2_with fail
      go_loopw [6] (fun i wr => i = .int .i64 20 ∧ w1 = wr) (fun _ _ => 0)
      case atStart => exact ⟨rfl, rfl⟩
      case round =>
        obtain ⟨rfl, rfl⟩ := hrel
        go_wp2_with fail
        refine bodyPost_end (results_none Try.results228 _ _ _) rfl ?_
        exact ⟨⟨_, rfl⟩, HB1.out, HO1.out⟩
  · have HN : Hid ((n : Int) = 20) := by show _ = _; omega
    have CI2 : Hid (Calls Try.prog 252 #[.slice (some ⟨g, 0, Option.none⟩) n cp, .int .i64 0, .int .i64 20, .func (.func f) #[] lb] w fun e w' => (∃ z, e = .returned z) ∧ Blk w' g 3 (nats (orderBy (pOf c) n)) ∧ Only (some g) w w') := by
      have := CI.out
      rw [HN.out] at this
      exact this
    have h1 : (20 : Int) ≤ (n : Int) := by omega
    have h2 : 20 ≤ n := by omega
    have h3 : ¬ (40 : Int) ≤ (n : Int) := by omega
    have h4 : ¬ 40 ≤ n := by omega
    have h5 : ¬ (20 : Int) < (n : Int) := by omega
    have CN0 : Hid (∀ wr, Calls Try.prog 252 #[.slice (some ⟨g, 0, Option.none⟩) n cp, .int .i64 20, .int .i64 (n : Int), .func (.func f) #[] lb] wr fun e w' => (∃ z, e = .returned z) ∧ wr = w') := by
      intro wr
      rw [HN.out]
      exact insSort_none n cp g f 20 lb wr (Nat.le_refl _)
    clear CI
    go_enter Try.func228, Try.ntmps228
    go_wp2
    go_loopw [7, 8] (fun i j wr => (i = .int .i64 0 ∧ j = .int .i64 20 ∧ w = wr) ∨ (i = .int .i64 20 ∧ j = .int .i64 40 ∧ Hid (Blk wr g 3 (nats (orderBy (pOf c) n))) ∧ Hid (Only (some g) w wr))) (fun i _ _ => 20 - (intOf i).toNat)
    case atStart => exact .inl ⟨rfl, rfl, rfl⟩
    case round =>
      rcases hrel with ⟨rfl, rfl, rfl⟩ | ⟨rfl, rfl, hb1, ho1⟩
      · go_wp2_with fail
        refine CI2.out.mono ?_
        rintro e w1 ⟨⟨z, rfl⟩, hb1, ho1⟩
        have HB1 := Lib.hid hb1
        have HO1 := Lib.hid ho1
        clear hb1 ho1
        go_wp2_with fail
        go_roundw
        case rel => exact .inr ⟨rfl, rfl, HB1.out, HO1.out⟩
        case measure => simp [intOf]
      · have CN := Lib.hid (CN0.out wr)
        go_wp2_with fail
        refine CN.out.mono ?_
        rintro e w1 ⟨⟨z, rfl⟩, rfl⟩
        go_wp2_with fail
        go_loopw [6] (fun i wx => i = .int .i64 20 ∧ wr = wx) (fun _ _ => 0)
        case atStart => exact ⟨rfl, rfl⟩
        case round =>
          obtain ⟨rfl, rfl⟩ := hrel
          go_wp2_with fail
          refine bodyPost_end (results_none Try.results228 _ _ _) rfl ?_
          exact ⟨⟨_, rfl⟩, hb1.out, ho1.out⟩
theorem sortStable_any (n cp g f : Nat) (lb : Array Value) (c : Nat → Nat → Int) (w : World) (hn1 : 1 ≤ n) (hn : n ≤ 20) (hcp : n ≤ cp) (h : Blk w g 3 (nats (List.range n))) (hp : CmpI f lb g n c w)
    (eg : ∀ args w, (callFunc f args).run Try.prog w = .ok (.enter f args) w) :
    Calls Try.prog 159 #[.slice (some ⟨g, 0, Option.none⟩) n cp, .func (.func f) #[] lb] w fun e w' => (∃ z, e = .returned z) ∧ Blk w' g 3 (nats (orderBy (pOf c) n)) ∧ Only (some g) w w' := by
  have CI := Lib.hid (stable_any n cp g f lb c w hn1 hn hcp h hp eg)
  clear h hp
  go_enter Try.func159, Try.ntmps159
  go_wp2_with fail
  refine CI.out.mono ?_
  rintro e w1 ⟨⟨z, rfl⟩, hb1, ho1⟩
  have HB1 := Lib.hid hb1
  have HO1 := Lib.hid ho1
  clear hb1 ho1
  go_wp2_with fail
  refine bodyPost_end (results_none Try.results159 _ _ _) rfl ?_
  exact ⟨⟨_, rfl⟩, HB1.out, HO1.out⟩
def cLen (ls : List Int) (x y : Nat) : Int := Lib.compareInt (ls.getD x 0) (ls.getD y 0)
def cWei (ws : List Int) (x y : Nat) : Int := Lib.compareInt (ws.getD y 0) (ws.getD x 0)
theorem compare_neg (a b : Int) : decide (Lib.compareInt a b < 0) = decide (a < b) := by
  unfold Lib.compareInt
  by_cases h : a < b
  · rw [if_pos h]; simp [h]
  · rw [if_neg h]
    by_cases h2 : a > b
    · rw [if_pos h2]; simp [h]
    · rw [if_neg h2]; simp [h]
theorem pOf_len (ls : List Int) : pOf (cLen ls) = pLen ls := by funext x y; exact compare_neg _ _
theorem pOf_wei (ws : List Int) : pOf (cWei ws) = pWei ws := by funext x y; exact compare_neg _ _
theorem RdI.getD {w : World} {hi : Nat} {v : Value} {xs : List Int} (h : RdI w hi v xs) {k : Nat} (hk : k < xs.length) :
    ∃ b off c, v = .slice (some ⟨b, off, Option.none⟩) xs.length c ∧ b < hi ∧ w.cell? ⟨b, off + k, Option.none⟩ = some (.int .i64 (xs.getD k 0)) := by
  obtain ⟨b, off, c, y, hv, hb, hy, hc⟩ := Rd.at_ h hk
  refine ⟨b, off, c, hv, hb, ?_⟩
  rw [hc, List.getD_eq_getElem?_getD, hy]; rfl
theorem cmpI_any (x y : Int) (w : World) : Calls Try.prog 161 #[.int .i64 x, .int .i64 y] w fun e w' => e = .returned (.int .i64 (Lib.compareInt x y)) ∧ ∃ n, w' = w.drewN n :=
  (Try.cmp_Compare_int x y w).mono fun _ _ ⟨he, hw⟩ => ⟨he, 0, hw⟩
set_option maxHeartbeats 800000 in
theorem canon1_any (ls : List Int) (s : Value) (B hi x y : Nat) (w : World) (h : RdI w hi s ls) (hx : x < ls.length) (hy : y < ls.length) (hc : w.cell? ⟨B, 0, Option.none⟩ = some s) :
    Calls Try.prog 160 #[.int .i64 (x : Int), .int .i64 (y : Int), .pointer (some ⟨B, 0, Option.none⟩)] w fun e w' => e = .returned (.int .i64 (cLen ls x y)) ∧ ∃ n, w' = w.drewN n := by
  obtain ⟨b1, o1, c1, hv1, _, hcx⟩ := RdI.getD h hx
  obtain ⟨b2, o2, c2, hv2, _, hcy⟩ := RdI.getD h hy
  subst hv1
  cases hv2
  obtain ⟨_, _, hv3, hc3, hm3⟩ := Rd.form h
  cases hv3
  obtain ⟨zx, hzx⟩ : ∃ z, z = ls.getD x 0 := ⟨_, rfl⟩
  obtain ⟨zy, hzy⟩ : ∃ z, z = ls.getD y 0 := ⟨_, rfl⟩
  rw [← hzx] at hcx
  rw [← hzy] at hcy
  have HV : Hid (cLen ls x y = Lib.compareInt zx zy) := by show _ = _; rw [hzx, hzy]; rfl
  clear h hzx hzy
  go_enter Try.func160, Try.ntmps160
  go_wp2_with fail
  go_quiet ((go_at_call 161; exact Calls.quiet_of (cmpI_any _ _ _)))
  go_wp2_with fail
  go_ret
  exact ⟨by rw [HV.out]; rfl, nq, rfl⟩
set_option maxHeartbeats 800000 in
theorem least1_any (ls : List Int) (s : Value) (B hi x y : Nat) (w : World) (h : RdI w hi s ls) (hx : x < ls.length) (hy : y < ls.length) (hc : w.cell? ⟨B, 0, Option.none⟩ = some s) :
    Calls Try.prog 235 #[.int .i64 (x : Int), .int .i64 (y : Int), .pointer (some ⟨B, 0, Option.none⟩)] w fun e w' => e = .returned (.int .i64 (cWei ls x y)) ∧ ∃ n, w' = w.drewN n := by
  obtain ⟨b1, o1, c1, hv1, _, hcx⟩ := RdI.getD h hx
  obtain ⟨b2, o2, c2, hv2, _, hcy⟩ := RdI.getD h hy
  subst hv1
  cases hv2
  obtain ⟨_, _, hv3, hc3, hm3⟩ := Rd.form h
  cases hv3
  obtain ⟨zx, hzx⟩ : ∃ z, z = ls.getD x 0 := ⟨_, rfl⟩
  obtain ⟨zy, hzy⟩ : ∃ z, z = ls.getD y 0 := ⟨_, rfl⟩
  rw [← hzx] at hcx
  rw [← hzy] at hcy
  have HV : Hid (cWei ls x y = Lib.compareInt zy zx) := by show _ = _; rw [hzx, hzy]; rfl
  clear h hzx hzy
  go_enter Try.func235, Try.ntmps235
  go_wp2_with fail
  go_quiet ((go_at_call 161; exact Calls.quiet_of (cmpI_any _ _ _)))
  go_wp2_with fail
  go_ret
  exact ⟨by rw [HV.out]; rfl, nq, rfl⟩
theorem wrap_nat {d : Nat} (h : d ≤ 933120000000) : wrap64 (d : Int) = (d : Int) := by unfold wrap64; omega
/-- k zeros, then numbers. -/
def zerI (k : Nat) (D : List Int) : List Value := List.replicate k (Value.int .i64 0) ++ ints D
theorem zerI_set {k : Nat} {D : List Int} {z : Int} : (zerI (k + 1) D).set k (.int .i64 z) = zerI k (z :: D) := by
  unfold zerI
  rw [List.replicate_succ', List.append_assoc]
  have := set_mid (List.replicate k (Value.int .i64 0)) (ints D) (.int .i64 0) (.int .i64 z)
  rw [List.length_replicate] at this
  exact this
theorem zerI_at {k : Nat} {D : List Int} : (zerI (k + 1) D)[k]? = some (.int .i64 0) := by
  unfold zerI
  rw [List.getElem?_append_left (by simp), List.getElem?_replicate, if_pos (by omega)]
theorem zerI_start (n : Nat) : (zeros n).toList = zerI n [] := by simp [zeros, zerI]
/-- The last digits of a number stand, the number is cut. -/
def DigTo (r n len k m : Nat) (D : List Int) : Prop := digL r n len = digL r m k ++ D ∧ m ≤ n
theorem DigTo.start (r n len : Nat) : DigTo r n len len n [] := ⟨by simp, Nat.le_refl _⟩
theorem DigTo.step {r n len k m : Nat} {D : List Int} (h : DigTo r n len (k + 1) m D) : DigTo r n len k (m / r) (((m % r : Nat) : Int) :: D) := by
  refine ⟨?_, Nat.le_trans (Nat.div_le_self _ _) h.2⟩
  rw [h.1, digL]; simp
theorem DigTo.done {r n len m : Nat} {D : List Int} (h : DigTo r n len 0 m D) : D = digL r n len := by rw [h.1, digL]; rfl
set_option maxHeartbeats 1600000 in
theorem cmDigits_any (r n len : Nat) (w : World) (hr1 : 1 ≤ r) (hr : r ≤ 60) (hn : n ≤ 933120000000) (hl : len ≤ 6) : Calls Try.prog 155 #[.int .i64 (n : Int), .int .i64 (r : Int), .int .i64 (len : Int)] w (RetOwI (digL r n len) w) := by
  have hmk := make_ints len (by omega)
  have hr0 : (r : Int) ≠ 0 := by omega
  go_enter Try.func155, Try.ntmps155
  go_wp2
  go_loopw [0, 8] (fun m i wr => ∃ (k q : Nat) (z : Int) (D : List Int), k ≤ len ∧ m = .int .i64 (q : Int) ∧ i = .int .i64 z ∧ z + 1 = (k : Int) ∧ q ≤ n ∧ Hid (DigTo r n len k q D) ∧ Hid (Blk wr w.heap.size 3 (zerI k D)) ∧ Hid (Below w.heap.size w wr)) (fun _ i _ => (intOf i + 1).toNat)
  case atStart => exact ⟨len, n, _, [], Nat.le_refl _, rfl, rfl, by omega, Nat.le_refl _, DigTo.start _ _ _, by show Blk _ _ _ _; rw [← zerI_start]; exact Blk.new _ _ _, (Below.refl _ _).alloc (Nat.le_refl _) _⟩
  case round =>
    obtain ⟨k, q, z, D, hk, rfl, rfl, hz, hqn, hd, hb, hbel⟩ := hrel
    rcases Nat.eq_zero_or_pos k with h0 | h0
    · subst h0
      obtain rfl : z = -1 := by omega
      clear hz
      go_wp2_with fail
      go_ret
      refine ⟨_, rfl, ?_, hbel.out⟩
      have hb2 := hb.out
      have hdd := hd.out.done
      have e : zerI 0 D = ints D := rfl
      rw [e] at hb2
      have hle : D.length = len := by rw [hdd, digL_len]
      have := own_of_blk (lo := w.heap.size) (hi := wr.heap.size) hb2 (Nat.le_refl _) hb2.lt (by unfold maxLen; omega)
      rw [hle, hdd] at this
      exact this
    · obtain ⟨s, rfl⟩ : ∃ s, k = s + 1 := ⟨k - 1, by omega⟩
      obtain rfl : z = (s : Int) := by omega
      have hcell := hb.out.cell s
      rw [zerI_at] at hcell
      have hfr := hb.out.frozen s
      have hsl : (s : Int) < (len : Int) := by omega
      have HD2 := Lib.hid hd.out.step
      have HB2 : Hid (∀ u, Blk (wr.setCell ⟨w.heap.size, s, Option.none⟩ (.int .i64 u)) w.heap.size 3 (zerI s (u :: D))) := fun u => by rw [← zerI_set]; exact hb.out.set_ _ _
      have HC2 : Hid (∀ u, Below w.heap.size w (wr.setCell ⟨w.heap.size, s, Option.none⟩ u)) := fun u => hbel.out.setCell (p := ⟨w.heap.size, s, Option.none⟩) (Nat.le_refl _) _
      have hq2' : q / r ≤ 933120000000 := Nat.le_trans (Nat.div_le_self _ _) (by omega)
      have hq2 : q / r ≤ n := Nat.le_trans (Nat.div_le_self _ _) hqn
      have HQW : Hid (wrap64 ((q : Int) / (r : Int)) = ((q / r : Nat) : Int)) := by show _ = _; rw [← Int.natCast_ediv]; exact wrap_nat hq2'
      clear hz h0
      go_wp2_with fail
      go_roundw
      case rel => exact ⟨s, q / r, (s : Int) - 1, _, by omega, by rw [HQW.out], by rfl, by omega, hq2, HD2.out, HB2.out _, HC2.out _⟩
      case measure => (simp [intOf]; try omega)
end Go.Proofs.Ytabiobjcfopakaa
/- Contracts: CanonicalCode of the reference. -/
namespace Go.Proofs.Ytabiobjcfopakaa
open Go.RowKit
/-- Two results: a slice of rows of the call's own, and a bool. -/
def RetOwIIT (xss : List (List Int)) (b : Bool) (w : World) (e : Ending) (w' : World) : Prop := ∃ v, e = .returned (.tuple #[v, .bool b]) ∧ OwII w' w.heap.size w'.heap.size v xss ∧ Below w.heap.size w w'
theorem owII_nil (w : World) (lo hi : Nat) : OwII w lo hi (.slice Option.none 0 0) [] := ⟨[], RowsO.nil _ _ _, World.ownsRow_nil _ _ _ _, fun k hk => by cases hk⟩
theorem retOwIIT_nil {w w' : World} (b : Bool) (h : Below w.heap.size w w') : RetOwIIT [] b w (.returned (.tuple #[.slice Option.none 0 0, .bool b])) w' := ⟨_, rfl, owII_nil _ _ _, h⟩
/-- One row is put in the place of another one. -/
theorem RowsO.put {w : World} {lo mid hi j : Nat} {us : List Value} {xss : List (List Int)} {u : Value} {xs : List Int} (h : RowsO w lo mid us xss) (hu : OwI w mid hi u xs) (h1 : lo ≤ mid) (h2 : mid ≤ hi) : RowsO w lo hi (us.set j u) (xss.set j xs) := by
  have hl := h.1
  refine ⟨by simp [hl], fun i a b ha hb => ?_, fun i k a b hik ha hb g hg => ?_⟩
  · by_cases e : j = i
    · subst e
      rcases Nat.lt_or_ge j us.length with hi2 | hi2
      · rw [List.getElem?_set_self hi2] at ha
        rw [List.getElem?_set_self (by omega)] at hb
        cases ha; cases hb
        exact hu.mono h1 (Nat.le_refl _)
      · rw [List.getElem?_eq_none (by simpa using hi2)] at ha; cases ha
    · rw [List.getElem?_set_ne e] at ha hb
      exact (h.2.1 i a b ha hb).mono (Nat.le_refl _) h2
  · have hold : ∀ (i : Nat) (a : Value), us[i]? = some a → ∀ g, a.ownBlock = some g → g < mid := by
      intro i a ha g hg
      have hil := (List.getElem?_eq_some_iff.1 ha).1
      exact ((h.2.1 i a xss[i] ha (List.getElem?_eq_getElem (by omega))).range g hg).2
    have hget : ∀ (i : Nat) (a : Value), (us.set j u)[i]? = some a → (i = j ∧ a = u) ∨ (i ≠ j ∧ us[i]? = some a) := by
      intro i a ha
      by_cases e : j = i
      · subst e
        rcases Nat.lt_or_ge j us.length with hi2 | hi2
        · rw [List.getElem?_set_self hi2] at ha; cases ha; exact .inl ⟨rfl, rfl⟩
        · rw [List.getElem?_eq_none (by simpa using hi2)] at ha; cases ha
      · rw [List.getElem?_set_ne e] at ha
        exact .inr ⟨fun e2 => e e2.symm, ha⟩
    intro hg2
    rcases hget i a ha with ⟨rfl, rfl⟩ | ⟨_, ha2⟩
    · rcases hget k b hb with ⟨rfl, rfl⟩ | ⟨_, hb2⟩
      · omega
      · have := hold k b hb2 g hg2
        have := (hu.range g hg).1
        omega
    · rcases hget k b hb with ⟨rfl, rfl⟩ | ⟨_, hb2⟩
      · have := hold i a ha2 g hg
        have := (hu.range g hg2).1
        omega
      · exact h.2.2 i k a b hik ha2 hb2 g hg hg2
/-- Rows that are all empty. -/
theorem RowsO.empty (w : World) (lo hi n : Nat) : RowsO w lo hi (List.replicate n (.slice Option.none 0 0)) (List.replicate n []) := by
  refine ⟨by simp, fun i u xs hu hx => ?_, fun i k a b _ ha _ g hg => ?_⟩
  · rw [List.getElem?_replicate] at hu hx
    split at hu
    · rw [if_pos (by assumption)] at hx
      cases hu; cases hx
      exact owI_nil _ _ _
    · cases hu
  · rw [List.getElem?_replicate] at ha
    split at ha
    · cases ha; cases hg
    · cases ha
theorem RowsO.form {w : World} {lo hi i : Nat} {us : List Value} {xss : List (List Int)} (h : RowsO w lo hi us xss) (hi2 : i < us.length) : ∃ A n c, us[i]? = some (.slice A n c) := by
  have hl := h.1
  obtain ⟨A, c, hv, _⟩ := (h.2.1 i us[i] xss[i] (List.getElem?_eq_getElem hi2) (List.getElem?_eq_getElem (by omega))).form
  exact ⟨A, _, c, by rw [List.getElem?_eq_getElem hi2, hv]⟩
/-- The indices that the reference has passed. -/
def preC (ls : List Int) (l i : Nat) : List Nat := grpN ls ls.length 1 (l - 1) ++ grpF ls i l
theorem preC_yes {ls : List Int} {l i : Nat} (h : ls.getD i 0 = (l : Int)) : preC ls l (i + 1) = preC ls l i ++ [i] := by unfold preC; rw [grpF_yes h, List.append_assoc]
theorem preC_no {ls : List Int} {l i : Nat} (h : ls.getD i 0 ≠ (l : Int)) : preC ls l (i + 1) = preC ls l i := by unfold preC; rw [grpF_no h]
theorem preC_end {ls : List Int} {l : Nat} (hl : 1 ≤ l) : preC ls l ls.length = grpN ls ls.length 1 l := by
  unfold preC
  have := grpN_split (ls := ls) (m := ls.length) (a := 1) (k := l - 1) (j := 1)
  rw [grpN_one, show l - 1 + 1 = l by omega, show 1 + (l - 1) = l by omega] at this
  exact this.symm
theorem preC_zero {ls : List Int} {l : Nat} : preC ls (l + 1) 0 = grpN ls ls.length 1 l := by unfold preC grpF; simp
theorem grpF_sub {ls : List Int} {i m l : Nat} (h : i ≤ m) : (grpF ls i l).Sublist (grpF ls m l) := by
  unfold grpF
  refine List.Sublist.filter _ ?_
  rw [List.range_eq_range', List.range_eq_range', show m = i + (m - i) by omega]
  have := List.range'_append (s := 0) (m := i) (n := m - i) (step := 1)
  rw [Nat.one_mul] at this
  rw [← this]
  exact List.sublist_append_left _ _
theorem preC_sub {ls : List Int} {l i : Nat} (hl : 1 ≤ l) (h6 : l ≤ 6) (hi : i ≤ ls.length) : (preC ls l i).Sublist (grpN ls ls.length 1 6) := by
  have h1 : (preC ls l i).Sublist (preC ls l ls.length) := List.Sublist.append (List.Sublist.refl _) (grpF_sub hi)
  rw [preC_end hl] at h1
  have h2 := grpN_split (ls := ls) (m := ls.length) (a := 1) (k := l) (j := 6 - l)
  rw [show l + (6 - l) = 6 by omega] at h2
  rw [h2]
  exact h1.trans (List.sublist_append_left _ _)
theorem sub_bd {ls : List Int} {r : Nat} (h : allB ls 1 6 = true) (hn : ls.length ≤ 20) (hr1 : 1 ≤ r) (hr : r ≤ 60) {is : List Nat} (hs : is.Sublist (grpN ls ls.length 1 6)) {l : Nat} (hl : (canRun ls r is).last ≤ l) (h6 : l ≤ 6) :
    1 ≤ (canRun ls r is).last ∧ (canRun ls r is).next ≤ 933120000000 ∧ (canRun ls r is).next * r ^ (l - (canRun ls r is).last) ≤ 933120000000 ∧ (is = [] ∨ ∃ i, is.getLast? = some i ∧ (canRun ls r is).last = (ls.getD i 0).toNat) := by
  have hp := (grpN_sorted ls ls.length 1 6).sublist hs
  have hm : ∀ i ∈ is, 1 ≤ ls.getD i 0 := fun i hi => by have := grpN_mem (hs.subset hi); omega
  have hb := canRun_bd hr1 is.length is rfl hp hm
  have hlen := hs.length_le
  rw [← order_grp h ls.length (Nat.le_refl _), orderBy_len] at hlen
  have e : r ^ l = r ^ (canRun ls r is).last * r ^ (l - (canRun ls r is).last) := by rw [← Nat.pow_add]; congr 1; omega
  have h2 := Nat.mul_le_mul_right (r ^ (l - (canRun ls r is).last)) hb.1
  rw [Nat.mul_assoc, ← e] at h2
  have h3 := pow_le hr h6
  have h4 : is.length * r ^ l ≤ 20 * 46656000000 := Nat.mul_le_mul (by omega) h3
  have h5 := pow_le hr (show (canRun ls r is).last ≤ 6 by omega)
  have h7 : is.length * r ^ (canRun ls r is).last ≤ 20 * 46656000000 := Nat.mul_le_mul (by omega) h5
  refine ⟨hb.2.1, by have := hb.1; omega, by omega, hb.2.2⟩
theorem preC_bd {ls : List Int} {r l i : Nat} (h : allB ls 1 6 = true) (hn : ls.length ≤ 20) (hr1 : 1 ≤ r) (hr : r ≤ 60) (hl : 1 ≤ l) (h6 : l ≤ 6) (hi : i ≤ ls.length) :
    1 ≤ (canRun ls r (preC ls l i)).last ∧ (canRun ls r (preC ls l i)).last ≤ l ∧ (canRun ls r (preC ls l i)).next ≤ 933120000000 ∧ (canRun ls r (preC ls l i)).next * r ^ (l - (canRun ls r (preC ls l i)).last) ≤ 933120000000 := by
  have hs := preC_sub (ls := ls) hl h6 hi
  have hp := (grpN_sorted ls ls.length 1 6).sublist hs
  have hm : ∀ k ∈ preC ls l i, 1 ≤ ls.getD k 0 := fun k hk => by have := grpN_mem (hs.subset hk); omega
  have hb := canRun_bd hr1 _ _ rfl hp hm
  have hla : (canRun ls r (preC ls l i)).last ≤ l := by
    rcases hb.2.2 with e | ⟨j, hj, e⟩
    · rw [e, canRun_nil]; exact hl
    · have hjm := List.mem_of_getLast? hj
      rw [e]
      unfold preC at hjm
      rcases List.mem_append.1 hjm with h1 | h1
      · have := grpN_mem h1; omega
      · have := grpF_mem h1; omega
  have := sub_bd h hn hr1 hr hs hla h6
  exact ⟨this.1, hla, this.2.1, this.2.2.1⟩
def canB (ls : List Int) (r : Int) : Bool := (lengthsB ls && inB r 2 60) && decide ((kraftN r.toNat (mostI ls).toNat ls : Int) ≤ ((r.toNat ^ (mostI ls).toNat : Nat) : Int))
def canR (ls : List Int) (r : Int) : List (List Int) := if canB ls r then canonL ls r.toNat else []
theorem sizeII_le {m : Nat} : ∀ (xss : List (List Int)), (∀ x ∈ xss, x.length ≤ m) → sizeII xss ≤ m * xss.length
  | [], _ => by simp [sizeII]
  | x :: xss, h => by
    have h1 := h x (by simp)
    have h2 := sizeII_le xss (fun y hy => h y (by simp [hy]))
    simp only [sizeII, List.length_cons, Nat.mul_add, Nat.mul_one]
    omega
theorem canRun_six {ls : List Int} {r : Nat} : ∀ (is : List Nat), (∀ i ∈ is, ls.getD i 0 ≤ 6) → ∀ s : CanS, (∀ x ∈ s.rows, x.length ≤ 6) → ∀ x ∈ (is.foldl (canStep ls r) s).rows, x.length ≤ 6
  | [], _, s, h => h
  | i :: is, hi, s, h => by
    rw [List.foldl_cons]
    refine canRun_six is (fun j hj => hi j (by simp [hj])) _ (fun x hx => ?_)
    have hi6 := hi i (by simp)
    unfold canStep at hx
    rcases List.mem_or_eq_of_mem_set hx with h1 | h1
    · exact h x h1
    · rw [h1, digL_len]; omega
theorem canR_size (ls : List Int) (r : Int) : sizeII (canR ls r) ≤ 120 ∧ (canR ls r).length ≤ 20 := by
  unfold canR
  split
  · rename_i h
    unfold canB at h
    simp only [Bool.and_eq_true] at h
    have hl := h.1.1
    unfold lengthsB at hl
    rw [Bool.and_eq_true] at hl
    have h20 := inB_iff.1 hl.1
    have h6 : ∀ x ∈ canonL ls r.toNat, x.length ≤ 6 := by
      refine canRun_six _ (fun i hi => ?_) _ (fun x hx => ?_)
      · have := grpN_mem hi; omega
      · rw [List.eq_of_mem_replicate hx]; simp
    have := sizeII_le _ h6
    rw [canonL_len] at this ⊢
    omega
  · simp [sizeII]
set_option maxRecDepth 100000 in
set_option maxHeartbeats 8000000 in
theorem sCanonicalCode_any (ls : List Int) (r : Int) (v : Value) (hi : Nat) (w : World) (h : RdI w hi v ls) (hh : hi ≤ w.heap.size) : Calls Try.prog 53 #[v, .int .i64 r] w (RetOwIIT (canR ls r) (canB ls r) w) := by
  obtain ⟨A, c, rfl, hc, hm⟩ := Rd.form h
  have H := Lib.hid h
  clear h
  cases hll : lengthsB ls
  · have HF : Hid (canB ls r = false) := by show _ = _; unfold canB; rw [hll]; rfl
    unfold canR; rw [HF.out]
    go_enter Try.func53, Try.ntmps53
    go_wp2_with (first | (go_at_call 151; refine (cmGood_any ls _ hi _ H.out).mono ?_; rintro e w' ⟨rfl, rfl⟩) | (go_at_call 152; refine (cmBase_any _ _).mono ?_; rintro e w' ⟨rfl, rfl⟩))
    go_ret2
    exact retOwIIT_nil _ (Below.refl _ _)
  · cases hr : inB r 2 60
    · have HF : Hid (canB ls r = false) := by show _ = _; unfold canB; rw [hll, hr]; rfl
      unfold canR; rw [HF.out]
      go_enter Try.func53, Try.ntmps53
      go_wp2_with (first | (go_at_call 151; refine (cmGood_any ls _ hi _ H.out).mono ?_; rintro e w' ⟨rfl, rfl⟩) | (go_at_call 152; refine (cmBase_any _ _).mono ?_; rintro e w' ⟨rfl, rfl⟩))
      go_ret2
      exact retOwIIT_nil _ (Below.refl _ _)
    · obtain ⟨hr1, hr2⟩ := inB_iff.1 hr
      obtain ⟨r, rfl⟩ := Int.eq_ofNat_of_zero_le (show 0 ≤ r by omega)
      have cH := cmHas_any ls r _ hi w H.out hll (by omega)
      cases hk : decide ((kraftN r (mostI ls).toNat ls : Int) ≤ ((r ^ (mostI ls).toNat : Nat) : Int))
      · have HF : Hid (canB ls (r : Int) = false) := by show _ = _; unfold canB; rw [Int.toNat_natCast, hk, Bool.and_false]
        rw [hk] at cH
        have CH := Lib.hid cH
        clear cH hk
        unfold canR; rw [HF.out]
        go_enter Try.func53, Try.ntmps53
        go_wp2_with (first | (go_at_call 151; refine (cmGood_any ls _ hi _ H.out).mono ?_; rintro e w' ⟨rfl, rfl⟩) | (go_at_call 152; refine (cmBase_any _ _).mono ?_; rintro e w' ⟨rfl, rfl⟩) | (go_at_call 153; refine (CH.out).mono ?_; rintro e w' ⟨rfl, rfl⟩))
        go_ret2
        exact retOwIIT_nil _ (Below.refl _ _)
      · have HF : Hid (canB ls (r : Int) = true) := by show _ = _; unfold canB; rw [Int.toNat_natCast, hk, hll, hr]; rfl
        rw [hk] at cH
        have CH := Lib.hid cH
        clear cH hk
        have hls := hll
        unfold lengthsB at hls
        rw [Bool.and_eq_true] at hls
        have hn20 := (inB_iff.1 hls.1)
        have HAL := Lib.hid hls.2
        have hmk := make_rows ls.length (by omega)
        clear hls
        go_enter Try.func53, Try.ntmps53
        go_wp2_with (first | (go_at_call 151; refine (cmGood_any ls _ hi _ H.out).mono ?_; rintro e w' ⟨rfl, rfl⟩) | (go_at_call 152; refine (cmBase_any _ _).mono ?_; rintro e w' ⟨rfl, rfl⟩) | (go_at_call 153; refine (CH.out).mono ?_; rintro e w' ⟨rfl, rfl⟩))
        go_loopw [7, 8, 9] (fun nv lv iv wr => ∃ (l nx la : Nat) (rows : List (List Int)) (us : List Value), 1 ≤ l ∧ l ≤ 7 ∧ nv = .int .i64 (nx : Int) ∧ lv = .int .i64 (la : Int) ∧ iv = .int .i64 (l : Int) ∧ Hid (canRun ls r (grpN ls ls.length 1 (l - 1)) = ⟨nx, la, rows⟩) ∧
          Hid (Blk wr w.heap.size 29 us) ∧ Hid (RowsO wr (w.heap.size + 1) wr.heap.size us rows) ∧ Hid (Below w.heap.size w wr)) (fun _ _ i _ => 7 - (intOf i).toNat)
        case atStart =>
          refine ⟨1, 0, 1, List.replicate ls.length [], List.replicate ls.length (.slice Option.none 0 0), Nat.le_refl _, by omega, rfl, rfl, rfl, canRun_nil, ?_, RowsO.empty _ _ _ _, (Below.refl _ _).alloc (Nat.le_refl _) _⟩
          have := Blk.new w 29 (nils ls.length)
          unfold nils at this
          exact this
        case round =>
          obtain ⟨l, nx, la, rows, us, hl1, hl7, rfl, rfl, rfl, hst, hbk, hrw, hbl⟩ := hrel
          by_cases hl6 : l ≤ 6
          · have hl6i : (l : Int) ≤ 6 := by omega
            have HST : Hid (canRun ls r (preC ls l 0) = ⟨nx, la, rows⟩) := by
              show _ = _
              have e := preC_zero (ls := ls) (l := l - 1)
              rw [show l - 1 + 1 = l by omega] at e
              rw [e]; exact hst.out
            clear hst
            rename World => wo
            go_wp2_with fail
            go_loopw [7, 8, 35] (fun nv lv iv wr => ∃ (i nx la : Nat) (rows : List (List Int)) (us : List Value), i ≤ ls.length ∧ nv = .int .i64 (nx : Int) ∧ lv = .int .i64 (la : Int) ∧ iv = .int .i64 (i : Int) ∧ Hid (canRun ls r (preC ls l i) = ⟨nx, la, rows⟩) ∧
              Hid (Blk wr w.heap.size 29 us) ∧ Hid (RowsO wr (w.heap.size + 1) wr.heap.size us rows) ∧ Hid (Below w.heap.size w wr)) (fun _ _ i _ => ls.length - (intOf i).toNat)
            case atStart => exact ⟨0, nx, la, rows, us, Nat.zero_le _, rfl, rfl, rfl, HST.out, hbk.out, hrw.out, hbl.out⟩
            case round =>
              obtain ⟨i, nx, la, rows, us, hil, rfl, rfl, rfl, hst, hbk, hrw, hbl⟩ := hrel
              by_cases hlt : i < ls.length
              · obtain ⟨b1, o1, c1, hv, _, hcell⟩ := RdI.getD (RdI.below H.out hbl.out hh) hlt
                cases hv
                obtain ⟨z, hz⟩ : ∃ z, z = ls.getD i 0 := ⟨_, rfl⟩
                rw [← hz] at hcell
                by_cases hzl : z = (l : Int)
                · subst hzl
                  have hbd := preC_bd (i := i) HAL.out (by omega) (show 1 ≤ r by omega) (by omega) hl1 hl6 hil
                  rw [hst.out] at hbd
                  obtain ⟨q1, q2, q3, q4⟩ := hbd
                  have q1' : 1 ≤ la := q1
                  have q2' : la ≤ l := q2
                  have q3' : nx ≤ 933120000000 := q3
                  obtain ⟨pw, hpw⟩ : ∃ pw, pw = r ^ (l - la) := ⟨_, rfl⟩
                  obtain ⟨N, hN⟩ : ∃ N, N = nx * pw := ⟨_, rfl⟩
                  have hNb : N ≤ 933120000000 := by rw [hN, hpw]; exact q4
                  have hmul : (nx : Int) * (pw : Int) = (N : Int) := by rw [hN]; simp
                  obtain ⟨d, hd⟩ : ∃ d, d = l - la := ⟨_, rfl⟩
                  have hsub : (l : Int) - (la : Int) = (d : Int) := by omega
                  have hd6 : d ≤ 6 := by omega
                  have cP := cmPower_any r d (by omega) hd6 wr
                  rw [hd, ← hpw, ← hd] at cP
                  have CP := Lib.hid cP
                  have HNX : Hid (canRun ls r (preC ls l (i + 1)) = ⟨N + 1, l, rows.set i (digL r N l)⟩) := by
                    show _ = _
                    rw [preC_yes hz.symm, canRun_snoc, hst.out]
                    unfold canStep
                    rw [← hz, Int.toNat_natCast, hN, hpw]
                  have CD := Lib.hid (cmDigits_any r N l wr (by omega) (by omega) hNb hl6)
                  have hul : us.length = ls.length := by
                    have h1 := hrw.out.1
                    have h2 := canRun_rows ls r (preC ls l i)
                    rw [hst.out] at h2
                    rw [h1]; exact h2
                  have HUL := Lib.hid hul
                  clear cP q1 q2 q3 q4 hN hpw hz hst hul hd
                  go_wp2_with (first | (go_at_call 154; refine (CP.out).mono ?_; rintro e w' ⟨rfl, rfl⟩))
                  refine CD.out.mono ?_
                  rintro e w2 ⟨u, rfl, hu, hb2⟩
                  have hs2 := hb2.size
                  have hgw : w.heap.size < wr.heap.size := hbk.out.lt
                  have hbk2 := hbk.out.below hb2 hgw
                  obtain ⟨A5, n5, c5, h5⟩ := hrw.out.form (i := i) (by rw [HUL.out]; exact hlt)
                  have hcell2 := hbk2.cell i
                  rw [h5] at hcell2
                  have hfr2 := hbk2.frozen i
                  obtain ⟨A6, c6, rfl, hm6⟩ := hu.form
                  have hset := hbk2.set_ i (.slice A6 (digL r N l).length c6)
                  have hput := (hrw.out.below hb2 (Nat.le_refl _)).put (j := i) hu (by omega) hs2
                  have hput2 := hput.keep ((Keep.refl w.heap.size (w.heap.size + 1) w2).setCell (p := ⟨w.heap.size, i, Option.none⟩) (Nat.le_refl _) (by simp) (.slice A6 (digL r N l).length c6)) (.inr (Nat.le_refl _))
                  have hblx := (hbl.out.trans (hb2.mono (by omega))).setCell (p := ⟨w.heap.size, i, Option.none⟩) (Nat.le_refl _) (.slice A6 (digL r N l).length c6)
                  have hszs : (w2.setCell ⟨w.heap.size, i, Option.none⟩ (.slice A6 (digL r N l).length c6)).heap.size = w2.heap.size := by simp [World.setCell]
                  rw [← hszs] at hput2
                  have HS := Lib.hid hset
                  have HP2 := Lib.hid hput2
                  have HBX := Lib.hid hblx
                  clear hset hput hput2 hblx hu hb2 hbk2 h5 hszs
                  go_wp2_with fail
                  go_roundw
                  case rel => exact ⟨i + 1, N + 1, l, _, _, by omega, by go_num, rfl, by go_num, HNX.out, HS.out, HP2.out, HBX.out⟩
                  case measure => (simp [intOf]; try omega)
                · have hne : (z == (l : Int)) = false := by rw [beq_eq_false_iff_ne]; exact hzl
                  have HNX : Hid (canRun ls r (preC ls l (i + 1)) = ⟨nx, la, rows⟩) := by
                    show _ = _
                    rw [preC_no (by rw [← hz]; exact hzl)]; exact hst.out
                  clear hst hz
                  go_wp2_with fail
                  go_roundw
                  case rel => exact ⟨i + 1, nx, la, rows, us, by omega, rfl, rfl, by go_num, HNX.out, hbk.out, hrw.out, hbl.out⟩
                  case measure => (simp [intOf]; try omega)
              · obtain rfl : i = ls.length := by omega
                have HNX : Hid (canRun ls r (grpN ls ls.length 1 (l + 1 - 1)) = ⟨nx, la, rows⟩) := by
                  show _ = _
                  rw [Nat.add_sub_cancel, ← preC_end hl1]; exact hst.out
                go_wp2_with fail
                go_roundw
                case rel => exact ⟨l + 1, nx, la, rows, us, by omega, by omega, rfl, rfl, by go_num, HNX.out, hbk.out, hrw.out, hbl.out⟩
                case measure => (simp [intOf]; try omega)
          · obtain rfl : l = 7 := by omega
            have HR : Hid (rows = canR ls (r : Int)) := by
              show _ = _
              unfold canR
              rw [HF.out]
              simp only [if_true, Int.toNat_natCast]
              unfold canonL
              rw [show (6 : Nat) = 7 - 1 from rfl, hst.out]
            have hul : us.length = ls.length := by
              have h1 := hrw.out.1
              have h2 := canRun_rows ls r (grpN ls ls.length 1 (7 - 1))
              rw [hst.out] at h2
              rw [h1]; exact h2
            have HUL := Lib.hid hul
            clear hst hul
            go_wp2_with fail
            go_ret2
            rw [HF.out, ← HR.out]
            refine ⟨.slice (some ⟨w.heap.size, 0, Option.none⟩) ls.length ls.length, ret_val rfl, ?_, hbl.out⟩
            refine ⟨us, hrw.out.mono (by omega) (Nat.le_refl _), ⟨?_, .inr ⟨w.heap.size, ls.length, us.toArray, ?_, Nat.le_refl _, hbk.out, ?_, by unfold maxLen; omega, by simp [HUL.out], ?_⟩⟩, fun g hg => by cases hg; exact hbk.out.lt⟩
            · rw [Nat.mul_one]; exact hrw.out.1
            · rw [← hrw.out.1, HUL.out]
            · rw [← hrw.out.1, HUL.out]; exact Nat.le_refl _
            · rw [List.take_of_length_le (by rw [← hrw.out.1]; exact Nat.le_of_eq (by simp))]
end Go.Proofs.Ytabiobjcfopakaa
/- Contracts: CanonicalCode of the program. -/
namespace Go.Proofs.Ytabiobjcfopakaa
open Go.RowKit
theorem nats_at {L : List Nat} {k i : Nat} (h : L[k]? = some i) : (nats L)[k]? = some (.int .i64 (i : Int)) := by unfold nats; rw [List.getElem?_map, h]; rfl
/-- The first k numbers, then zeros. -/
def cntI (n k : Nat) : List Value := nats (List.range k) ++ List.replicate (n - k) (Value.int .i64 0)
theorem cntI_zero (n : Nat) : (zeros n).toList = cntI n 0 := by simp [zeros, cntI]
theorem cntI_full (n : Nat) : cntI n n = nats (List.range n) := by simp [cntI]
theorem cntI_at {n k : Nat} (h : k < n) : (cntI n k)[k]? = some (.int .i64 0) := by
  unfold cntI
  rw [List.getElem?_append_right (by simp), List.getElem?_replicate, if_pos (by simp; omega)]
theorem cntI_set {n k : Nat} (h : k < n) : (cntI n k).set k (.int .i64 (k : Int)) = cntI n (k + 1) := by
  unfold cntI
  obtain ⟨q, hq⟩ : ∃ q, n - k = q + 1 := ⟨n - k - 1, by omega⟩
  rw [hq, show n - (k + 1) = q by omega, List.replicate_succ]
  have := set_mid (nats (List.range k)) (List.replicate q (Value.int .i64 0)) (.int .i64 0) (.int .i64 (k : Int))
  rw [show (nats (List.range k)).length = k by simp] at this
  rw [this, List.range_succ]
  simp [nats]
theorem Only.bel {w w' : World} {g lo : Nat} (h : Only (some g) w w') (hl : lo ≤ g) : Below lo w w' :=
  ⟨h.os, h.tape, h.output, Nat.le_of_eq h.size.symm, fun k hk => h.block k (by intro e; cases e; omega)⟩
/-- One step of the program. -/
theorem can_on {ls : List Int} {r : Nat} (h : allB ls 1 6 = true) (hn : ls.length ≤ 20) (hr1 : 1 ≤ r) (hr : r ≤ 60) {k i : Nat} (hi : (grpN ls ls.length 1 6)[k]? = some i) :
    ∃ li : Nat, ls.getD i 0 = (li : Int) ∧ i < ls.length ∧ 1 ≤ li ∧ li ≤ 6 ∧ (canRun ls r ((grpN ls ls.length 1 6).take k)).last ≤ li ∧ (canRun ls r ((grpN ls ls.length 1 6).take k)).next * r ^ (li - (canRun ls r ((grpN ls ls.length 1 6).take k)).last) ≤ 933120000000 ∧
      canRun ls r ((grpN ls ls.length 1 6).take (k + 1)) = canStep ls r (canRun ls r ((grpN ls ls.length 1 6).take k)) i := by
  have hm := grpN_mem (List.mem_of_getElem? hi)
  have hb := allB_at h hm.1
  refine ⟨(ls.getD i 0).toNat, by omega, hm.1, by omega, by omega, ?_⟩
  have hk := (List.getElem?_eq_some_iff.1 hi).1
  have hs := grpN_sorted ls ls.length 1 6
  rw [← List.take_append_drop k (grpN ls ls.length 1 6), List.pairwise_append] at hs
  have hd : (grpN ls ls.length 1 6).drop k = i :: (grpN ls ls.length 1 6).drop (k + 1) := by rw [List.drop_eq_getElem_cons hk]; rw [List.getElem?_eq_getElem hk] at hi; cases hi; rfl
  rw [hd] at hs
  have hmm : ∀ j ∈ (grpN ls ls.length 1 6).take k, 1 ≤ ls.getD j 0 := fun j hj => by have := grpN_mem (List.mem_of_mem_take hj); omega
  have hbd := canRun_bd hr1 _ _ rfl hs.1 hmm
  have hla : (canRun ls r ((grpN ls ls.length 1 6).take k)).last ≤ (ls.getD i 0).toNat := by
    rcases hbd.2.2 with e | ⟨j, hj, e⟩
    · rw [e, canRun_nil]; show 1 ≤ _; omega
    · have := hs.2.2 j (List.mem_of_getLast? hj) i (by simp)
      omega
  have hsb := sub_bd h hn hr1 hr (List.take_sublist k _) hla (by omega)
  exact ⟨hla, hsb.2.2.1, by rw [take_snocN hi, canRun_snoc]⟩
theorem cmp_len {ls : List Int} {s : Value} {B g hi : Nat} {w : World} (h : RdI w hi s ls) (hc : w.cell? ⟨B, 0, Option.none⟩ = some s) (hB : B < g) (hh : hi ≤ g) : CmpI 160 #[.pointer (some ⟨B, 0, Option.none⟩)] g ls.length (cLen ls) w :=
  fun w' ho x y hx hy => canon1_any ls s B hi x y w' (RdI.below h (ho.bel (Nat.le_refl g)) hh) hx hy (((ho.bel (Nat.le_refl g)).cell (p := ⟨B, 0, Option.none⟩) hB).trans hc)
set_option maxRecDepth 100000 in
set_option maxHeartbeats 8000000 in
theorem CanonicalCode_any (ls : List Int) (r : Int) (v : Value) (hi : Nat) (w : World) (h : RdI w hi v ls) (hh : hi ≤ w.heap.size) : Calls Try.prog 55 #[v, .int .i64 r] w (RetOwIIT (canR ls r) (canB ls r) w) := by
  obtain ⟨A, c, rfl, hc, hm⟩ := Rd.form h
  have hba : Below w.heap.size w (w.alloc (.cells #[.slice A ls.length c] 29)) := (Below.refl _ _).alloc (Nat.le_refl _) _
  have HBA := Lib.hid hba
  have HBX : Hid (Blk (w.alloc (.cells #[.slice A ls.length c] 29)) w.heap.size 29 [.slice A ls.length c]) := Blk.new _ _ _
  have hcb := HBX.out.cell 0
  simp only [List.getElem?_cons_zero] at hcb
  have H := Lib.hid (RdI.below h hba hh)
  clear h hba
  cases hll : lengthsB ls
  · have HF : Hid (canB ls r = false) := by show _ = _; unfold canB; rw [hll]; rfl
    unfold canR; rw [HF.out]
    go_enter Try.func55, Try.ntmps55
    go_wp2_with (first | (go_at_call 156; refine (areLengths_any ls _ hi _ H.out).mono ?_; rintro e w' ⟨rfl, rfl⟩) | (go_at_call 157; refine (isRadix_any _ _).mono ?_; rintro e w' ⟨rfl, rfl⟩))
    go_ret2
    exact retOwIIT_nil _ HBA.out
  · cases hr : inB r 2 60
    · have HF : Hid (canB ls r = false) := by show _ = _; unfold canB; rw [hll, hr]; rfl
      unfold canR; rw [HF.out]
      go_enter Try.func55, Try.ntmps55
      go_wp2_with (first | (go_at_call 156; refine (areLengths_any ls _ hi _ H.out).mono ?_; rintro e w' ⟨rfl, rfl⟩) | (go_at_call 157; refine (isRadix_any _ _).mono ?_; rintro e w' ⟨rfl, rfl⟩))
      go_ret2
      exact retOwIIT_nil _ HBA.out
    · obtain ⟨hr1, hr2⟩ := inB_iff.1 hr
      obtain ⟨r, rfl⟩ := Int.eq_ofNat_of_zero_le (show 0 ≤ r by omega)
      obtain ⟨kn, hkn⟩ : ∃ k, k = kraftN r (mostI ls).toNat ls := ⟨_, rfl⟩
      obtain ⟨ka, hka⟩ : ∃ k, k = r ^ (mostI ls).toNat := ⟨_, rfl⟩
      have cK := kraftSum_any ls r _ hi _ H.out hll (by omega)
      rw [← hkn, ← hka] at cK
      by_cases hk : ka < kn
      · have HF : Hid (canB ls (r : Int) = false) := by show _ = _; unfold canB; rw [Int.toNat_natCast, ← hkn, ← hka, decide_eq_false (by omega), Bool.and_false]
        have CK := Lib.hid cK
        have hki : (ka : Int) < (kn : Int) := by omega
        clear cK hkn hka
        unfold canR; rw [HF.out]
        go_enter Try.func55, Try.ntmps55
        go_wp2_with (first | (go_at_call 156; refine (areLengths_any ls _ hi _ H.out).mono ?_; rintro e w' ⟨rfl, rfl⟩) | (go_at_call 157; refine (isRadix_any _ _).mono ?_; rintro e w' ⟨rfl, rfl⟩) | (go_at_call 158; refine (CK.out).mono ?_; rintro e w' ⟨rfl, rfl⟩))
        go_ret2
        exact retOwIIT_nil _ HBA.out
      · have HF : Hid (canB ls (r : Int) = true) := by show _ = _; unfold canB; rw [Int.toNat_natCast, ← hkn, ← hka, decide_eq_true (by omega), hll, hr]; rfl
        have CK := Lib.hid cK
        have hki : ¬ (ka : Int) < (kn : Int) := by omega
        clear cK hkn hka
        have hls := hll
        unfold lengthsB at hls
        rw [Bool.and_eq_true] at hls
        have hn20 := (inB_iff.1 hls.1)
        have HAL := Lib.hid hls.2
        have hmk := make_ints ls.length (by omega)
        have hmr := make_rows ls.length (by omega)
        clear hls
        go_enter Try.func55, Try.ntmps55
        go_wp2_with (first | (go_at_call 156; refine (areLengths_any ls _ hi _ H.out).mono ?_; rintro e w' ⟨rfl, rfl⟩) | (go_at_call 157; refine (isRadix_any _ _).mono ?_; rintro e w' ⟨rfl, rfl⟩) | (go_at_call 158; refine (CK.out).mono ?_; rintro e w' ⟨rfl, rfl⟩))
        have hcb1 : ∀ wr, Below (w.heap.size + 1) (w.alloc (.cells #[.slice A ls.length c] 29)) wr → wr.cell? ⟨w.heap.size, 0, Option.none⟩ = some (.slice A ls.length c) := fun wr hb => (hb.cell (p := ⟨w.heap.size, 0, Option.none⟩) (Nat.lt_succ_self _)).trans hcb
        have HC1 := Lib.hid hcb1
        clear hcb hcb1
        go_loopw [40] (fun i wr => ∃ k : Nat, k ≤ ls.length ∧ i = .int .i64 (k : Int) ∧ Hid (Blk wr (w.heap.size + 1) 3 (cntI ls.length k)) ∧ Hid (Below (w.heap.size + 1) (w.alloc (.cells #[.slice A ls.length c] 29)) wr)) (fun i _ => ls.length - (intOf i).toNat)
        case atStart => 
          refine ⟨0, Nat.zero_le _, rfl, ?_, ?_⟩
          · have := Blk.new (w.alloc (.cells #[.slice A ls.length c] 29)) 3 (zeros ls.length)
            rw [cntI_zero] at this
            show Blk _ _ _ _
            simpa using this
          · exact (Below.refl _ _).alloc (by simp) _
        case round =>
          obtain ⟨k, hk2, rfl, hbk, hbl⟩ := hrel
          by_cases hlt : k < ls.length
          · have hcell := hbk.out.cell k
            rw [cntI_at hlt] at hcell
            have hfr := hbk.out.frozen k
            have HB2 := Lib.hid (hbk.out.set_ k (.int .i64 (k : Int)))
            go_wp2_with fail
            go_roundw
            case rel => exact ⟨k + 1, by omega, by go_num, by have := HB2.out; rw [cntI_set hlt] at this; exact this, hbl.out.setCell (p := ⟨w.heap.size + 1, k, Option.none⟩) (Nat.le_refl _) _⟩
            case measure => (simp [intOf]; try omega)
          · obtain rfl : k = ls.length := by omega
            have hb0 := hbk.out
            rw [cntI_full] at hb0
            have hrd := RdI.below H.out (hbl.out.mono (show w.heap.size ≤ w.heap.size + 1 by omega)) hh
            have hcx := HC1.out wr hbl.out
            have CS := Lib.hid (sortStable_any ls.length ls.length (w.heap.size + 1) 160 #[.pointer (some ⟨w.heap.size, 0, Option.none⟩)] (cLen ls) wr (by omega) (by omega) (Nat.le_refl _) hb0 (cmp_len hrd hcx (by omega) (by omega)) (enters_of Try.func160 (by kernel_rfl) rfl))
            clear hb0 hrd hcx
            go_wp2_with fail
            refine CS.out.mono ?_
            rintro e w1 ⟨⟨zz, rfl⟩, hb1, ho1⟩
            rw [pOf_len, order_grp HAL.out ls.length (Nat.le_refl _)] at hb1
            obtain ⟨L, hL⟩ : ∃ L, L = grpN ls ls.length 1 6 := ⟨_, rfl⟩
            have hLl : L.length = ls.length := by rw [hL, ← order_grp HAL.out ls.length (Nat.le_refl _), orderBy_len]
            rw [← hL] at hb1
            have hw1 : Below (w.heap.size + 1) (w.alloc (.cells #[.slice A ls.length c] 29)) w1 := hbl.out.trans (ho1.bel (Nat.le_refl _))
            have hs1 : w.heap.size + 2 ≤ w1.heap.size := by have := hb1.lt; omega
            have hcb1 := HC1.out w1 hw1
            have HCB := Lib.hid hcb1
            have H1 := Lib.hid (RdI.below H.out (hw1.mono (show w.heap.size ≤ w.heap.size + 1 by omega)) hh)
            have HB1 := Lib.hid hb1
            have HL := Lib.hid hL
            have HLL := Lib.hid hLl
            have HWB : Hid (Below w.heap.size w w1) := HBA.out.trans (hw1.mono (by omega))
            clear hb1 ho1 hw1 hL hLl hbk hbl CS hcb1
            obtain ⟨i0, hi0⟩ : ∃ i, L[0]? = some i := ⟨_, List.getElem?_eq_getElem (by rw [HLL.out]; omega)⟩
            obtain ⟨l0, z1, z2, z3, z4, _⟩ := can_on (r := r) HAL.out (by omega) (by omega) (by omega) (show (grpN ls ls.length 1 6)[0]? = some i0 by rw [← HL.out]; exact hi0)
            obtain ⟨b1, o1, c1, hv, hb1h, hcl⟩ := RdI.getD H1.out z2
            cases hv
            rw [z1] at hcl
            have hco := HB1.out.cell 0
            rw [nats_at hi0] at hco
            have hba2 : Below w1.heap.size w1 (w1.alloc (.cells (nils ls.length) 29)) := (Below.refl _ _).alloc (Nat.le_refl _) _
            have hco2 := (hba2.cell (p := ⟨w.heap.size + 1, 0, Option.none⟩) (by show w.heap.size + 1 < w1.heap.size; omega)).trans hco
            have hcl2 := (hba2.cell (p := ⟨b1, o1 + i0, Option.none⟩) (by show b1 < w1.heap.size; omega)).trans hcl
            have hcb2 := (hba2.cell (p := ⟨w.heap.size, 0, Option.none⟩) (by show w.heap.size < w1.heap.size; omega)).trans HCB.out
            have HI0 := Lib.hid hi0
            have HZ1 := Lib.hid z1
            have hcbw := HCB.out
            clear hi0 z1 hcl hco
            go_wp2_with fail
            go_quiet (fail)
            have hnx0 : Hid (canRun ls r (L.take 0) = ⟨0, 1, List.replicate ls.length []⟩) := by show _ = _; rw [List.take_zero, canRun_nil]
            have HBN : Hid (Blk ((w1.alloc (.cells (nils ls.length) 29)).drewN nq) w1.heap.size 29 (List.replicate ls.length (.slice Option.none 0 0))) := by
              have := Blk.new w1 29 (nils ls.length)
              unfold nils at this
              exact this
            have HBD : Hid (Below w1.heap.size w1 ((w1.alloc (.cells (nils ls.length) 29)).drewN nq)) := hba2.trans (bel_drewN _ _ _)
            have hsz3 : ((w1.alloc (.cells (nils ls.length) 29)).drewN nq).heap.size = w1.heap.size + 1 := by show (w1.alloc (.cells (nils ls.length) 29)).heap.size = _; simp
            have HSZ := Lib.hid hsz3
            clear hco2 hcl2 hcb2 hsz3 hba2 hcbw
            generalize ((w1.alloc (.cells (nils ls.length) 29)).drewN nq) = w2 at HBN HBD HSZ ⊢
            go_wp2_with fail
            go_loopw [11, 12, 62] (fun dv lv kv wr => ∃ (k wd lo nx la : Nat) (rows : List (List Int)) (us : List Value), k ≤ ls.length ∧ dv = .int .i64 (wd : Int) ∧ lv = .int .i64 (lo : Int) ∧ kv = .int .i64 (k : Int) ∧ Hid (canRun ls r (L.take k) = ⟨nx, la, rows⟩) ∧
              ((k = 0 ∧ wd = 0 ∧ lo = l0) ∨ (0 < k ∧ wd + 1 = nx ∧ lo = la)) ∧ Hid (Blk wr w1.heap.size 29 us) ∧ Hid (RowsO wr (w1.heap.size + 1) wr.heap.size us rows) ∧ Hid (Below w1.heap.size w1 wr)) (fun _ _ i _ => ls.length - (intOf i).toNat)
            case atStart => exact ⟨0, 0, l0, 0, 1, _, _, Nat.zero_le _, rfl, rfl, rfl, hnx0.out, .inl ⟨rfl, rfl, rfl⟩, HBN.out, RowsO.empty _ _ _ _, HBD.out⟩
            case round =>
              obtain ⟨k, wd, lo, nx, la, rows, us, hkl, rfl, rfl, rfl, hst, hlink, hbk, hrw, hbl⟩ := hrel
              have hG : w1.heap.size < wr.heap.size := hbk.out.lt
              have hul : us.length = ls.length := by
                have h1 := hrw.out.1
                have h2 := canRun_rows ls r (L.take k)
                rw [hst.out] at h2
                rw [h1]; exact h2
              have HUL := Lib.hid hul
              clear hul
              by_cases hlt : k < ls.length
              · obtain ⟨i, hi⟩ : ∃ i, L[k]? = some i := ⟨_, List.getElem?_eq_getElem (by rw [HLL.out]; exact hlt)⟩
                obtain ⟨li, z1, z2, z3, z4, z5, z6, z7⟩ := can_on (r := r) HAL.out (by omega) (by omega) (by omega) (show (grpN ls ls.length 1 6)[k]? = some i by rw [← HL.out]; exact hi)
                rw [← HL.out, hst.out] at z5 z6 z7
                have z5' : la ≤ li := z5
                have z6' : nx * r ^ (li - la) ≤ 933120000000 := z6
                obtain ⟨d, hd⟩ : ∃ d, d = li - lo := ⟨_, rfl⟩
                obtain ⟨pw, hpw⟩ : ∃ pw, pw = r ^ d := ⟨_, rfl⟩
                obtain ⟨N, hN⟩ : ∃ N, N = nx * pw := ⟨_, rfl⟩
                have hfst : k = 0 → nx = 0 ∧ la = 1 ∧ li = l0 := by
                  intro e
                  subst e
                  have h1 := hnx0.out
                  rw [hst.out] at h1
                  cases h1
                  have h2 := HI0.out
                  rw [hi] at h2
                  cases h2
                  have h3 := HZ1.out
                  rw [z1] at h3
                  exact ⟨rfl, rfl, by omega⟩
                have hNN : N = nx * r ^ (li - la) := by
                  rw [hN, hpw, hd]
                  rcases hlink with ⟨e, _, _⟩ | ⟨_, _, e⟩
                  · rw [(hfst e).1]; simp
                  · rw [e]
                have hNb : N ≤ 933120000000 := by rw [hNN]; exact z6'
                have hlo : lo ≤ li := by
                  rcases hlink with ⟨e, _, e2⟩ | ⟨_, _, e⟩
                  · have := (hfst e).2.2; omega
                  · omega
                have hnxb : nx ≤ 933120000000 := by
                  have h1 := sub_bd (r := r) HAL.out (by omega) (by omega) (by omega) (List.take_sublist k _) (l := li) (show (canRun ls r ((grpN ls ls.length 1 6).take k)).last ≤ li by rw [← HL.out, hst.out]; exact z5') z4
                  rw [← HL.out, hst.out] at h1
                  exact h1.2.1
                have HNX : Hid (canRun ls r (L.take (k + 1)) = ⟨N + 1, li, rows.set i (digL r N li)⟩) := by
                  show _ = _
                  rw [z7]
                  unfold canStep
                  rw [z1, Int.toNat_natCast, hNN]
                have hsub : (li : Int) - (lo : Int) = (d : Int) := by omega
                have hd6 : d ≤ 6 := by omega
                have cP := powerOf_any r d (by omega) hd6 wr
                rw [← hpw] at cP
                have CP := Lib.hid cP
                have hmul : (nx : Int) * (pw : Int) = (N : Int) := by rw [hN]; simp
                obtain ⟨b1', o1', c1', hv, hb1h', hcl⟩ := RdI.getD (RdI.below H1.out hbl.out (by omega)) z2
                cases hv
                rw [z1] at hcl
                have hco := (HB1.out.below hbl.out (show w.heap.size + 1 < w1.heap.size by omega)).cell k
                rw [nats_at hi] at hco
                have hcb := (hbl.out.cell (p := ⟨w.heap.size, 0, Option.none⟩) (by show w.heap.size < w1.heap.size; omega)).trans HCB.out
                have hmz := make_ints li (by omega)
                have HI := Lib.hid hi
                have hr0 : (r : Int) ≠ 0 := by omega
                have HLI := Lib.hid z2
                have HNX1 : Hid (k = 0 → nx = 0) := fun e => (hfst e).1
                have HN1 : Hid (k = 0 → N = 0) := fun e => by rw [hN, (hfst e).1, Nat.zero_mul]
                clear z1 z5 z6 z6' z7 hd hpw hN hNN cP hfst hst hi z2
                rcases hlink with ⟨e, rfl, rfl⟩ | ⟨e, e2, rfl⟩
                · have hdk : decide (0 < k) = false := decide_eq_false (by omega)
                  have hnx1 : nx = 0 := HNX1.out e
                  have HNV : Hid (Value.int .i64 0 = .int .i64 (N : Int)) := by show _ = _; rw [HN1.out e]; rfl
                  subst hnx1
                  clear e
                  go_wp2_with (first | (go_at_call 162; refine (CP.out).mono ?_; rintro e w' ⟨rfl, rfl⟩))
                  have hbm : Below wr.heap.size wr (wr.alloc (.cells (zeros li) 3)) := (Below.refl _ _).alloc (Nat.le_refl _) _
                  have HZ0 : Hid (Blk (wr.alloc (.cells (zeros li) 3)) wr.heap.size 3 (zerI li [])) := by
                    have := Blk.new wr 3 (zeros li)
                    rw [zerI_start] at this
                    exact this
                  have HBM := Lib.hid hbm
                  clear hbm hcl hco hcb
                  rename World => wo
                  go_loopw [16, 17] (fun zv qv wr => ∃ (kk q : Nat) (z : Int) (D : List Int), kk ≤ li ∧ zv = .int .i64 z ∧ qv = .int .i64 (q : Int) ∧ z + 1 = (kk : Int) ∧ q ≤ N ∧ Hid (DigTo r N li kk q D) ∧ Hid (Blk wr wo.heap.size 3 (zerI kk D)) ∧ Hid (Below wo.heap.size wo wr)) (fun i _ _ => (intOf i + 1).toNat)
                  case atStart => exact ⟨li, N, _, [], Nat.le_refl _, rfl, by first | rfl | exact HNV.out, by omega, Nat.le_refl _, DigTo.start _ _ _, HZ0.out, HBM.out⟩
                  case round =>
                    obtain ⟨kk, q, z, D, hkk, rfl, rfl, hz, hqn, hd, hb, hbel⟩ := hrel
                    rcases Nat.eq_zero_or_pos kk with h0 | h0
                    · subst h0
                      obtain rfl : z = -1 := by omega
                      have hdd := hd.out.done
                      have hdl : D.length = li := by rw [hdd, digL_len]
                      have hown : OwI wr wo.heap.size wr.heap.size (.slice (some ⟨wo.heap.size, 0, Option.none⟩) D.length D.length) D := own_of_blk (show Blk wr wo.heap.size 3 (ints D) from hb.out) (Nat.le_refl _) hb.out.lt (by unfold maxLen; omega)
                      rw [hdl] at hown
                      have hszw := hbel.out.size
                      have hbk2 := hbk.out.below hbel.out hG
                      obtain ⟨A5, n5, c5, h5⟩ := hrw.out.form (i := i) (by rw [HUL.out]; exact HLI.out)
                      have hcell2 := hbk2.cell i
                      rw [h5] at hcell2
                      have hfr2 := hbk2.frozen i
                      have hset := hbk2.set_ i (.slice (some ⟨wo.heap.size, 0, Option.none⟩) li li)
                      have hput := (hrw.out.below hbel.out (Nat.le_refl _)).put (j := i) hown (by omega) hszw
                      have hput2 := hput.keep ((Keep.refl w1.heap.size (w1.heap.size + 1) wr).setCell (p := ⟨w1.heap.size, i, Option.none⟩) (Nat.le_refl _) (by simp) (.slice (some ⟨wo.heap.size, 0, Option.none⟩) li li)) (.inr (Nat.le_refl _))
                      have hblx := (hbl.out.trans (hbel.out.mono (by omega))).setCell (p := ⟨w1.heap.size, i, Option.none⟩) (Nat.le_refl _) (.slice (some ⟨wo.heap.size, 0, Option.none⟩) li li)
                      have hszs : (wr.setCell ⟨w1.heap.size, i, Option.none⟩ (.slice (some ⟨wo.heap.size, 0, Option.none⟩) li li)).heap.size = wr.heap.size := by simp [World.setCell]
                      rw [← hszs, hdd] at hput2
                      have HS := Lib.hid hset
                      have HP2 := Lib.hid hput2
                      have HBX2 := Lib.hid hblx
                      have hli2 : i < ls.length := HLI.out
                      clear hset hput hput2 hblx hown hbk2 h5 hszs hdd hdl hz
                      go_wp2_with fail
                      go_roundw
                      case rel => exact ⟨k + 1, N, li, N + 1, li, _, _, by omega, by first | rfl | exact HNV.out, rfl, by go_num, HNX.out, .inr ⟨by omega, rfl, rfl⟩, HS.out, HP2.out, HBX2.out⟩
                      case measure => (simp [intOf]; try omega)
                    · obtain ⟨s, rfl⟩ : ∃ s, kk = s + 1 := ⟨kk - 1, by omega⟩
                      obtain rfl : z = (s : Int) := by omega
                      have hcell := hb.out.cell s
                      rw [zerI_at] at hcell
                      have hfr := hb.out.frozen s
                      have hsl : (s : Int) < (li : Int) := by omega
                      have HD2 := Lib.hid hd.out.step
                      have HB2 : Hid (∀ u, Blk (wr.setCell ⟨wo.heap.size, s, Option.none⟩ (.int .i64 u)) wo.heap.size 3 (zerI s (u :: D))) := fun u => by rw [← zerI_set]; exact hb.out.set_ _ _
                      have HC2 : Hid (∀ u, Below wo.heap.size wo (wr.setCell ⟨wo.heap.size, s, Option.none⟩ u)) := fun u => hbel.out.setCell (p := ⟨wo.heap.size, s, Option.none⟩) (Nat.le_refl _) _
                      have hq2' : q / r ≤ 933120000000 := Nat.le_trans (Nat.div_le_self _ _) (by omega)
                      have hq2 : q / r ≤ N := Nat.le_trans (Nat.div_le_self _ _) hqn
                      have HQW : Hid (wrap64 ((q : Int) / (r : Int)) = ((q / r : Nat) : Int)) := by show _ = _; rw [← Int.natCast_ediv]; exact wrap_nat hq2'
                      clear hz h0
                      go_wp2_with fail
                      go_quiet (fail)
                      go_wp2_with fail
                      go_roundw
                      case rel => exact ⟨s, q / r, (s : Int) - 1, _, by omega, by rfl, by rw [HQW.out], by omega, hq2, HD2.out, HB2.out _, (HC2.out _).trans (bel_drewN _ _ _)⟩
                      case measure => (simp [intOf]; try omega)
                · have hdk : decide (0 < k) = true := decide_eq_true e
                  have hwd : (wd : Int) + 1 = (nx : Int) := by omega
                  clear e e2
                  go_wp2_with (first | (go_at_call 162; refine (CP.out).mono ?_; rintro e w' ⟨rfl, rfl⟩))
                  have hbm : Below wr.heap.size wr (wr.alloc (.cells (zeros li) 3)) := (Below.refl _ _).alloc (Nat.le_refl _) _
                  have HZ0 : Hid (Blk (wr.alloc (.cells (zeros li) 3)) wr.heap.size 3 (zerI li [])) := by
                    have := Blk.new wr 3 (zeros li)
                    rw [zerI_start] at this
                    exact this
                  have HBM := Lib.hid hbm
                  clear hbm hcl hco hcb
                  rename World => wo
                  go_loopw [16, 17] (fun zv qv wr => ∃ (kk q : Nat) (z : Int) (D : List Int), kk ≤ li ∧ zv = .int .i64 z ∧ qv = .int .i64 (q : Int) ∧ z + 1 = (kk : Int) ∧ q ≤ N ∧ Hid (DigTo r N li kk q D) ∧ Hid (Blk wr wo.heap.size 3 (zerI kk D)) ∧ Hid (Below wo.heap.size wo wr)) (fun i _ _ => (intOf i + 1).toNat)
                  case atStart => exact ⟨li, N, _, [], Nat.le_refl _, rfl, by first | rfl | exact HNV.out, by omega, Nat.le_refl _, DigTo.start _ _ _, HZ0.out, HBM.out⟩
                  case round =>
                    obtain ⟨kk, q, z, D, hkk, rfl, rfl, hz, hqn, hd, hb, hbel⟩ := hrel
                    rcases Nat.eq_zero_or_pos kk with h0 | h0
                    · subst h0
                      obtain rfl : z = -1 := by omega
                      have hdd := hd.out.done
                      have hdl : D.length = li := by rw [hdd, digL_len]
                      have hown : OwI wr wo.heap.size wr.heap.size (.slice (some ⟨wo.heap.size, 0, Option.none⟩) D.length D.length) D := own_of_blk (show Blk wr wo.heap.size 3 (ints D) from hb.out) (Nat.le_refl _) hb.out.lt (by unfold maxLen; omega)
                      rw [hdl] at hown
                      have hszw := hbel.out.size
                      have hbk2 := hbk.out.below hbel.out hG
                      obtain ⟨A5, n5, c5, h5⟩ := hrw.out.form (i := i) (by rw [HUL.out]; exact HLI.out)
                      have hcell2 := hbk2.cell i
                      rw [h5] at hcell2
                      have hfr2 := hbk2.frozen i
                      have hset := hbk2.set_ i (.slice (some ⟨wo.heap.size, 0, Option.none⟩) li li)
                      have hput := (hrw.out.below hbel.out (Nat.le_refl _)).put (j := i) hown (by omega) hszw
                      have hput2 := hput.keep ((Keep.refl w1.heap.size (w1.heap.size + 1) wr).setCell (p := ⟨w1.heap.size, i, Option.none⟩) (Nat.le_refl _) (by simp) (.slice (some ⟨wo.heap.size, 0, Option.none⟩) li li)) (.inr (Nat.le_refl _))
                      have hblx := (hbl.out.trans (hbel.out.mono (by omega))).setCell (p := ⟨w1.heap.size, i, Option.none⟩) (Nat.le_refl _) (.slice (some ⟨wo.heap.size, 0, Option.none⟩) li li)
                      have hszs : (wr.setCell ⟨w1.heap.size, i, Option.none⟩ (.slice (some ⟨wo.heap.size, 0, Option.none⟩) li li)).heap.size = wr.heap.size := by simp [World.setCell]
                      rw [← hszs, hdd] at hput2
                      have HS := Lib.hid hset
                      have HP2 := Lib.hid hput2
                      have HBX2 := Lib.hid hblx
                      have hli2 : i < ls.length := HLI.out
                      clear hset hput hput2 hblx hown hbk2 h5 hszs hdd hdl hz
                      go_wp2_with fail
                      go_roundw
                      case rel => exact ⟨k + 1, N, li, N + 1, li, _, _, by omega, by first | rfl | exact HNV.out, rfl, by go_num, HNX.out, .inr ⟨by omega, rfl, rfl⟩, HS.out, HP2.out, HBX2.out⟩
                      case measure => (simp [intOf]; try omega)
                    · obtain ⟨s, rfl⟩ : ∃ s, kk = s + 1 := ⟨kk - 1, by omega⟩
                      obtain rfl : z = (s : Int) := by omega
                      have hcell := hb.out.cell s
                      rw [zerI_at] at hcell
                      have hfr := hb.out.frozen s
                      have hsl : (s : Int) < (li : Int) := by omega
                      have HD2 := Lib.hid hd.out.step
                      have HB2 : Hid (∀ u, Blk (wr.setCell ⟨wo.heap.size, s, Option.none⟩ (.int .i64 u)) wo.heap.size 3 (zerI s (u :: D))) := fun u => by rw [← zerI_set]; exact hb.out.set_ _ _
                      have HC2 : Hid (∀ u, Below wo.heap.size wo (wr.setCell ⟨wo.heap.size, s, Option.none⟩ u)) := fun u => hbel.out.setCell (p := ⟨wo.heap.size, s, Option.none⟩) (Nat.le_refl _) _
                      have hq2' : q / r ≤ 933120000000 := Nat.le_trans (Nat.div_le_self _ _) (by omega)
                      have hq2 : q / r ≤ N := Nat.le_trans (Nat.div_le_self _ _) hqn
                      have HQW : Hid (wrap64 ((q : Int) / (r : Int)) = ((q / r : Nat) : Int)) := by show _ = _; rw [← Int.natCast_ediv]; exact wrap_nat hq2'
                      clear hz h0
                      go_wp2_with fail
                      go_quiet (fail)
                      go_wp2_with fail
                      go_roundw
                      case rel => exact ⟨s, q / r, (s : Int) - 1, _, by omega, by rfl, by rw [HQW.out], by omega, hq2, HD2.out, HB2.out _, (HC2.out _).trans (bel_drewN _ _ _)⟩
                      case measure => (simp [intOf]; try omega)
              · obtain rfl : k = ls.length := by omega
                have HR : Hid (rows = canR ls (r : Int)) := by
                  show _ = _
                  unfold canR
                  rw [HF.out]
                  simp only [if_true, Int.toNat_natCast]
                  unfold canonL
                  have h1 := hst.out
                  rw [List.take_of_length_le (by rw [HLL.out]; exact Nat.le_refl _), HL.out] at h1
                  rw [h1]
                clear hst hlink
                go_wp2_with fail
                go_ret2
                rw [HF.out, ← HR.out]
                refine ⟨.slice (some ⟨w1.heap.size, 0, Option.none⟩) ls.length ls.length, ret_val rfl, ?_, HWB.out.trans (hbl.out.mono (by omega))⟩
                refine ⟨us, hrw.out.mono (by omega) (Nat.le_refl _), ⟨?_, .inr ⟨w1.heap.size, ls.length, us.toArray, ?_, by omega, hbk.out, ?_, by unfold maxLen; omega, by simp [HUL.out], ?_⟩⟩, fun g hg => by cases hg; exact hbk.out.lt⟩
                · rw [Nat.mul_one]; exact hrw.out.1
                · rw [← hrw.out.1, HUL.out]
                · rw [← hrw.out.1, HUL.out]; exact Nat.le_refl _
                · rw [List.take_of_length_le (by rw [← hrw.out.1]; exact Nat.le_of_eq (by simp))]
end Go.Proofs.Ytabiobjcfopakaa
