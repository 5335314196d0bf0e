/- Texts of one claim, joined: D4, D5, D6, D8, E1, E2, W4, W7, W8, W1, D7, J1, R1, R2, R4, R5, R6, R7, R8. -/
import Derived.Shelf.GgClosure.Gives
import Derived.Test.YtjnkdjokbamibaaShelf
import Derived.Laws.IdiomCopy
import Derived.Lib.SliceRun
import Derived.Lib.AppendZerosOnto
import Derived.Deep.RegionLaw
import Derived.Deep.DeepCutAuto
import Derived.Deep.AppendSrc
import Derived.Laws.OwnMore
import Derived.Laws.IdiomStrings
import Derived.Laws.BitsLemmas
import Derived.Laws.Bits64
import Derived.BigRegion
import Derived.BigQuiet
import Derived.Deep.QuietTactic
import Derived.Shelf.Abstract
import Derived.Test.YtjnkdjokbamibaaP1AddPhrase
/- Contracts of the tests whether a book is valid, of the reference. -/
namespace Go.Proofs.Ytjnkdjokbamibaa
open Go.RowKit
theorem bookB_no {ps : List Phr} {k : Nat} (hk : k < ps.length) (h : goodAt ps k = false) : bookB ps = false := by unfold bookB; rw [goodB_no hk h, Bool.and_false]
set_option maxRecDepth 100000 in
set_option maxHeartbeats 4000000 in
theorem bkGood_any (ps : List Phr) (v : Value) (hi : Nat) (w : World) (h : RdB w hi v ps) (hh : hi ≤ w.heap.size) :
    Calls Try.prog 59 #[v] w fun e w' => e = .returned (.bool (bookB ps)) ∧ Below w.heap.size w w' := by
  obtain ⟨a, rfl, ha⟩ := h
  obtain ⟨A, c, rfl, hc, hm⟩ := ha.form
  have hba : Below w.heap.size w (w.alloc (.cells #[.slice A ps.length c] 28)) := (Below.refl _ _).alloc (Nat.le_refl _) _
  have HBA := Lib.hid hba
  have H := Lib.hid (ha.below hba hh)
  have hbox : (w.alloc (.cells #[.slice A ps.length c] 28)).cell? ⟨w.heap.size, 0, Option.none⟩ = some (.slice A ps.length c) := (Blk.new w 28 #[.slice A ps.length c]).cell 0
  have HBOX := Lib.hid hbox
  clear ha hba hbox
  go_enter Try.func59, Try.ntmps59
  go_wp2_with fail
  go_loopw [8] (fun i wr => ∃ k : Nat, k ≤ ps.length ∧ i = .int .i64 k ∧ Hid (∀ j, j < k → goodAt ps j = true) ∧ Below (w.heap.size + 1) (w.alloc (.cells #[.slice A ps.length c] 28)) wr) (fun i _ => ps.length - (intOf i).toNat)
  case atStart => exact ⟨0, Nat.zero_le _, rfl, fun j hj => by omega, Below.refl _ _⟩
  case round =>
    obtain ⟨k, hk, rfl, hup, hbr⟩ := hrel
    have hs : w.heap.size + 1 ≤ wr.heap.size := by have := hbr.size; simpa using this
    have hboxr : wr.cell? ⟨w.heap.size, 0, Option.none⟩ = some (.slice A ps.length c) := (hbr.cell (p := ⟨w.heap.size, 0, Option.none⟩) (by show w.heap.size < _; omega)).trans HBOX.out
    by_cases hlt : k < ps.length
    · obtain ⟨b1, o1, c1, a, t, xs, hv, hb1, hx, hcell1, hcell2, hra, hta⟩ := (H.out.below hbr (by omega)).at_ hlt
      cases hv
      obtain ⟨A2, c2, rfl, hc2, hm2⟩ := Rd.form hra
      have HX := Lib.hid hx
      have HBR := Lib.hid (HBA.out.trans (hbr.mono (by omega)))
      have hbw1 : Below (w.heap.size + 1) (w.alloc (.cells #[.slice (some ⟨b1, o1, Option.none⟩) ps.length c] 28)) (wr.alloc (.cells #[.string t, .slice A2 xs.length c2] 40)) := hbr.alloc hs _
      have HBR2 := Lib.hid hbw1
      have hra2 := hra.below ((Below.refl wr.heap.size wr).alloc (Nat.le_refl _) (.cells #[.string t, .slice A2 xs.length c2] 40)) (by omega)
      have HRA := Lib.hid hra2
      have HPS : Hid (RdB (wr.alloc (.cells #[.string t, .slice A2 xs.length c2] 40)) hi (.agg #[.slice (some ⟨b1, o1, Option.none⟩) ps.length c]) ps) := ⟨_, rfl, H.out.below hbw1 (by omega)⟩
      have HPQ : Hid (RdPS (wr.alloc (.cells #[.string t, .slice A2 xs.length c2] 40)) hi (.slice (some ⟨b1, o1, Option.none⟩) ps.length c) ps) := H.out.below hbw1 (by omega)
      have hlat := fun {b o : Nat} {u : Value} (hq : (wr.alloc (.cells #[.string t, .slice A2 xs.length c2] 40)).cell? ⟨b, o, Option.none⟩ = some u) (hb : b < wr.heap.size + 1) => later_cell (B := wr.heap.size + 1) hq hb
      have l0 := hlat ((Blk.new wr 40 #[.string t, .slice A2 xs.length c2]).cell 0) (by omega)
      have l1 := hlat ((Blk.new wr 40 #[.string t, .slice A2 xs.length c2]).cell 1) (by omega)
      have lb := hlat ((hbw1.cell (p := ⟨w.heap.size, 0, Option.none⟩) (by show w.heap.size < _; omega)).trans HBOX.out) (by omega)
      clear hlat hra hra2 hx hbw1 hbr hboxr
      have hxs : wr.heap.size + 1 ≤ (wr.alloc (.cells #[.string t, .slice A2 xs.length c2] 40)).heap.size := by simp
      have HXS := Lib.hid hxs
      clear hxs
      have cT := fun x : LaterW (wr.heap.size + 1) (wr.alloc (.cells #[.string t, .slice A2 xs.length c2] 40)) => bkPhraseText_any t (by unfold maxLen; omega) x.val
      have cS := fun x : LaterW (wr.heap.size + 1) (wr.alloc (.cells #[.string t, .slice A2 xs.length c2] 40)) => bkSignals_any xs (.slice A2 xs.length c2) hi x.val (HRA.out.below x.bel (by omega))
      have cO := fun x : LaterW (wr.heap.size + 1) (wr.alloc (.cells #[.string t, .slice A2 xs.length c2] 40)) => bkOf_any ps xs (.agg #[.slice (some ⟨b1, o1, Option.none⟩) ps.length c]) (.slice A2 xs.length c2) hi hi x.val (HPS.out.below x.bel (by omega)) (HRA.out.below x.bel (by omega)) (by have := x.bel.size; have := HXS.out; omega) (by have := x.bel.size; have := HXS.out; omega)
      cases hp1 : phraseB t.data.toList
      · rw [hp1] at cT
        have CT := Lib.hid cT
        clear cT cS cO
        go_wp2_with fail
        refine wp_region_later (wr.heap.size + 1) (by kernel_rfl) (by kernel_rfl) ?_; (repeat (go_big_quiet_step ((go_at_call 118; exact later_same (CT.out _))))); refine later_nil ?_; intro w2 hb2
        go_wp2_with fail
        go_ret
        exact ⟨ret_bool (bookB_no hlt (goodAt_phr HX.out (by unfold phrOk; rw [hp1]; rfl))).symm, (HBA.out.trans (HBR2.out.mono (by omega))).trans (hb2.mono (by omega))⟩
      · cases hp2 : sigOk xs
        · rw [hp1] at cT
          rw [hp2] at cS
          have CT := Lib.hid cT
          have CS := Lib.hid cS
          clear cT cS cO
          go_wp2_with fail
          refine wp_region_later (wr.heap.size + 1) (by kernel_rfl) (by kernel_rfl) ?_; (repeat (go_big_quiet_step ((first | (go_at_call 118; exact later_same (CT.out _)) | (go_at_call 119; exact later_same (CS.out _)))))); refine later_nil ?_; intro w2 hb2
          go_wp2_with fail
          go_ret
          exact ⟨ret_bool (bookB_no hlt (goodAt_phr HX.out (by unfold phrOk; rw [hp1, hp2]; rfl))).symm, (HBA.out.trans (HBR2.out.mono (by omega))).trans (hb2.mono (by omega))⟩
        · have HP : Hid (phrOk (t, xs) = true) := by show phrOk (t, xs) = true; unfold phrOk; rw [hp1, hp2]; rfl
          rw [hp1] at cT
          rw [hp2] at cS
          have CT := Lib.hid cT
          have CS := Lib.hid cS
          have CO := Lib.hid cO
          clear cT cS cO
          rcases Nat.eq_zero_or_pos k with h0 | hpos
          · have hk0 : decide (0 < k) = false := by rw [decide_eq_false_iff_not]; omega
            have H0 := Lib.hid h0
            clear h0
            by_cases hix : sigIx ps xs = some k
            · have hne := ixI_eq hix
              have HIX := Lib.hid hix
              clear hix
              go_wp2_with fail
              refine wp_region_later (wr.heap.size + 1) (by kernel_rfl) (by kernel_rfl) ?_; (repeat (go_big_quiet_step ((first | (go_at_call 118; exact later_same (CT.out _)) | (go_at_call 119; exact later_same (CS.out _)) | (go_at_call 120; exact later_of (HXS.out) (CO.out _)))))); refine later_nil ?_; intro w2 hb2
              go_wp2_with fail
              go_roundw
              case rel => exact ⟨k + 1, by omega, by go_num, fun j hj => by
                obtain rfl : k = 0 := H0.out
                obtain rfl : j = 0 := by omega
                exact goodAt_0 HX.out HP.out HIX.out, HBR2.out.trans (hb2.mono (by omega))⟩
              case measure => simp [intOf]; omega
            · have hne := ixI_ne hix
              go_wp2_with fail
              refine wp_region_later (wr.heap.size + 1) (by kernel_rfl) (by kernel_rfl) ?_; (repeat (go_big_quiet_step ((first | (go_at_call 118; exact later_same (CT.out _)) | (go_at_call 119; exact later_same (CS.out _)) | (go_at_call 120; exact later_of (HXS.out) (CO.out _)))))); refine later_nil ?_; intro w2 hb2
              go_wp2_with fail
              go_ret
              exact ⟨ret_bool (bookB_no hlt (goodAt_ix HX.out hix)).symm, (HBA.out.trans (HBR2.out.mono (by omega))).trans (hb2.mono (by omega))⟩
          · have hk0 : decide (0 < k) = true := by rw [decide_eq_true_eq]; omega
            obtain ⟨b3, o3, c3, a3, q, ys, hv, hb3, hq, hcq, _, _, hqs⟩ := (HPQ.out).at_ (show k - 1 < ps.length by omega)
            cases hv
            have lq := later_cell (B := wr.heap.size + 1) hcq (by omega)
            have hi1 : (0 : Int) ≤ (k : Int) - 1 := by omega
            have hi2 : (k : Int) - 1 < (ps.length : Int) := by omega
            have hi3 : ((k : Int) - 1).toNat = k - 1 := by omega
            have HQ : Hid (ps[k - 1]? = some (q, ys)) := hq
            clear hq hcq
            have HK : Hid (∃ m, k = m + 1) := ⟨k - 1, by omega⟩
            cases hlt2 : ltT q t
            · have hl1 : Op.bytesLess q.toList t.toList = false := hlt2
              go_wp2_with fail
              refine wp_region_later (wr.heap.size + 1) (by kernel_rfl) (by kernel_rfl) ?_; (repeat (go_big_quiet_step ((first | (go_at_call 118; exact later_same (CT.out _)) | (go_at_call 119; exact later_same (CS.out _)) | (go_at_call 120; exact later_of (HXS.out) (CO.out _)))))); refine later_nil ?_; intro w2 hb2
              go_wp2_with fail
              go_ret
              refine ⟨ret_bool ?_, (HBA.out.trans (HBR2.out.mono (by omega))).trans (hb2.mono (by omega))⟩
              obtain ⟨m, rfl⟩ := HK.out
              exact (bookB_no hlt (goodAt_lt HX.out HQ.out hlt2)).symm
            · have hl1 : Op.bytesLess q.toList t.toList = true := hlt2
              by_cases hix : sigIx ps xs = some k
              · have hne := ixI_eq hix
                have HIX := Lib.hid hix
                clear hix
                go_wp2_with fail
                refine wp_region_later (wr.heap.size + 1) (by kernel_rfl) (by kernel_rfl) ?_; (repeat (go_big_quiet_step ((first | (go_at_call 118; exact later_same (CT.out _)) | (go_at_call 119; exact later_same (CS.out _)) | (go_at_call 120; exact later_of (HXS.out) (CO.out _)))))); refine later_nil ?_; intro w2 hb2
                go_wp2_with fail
                go_roundw
                case rel => exact ⟨k + 1, by omega, by go_num, fun j hj => by
                  by_cases e : j = k
                  · subst e
                    obtain ⟨m, rfl⟩ := HK.out
                    exact goodAt_s HX.out HQ.out HP.out hlt2 HIX.out
                  · exact hup.out j (by omega), HBR2.out.trans (hb2.mono (by omega))⟩
                case measure => simp [intOf]; omega
              · have hne := ixI_ne hix
                go_wp2_with fail
                refine wp_region_later (wr.heap.size + 1) (by kernel_rfl) (by kernel_rfl) ?_; (repeat (go_big_quiet_step ((first | (go_at_call 118; exact later_same (CT.out _)) | (go_at_call 119; exact later_same (CS.out _)) | (go_at_call 120; exact later_of (HXS.out) (CO.out _)))))); refine later_nil ?_; intro w2 hb2
                go_wp2_with fail
                go_ret
                exact ⟨ret_bool (bookB_no hlt (goodAt_ix HX.out hix)).symm, (HBA.out.trans (HBR2.out.mono (by omega))).trans (hb2.mono (by omega))⟩
    · obtain rfl : k = ps.length := by omega
      go_wp2_with (go_at_call 121; refine (l1In_any _ _ _ _).mono ?_; rintro e w' ⟨rfl, rfl⟩)
      go_ret
      refine ⟨ret_bool ?_, HBA.out.trans (hbr.mono (by omega))⟩
      unfold bookB
      rw [goodB_yes hup.out, Bool.and_true]
end Go.Proofs.Ytjnkdjokbamibaa
/- Contracts of the tests whether a book is valid, of the program; of the search for a phrase by a predicate. -/
namespace Go.Proofs.Ytjnkdjokbamibaa
open Go.RowKit
theorem zipC_take : ∀ (ts : List ByteArray) (us : List Value) (k : Nat), (zipC ts us).take (k * 2) = zipC (ts.take k) (us.take k)
  | [], us, k => by simp [zipC]
  | t :: ts, [], k => by simp [zipC]
  | t :: ts, u :: us, 0 => by simp [zipC]
  | t :: ts, u :: us, k + 1 => by simp only [zipC, List.take_succ_cons, show (k + 1) * 2 = k * 2 + 1 + 1 by omega, zipC_take ts us k]
theorem RowsR.take {w : World} {hi : Nat} {us : List Value} {xss : List (List Int)} (h : RowsR w hi us xss) (k : Nat) : RowsR w hi (us.take k) (xss.take k) := by
  refine ⟨by simp [h.1], fun i u xs hu hx => ?_⟩
  rw [List.getElem?_take] at hu hx
  split at hu
  · rename_i hlt; rw [if_pos hlt] at hx; exact h.2 i u xs hu hx
  · cases hu
theorem RdPS.cut {w : World} {hi n c : Nat} {A : Option Addr} {ps : List Phr} (h : RdPS w hi (.slice A n c) ps) {k : Nat} (hk : k ≤ ps.length) : RdPS w hi (.slice A k c) (ps.take k) := by
  obtain ⟨us, h1, ⟨h0, A', c', hv, h2, h3, h4⟩, ht⟩ := h
  cases hv
  refine ⟨us.take k, ?_, ⟨?_, A, c, ?_, ?_, h3, fun hp => ?_⟩, fun p hp => ht p (List.mem_of_mem_take hp)⟩
  · have := h1.take k; unfold sigs at *; rwa [← List.map_take] at this
  · have e := zipC_take (txts ps) us k
    unfold txts at *
    rw [← List.map_take] at e
    rw [← e, List.length_take, h0, List.length_take]; omega
  · rw [List.length_take]; congr 1; omega
  · rw [List.length_take]; omega
  · obtain ⟨b, off, hA, hb, hc⟩ := h4 (by rw [List.length_take] at hp; omega)
    refine ⟨b, off, hA, hb, fun j u hu => hc j u ?_⟩
    have e := zipC_take (txts ps) us k
    unfold txts at *
    rw [← List.map_take] at e
    rw [← e, List.getElem?_take] at hu
    split at hu
    · exact hu
    · cases hu
/-- What is asked of a predicate on phrases. -/
def PredP (g : Nat) (lb : Array Value) (hi : Nat) (p : Phr → Bool) (w : World) : Prop :=
  ∀ (W : World) (x : Phr) (u : Value), Below w.heap.size w W → RdI W hi u x.2 → x.1.size ≤ 9223372036854775807 → Calls Try.prog g (#[.agg #[.string x.1, u]] ++ lb) W fun e w' => e = .returned (.bool (p x)) ∧ Below W.heap.size W w'
set_option maxHeartbeats 800000 in
theorem indexP_any (ps : List Phr) (v : Value) (hi : Nat) (w : World) (g : Nat) (lb : Array Value) (p : Phr → Bool) (h : RdPS w hi v ps) (hh : hi ≤ w.heap.size) (hp : PredP g lb hi p w)
    (eg : ∀ args w, (callFunc g args).run Try.prog w = .ok (.enter g args) w) :
    Calls Try.prog 124 #[v, .func (.func g) #[] lb] w fun e w' => e = .returned (.int .i64 (ixI (ps.findIdx? p))) ∧ Below w.heap.size w w' := by
  obtain ⟨A, c, rfl, hc, hm⟩ := h.form
  have H := Lib.hid h
  have HP := Lib.hid hp
  clear h hp
  go_enter Try.func124, Try.ntmps124
  go_wp2
  go_loopw [8] (fun i wr => ∃ k : Nat, k ≤ ps.length ∧ i = .int .i64 k ∧ Hid (∀ j, j < k → ∀ x, ps[j]? = some x → p x = false) ∧ Below w.heap.size w wr) (fun i _ => ps.length - (intOf i).toNat)
  case atStart => exact ⟨0, Nat.zero_le _, rfl, fun j hj => by omega, Below.refl _ _⟩
  case round =>
    obtain ⟨k, hk, rfl, hno, hbr⟩ := hrel
    by_cases hlt : k < ps.length
    · obtain ⟨b1, o1, c1, a, t, xs, hv, _, hx, hcell1, hcell2, hra, hts⟩ := (H.out.below hbr hh).at_ hlt
      cases hv
      obtain ⟨A2, c2, rfl, hc2, hm2⟩ := Rd.form hra
      have hcall := HP.out wr (t, xs) _ hbr hra hts
      have HX := Lib.hid hx
      have hs := hbr.size
      have HBR := Lib.hid hbr
      clear hra hx hbr
      cases hq : p (t, xs)
      · have HQ := Lib.hid hq
        rw [hq] at hcall
        clear hq
        have HC := Lib.hid hcall
        clear hcall
        go_wp2_with (go_at_fn g; refine HC.out.mono ?_; rintro e w' ⟨rfl, hb'⟩)
        go_roundw
        case rel => exact ⟨k + 1, by omega, by go_num, fun j hj x hx => by
          by_cases e : j = k
          · subst e; rw [HX.out] at hx; cases hx; exact HQ.out
          · exact hno.out j (by omega) x hx, HBR.out.trans (hb'.mono hs)⟩
        case measure => simp [intOf]; omega
      · have HQ := Lib.hid hq
        rw [hq] at hcall
        clear hq
        have HC := Lib.hid hcall
        clear hcall
        go_wp2_with (go_at_fn g; refine HC.out.mono ?_; rintro e w' ⟨rfl, hb'⟩)
        go_ret
        refine ⟨ret_int ?_, HBR.out.trans (hb'.mono hs)⟩
        rw [findIdx_take (fun j hj x hx => hno.out j hj x hx) HX.out HQ.out]
        rfl
    · obtain rfl : k = ps.length := by omega
      go_wp2_with fail
      go_ret
      refine ⟨ret_int ?_, hbr⟩
      rw [findIdx_none (fun j x hx => hno.out j (List.getElem?_eq_some_iff.1 hx).1 x hx)]
      rfl
theorem phraseIndex1_any (x : Phr) (ys : List Int) (u s : Value) (B hi hj : Nat) (w : World) (h : RdI w hi u x.2) (g : RdI w hj s ys) (hh : hi ≤ w.heap.size) (hg : hj ≤ w.heap.size) (hB : B < w.heap.size) (hc : w.cell? ⟨B, 0, Option.none⟩ = some s) :
    Calls Try.prog 150 #[.agg #[.string x.1, u], .pointer (some ⟨B, 0, Option.none⟩)] w fun e w' => e = .returned (.bool (decide (x.2 = ys))) ∧ Below w.heap.size w w' := by
  obtain ⟨A, c, rfl, hc1, hm⟩ := Rd.form h
  obtain ⟨A', c', rfl, hc2, hm'⟩ := Rd.form g
  have hba : Below w.heap.size w (w.alloc (.cells #[.string x.1, .slice A x.2.length c] 40)) := (Below.refl _ _).alloc (Nat.le_refl _) _
  have H := Lib.hid (RdI.below h hba hh)
  have G := Lib.hid (RdI.below g hba hg)
  clear h g
  go_enter Try.func150, Try.ntmps150
  go_wp2_with fail
  refine (slicesEqual_any x.2 ys _ _ hi hj _ H.out G.out).mono ?_
  rintro e w' ⟨rfl, n, rfl⟩
  go_wp2_with fail
  go_ret
  exact ⟨rfl, hba.trans (bel_drewN _ _ _)⟩
theorem phraseIndex_any (ps : List Phr) (xs : List Int) (v u : Value) (hi hj : Nat) (w : World) (h : RdB w hi v ps) (g : RdI w hj u xs) (hh : hi ≤ w.heap.size) (hg : hj ≤ w.heap.size) :
    Calls Try.prog 129 #[v, u] w fun e w' => e = .returned (.int .i64 (ixI (sigIx ps xs))) ∧ Below w.heap.size w w' := by
  obtain ⟨a, rfl, ha⟩ := h
  obtain ⟨A, c, rfl, hc, hm⟩ := ha.form
  obtain ⟨A', c', rfl, hc', hm'⟩ := Rd.form g
  have hba : Below w.heap.size w ((w.alloc (.cells #[.slice A ps.length c] 28)).alloc (.cells #[.slice A' xs.length c'] 35)) := ((Below.refl _ _).alloc (Nat.le_refl _) _).alloc (by simp) _
  have H := Lib.hid (ha.below hba hh)
  have G := Lib.hid (RdI.below g hba hg)
  clear ha g
  have HB := Lib.hid hba
  clear hba
  have hcap : ((w.alloc (.cells #[.slice A ps.length c] 28)).alloc (.cells #[.slice A' xs.length c'] 35)).cell? ⟨w.heap.size + 1, 0, Option.none⟩ = some (.slice A' xs.length c') := by
    have := (Blk.new (w.alloc (.cells #[.slice A ps.length c] 28)) 35 #[.slice A' xs.length c']).cell 0
    simp at this ⊢
  have hpred : PredP 150 #[.pointer (some ⟨w.heap.size + 1, 0, Option.none⟩)] hi (fun p => decide (p.2 = xs)) ((w.alloc (.cells #[.slice A ps.length c] 28)).alloc (.cells #[.slice A' xs.length c'] 35)) := by
    intro W x u hb hu _
    have hs := hb.size
    have h2 : ((w.alloc (.cells #[.slice A ps.length c] 28)).alloc (.cells #[.slice A' xs.length c'] 35)).heap.size = w.heap.size + 1 + 1 := by simp
    refine phraseIndex1_any x xs u (.slice A' xs.length c') (w.heap.size + 1) hi hj W hu (RdI.below G.out hb (by omega)) (by omega) (by omega) (by omega) ?_
    exact (hb.cell (p := ⟨w.heap.size + 1, 0, Option.none⟩) (by show w.heap.size + 1 < _; omega)).trans hcap
  have HPR := Lib.hid hpred
  have HC := Lib.hid (indexP_any ps _ hi _ _ _ _ H.out (by simp; omega) HPR.out (enters_of Try.func150 (by kernel_rfl) rfl))
  clear hpred hcap
  go_enter Try.func129, Try.ntmps129
  go_wp2_with fail
  refine HC.out.mono ?_
  rintro e w' ⟨rfl, hb'⟩
  go_wp2_with fail
  go_ret
  exact ⟨rfl, HB.out.trans (hb'.mono (by simp; omega))⟩
set_option maxHeartbeats 400000 in
theorem isPhrase_any (p : Phr) (v : Value) (hi : Nat) (w : World) (h : RdP w hi v p) (hh : hi ≤ w.heap.size) : Calls Try.prog 72 #[v] w fun e w' => e = .returned (.bool (phrOk p)) ∧ Below w.heap.size w w' := by
  obtain ⟨u, rfl, hu, ht⟩ := h
  obtain ⟨A, c, rfl, hc, hm⟩ := Rd.form hu
  have hba : Below w.heap.size w (w.alloc (.cells #[.string p.1, .slice A p.2.length c] 40)) := (Below.refl _ _).alloc (Nat.le_refl _) _
  have H := Lib.hid (RdI.below hu hba hh)
  clear hu
  have cT := IsPhraseText_any p.1 (by unfold maxLen; omega)
  have cA := allWithin_any p.2 1 60 (.slice A p.2.length c) hi _ H.out
  unfold phrOk sigOk
  cases h1 : phraseB p.1.data.toList
  · rw [h1] at cT
    have CT := Lib.hid cT
    clear cT cA
    go_enter Try.func72, Try.ntmps72
    go_wp2_with (go_at_call 123; refine (CT.out _).mono ?_; rintro e w' ⟨rfl, rfl⟩)
    go_ret
    exact ⟨rfl, hba⟩
  · rw [h1] at cT
    cases h2 : inB p.2.length 1 3
    · have CT := Lib.hid cT
      clear cT cA
      go_enter Try.func72, Try.ntmps72
      go_wp2_with (first | (go_at_call 123; refine (CT.out _).mono ?_; rintro e w' ⟨rfl, rfl⟩) | (go_at_call 128; refine (within_any _ _ _ _).mono ?_; rintro e w' ⟨rfl, rfl⟩))
      go_ret
      exact ⟨rfl, hba⟩
    · have CT := Lib.hid cT
      have CA := Lib.hid cA
      clear cT cA
      go_enter Try.func72, Try.ntmps72
      go_wp2_with (first | (go_at_call 123; refine (CT.out _).mono ?_; rintro e w' ⟨rfl, rfl⟩) | (go_at_call 128; refine (within_any _ _ _ _).mono ?_; rintro e w' ⟨rfl, rfl⟩) | (go_at_call 87; refine (CA.out).mono ?_; rintro e w' ⟨rfl, rfl⟩))
      go_ret
      exact ⟨rfl, hba⟩
theorem sigIx_take {ps : List Phr} {k : Nat} {p : Phr} (hp : ps[k]? = some p) : sigIx ps p.2 = some k ↔ sigIx (ps.take k) p.2 = Option.none := by
  unfold sigIx
  have hk := (List.getElem?_eq_some_iff.1 hp).1
  constructor
  · intro h
    rw [List.findIdx?_eq_none_iff]
    intro x hx
    rw [List.findIdx?_eq_some_iff_getElem] at h
    obtain ⟨_, _, h3⟩ := h
    obtain ⟨j, hj⟩ := List.getElem?_of_mem hx
    rw [List.getElem?_take] at hj
    split at hj
    · rename_i hlt
      have := h3 j hlt
      have e := (List.getElem?_eq_some_iff.1 hj).2
      rw [← e]; simpa using this
    · cases hj
  · intro h
    rw [List.findIdx?_eq_none_iff] at h
    refine findIdx_take (fun j hj x hx => h x ?_) hp (by simp)
    exact List.mem_of_getElem? (by rw [List.getElem?_take, if_pos hj]; exact hx)
theorem ixI_nonneg {o : Option Nat} : (0 ≤ ixI o) ↔ o ≠ Option.none := by cases o <;> simp [ixI]
end Go.Proofs.Ytjnkdjokbamibaa
/- Contracts of the tests whether a book is valid, of the program. -/
namespace Go.Proofs.Ytjnkdjokbamibaa
open Go.RowKit
set_option maxRecDepth 100000 in
set_option maxHeartbeats 4000000 in
theorem IsBook_any (ps : List Phr) (v : Value) (hi : Nat) (w : World) (h : RdB w hi v ps) (hh : hi ≤ w.heap.size) :
    Calls Try.prog 71 #[v] w fun e w' => e = .returned (.bool (bookB ps)) ∧ Below w.heap.size w w' := by
  obtain ⟨a, rfl, ha⟩ := h
  obtain ⟨A, c, rfl, hc, hm⟩ := ha.form
  have hba : Below w.heap.size w (w.alloc (.cells #[.slice A ps.length c] 28)) := (Below.refl _ _).alloc (Nat.le_refl _) _
  have HBA := Lib.hid hba
  have H := Lib.hid (ha.below hba hh)
  have hbox : (w.alloc (.cells #[.slice A ps.length c] 28)).cell? ⟨w.heap.size, 0, Option.none⟩ = some (.slice A ps.length c) := (Blk.new w 28 #[.slice A ps.length c]).cell 0
  have HBOX := Lib.hid hbox
  clear ha hba hbox
  cases hl40 : inB ps.length 1 40
  · go_enter Try.func71, Try.ntmps71
    go_wp2_with (go_at_call 128; refine (within_any _ _ _ _).mono ?_; rintro e w' ⟨rfl, rfl⟩)
    go_ret
    exact ⟨ret_bool (by unfold bookB; rw [hl40]; rfl), HBA.out⟩
  go_enter Try.func71, Try.ntmps71
  go_wp2_with (go_at_call 128; refine (within_any _ _ _ _).mono ?_; rintro e w' ⟨rfl, rfl⟩)
  go_loopw [13] (fun i wr => ∃ k : Nat, k ≤ ps.length ∧ i = .int .i64 k ∧ Hid (∀ j, j < k → goodAt ps j = true) ∧ Below (w.heap.size + 1) (w.alloc (.cells #[.slice A ps.length c] 28)) wr) (fun i _ => ps.length - (intOf i).toNat)
  case atStart => exact ⟨0, Nat.zero_le _, rfl, fun j hj => by omega, Below.refl _ _⟩
  case round =>
    obtain ⟨k, hk, rfl, hup, hbr⟩ := hrel
    have hs : w.heap.size + 1 ≤ wr.heap.size := by have := hbr.size; simpa using this
    have hboxr : wr.cell? ⟨w.heap.size, 0, Option.none⟩ = some (.slice A ps.length c) := (hbr.cell (p := ⟨w.heap.size, 0, Option.none⟩) (by show w.heap.size < _; omega)).trans HBOX.out
    by_cases hlt : k < ps.length
    · obtain ⟨b1, o1, c1, a, t, xs, hv, hb1, hx, hcell1, hcell2, hra, hta⟩ := (H.out.below hbr (by omega)).at_ hlt
      cases hv
      obtain ⟨A2, c2, rfl, hc2, hm2⟩ := Rd.form hra
      have HX := Lib.hid hx
      have HBR := Lib.hid (HBA.out.trans (hbr.mono (by omega)))
      have hbw1 : Below (w.heap.size + 1) (w.alloc (.cells #[.slice (some ⟨b1, o1, Option.none⟩) ps.length c] 28)) (wr.alloc (.cells #[.string t, .slice A2 xs.length c2] 40)) := hbr.alloc hs _
      have HBR2 := Lib.hid hbw1
      have hra2 := hra.below ((Below.refl wr.heap.size wr).alloc (Nat.le_refl _) (.cells #[.string t, .slice A2 xs.length c2] 40)) (by omega)
      have HRA := Lib.hid hra2
      have HPS : Hid (RdB (wr.alloc (.cells #[.string t, .slice A2 xs.length c2] 40)) hi (.agg #[.slice (some ⟨b1, o1, Option.none⟩) ps.length c]) ps) := ⟨_, rfl, H.out.below hbw1 (by omega)⟩
      have HPQ : Hid (RdPS (wr.alloc (.cells #[.string t, .slice A2 xs.length c2] 40)) hi (.slice (some ⟨b1, o1, Option.none⟩) ps.length c) ps) := H.out.below hbw1 (by omega)
      have hlat := fun {b o : Nat} {u : Value} (hq : (wr.alloc (.cells #[.string t, .slice A2 xs.length c2] 40)).cell? ⟨b, o, Option.none⟩ = some u) (hb : b < wr.heap.size + 1) => later_cell (B := wr.heap.size + 1) hq hb
      have l0 := hlat ((Blk.new wr 40 #[.string t, .slice A2 xs.length c2]).cell 0) (by omega)
      have l1 := hlat ((Blk.new wr 40 #[.string t, .slice A2 xs.length c2]).cell 1) (by omega)
      have lb := hlat ((hbw1.cell (p := ⟨w.heap.size, 0, Option.none⟩) (by show w.heap.size < _; omega)).trans HBOX.out) (by omega)
      clear hlat hra hra2 hx hbw1 hbr hboxr
      have hxs : wr.heap.size + 1 ≤ (wr.alloc (.cells #[.string t, .slice A2 xs.length c2] 40)).heap.size := by simp
      have HXS := Lib.hid hxs
      clear hxs
      have hcut : RdB (wr.alloc (.cells #[.string t, .slice A2 xs.length c2] 40)) hi (.agg #[.slice (some ⟨b1, o1, Option.none⟩) k c]) (ps.take k) := ⟨_, rfl, HPQ.out.cut hk⟩
      have HCUT := Lib.hid hcut
      clear hcut
      have cT := fun x : LaterW (wr.heap.size + 1) (wr.alloc (.cells #[.string t, .slice A2 xs.length c2] 40)) => isPhrase_any (t, xs) (.agg #[.string t, .slice A2 xs.length c2]) hi x.val ⟨_, rfl, HRA.out.below x.bel (by omega), hta⟩ (by have := x.bel.size; have := HXS.out; omega)
      have cO := fun x : LaterW (wr.heap.size + 1) (wr.alloc (.cells #[.string t, .slice A2 xs.length c2] 40)) => phraseIndex_any (ps.take k) xs (.agg #[.slice (some ⟨b1, o1, Option.none⟩) k c]) (.slice A2 xs.length c2) hi hi x.val (HCUT.out.below x.bel (by omega)) (HRA.out.below x.bel (by omega)) (by have := x.bel.size; have := HXS.out; omega) (by have := x.bel.size; have := HXS.out; omega)
      have hkc : (k : Int) ≤ (c : Int) := by omega
      have hk0' : (0 : Int) ≤ (k : Int) := by omega
      cases hp1 : phrOk (t, xs)
      · rw [hp1] at cT
        have CT := Lib.hid cT
        have CO := Lib.hid cO
        clear cT cO
        go_wp2_with fail
        refine wp_region_later (wr.heap.size + 1) (by kernel_rfl) (by kernel_rfl) ?_; (repeat (go_big_quiet_step ((first | (go_at_call 72; exact later_of HXS.out (CT.out _)) | (go_at_call 129; exact later_of HXS.out (CO.out _)))))); refine later_nil ?_; intro w2 hb2
        go_wp2_with fail
        go_ret
        exact ⟨ret_bool (bookB_no hlt (goodAt_phr HX.out hp1)).symm, (HBA.out.trans (HBR2.out.mono (by omega))).trans (hb2.mono (by omega))⟩
      · have HP := Lib.hid hp1
        rw [hp1] at cT
        have CT := Lib.hid cT
        have CO := Lib.hid cO
        clear cT cO
        rcases Nat.eq_zero_or_pos k with h0 | hpos
        · have hk0 : decide (0 < k) = false := by rw [decide_eq_false_iff_not]; omega
          have H0 := Lib.hid h0
          clear h0
          by_cases hix : sigIx (ps.take k) xs = Option.none
          · have hne : decide (0 ≤ ixI (sigIx (ps.take k) xs)) = false := by rw [decide_eq_false_iff_not, ixI_nonneg]; exact fun h => h hix
            have HIX := Lib.hid hix
            clear hix
            go_wp2_with fail
            refine wp_region_later (wr.heap.size + 1) (by kernel_rfl) (by kernel_rfl) ?_; (repeat (go_big_quiet_step ((first | (go_at_call 72; exact later_of HXS.out (CT.out _)) | (go_at_call 129; exact later_of HXS.out (CO.out _)))))); refine later_nil ?_; intro w2 hb2
            go_wp2_with fail
            go_roundw
            case rel => exact ⟨k + 1, by omega, by go_num, fun j hj => by
              obtain rfl : k = 0 := H0.out
              obtain rfl : j = 0 := by omega
              exact goodAt_0 HX.out HP.out ((sigIx_take HX.out).2 HIX.out), HBR2.out.trans (hb2.mono (by omega))⟩
            case measure => simp [intOf]; omega
          · have hne : decide (0 ≤ ixI (sigIx (ps.take k) xs)) = true := by rw [decide_eq_true_eq, ixI_nonneg]; exact hix
            have HIX := Lib.hid hix
            clear hix
            go_wp2_with fail
            refine wp_region_later (wr.heap.size + 1) (by kernel_rfl) (by kernel_rfl) ?_; (repeat (go_big_quiet_step ((first | (go_at_call 72; exact later_of HXS.out (CT.out _)) | (go_at_call 129; exact later_of HXS.out (CO.out _)))))); refine later_nil ?_; intro w2 hb2
            go_wp2_with fail
            go_ret
            exact ⟨ret_bool (bookB_no hlt (goodAt_ix HX.out (fun h => HIX.out ((sigIx_take HX.out).1 h)))).symm, (HBA.out.trans (HBR2.out.mono (by omega))).trans (hb2.mono (by omega))⟩
        · have hk0 : decide (0 < k) = true := by rw [decide_eq_true_eq]; omega
          obtain ⟨b3, o3, c3, a3, q, ys, hv, hb3, hq, hcq, _, _, hqs⟩ := (HPQ.out).at_ (show k - 1 < ps.length by omega)
          cases hv
          have lq := later_cell (B := wr.heap.size + 1) hcq (by omega)
          have hi1 : (0 : Int) ≤ (k : Int) - 1 := by omega
          have hi2 : (k : Int) - 1 < (ps.length : Int) := by omega
          have hi3 : ((k : Int) - 1).toNat = k - 1 := by omega
          have HQ : Hid (ps[k - 1]? = some (q, ys)) := hq
          clear hq hcq
          have HK : Hid (∃ m, k = m + 1) := ⟨k - 1, by omega⟩
          cases hlt2 : ltT q t
          · have hl1 : Op.bytesLess q.toList t.toList = false := hlt2
            go_wp2_with fail
            refine wp_region_later (wr.heap.size + 1) (by kernel_rfl) (by kernel_rfl) ?_; (repeat (go_big_quiet_step ((first | (go_at_call 72; exact later_of HXS.out (CT.out _)) | (go_at_call 129; exact later_of HXS.out (CO.out _)))))); refine later_nil ?_; intro w2 hb2
            go_wp2_with fail
            go_ret
            refine ⟨ret_bool ?_, (HBA.out.trans (HBR2.out.mono (by omega))).trans (hb2.mono (by omega))⟩
            obtain ⟨m, rfl⟩ := HK.out
            exact (bookB_no hlt (goodAt_lt HX.out HQ.out hlt2)).symm
          · have hl1 : Op.bytesLess q.toList t.toList = true := hlt2
            by_cases hix : sigIx (ps.take k) xs = Option.none
            · have hne : decide (0 ≤ ixI (sigIx (ps.take k) xs)) = false := by rw [decide_eq_false_iff_not, ixI_nonneg]; exact fun h => h hix
              have HIX := Lib.hid hix
              clear hix
              go_wp2_with fail
              refine wp_region_later (wr.heap.size + 1) (by kernel_rfl) (by kernel_rfl) ?_; (repeat (go_big_quiet_step ((first | (go_at_call 72; exact later_of HXS.out (CT.out _)) | (go_at_call 129; exact later_of HXS.out (CO.out _)))))); refine later_nil ?_; intro w2 hb2
              go_wp2_with fail
              go_roundw
              case rel => exact ⟨k + 1, by omega, by go_num, fun j hj => by
                by_cases e : j = k
                · subst e
                  have h5 := (sigIx_take HX.out).2 HIX.out
                  obtain ⟨m, rfl⟩ := HK.out
                  exact goodAt_s HX.out HQ.out HP.out hlt2 h5
                · exact hup.out j (by omega), HBR2.out.trans (hb2.mono (by omega))⟩
              case measure => simp [intOf]; omega
            · have hne : decide (0 ≤ ixI (sigIx (ps.take k) xs)) = true := by rw [decide_eq_true_eq, ixI_nonneg]; exact hix
              have HIX := Lib.hid hix
              clear hix
              go_wp2_with fail
              refine wp_region_later (wr.heap.size + 1) (by kernel_rfl) (by kernel_rfl) ?_; (repeat (go_big_quiet_step ((first | (go_at_call 72; exact later_of HXS.out (CT.out _)) | (go_at_call 129; exact later_of HXS.out (CO.out _)))))); refine later_nil ?_; intro w2 hb2
              go_wp2_with fail
              go_ret
              exact ⟨ret_bool (bookB_no hlt (goodAt_ix HX.out (fun h => HIX.out ((sigIx_take HX.out).1 h)))).symm, (HBA.out.trans (HBR2.out.mono (by omega))).trans (hb2.mono (by omega))⟩
    · obtain rfl : k = ps.length := by omega
      go_wp2_with fail
      go_ret
      refine ⟨ret_bool ?_, HBA.out.trans (hbr.mono (by omega))⟩
      unfold bookB
      rw [goodB_yes hup.out, hl40, Bool.and_true]
end Go.Proofs.Ytjnkdjokbamibaa
/- Contracts of the searches in a book by a text, by signals, and for texts of one letter; of the program and of the reference. -/
namespace Go.Proofs.Ytjnkdjokbamibaa
open Go.RowKit
theorem bookB_phr {ps : List Phr} {p : Phr} (h : bookB ps = true) (hp : p ∈ ps) : phrOk p = true := by
  obtain ⟨j, hj⟩ := List.getElem?_of_mem hp
  have hl := (List.getElem?_eq_some_iff.1 hj).1
  unfold bookB goodB at h
  rw [Bool.and_eq_true, List.all_eq_true] at h
  have := h.2 j (List.mem_range.2 hl)
  unfold goodAt at this
  rw [hj] at this
  simp only [Bool.and_eq_true] at this
  exact this.1
theorem bookB_len {ps : List Phr} (h : bookB ps = true) : 1 ≤ ps.length ∧ ps.length ≤ 40 := by
  unfold bookB at h
  rw [Bool.and_eq_true, inB_iff] at h
  omega
end Go.Proofs.Ytjnkdjokbamibaa
/- Plain laws: the tables of how many ways there are from each place on; their bounds. -/
namespace Go.Proofs.Ytjnkdjokbamibaa
/-- Phrases that fit at one place have lengths of their own. -/
def Apart (fit : Phr → Bool) (len : Phr → Nat) (r : Nat) (ps : List Phr) : Prop :=
  ps.Pairwise (fun p q => fit p = true → fit q = true → len p ≠ len q) ∧ ∀ p ∈ ps, fit p = true → 1 ≤ len p ∧ len p ≤ r
theorem Apart.take {fit : Phr → Bool} {len : Phr → Nat} {r : Nat} {ps : List Phr} (h : Apart fit len r ps) (j : Nat) : Apart fit len r (ps.take j) :=
  ⟨h.1.sublist (List.take_sublist j ps), fun p hp => h.2 p (List.mem_of_mem_take hp)⟩
end Go.Proofs.Ytjnkdjokbamibaa
/- Plain laws on good books: no two phrases have one text, nor the same signals; phrases that fit at one place have lengths of their own. Slices cut off at their head. -/
namespace Go.Proofs.Ytjnkdjokbamibaa
open Go.RowKit
theorem phrOk_sig {p : Phr} (h : phrOk p = true) : 1 ≤ p.2.length ∧ p.2.length ≤ 3 ∧ allB p.2 1 60 = true := by
  unfold phrOk sigOk at h
  simp only [Bool.and_eq_true, inB_iff] at h
  obtain ⟨_, h1, h2⟩ := h
  exact ⟨by omega, by omega, h2⟩
theorem RdI.drop {w : World} {hi c : Nat} {b off : Nat} {xs : List Int} (h : RdI w hi (.slice (some ⟨b, off, Option.none⟩) xs.length c) xs) {k : Nat} (hk : k < xs.length) :
    RdI w hi (.slice (some ⟨b, off + k, Option.none⟩) (xs.length - k) (c - k)) (xs.drop k) := by
  obtain ⟨h0, A', c', hv, h1, h2, h3⟩ := h
  cases hv
  obtain ⟨b', off', hA, hb, hc⟩ := h3 (by omega)
  cases hA
  refine ⟨by simp, some ⟨b, off + k, Option.none⟩, c - k, by rw [List.length_drop], by rw [List.length_drop]; omega, by omega, fun _ => ⟨b, off + k, rfl, hb, fun j u hu => ?_⟩⟩
  have := hc (k + j) u (by
    rw [ints, List.getElem?_map, List.getElem?_drop] at hu
    rw [ints, List.getElem?_map]; exact hu)
  rwa [← Nat.add_assoc] at this
end Go.Proofs.Ytjnkdjokbamibaa
/- A row of phrases in memory: cells stored, copied, cleared, appended; slices.Delete, slices.Insert on a row that the call has made. -/
namespace Go.Proofs.Ytjnkdjokbamibaa
open Go.RowKit
theorem zipC_drop : ∀ (ts : List ByteArray) (us : List Value) (k : Nat), us.length = ts.length → (zipC ts us).drop (k * 2) = zipC (ts.drop k) (us.drop k)
  | [], us, k, _ => by simp [zipC]
  | t :: ts, [], k, h => by simp at h
  | t :: ts, u :: us, 0, _ => by simp [zipC]
  | t :: ts, u :: us, k + 1, h => by simp only [zipC, List.drop_succ_cons, show (k + 1) * 2 = k * 2 + 1 + 1 by omega, zipC_drop ts us k (by simpa using h)]
theorem RowsR.drop {w : World} {hi : Nat} {us : List Value} {xss : List (List Int)} (h : RowsR w hi us xss) (k : Nat) : RowsR w hi (us.drop k) (xss.drop k) := by
  refine ⟨by simp [h.1], fun i u xs hu hx => ?_⟩
  rw [List.getElem?_drop] at hu hx
  exact h.2 _ u xs hu hx
theorem RdPS.drop {w : World} {hi n c b off : Nat} {ps : List Phr} (h : RdPS w hi (.slice (some ⟨b, off, Option.none⟩) n c) ps) {k : Nat} (hk : k ≤ ps.length) :
    RdPS w hi (.slice (if c = k then some ⟨b, off, Option.none⟩ else some ⟨b, off + k * 2, Option.none⟩) (n - k) (c - k)) (ps.drop k) := by
  obtain ⟨us, h1, ⟨h0, A', c', hv, h2, h3, h4⟩, ht⟩ := h
  cases hv
  have hul : us.length = ps.length := by have := h1.1; simpa [sigs] using this
  have e := zipC_drop (txts ps) us k (by simp [txts, hul])
  refine ⟨us.drop k, ?_, ⟨?_, (if c = k then some ⟨b, off, Option.none⟩ else some ⟨b, off + k * 2, Option.none⟩), c - k, ?_, ?_, ?_, fun hp => ?_⟩, fun p hp => ht p (List.mem_of_mem_drop hp)⟩
  · have := h1.drop k; unfold sigs at *; rwa [← List.map_drop] at this
  · unfold txts at *; rw [← List.map_drop] at e; rw [← e, List.length_drop, h0, List.length_drop]; omega
  · rw [List.length_drop]
  · rw [List.length_drop]; omega
  · unfold maxLen at *; omega
  · rw [List.length_drop] at hp
    obtain ⟨b', off', hA, hb, hc⟩ := h4 (by omega)
    cases hA
    refine ⟨b, off + k * 2, if_neg (by omega), hb, fun j u hu => ?_⟩
    unfold txts at *
    rw [← List.map_drop] at e
    rw [← e, List.getElem?_drop] at hu
    have := hc _ _ hu
    rwa [← Nat.add_assoc] at this
theorem blk_setCells : ∀ (vs : List Value) (o : Nat) {w : World} {g : Nat} {t : TypeId} {cs : List Value}, Blk w g t cs → o + vs.length ≤ cs.length → Blk (w.setCells g o vs) g t (cs.take o ++ vs ++ cs.drop (o + vs.length))
  | [], o, w, g, t, cs, h, _ => by simpa [World.setCells] using h
  | v :: r, o, w, g, t, cs, h, hl => by
    have h1 := blk_setCells r (o + 1) (h.set_ o v) (by simp at hl ⊢; omega)
    have e := list_seg_step cs o v r (by simp at hl; omega)
    rw [show o + 1 + r.length = o + 1 + r.length from rfl, e] at h1
    exact h1
theorem only_setCells : ∀ (vs : List Value) (o : Nat) {a w : World} {g : Nat}, Only (some g) a w → Only (some g) a (w.setCells g o vs)
  | [], _, _, _, _, h => h
  | v :: r, o, _, _, _, h => only_setCells r (o + 1) (h.setCell rfl v)
theorem below_setCellsP : ∀ (vs : List Value) (o : Nat) {B : Nat} {a w : World} {g : Nat}, Below B a w → B ≤ g → Below B a (w.setCells g o vs)
  | [], _, _, _, _, _, h, _ => h
  | v :: r, o, _, _, _, _, h, hB => below_setCellsP r (o + 1) (h.setCell hB v) hB
theorem run_copyP (w : World) (ty : TypeId) (g o dLen dCap : Nat) (a : Addr) (sLen sCap n : Nat) (cs news : List Value) (hb : Blk w g 40 cs) (hmin : Nat.min sLen dLen = n) (hl : news.length = n * 2) (hsrc : ∀ j v, news[j]? = some v → w.cell? (a.add j) = some v)
    (hfit : o + news.length ≤ cs.length) (h1 : ∀ v ∈ news, v.oneCell' = true) :
    (Builtin.copy_ #[26, 26] ty #[.slice (some ⟨g, o, Option.none⟩) dLen dCap, .slice (some a) sLen sCap]).run Try.prog w = .ok (goInt n) (w.setCells g o news) := by
  obtain ⟨i, hi, hz0, hz1, hz2⟩ := info_parts info_phr
  have hl2 := run_loadCells_list (P := Try.prog) w a news hsrc
  have hst := run_storeCells_cells (P := Try.prog) g o news 0 w (fun j hj => by rw [Nat.add_zero, hb.cell, List.getElem?_eq_getElem (by omega)]; rfl) (fun j hj => hb.frozen _) h1
  rw [hl] at hl2
  simp only [Nat.add_zero] at hst
  simp [Builtin.copy_, run_underlying Try.underlying26, Builtin.lenOf, Builtin.firstCells, sizeOf, typeInfo, hi, hz1, hmin, hl2, hst]
end Go.Proofs.Ytjnkdjokbamibaa
/- Contracts: a book in new memory; one phrase of its row deleted, one more inserted. -/
namespace Go.Proofs.Ytjnkdjokbamibaa
open Go.RowKit
theorem cloneI_any (xs : List Int) (v : Value) (hi : Nat) (w : World) (h : RdI w hi v xs) (hpos : 0 < xs.length) (hlen : xs.length ≤ 1048576) : Calls Try.prog 73 #[v] w (RetOwI xs w) := by
  obtain ⟨hl, A, c, rfl, hc, hm, hcell⟩ := h
  obtain ⟨b, off, rfl, _, hcc⟩ := hcell hpos
  have cC := Try.slices_Clone_int b off xs.length c xs w (Nat.le_refl _) (by omega) (fun j hj => by
    rw [hcc j (.int .i64 xs[j]) (by simp [hj]), List.getD_eq_getElem?_getD]; simp [hj])
  refine cC.mono ?_
  rintro e w' ⟨v', rfl, ho, _, hb⟩
  rw [List.take_of_length_le (Nat.le_refl _)] at ho
  exact ⟨v', rfl, ⟨ho, fun k hk => (ho.lt k hk).2⟩, hb⟩
set_option maxRecDepth 100000 in
set_option maxHeartbeats 4000000 in
theorem cloneBook_any (ps : List Phr) (v : Value) (hi : Nat) (w : World) (h : RdB w hi v ps) (hh : hi ≤ w.heap.size) (hbk : bookB ps = true) :
    Calls Try.prog 64 #[v] w fun e w' => ∃ g us, e = .returned (.agg #[.slice (some ⟨g, 0, Option.none⟩) ps.length ps.length]) ∧ Blk w' g 40 (zipC (txts ps) us) ∧ RowsO w' (g + 1) w'.heap.size us (sigs ps) ∧ w.heap.size ≤ g ∧ Below w.heap.size w w' := by
  obtain ⟨a, rfl, ha⟩ := h
  obtain ⟨A, c, rfl, hc, hm⟩ := ha.form
  have hbl := bookB_len hbk
  have HBK := Lib.hid hbk
  have hmk := make_phr ps.length (by omega)
  obtain ⟨wa, hwa⟩ : ∃ wa, wa = (w.alloc (.cells #[.slice A ps.length c] 28)).alloc (.cells #[.slice Option.none 0 0] 28) := ⟨_, rfl⟩
  have hza : wa.heap.size = w.heap.size + 1 + 1 := by rw [hwa]; simp
  obtain ⟨g, hg⟩ : ∃ g, g = w.heap.size + 1 + 1 := ⟨_, rfl⟩
  obtain ⟨wc, hwc⟩ : ∃ wc, wc = (wa.alloc (.cells (phrRoom ps.length) 40)).alloc (.cells #[.slice (some ⟨g, 0, Option.none⟩) ps.length ps.length] 28) := ⟨_, rfl⟩
  have hba : Below w.heap.size w wa := by rw [hwa]; exact ((Below.refl _ _).alloc (Nat.le_refl _) _).alloc (by simp) _
  have hXa : Blk wa w.heap.size 28 [.slice A ps.length c] := by rw [hwa]; exact (Blk.new w 28 #[.slice A ps.length c]).alloc _
  have hRa : Blk wa (w.heap.size + 1) 28 [.slice Option.none 0 0] := by
    rw [hwa]
    have := Blk.new (w.alloc (.cells #[.slice A ps.length c] 28)) 28 #[.slice Option.none 0 0]
    simpa using this
  have hzg : wa.heap.size = g := by omega
  have hzc : wc.heap.size = g + 2 := by rw [hwc]; simp; omega
  have hbc : Below w.heap.size w wc := by rw [hwc]; exact (hba.alloc (by omega) _).alloc (by simp; omega) _
  have hXc : Blk wc w.heap.size 28 [.slice A ps.length c] := by rw [hwc]; exact (hXa.alloc _).alloc _
  have hRc : Blk wc (w.heap.size + 1) 28 [.slice Option.none 0 0] := by rw [hwc]; exact (hRa.alloc _).alloc _
  have hPc : Blk wc g 40 (noPhr ps.length) := by
    rw [hwc]
    have := (Blk.new wa 40 (phrRoom ps.length)).alloc (.cells #[.slice (some ⟨g, 0, Option.none⟩) ps.length ps.length] 28)
    unfold phrRoom at this; rw [made_phr, hzg] at this; exact this
  have hBc : Blk wc (g + 1) 28 [.slice (some ⟨g, 0, Option.none⟩) ps.length ps.length] := by
    rw [hwc]
    have := Blk.new (wa.alloc (.cells (phrRoom ps.length) 40)) 28 #[.slice (some ⟨g, 0, Option.none⟩) ps.length ps.length]
    simpa [hzg] using this
  have HBW : Hid (∀ wr, Below w.heap.size w wr → RdPS wr hi (.slice A ps.length c) ps) := fun wr hb => ha.below hb hh
  have hxa := hXa.cell 0
  have hxc := hXc.cell 0
  have HWA := Lib.hid hwa
  have HWC := Lib.hid hwc
  have HRc := Lib.hid hRc
  have HPc := Lib.hid hPc
  have HBc := Lib.hid hBc
  have HBC := Lib.hid hbc
  have HG := Lib.hid hg
  have HZG := Lib.hid hzg
  have HZC := Lib.hid hzc
  have HZA := Lib.hid hza
  clear ha hba hXa hRa hXc hRc hPc hBc hbc hbk hwc hg hzg hzc hza
  go_enter Try.func64, Try.ntmps64
  go_wp2_with fail
  rw [← HWA.out]
  clear hwa
  go_wp2_with fail
  rw [← HG.out, ← HWC.out]
  have hgw : w.heap.size + 2 = g := HG.out.symm
  have hzc := HZC.out
  clear HWA HWC hmk hxa hxc HZA HZG HZC
  go_loopw [14] (fun i wr => ∃ (k : Nat) (us : List Value), k ≤ ps.length ∧ i = .int .i64 (k : Int) ∧ us.length = k ∧ Hid (Blk wr g 40 (zipC (txts (ps.take k)) us ++ noPhr (ps.length - k))) ∧ Hid (Blk wr (g + 1) 28 [.slice (some ⟨g, 0, Option.none⟩) ps.length ps.length]) ∧ Hid (Blk wr (w.heap.size + 1) 28 [.slice Option.none 0 0]) ∧
      Hid (RowsO wr (g + 2) wr.heap.size us (sigs (ps.take k))) ∧ Hid (Below w.heap.size w wr) ∧ g + 2 ≤ wr.heap.size) (fun i _ => ps.length - (intOf i).toNat)
  case atStart => exact ⟨0, [], Nat.zero_le _, rfl, rfl, HPc.out, HBc.out, HRc.out, RowsO.nil _ _ _, HBC.out, by omega⟩
  case round =>
    obtain ⟨k, us, hk, rfl, hul, hblk, hbox, hres, hrows, hbr, hsz⟩ := hrel
    clear HPc HBc HRc HBC
    have HU := Lib.hid hul
    clear hul
    by_cases hlt : k < ps.length
    · have hbw := hbr.out
      have hbwc := HBW.out wr hbr.out
      obtain ⟨b1, o1, c1, a, t, xs, hv, _, hx, hcell1, hcell2, hra, hts⟩ := hbwc.at_ hlt
      cases hv
      have hpo := phrOk_sig (bookB_phr HBK.out (List.mem_of_getElem? hx))
      have hxl1 : 0 < xs.length := hpo.1
      have hxl2 : xs.length ≤ 3 := hpo.2.1
      obtain ⟨A3, c3, rfl, hc3, hm3⟩ := Rd.form hra
      have HX := Lib.hid hx
      have HRA := Lib.hid hra
      have hbx : Below wr.heap.size wr (wr.alloc (.cells #[.string t, .slice A3 xs.length c3] 40)) := (Below.refl _ _).alloc (Nat.le_refl _) _
      have q0 : (wr.alloc (.cells #[.string t, .slice A3 xs.length c3] 40)).cell? ⟨wr.heap.size, 0, Option.none⟩ = some (.string t) := (Blk.new wr 40 #[.string t, .slice A3 xs.length c3]).cell 0
      have q1 : (wr.alloc (.cells #[.string t, .slice A3 xs.length c3] 40)).cell? ⟨wr.heap.size, 1, Option.none⟩ = some (.slice A3 xs.length c3) := (Blk.new wr 40 #[.string t, .slice A3 xs.length c3]).cell 1
      have hzx : (wr.alloc (.cells #[.string t, .slice A3 xs.length c3] 40)).heap.size = wr.heap.size + 1 := by simp
      clear hx hra hbw hbwc hpo
      go_wp2_with fail
      generalize wr.alloc (.cells #[.string t, .slice A3 xs.length c3] 40) = wx at hbx q0 q1 hzx ⊢
      have hbd : Below wr.heap.size wr wx.drew := hbx.drew
      have HBD := Lib.hid hbd
      have hzd : wx.drew.heap.size = wr.heap.size + 1 := hzx
      have HRX : Hid (RdI wx.drew hi (.slice A3 xs.length c3) xs) := HRA.out.below hbd (by omega)
      have hbq : wx.drew.cell? ⟨g + 1, 0, Option.none⟩ = some (.slice (some ⟨g, 0, Option.none⟩) ps.length ps.length) := (hbox.out.below hbd (by omega)).cell 0
      have HZL : Hid ((zipC (txts (ps.take k)) us).length = k * 2) := by show _ = _; rw [zipC_len _ _ (by simp [txts]; have := HU.out; omega)]; simp [txts]; omega
      have HC3 : Hid ((zipC (txts (ps.take k)) us ++ noPhr (ps.length - k))[k * 2]? = some (.string { data := #[] }) ∧ (zipC (txts (ps.take k)) us ++ noPhr (ps.length - k))[k * 2 + 1]? = some (.slice Option.none 0 0)) := by
        have hn1 := noPhr_at (n := ps.length - k) (j := 0) (by omega)
        have hzl := HZL.out
        constructor
        · rw [List.getElem?_append_right (by omega), show k * 2 - (zipC (txts (ps.take k)) us).length = 0 * 2 by omega, hn1.1]
        · rw [List.getElem?_append_right (by omega), show k * 2 + 1 - (zipC (txts (ps.take k)) us).length = 0 * 2 + 1 by omega, hn1.2]
      have HZD := Lib.hid hzd
      clear hbx hbd hzx hzd
      go_region_law (first
        | ((go_simp; go_at_call 73; (with_reducible refine (cloneI_any xs _ hi _ HRX.out hxl1 (by omega)).mono ?_); rintro e w5 ⟨v5, rfl, hu5, hb5⟩; obtain ⟨A5, c5, hv5, _⟩ := hu5.form; subst hv5; have hb6 : Below wr.heap.size wr w5 := HBD.out.trans (hb5.mono HBD.out.size); have r0 := (hb5.cell (p := ⟨wr.heap.size, 0, Option.none⟩) (by have := HZD.out; show wr.heap.size < _; omega)).trans q0; have hbl6 := hblk.out.below hb6 (by omega); have rb := (hbox.out.below hb6 (by omega)).cell 0; have rc3 := (hbl6.cell (k * 2)).trans HC3.out.1; have rc4 := (hbl6.cell (k * 2 + 1)).trans HC3.out.2; have rf3 := hbl6.frozen (k * 2); have rf4 := hbl6.frozen (k * 2 + 1))))
      all_goals
        have hset := (hbl6.set_ (k * 2) (.string t)).set_ (k * 2 + 1) (.slice A5 xs.length c5)
        rw [set_pair (by omega) HZL.out] at hset
        have HS := Lib.hid hset
        have HB6 := Lib.hid hb6
        have HB5 := Lib.hid hb5
        have HO := Lib.hid hu5
        have hs5 := hb5.size
        have hzx2 := HZD.out
        clear hset hb6 hb5 hu5 hbl6 r0 rb rc3 rc4 rf3 rf4 hbq hcell1 hcell2 q0 q1 HZL HC3
        go_wp2_with fail
        go_roundw
        case rel =>
          have hk1 : Keep g (g + 1) w5 ((w5.setCell ⟨g, k * 2, Option.none⟩ (.string t)).setCell ⟨g, k * 2 + 1, Option.none⟩ (.slice A5 xs.length c5)) := ((Keep.refl _ _ w5).setCell (p := ⟨g, k * 2, Option.none⟩) (Nat.le_refl _) (by show g < _; omega) _).setCell (p := ⟨g, k * 2 + 1, Option.none⟩) (Nat.le_refl _) (by show g < _; omega) _
          refine ⟨k + 1, us ++ [.slice A5 xs.length c5], by omega, by go_num, by have := HU.out; simp [this], ?_, ?_, ?_, ?_, (hbr.out.trans (HB6.out.mono (by omega))).trans (hk1.bel.mono (by omega)), by rw [hk1.size]; omega⟩
          · show Blk _ _ _ _
            rw [show ps.length - (k + 1) = ps.length - k - 1 by omega, take_snocN HX.out]
            have := HS.out
            unfold txts at *
            rw [List.map_append, List.map_cons, List.map_nil, zipC_append _ _ _ _ (by simp; have := HU.out; omega)]
            exact this
          · exact (hk1.block (g + 1) (.inr (Nat.le_refl _))).trans (hbox.out.below HB6.out (by omega))
          · exact (hk1.block (w.heap.size + 1) (.inl (by omega))).trans (hres.out.below HB6.out (by omega))
          · show RowsO _ _ _ _ _
            rw [take_snocN HX.out]
            unfold sigs at *
            rw [List.map_append, List.map_cons, List.map_nil]
            have h1 := ((hrows.out.below HB6.out (Nat.le_refl _)).mono (Nat.le_refl _) (show wr.heap.size ≤ wx.drew.heap.size by omega)).snoc HO.out (by omega) hs5
            have h2 := h1.keep hk1 (.inr (by omega))
            rw [hk1.size]
            exact h2
        case measure => (simp [intOf]; try omega)
    · obtain rfl : k = ps.length := by omega
      have hbl3 := hblk.out
      have hrw := hrows.out
      rw [List.take_of_length_le (Nat.le_refl _)] at hbl3 hrw
      rw [Nat.sub_self, noPhr, List.append_nil] at hbl3
      have HBL3 := Lib.hid hbl3
      have HRW := Lib.hid hrw
      have hbc0 := hbox.out.cell 0
      have hrc0 := hres.out.cell 0
      have hrf0 := hres.out.frozen 0
      have c10 := (hres.out.set_ 0 (.slice (some ⟨g, 0, Option.none⟩) ps.length ps.length)).cell 0
      clear hbl3 hrw hblk hrows
      go_wp2_with fail
      refine bodyPost_ret (v := .agg #[.slice (some ⟨g, 0, Option.none⟩) ps.length ps.length]) (by simp [results, Try.results64, go_sem, c10]) rfl ?_
      have hk1 : Keep (w.heap.size + 1) (w.heap.size + 2) wr (wr.setCell ⟨w.heap.size + 1, 0, Option.none⟩ (.slice (some ⟨g, 0, Option.none⟩) ps.length ps.length)) := (Keep.refl _ _ wr).setCell (p := ⟨w.heap.size + 1, 0, Option.none⟩) (Nat.le_refl _) (by show w.heap.size + 1 < _; omega) _
      refine ⟨g, us, rfl, (hk1.block g (.inr (by omega))).trans HBL3.out, ?_, by omega, hbr.out.trans (hk1.bel.mono (by omega))⟩
      have h2 := (HRW.out.keep hk1 (.inr (by omega))).mono (show g + 1 ≤ g + 2 by omega) (Nat.le_refl _)
      rw [hk1.size]
      exact h2
end Go.Proofs.Ytjnkdjokbamibaa
/- Contracts: slices.Delete, slices.Insert on a row of phrases that the call has made. -/
namespace Go.Proofs.Ytjnkdjokbamibaa
open Go.RowKit
theorem copy_any {W W1 : World} {g : Nat} {cs : List Value} (h : Blk W1 g 40 cs) (hW : W.heap = W1.heap) : Blk W g 40 cs := by unfold Blk at *; rw [hW]; exact h
theorem heap_setCells (b : Nat) : ∀ (vs : List Value) (o : Nat) {w w' : World}, w.heap = w'.heap → (w.setCells b o vs).heap = (w'.setCells b o vs).heap
  | [], _, _, _, h => h
  | v :: r, o, w, w', h => by
    unfold World.setCells
    exact heap_setCells b r (o + 1) (by simp only [World.setCell, h])
theorem copy_runP {w : World} {ops : Array Oper} {rest : List Oper} {o : Oper} {a : Act} {Q : Exit → Act → World → Prop} (hgd : o.guard = Option.none) (d s : Operand)
    (ho : o.op = .call { callee := .builtin .copy, args := #[d, s], argTypes := #[26, 26] }) (v u : Value) (hd : a.eval d = v) (hs : a.eval s = u) {v' : Value} {w' : World}
    (hr : (Builtin.copy_ #[26, 26] o.type #[v, u]).run Try.prog w = .ok v' w') (h : wpList Try.prog ops Q rest (a.put o.dst v') w') : wpList Try.prog ops Q (o :: rest) a w := by
  refine wpList_plain hgd fun _ hK => ?_
  unfold Oper.wp execOp
  simp only [ho, resolve, invoke, builtin, Sem.run_bind, Sem.run_pure, Result.andThen_ok, List.map_toArray, List.map_cons, List.map_nil, hd, hs, hr]
  exact hK _ _ h
theorem step_copyP {ops : Array Oper} {o : Oper} {a : Act} {w : World} {K : Act → World → Prop} {Q : Exit → Act → World → Prop} {E : Prop}
    (hg : o.guard = Option.none) (d x : Operand) (hop : o.op = Op.call { callee := Callee.builtin Builtin.copy, args := #[d, x], argTypes := #[26, 26] })
    (v u : Value) (hd : a.eval d = v) (hx : a.eval x = u) {v' : Value} {w' : World} (hr : (Builtin.copy_ #[26, 26] o.type #[v, u]).run Try.prog w = .ok v' w') (hK : K (a.put o.dst v') w') :
    if Region.wanted o (yielded ops a.tmps) = true then Oper.wp Try.prog o a w K Q else E := by
  have hw : Region.wanted o (yielded ops a.tmps) = true := by simp [Region.wanted, hg]
  rw [if_pos hw]
  unfold Oper.wp
  simp [execOp, hop, resolve, invoke, builtin, hd, hx, hr, Result.andThen]
  exact hK
theorem zero_len (n : Nat) : (Builtin.zeroCells (Value.agg #[.string { data := #[] }, .slice Option.none 0 0]).cells n).size = n * 2 := by simp [Builtin.zeroCells, Value.cells]
/-- What the call gives: a row of its own with the phrase in its place. -/
def Inserted (cs vs : List Value) (n i : Nat) (w : World) (e : Ending) (w' : World) : Prop := ∃ cap, e = .returned (.slice (some ⟨w.heap.size, 0, Option.none⟩) (n + 1) cap) ∧ w'.ownsRow w.heap.size 40 2 (.slice (some ⟨w.heap.size, 0, Option.none⟩) (n + 1) cap) (n + 1) (cs.take (i * 2) ++ vs ++ cs.drop (i * 2)) ∧ w.heap.size < w'.heap.size ∧ Below w.heap.size w w'
theorem inserted_of {cs vs : List Value} {n i G : Nat} {w w' : World} {row : List Value} (hb : Below w.heap.size w w') (hs : w.heap.size < w'.heap.size) (hB : Blk w' w.heap.size 40 (cs.take (i * 2) ++ vs ++ cs.drop (i * 2) ++ row)) (hG : n + 1 ≤ G) (hGm : G ≤ maxLen) (hl : (cs.take (i * 2) ++ vs ++ cs.drop (i * 2)).length = (n + 1) * 2) (hr : row.length = (G - (n + 1)) * 2) :
    Inserted cs vs n i w (.returned (.slice (some ⟨w.heap.size, 0, Option.none⟩) (n + 1) G)) w' :=
  ⟨G, rfl, ⟨hl, .inr ⟨w.heap.size, G, _, rfl, Nat.le_refl _, hB, hG, hGm, by rw [List.size_toArray, List.length_append, hl, hr]; omega, by simp only []; rw [List.take_append_of_le_length (by omega), List.take_of_length_le (by omega)]⟩⟩, hs, hb⟩
set_option maxRecDepth 100000 in
set_option maxHeartbeats 4000000 in
theorem insertP_end (g n vb : Nat) (cs vs : List Value) (w : World) (h : Blk w g 40 cs) (hl : cs.length = n * 2) (hn : n ≤ 1000) (hv : Blk w vb 40 vs) (hvl : vs.length = 2) (h1v : ∀ u ∈ vs, u.oneCell' = true) :
    Calls Try.prog 74 #[.slice (some ⟨g, 0, Option.none⟩) n n, .int .i64 (n : Int), .slice (some ⟨vb, 0, Option.none⟩) 1 1] w (Inserted cs vs n n w) := by
  obtain ⟨i0, hi0, hz0, hz1, hz2⟩ := info_parts info_phr
  have hold : (Builtin.firstCells i0.size n (.slice (some ⟨g, 0, Option.none⟩) n n)).run Try.prog w.drew = .ok cs.toArray w.drew :=
    run_firstCells_some w.drew i0.size n ⟨g, 0, Option.none⟩ n n cs (by rw [hz1, hl]) (fun j v hj => by rw [Go.WideShapes.add_plain, Nat.zero_add]; exact (h.cell j).trans hj)
  have hsrc : Src Try.prog i0.size 26 (.slice (some ⟨vb, 0, Option.none⟩) 1 1) 1 vs w :=
    Src.ofSlice w Try.underlying26 ⟨vb, 0, Option.none⟩ 1 1 vs (by rw [hz1, hvl]) (fun j v hj => by rw [Go.WideShapes.add_plain, Nat.zero_add]; exact (hv.cell j).trans hj) h1v
  have hrun : ∀ ty, (Builtin.append_ #[26, 26] ty #[.slice (some ⟨g, 0, Option.none⟩) n n, .slice (some ⟨vb, 0, Option.none⟩) 1 1]).run Try.prog w = .ok (.slice (some ⟨w.heap.size, 0, Option.none⟩) (n + 1) (grownCap w (n + 1) n 40))
      (w.drew.alloc (.cells ((cs ++ vs).toArray ++ Builtin.zeroCells (Value.agg #[.string { data := #[] }, .slice Option.none 0 0]).cells (grownCap w (n + 1) n 40 - (n + 1))) 40)) := fun ty =>
    run_append_grow_src w 26 26 ty 40 i0 _ Try.underlying26 hi0 hz0 (some ⟨g, 0, Option.none⟩) n n cs hold _ 1 vs hsrc (by omega) (by omega) (by rw [hz2]; exact growslice_fits (by omega) (by omega))
  have hGn : n + 1 ≤ grownCap w (n + 1) n 40 := grownCap_ge w _ _ _
  have hGm := grownCap_le_maxLen w (n + 1) n 40 (by unfold maxLen; omega)
  obtain ⟨G, hG⟩ : ∃ G, G = grownCap w (n + 1) n 40 := ⟨_, rfl⟩
  rw [← hG] at hrun hGn hGm
  obtain ⟨W1, hW1⟩ : ∃ W1, W1 = w.drew.alloc (.cells ((cs ++ vs).toArray ++ Builtin.zeroCells (Value.agg #[.string { data := #[] }, .slice Option.none 0 0]).cells (G - (n + 1))) 40) := ⟨_, rfl⟩
  rw [← hW1] at hrun
  have HI : Hid (Inserted cs vs n n w (.returned (.slice (some ⟨w.heap.size, 0, Option.none⟩) (n + 1) G)) W1) := by
    refine inserted_of (row := (Builtin.zeroCells (Value.agg #[.string { data := #[] }, .slice Option.none 0 0]).cells (G - (n + 1))).toList) ?_ ?_ ?_ hGn hGm ?_ ?_
    · rw [hW1]; exact ((Below.refl _ _).drew : Below w.heap.size w w.drew).alloc (Nat.le_refl _) _
    · rw [hW1]; show w.heap.size < (w.drew.alloc _).heap.size; simp
    · have hb := Blk.new w.drew 40 ((cs ++ vs).toArray ++ Builtin.zeroCells (Value.agg #[.string { data := #[] }, .slice Option.none 0 0]).cells (G - (n + 1)))
      rw [← hW1] at hb
      rw [List.take_of_length_le (by omega), List.drop_of_length_le (by omega), List.append_nil]
      simpa using hb
    · rw [List.take_of_length_le (by omega), List.drop_of_length_le (by omega), List.append_nil, List.length_append, hl, hvl]; omega
    · rw [Array.length_toList, zero_len]
  have hz : ((1 : Int) == 0) = false := rfl
  have hnn : ((n : Int) == (n : Int)) = true := by simp
  clear hold hsrc hG hW1 h hv h1v hGn hGm
  go_enter Try.func74, Try.ntmps74
  go_wp2_with (at_builtin; refine Lib.wpList_append_run _ rfl _ _ _ _ rfl _ _ rfl rfl _ _ (hrun _) ?_)
  go_ret
  exact HI.out
set_option maxRecDepth 100000 in
set_option maxHeartbeats 4000000 in
theorem insertP_mid (g n i vb : Nat) (cs vs : List Value) (w : World) (h : Blk w g 40 cs) (hl : cs.length = n * 2) (hi : i < n) (hn : n ≤ 1000) (hv : Blk w vb 40 vs) (hvl : vs.length = 2) (h1 : ∀ u ∈ cs, u.oneCell' = true) (h1v : ∀ u ∈ vs, u.oneCell' = true) :
    Calls Try.prog 74 #[.slice (some ⟨g, 0, Option.none⟩) n n, .int .i64 (i : Int), .slice (some ⟨vb, 0, Option.none⟩) 1 1] w (Inserted cs vs n i w) := by
  obtain ⟨i0, hi0, hz0, hz1, hz2⟩ := info_parts info_phr
  have hgw := h.lt
  have hvw := hv.lt
  have hTl : (cs.take (i * 2)).length = i * 2 := by rw [List.length_take, hl]; omega
  have hkk : (n : Int) + 1 - (i : Int) = ((n + 1 - i : Nat) : Int) := by omega
  have hik : i + (n + 1 - i) = n + 1 := by omega
  have hold : (Builtin.firstCells i0.size i (.slice (some ⟨g, 0, Option.none⟩) i n)).run Try.prog w.drew = .ok (cs.take (i * 2)).toArray w.drew :=
    run_firstCells_some w.drew i0.size i ⟨g, 0, Option.none⟩ i n (cs.take (i * 2)) (by rw [hz1, hTl]) (fun j v hj => by
      rw [Go.WideShapes.add_plain, Nat.zero_add]
      rw [List.getElem?_take] at hj
      split at hj
      · exact (h.cell j).trans hj
      · cases hj)
  have hrun : ∀ ty, (Builtin.append_ #[26, 3] ty #[.slice (some ⟨g, 0, Option.none⟩) i n, .int .i64 ((n : Int) + 1 - (i : Int))]).run Try.prog w = .ok (.slice (some ⟨w.heap.size, 0, Option.none⟩) (n + 1) (grownCap w (n + 1) n 40))
      (w.drew.alloc (.cells ((cs.take (i * 2)).toArray ++ Builtin.zeroCells (Value.agg #[.string { data := #[] }, .slice Option.none 0 0]).cells (n + 1 - i) ++ Builtin.zeroCells (Value.agg #[.string { data := #[] }, .slice Option.none 0 0]).cells (grownCap w (n + 1) n 40 - (n + 1))) 40)) := fun ty => by
    have h := Lib.run_append_grow_zeros w 26 3 ty 40 i0 _ .i64 .i64 Try.underlying26 Try.underlying3 hi0 hz0 (some ⟨g, 0, Option.none⟩) i n (cs.take (i * 2)) hold (n + 1 - i) (by omega) (by omega) (by omega) (by omega) (by rw [hz2]; omega) (by rw [hz2, hik]; exact growslice_fits (by omega) (by omega))
    rw [hik] at h
    rw [hkk]
    exact h
  have hGn : n + 1 ≤ grownCap w (n + 1) n 40 := grownCap_ge w _ _ _
  have hGm := grownCap_le_maxLen w (n + 1) n 40 (by unfold maxLen; omega)
  obtain ⟨G, hG⟩ : ∃ G, G = grownCap w (n + 1) n 40 := ⟨_, rfl⟩
  rw [← hG] at hrun hGn hGm
  obtain ⟨ROW, hROW⟩ : ∃ ROW : Array Value, ROW = (cs.take (i * 2)).toArray ++ Builtin.zeroCells (Value.agg #[.string { data := #[] }, .slice Option.none 0 0]).cells (n + 1 - i) ++ Builtin.zeroCells (Value.agg #[.string { data := #[] }, .slice Option.none 0 0]).cells (G - (n + 1)) := ⟨_, rfl⟩
  rw [← hROW] at hrun
  have hRl : ROW.size = G * 2 := by rw [hROW, Array.size_append, Array.size_append, zero_len, zero_len, List.size_toArray, hTl]; omega
  have hRt : ROW.toList.take (i * 2) = cs.take (i * 2) := by
    rw [hROW, Array.toList_append, Array.toList_append, List.append_assoc, List.take_append_of_le_length (by simp [hTl]), List.take_of_length_le (by simp [hTl])]
  obtain ⟨W1, hW1⟩ : ∃ W1, W1 = w.drew.alloc (.cells ROW 40) := ⟨_, rfl⟩
  have hB1 : Blk W1 w.heap.size 40 ROW.toList := by rw [hW1]; exact Blk.new w.drew 40 ROW
  have hlo1 : Below w.heap.size w W1 := by rw [hW1]; exact ((Below.refl _ _).drew : Below w.heap.size w w.drew).alloc (Nat.le_refl _) _
  have hv1 : Blk W1 vb 40 vs := hv.below hlo1 hvw
  have hg1 : Blk W1 g 40 cs := h.below hlo1 hgw
  have hRL : ROW.toList.length = G * 2 := by rw [Array.length_toList]; exact hRl
  have hcpA : ∀ (W : World), W.heap = W1.heap → ∀ ty dc, (Builtin.copy_ #[26, 26] ty #[.slice (some ⟨w.heap.size, i * 2, Option.none⟩) (n + 1 - i) dc, .slice (some ⟨vb, 0, Option.none⟩) 1 1]).run Try.prog W = .ok (goInt 1) (W.setCells w.heap.size (i * 2) vs) := fun W hW ty dc =>
    run_copyP W ty w.heap.size (i * 2) (n + 1 - i) dc ⟨vb, 0, Option.none⟩ 1 1 1 ROW.toList vs (copy_any hB1 hW) (by simp only [Nat.min_def]; split <;> omega) (by omega) (fun j v hj => by rw [Go.WideShapes.add_plain, Nat.zero_add]; exact ((copy_any hv1 hW).cell j).trans hj) (by rw [hvl, hRL]; omega) h1v
  obtain ⟨W2, hW2⟩ : ∃ W2, W2 = W1.setCells w.heap.size (i * 2) vs := ⟨_, rfl⟩
  have hB2 : Blk W2 w.heap.size 40 (ROW.toList.take (i * 2) ++ vs ++ ROW.toList.drop (i * 2 + vs.length)) := by rw [hW2]; exact blk_setCells vs (i * 2) hB1 (by rw [hvl, hRL]; omega)
  have hg2 : Blk W2 g 40 cs := by
    rw [hW2]
    exact ((only_setCells vs (i * 2) (Only.refl (some w.heap.size) W1)).block g (by simp; omega)).trans hg1
  have hB2l : (ROW.toList.take (i * 2) ++ vs ++ ROW.toList.drop (i * 2 + vs.length)).length = G * 2 := by
    rw [List.length_append, List.length_append, List.length_take, List.length_drop, hRL, hvl]; omega
  have hdl : (cs.drop (i * 2)).length = (n - i) * 2 := by rw [List.length_drop, hl]; omega
  have hcpB : ∀ (W : World), W.heap = W2.heap → ∀ ty dc sc, (Builtin.copy_ #[26, 26] ty #[.slice (some ⟨w.heap.size, (i + 1) * 2, Option.none⟩) (n + 1 - (i + 1)) dc, .slice (some ⟨g, i * 2, Option.none⟩) (n - i) sc]).run Try.prog W = .ok (goInt ((n - i : Nat) : Int)) (W.setCells w.heap.size ((i + 1) * 2) (cs.drop (i * 2))) := fun W hW ty dc sc =>
    run_copyP W ty w.heap.size ((i + 1) * 2) (n + 1 - (i + 1)) dc ⟨g, i * 2, Option.none⟩ (n - i) sc (n - i) _ (cs.drop (i * 2)) (copy_any hB2 hW) (by simp only [Nat.min_def]; split <;> omega) hdl (fun j v hj => by rw [Go.WideShapes.add_plain]; rw [List.getElem?_drop] at hj; exact ((copy_any hg2 hW).cell _).trans hj) (by rw [hdl, hB2l]; omega) (fun v hv => h1 v (List.mem_of_mem_drop hv))
  obtain ⟨W3, hW3⟩ : ∃ W3, W3 = W2.setCells w.heap.size ((i + 1) * 2) (cs.drop (i * 2)) := ⟨_, rfl⟩
  have HI : Hid (∀ W : World, W.heap = W3.heap → Below w.heap.size w W → Inserted cs vs n i w (.returned (.slice (some ⟨w.heap.size, 0, Option.none⟩) (n + 1) G)) W) := by
    intro W hW hbW
    have hB3 := blk_setCells (cs.drop (i * 2)) ((i + 1) * 2) hB2 (by rw [hdl, hB2l]; omega)
    rw [← hW3] at hB3
    have hk : (ROW.toList.take (i * 2) ++ vs).length = (i + 1) * 2 := by rw [List.length_append, List.length_take, hRL, hvl]; omega
    rw [List.take_append_of_le_length (by omega), List.take_of_length_le (by omega), hRt] at hB3
    refine inserted_of hbW ?_ (copy_any hB3 hW) hGn hGm (by rw [List.length_append, List.length_append, hTl, hvl, hdl]; omega) (by rw [List.length_drop, ← hRt, hB2l, hdl]; omega)
    have := (copy_any hB3 hW).lt
    exact this
  have hbX : ∀ W : World, Below w.heap.size w W → ∀ (vs : List Value) (o : Nat), Below w.heap.size w (W.setCells w.heap.size o vs) := fun W hW vs o => below_setCellsP vs o hW (Nat.le_refl _)
  have HW2 := Lib.hid hW2
  have HW3 := Lib.hid hW3
  have HBX := Lib.hid hbX
  have HLO := Lib.hid hlo1
  have hGi : ¬ (G = i) := by omega
  have hGi1 : ¬ (G = i + 1) := by omega
  have hni : ¬ (n = i) := by omega
  have hG63 : G ≤ 9223372036854775807 := by unfold maxLen at hGm; omega
  have hz : ((1 : Int) == 0) = false := rfl
  have hnn : ((i : Int) == (n : Int)) = false := by rw [beq_eq_false_iff_ne]; omega
  have hin : i ≤ n := by omega
  have hw1 : IntKind.i64.wrap ((i : Int) + 1) = (i : Int) + 1 := by rw [IntKind.wrap_i64]; omega
  have hb1 : (0 : Int) ≤ (i : Int) + 1 := by omega
  have hb2 : (i : Int) + 1 ≤ (n : Int) + 1 := by omega
  have htn : ((i : Int) + 1).toNat = i + 1 := by omega
  have hcap : (n : Int) < (n : Int) + 1 := by omega
  clear hkk hik hold hROW hG hRl hRt hB1 hv1 hg1 hRL hB2 hg2 hB2l hdl h hv h1 h1v hTl hGm hW2 hW3 hbX hlo1
  have hE1 : ((w.alloc (.cells ROW 40)).drew).heap = W1.heap := by rw [hW1]; rfl
  have hF1 : (((w.alloc (.cells ROW 40)).drew.setCells w.heap.size (i * 2) vs).drew).heap = W2.heap := by rw [HW2.out]; exact heap_setCells _ _ _ hE1
  have HLO2 : Hid (Below w.heap.size w (w.alloc (.cells ROW 40)).drew) := (((Below.refl _ _).alloc (Nat.le_refl _) _)).drew
  subst hW1
  go_enter Try.func74, Try.ntmps74
  go_wp2_with (first
    | (at_builtin; refine Lib.wpList_append_run _ rfl _ _ _ _ rfl _ _ rfl rfl _ _ (hrun _) ?_)
    | (at_builtin; refine copy_runP rfl _ _ rfl _ _ rfl rfl (hcpA _ hE1 _ _) ?_))
  go_region_law (refine step_copyP rfl (.tmp 50) (.tmp 53) rfl (.slice (some ⟨w.heap.size, (i + 1) * 2, Option.none⟩) (n + 1 - (i + 1)) (G - (i + 1))) (.slice (some ⟨g, i * 2, Option.none⟩) (n - i) (n - i)) (by simp [Act.eval, Act.put]) (by simp [Act.eval, Act.put]) (hcpB _ hF1 _ _ _) ?_)
  go_wp2_with fail
  go_ret
  exact HI.out _ (by rw [HW3.out]; exact heap_setCells _ _ _ hF1) (HBX.out _ ((HBX.out _ HLO2.out _ _).drew) _ _)
end Go.Proofs.Ytjnkdjokbamibaa
/- Plain laws on books: which lists of phrases are books; one phrase more in its place, one fewer. -/
namespace Go.Proofs.Ytjnkdjokbamibaa
open Go.RowKit
/-- The place of a text in a book. -/
def posA (ps : List Phr) (t : ByteArray) : Nat := (ps.takeWhile fun p => ltT p.1 t).length
theorem posA_le (ps : List Phr) (t : ByteArray) : posA ps t ≤ ps.length := (List.takeWhile_sublist _).length_le
theorem posA_take (ps : List Phr) (t : ByteArray) : ps.take (posA ps t) = ps.takeWhile fun p => ltT p.1 t := by
  unfold posA
  conv => lhs; arg 2; rw [← List.takeWhile_append_dropWhile (p := fun p : Phr => ltT p.1 t) (l := ps)]
  rw [List.take_left]
theorem posA_lt {ps : List Phr} {t : ByteArray} {k : Nat} {p : Phr} (hp : ps[k]? = some p) (hk : k < posA ps t) : ltT p.1 t = true := by
  have h1 : (ps.takeWhile fun p => ltT p.1 t)[k]? = some p := by rw [← posA_take, List.getElem?_take, if_pos hk]; exact hp
  exact (List.all_eq_true.1 (List.all_takeWhile (p := fun p : Phr => ltT p.1 t) (l := ps))) p (List.mem_of_getElem? h1)
theorem posA_end {ps : List Phr} {t : ByteArray} {p : Phr} (hp : ps[posA ps t]? = some p) : ltT p.1 t = false := by
  have h0 := List.takeWhile_append_dropWhile (p := fun p : Phr => ltT p.1 t) (l := ps)
  have h1 : (ps.dropWhile fun p => ltT p.1 t)[0]? = some p := by
    rw [← h0, List.getElem?_append_right (by unfold posA; rw [h0]; exact Nat.le_refl _)] at hp
    rw [← hp]; congr 1
    unfold posA; rw [h0]; omega
  cases hd : ps.dropWhile fun p => ltT p.1 t with
  | nil => rw [hd] at h1; simp at h1
  | cons a r =>
    rw [hd] at h1; simp at h1; subst h1
    have := List.head_dropWhile_not (p := fun p : Phr => ltT p.1 t) (l := ps) (by rw [hd]; simp)
    simpa [hd] using this
/-- The first place whose text is not less. -/
theorem posA_is {ps : List Phr} {t : ByteArray} {k : Nat} (hk : k ≤ ps.length) (h1 : ∀ j, j < k → ∀ p, ps[j]? = some p → ltT p.1 t = true) (h2 : ∀ p, ps[k]? = some p → ltT p.1 t = false) : posA ps t = k := by
  rcases Nat.lt_trichotomy (posA ps t) k with h | h | h
  · obtain ⟨p, hp⟩ : ∃ p, ps[posA ps t]? = some p := ⟨_, List.getElem?_eq_getElem (by omega)⟩
    have a := h1 _ h p hp
    rw [posA_end hp] at a; cases a
  · exact h
  · have := posA_le ps t
    obtain ⟨p, hp⟩ : ∃ p, ps[k]? = some p := ⟨_, List.getElem?_eq_getElem (by omega)⟩
    have a := posA_lt hp h
    rw [h2 p hp] at a; cases a
/-- A phrase more, in its place. -/
def addL (ps : List Phr) (x : Phr) : List Phr := ps.take (posA ps x.1) ++ x :: ps.drop (posA ps x.1)
theorem addL_len (ps : List Phr) (x : Phr) : (addL ps x).length = ps.length + 1 := by
  have := posA_le ps x.1
  unfold addL; simp; omega
theorem addL_mem (ps : List Phr) (x : Phr) : x ∈ addL ps x := by unfold addL; simp
def addO (ps : List Phr) (x : Phr) : Option (List Phr) := if bookB ps && bookB (addL ps x) then some (addL ps x) else Option.none
theorem addO_no {ps : List Phr} (x : Phr) (h : bookB ps = false) : addO ps x = Option.none := by unfold addO; rw [h]; rfl
theorem addO_yes {ps : List Phr} {x : Phr} (h : bookB ps = true) (h2 : bookB (addL ps x) = true) : addO ps x = some (addL ps x) := by unfold addO; rw [h, h2]; rfl
theorem addO_bad {ps : List Phr} {x : Phr} (h2 : bookB (addL ps x) = false) : addO ps x = Option.none := by unfold addO; rw [h2, Bool.and_false]; rfl
theorem addO_phr {ps : List Phr} {x : Phr} (h2 : phrOk x = false) : addO ps x = Option.none := by
  refine addO_bad ?_
  cases h : bookB (addL ps x) with
  | false => rfl
  | true => rw [bookB_phr h (addL_mem ps x)] at h2; cases h2
end Go.Proofs.Ytjnkdjokbamibaa
/- Marks on books: each text and each signal of a book that the call has copied is overwritten. -/
namespace Go.Proofs.Ytjnkdjokbamibaa
open Go.RowKit
/-- The digits of a number that is not 0. -/
def decT (n : Nat) : List UInt8 := if _h : n = 0 then [] else decT (n / 10) ++ [UInt8.ofNat (48 + n % 10)]
termination_by n
decreasing_by omega
theorem decT_zero : decT 0 = [] := by rw [decT]; rfl
theorem decT_pos {n : Nat} (h : 0 < n) : decT n = decT (n / 10) ++ [UInt8.ofNat (48 + n % 10)] := by rw [decT]; rw [dif_neg (by omega)]
def markT (k : Nat) : ByteArray := ⟨(109 :: decT k).toArray⟩
theorem conv_one (z : Int) (h0 : 0 ≤ z) (h1 : z < 256) (wr : World) :
    (convert 45 9 (.slice (some ⟨wr.heap.size, 0, Option.none⟩) 1 1)).run Try.prog (wr.alloc (.cells #[.int .u8 z] 5)) = .ok (.string ⟨#[UInt8.ofNat z.toNat]⟩) (wr.alloc (.cells #[.int .u8 z] 5)) := by
  have hl : [UInt8.ofNat z.toNat].length = 1 := rfl
  have := run_convert_bytes_back (P := Try.prog) (wr.alloc (.cells #[.int .u8 z] 5)) 45 9 5 ⟨wr.heap.size, 0, Option.none⟩ 1 [UInt8.ofNat z.toNat] Try.underlying45 Try.underlying5 Try.underlying9 (fun j hj => by
    obtain rfl : j = 0 := by simp at hj; omega
    rw [one_cell wr (.int .u8 z) 5 0 _ rfl]
    simp
    omega)
  exact this
theorem dec_step {k j : Nat} {l : List UInt8} (hj : 0 < j) (hd : decT k = decT j ++ l) : decT k = decT (j / 10) ++ (UInt8.ofNat (48 + j % 10) :: l) := by
  rw [hd, decT_pos hj]; simp
theorem dec_bd {j n : Nat} (hn : n < 24) (h : j < 2 ^ (24 - n)) : j / 10 < 2 ^ (24 - (n + 1)) := by
  rw [show 24 - n = (24 - (n + 1)) + 1 by omega, Nat.pow_succ] at h
  omega
set_option maxRecDepth 100000 in
set_option maxHeartbeats 400000 in
theorem markText_any (k : Nat) (h1 : 1 ≤ k) (h2 : k < 16777216) (w : World) : Calls Try.prog 126 #[.int .i64 (k : Int)] w fun e w' => e = .returned (.string (markT k)) ∧ Below w.heap.size w w' := by
  go_enter Try.func126, Try.ntmps126
  go_wp2
  go_loopw [0, 3] (fun m out wr => ∃ (j : Nat) (l : List UInt8), m = .int .i64 (j : Int) ∧ out = .string ⟨l.toArray⟩ ∧ Hid (decT k = decT j ++ l) ∧ Hid (j < 2 ^ (24 - l.length)) ∧ l.length ≤ 24 ∧ j ≤ k ∧ Below w.heap.size w wr) (fun m _ _ => (intOf m).toNat)
  case atStart => exact ⟨k, [], rfl, rfl, by show decT k = _; simp, by show k < _; simpa using h2, by simp, Nat.le_refl _, Below.refl _ _⟩
  case round =>
    obtain ⟨j, l, rfl, rfl, hd, hb, hl, hjk, hbr⟩ := hrel
    have hs := hbr.size
    by_cases hj : 0 < j
    · have hl2 : l.length < 24 := by
        rcases Nat.lt_or_ge l.length 24 with h | h
        · exact h
        · have := hb.out; rw [show 24 - l.length = 0 by omega] at this; omega
      have hcv := fun wr' => conv_one (48 + (j : Int) % 10) (by omega) (by omega) wr'
      go_wp2
      go_roundw
      case rel => exact ⟨j / 10, UInt8.ofNat (48 + j % 10) :: l, by go_num, by simp [ByteArray.ext_iff, UInt8.ofNat_add], dec_step hj hd.out, by rw [List.length_cons]; exact dec_bd hl2 hb.out, by rw [List.length_cons]; omega, by omega, hbr.alloc hs _⟩
      case measure => simp [intOf]; omega
    · obtain rfl : j = 0 := by omega
      have HD := hd
      go_wp2
      go_ret
      refine ⟨ret_val ?_, hbr⟩
      have := HD.out
      rw [decT_zero, List.nil_append] at this
      unfold markT
      rw [this]
      simp [ByteArray.ext_iff]
/-- How many marks books take. -/
def cntB : List Phr → Nat
  | [] => 0
  | p :: r => 1 + p.2.length + cntB r
theorem cntB_le (ps : List Phr) : cntB ps ≤ sizeB ps := by
  induction ps with
  | nil => exact Nat.le_refl _
  | cons p r ih => simp only [cntB, sizeB, sizeP]; omega
theorem cntB_at {ps : List Phr} {j : Nat} {p : Phr} (h : ps[j]? = some p) : cntB (ps.take (j + 1)) = cntB (ps.take j) + 1 + p.2.length ∧ cntB (ps.take (j + 1)) ≤ cntB ps := by
  induction ps generalizing j with
  | nil => simp at h
  | cons y r ih =>
    cases j with
    | zero => simp at h; subst h; simp [cntB]
    | succ j =>
      have := ih (j := j) (by simpa using h)
      simp only [List.take_succ_cons, cntB]
      omega
def marksB : Nat → List Phr → List Phr
  | _, [] => []
  | k, p :: r => (markT k, marks (k + 1) p.2.length) :: marksB (k + 1 + p.2.length) r
theorem marksB_len (k : Nat) (ps : List Phr) : (marksB k ps).length = ps.length := by
  induction ps generalizing k with
  | nil => rfl
  | cons p r ih => simp [marksB, ih]
theorem marksB_at {k j : Nat} {ps : List Phr} {p : Phr} (h : ps[j]? = some p) : (marksB k ps)[j]? = some (markT (k + cntB (ps.take j)), marks (k + cntB (ps.take j) + 1) p.2.length) := by
  induction ps generalizing j k with
  | nil => simp at h
  | cons y r ih =>
    cases j with
    | zero => simp at h; subst h; simp [marksB, cntB]
    | succ j =>
      simp only [marksB, List.getElem?_cons_succ, List.take_succ_cons, cntB]
      rw [ih (by simpa using h)]
      simp only [Nat.add_assoc]
def mixB (k j : Nat) (ps : List Phr) : List Phr := (marksB k ps).take j ++ ps.drop j
theorem mixB_len (k j : Nat) (ps : List Phr) : (mixB k j ps).length = ps.length := by simp [mixB, marksB_len]; omega
theorem mixB_at {k j : Nat} {ps : List Phr} {p : Phr} (h : ps[j]? = some p) : (mixB k j ps)[j]? = some p := by
  have hj := (List.getElem?_eq_some_iff.1 h).1
  unfold mixB
  rw [List.getElem?_append_right (by simp [marksB_len]; omega)]
  simp [marksB_len, show min j ps.length = j by omega, h]
theorem mixB_step {k j : Nat} {ps : List Phr} {p : Phr} (h : ps[j]? = some p) : (mixB k j ps).set j (markT (k + cntB (ps.take j)), marks (k + cntB (ps.take j) + 1) p.2.length) = mixB k (j + 1) ps := by
  have hj := (List.getElem?_eq_some_iff.1 h).1
  have hm := marksB_at (k := k) h
  unfold mixB
  have hd : ps.drop j = ps[j] :: ps.drop (j + 1) := List.drop_eq_getElem_cons hj
  have hl : j - ((marksB k ps).take j).length = 0 := by simp [marksB_len]; omega
  rw [List.set_append_right _ _ (by simp [marksB_len]; omega), take_snocN hm, hd, hl, List.set_cons_zero, List.append_assoc]
  rfl
theorem mixB_full (k : Nat) (ps : List Phr) : mixB k ps.length ps = marksB k ps := by
  unfold mixB; rw [List.drop_length, List.append_nil, List.take_of_length_le (by rw [marksB_len]; exact Nat.le_refl _)]
/-- Of what was there only blocks from lo to below hi may have turned. -/
structure KeepG (lo hi : Nat) (w w' : World) : Prop where
  os : w'.os = w.os
  tape : w'.tape = w.tape
  output : w'.output = w.output
  size : w.heap.size ≤ w'.heap.size
  block : ∀ k, k < w.heap.size → (k < lo ∨ hi ≤ k) → w'.heap[k]? = w.heap[k]?
theorem KeepG.refl (lo hi : Nat) (w : World) : KeepG lo hi w w := ⟨rfl, rfl, rfl, Nat.le_refl _, fun _ _ _ => rfl⟩
theorem KeepG.trans {lo hi : Nat} {a b c : World} (h : KeepG lo hi a b) (k : KeepG lo hi b c) : KeepG lo hi a c :=
  ⟨k.os.trans h.os, k.tape.trans h.tape, k.output.trans h.output, Nat.le_trans h.size k.size, fun i h1 h2 => (k.block i (Nat.lt_of_lt_of_le h1 h.size) h2).trans (h.block i h1 h2)⟩
theorem Keep.g {lo hi : Nat} {w w' : World} (h : Keep lo hi w w') : KeepG lo hi w w' := ⟨h.os, h.tape, h.output, Nat.le_of_eq h.size.symm, fun k _ h2 => h.block k h2⟩
theorem below_g {lo hi : Nat} {w w' : World} (h : Below w.heap.size w w') : KeepG lo hi w w' := ⟨h.os, h.tape, h.output, h.size, fun k h1 _ => h.block k h1⟩
/-- In two steps: first the blocks turn, then new ones come. -/
theorem KeepG.split {lo hi : Nat} {w w' : World} (h : KeepG lo hi w w') : ∃ m, Keep lo hi w m ∧ Below m.heap.size m w' := by
  refine ⟨{ w' with heap := w'.heap.extract 0 w.heap.size }, ⟨h.os, h.tape, h.output, ?_, fun k hk => ?_⟩, ⟨rfl, rfl, rfl, ?_, fun k hk => ?_⟩⟩
  · have := h.size; simp; omega
  · by_cases hlt : k < w.heap.size
    · rw [← h.block k hlt hk]
      show (w'.heap.extract 0 w.heap.size)[k]? = _
      rw [Array.getElem?_extract]
      have := h.size
      rw [if_pos (by omega), Nat.zero_add]
    · rw [Array.getElem?_eq_none (xs := w.heap) (by omega)]
      show (w'.heap.extract 0 w.heap.size)[k]? = _
      rw [Array.getElem?_eq_none (by simp; omega)]
  · show (w'.heap.extract 0 w.heap.size).size ≤ w'.heap.size
    simp; omega
  · show w'.heap[k]? = (w'.heap.extract 0 w.heap.size)[k]?
    have hk' : k < w.heap.size := by have h1 := h.size; simp at hk; omega
    have := h.size
    rw [Array.getElem?_extract, if_pos (by omega), Nat.zero_add]
theorem rows_far {w : World} {lo hi g : Nat} {us : List Value} {xss : List (List Int)} {cur : Array Value} {e : TypeId} {q : Nat × Nat} (h : RowsO w lo hi us xss) (hg : w.heap[g]? = some (.cells cur e q)) (he : e ≠ 3) (i : Nat) (x : Value) : RowsO (w.setCell ⟨g, i, Option.none⟩ x) lo hi us xss := by
  refine ⟨h.1, fun j u xs hu hx => ?_, h.2.2⟩
  have h1 := h.2.1 j u xs hu hx
  refine h1.only (b := some g) ((Only.refl _ _).setCell (p := ⟨g, i, Option.none⟩) rfl _) (fun g2 hg2 e2 => ?_)
  cases e2
  rcases h1.1.2 with ⟨rfl, _⟩ | ⟨g3, cap, cur3, rfl, _, hg3, _⟩
  · cases hg2
  · cases hg2
    rw [hg] at hg3
    cases hg3
    exact he rfl
theorem outer_onlyP {w w' : World} {lo n : Nat} {v u : Value} {cs : List Value} {xs : List Int} {lo' hi' : Nat} (h : w.ownsRow lo 40 2 v n cs) (hu : OwI w lo' hi' u xs) (hk : Only u.ownBlock w w') : w'.ownsRow lo 40 2 v n cs := by
  refine ⟨h.1, ?_⟩
  rcases h.2 with hn | ⟨g, cap, cur, rfl, hl, hg, rest⟩
  · exact .inl hn
  · refine .inr ⟨g, cap, cur, rfl, hl, (hk.block g (fun e => ?_)).trans hg, rest⟩
    rcases hu.1.2 with ⟨rfl, _⟩ | ⟨g2, cap2, cur2, rfl, _, hg2, _⟩
    · cases e
    · cases e
      rw [hg] at hg2
      simp at hg2
theorem zipC_set : ∀ (ts : List ByteArray) (us : List Value) (j : Nat) (t : ByteArray), (zipC ts us).set (j * 2) (.string t) = zipC (ts.set j t) us
  | [], us, j, t => by simp [zipC]
  | a :: ts, [], j, t => by cases j <;> simp [zipC]
  | a :: ts, u :: us, 0, t => by simp [zipC]
  | a :: ts, u :: us, j + 1, t => by simp only [zipC, List.set_cons_succ, show (j + 1) * 2 = j * 2 + 1 + 1 by omega, zipC_set ts us j t]
theorem markT_size {k : Nat} (h : k < 16777216) : (markT k).size ≤ 9223372036854775807 := by
  have hb : ∀ f n, n < 2 ^ f → (decT n).length ≤ f := by
    intro f
    induction f with
    | zero => intro n hn; obtain rfl : n = 0 := by simpa using hn
              rw [decT_zero]; simp
    | succ f ih =>
      intro n hn
      rcases Nat.eq_zero_or_pos n with rfl | hp
      · rw [decT_zero]; simp
      · rw [decT_pos hp, List.length_append]
        have := ih (n / 10) (by rw [Nat.pow_succ] at hn; omega)
        simp; omega
  have := hb 24 k (by simpa using h)
  show (109 :: decT k).toArray.size ≤ _
  simp; omega
set_option maxRecDepth 100000 in
set_option maxHeartbeats 1600000 in
theorem markPhraseS_any (ps : List Phr) (v : Value) (lo hi k : Nat) (w : World) (h : OwPS w lo hi v ps) (hh : hi ≤ w.heap.size) (hk1 : 1 ≤ k) (hk : k ≤ 4194304) (hsz : cntB ps ≤ 4194304) :
    Calls Try.prog 67 #[v, .int .i64 (k : Int)] w fun e w' => e = .returned (.int .i64 ((k + cntB ps : Nat) : Int)) ∧ OwPS w' lo hi v (marksB k ps) ∧ KeepG lo hi w w' := by
  obtain ⟨A, c, rfl, hc, hm⟩ := h.rd.form
  have H := Lib.hid h
  clear h
  go_enter Try.func67, Try.ntmps67
  go_wp2
  go_loopw [1, 5] (fun q i wr => ∃ (j : Nat), j ≤ ps.length ∧ i = .int .i64 j ∧ q = .int .i64 ((k + cntB (ps.take j) : Nat) : Int) ∧ Hid (OwPS wr lo hi (.slice A ps.length c) (mixB k j ps)) ∧ KeepG lo hi w wr) (fun _ i _ => ps.length - (intOf i).toNat)
  case atStart => exact ⟨0, Nat.zero_le _, rfl, rfl, by show OwPS _ _ _ _ _; simpa [mixB] using H.out, KeepG.refl _ _ _⟩
  case round =>
    obtain ⟨j, hj, rfl, rfl, how, hkp⟩ := hrel
    by_cases hlt : j < ps.length
    · have hx : ps[j]? = some ps[j] := by simp [hlt]
      obtain ⟨p, hp⟩ : ∃ p, p = ps[j] := ⟨_, rfl⟩
      rw [← hp] at hx
      have hcj := cntB_at hx
      have hc1 := hcj.1
      have hc2 := hcj.2
      have hs1 := hkp.size
      have HX := Lib.hid hx
      have HC := Lib.hid hc1
      have HKP := Lib.hid hkp
      have hb1 : k + cntB (ps.take j) + 1 + p.2.length ≤ 8388608 := by omega
      clear hx hp hcj hc1 hkp
      have hhr : hi ≤ wr.heap.size := by omega
      obtain ⟨us, hrows, hown, htx, hbl⟩ := how.out
      rw [mixB_len] at hown
      rcases hown.2 with ⟨_, h0⟩ | ⟨g, cap, cur, hv, hg1, hg2, _⟩
      · omega
      cases hv
      have hul : us.length = ps.length := by rw [hrows.1]; simp [sigs, mixB_len]
      obtain ⟨u, hu⟩ : ∃ u, us[j]? = some u := ⟨_, List.getElem?_eq_getElem (by omega)⟩
      have hz := zipC_at (txts (mixB k j ps)) us j p.1 u (by simp [txts, mixB_at HX.out]) hu
      have hgi : g < hi := hbl g rfl
      have HROW := Lib.hid hrows
      have HOWN := Lib.hid hown
      have HTX := Lib.hid htx
      have HG2 := Lib.hid hg2
      have HU := Lib.hid hu
      have HZ := Lib.hid hz
      have HUL := Lib.hid hul
      have HBL := Lib.hid hbl
      clear hrows hown htx hg2 hu hz how hul hbl
      go_wp2_with fail
      refine (markText_any (k + cntB (ps.take j)) (by omega) (by omega) _).mono ?_
      rintro e w1 ⟨rfl, hb2⟩
      have hown1 := owns_below HOWN.out HBL.out hb2 hhr
      have hrow1 := HROW.out.below hb2 hhr
      have hg21 := (hb2.block g (by omega)).trans HG2.out
      have hc0 := hown1.cellAt (j * 2) (by omega)
      rw [HZ.out.1] at hc0
      have hf0 := hown1.frozenAt (j * 2)
      have hc01 := hown1.cellAt (j * 2 + 1) (by omega)
      rw [HZ.out.2] at hc01
      have hst := (hown1.stored (j * 2) (.string (markT (k + cntB (ps.take j))))).1
      rw [zipC_set] at hst
      have hrow2 := rows_far hrow1 hg21 (by decide) (j * 2) (.string (markT (k + cntB (ps.take j))))
      have hru := hrow2.2.1 j u p.2 HU.out (by simp [sigs, mixB_at HX.out])
      have hkp2 : KeepG lo hi w (w1.setCell ⟨g, j * 2, Option.none⟩ (.string (markT (k + cntB (ps.take j))))) :=
        HKP.out.trans ((below_g hb2).trans ((Keep.refl lo hi w1).setCell (p := ⟨g, j * 2, Option.none⟩) hg1 hgi _).g)
      obtain ⟨AU, cu, hue, _⟩ := hru.rd.form
      subst hue
      have HST := Lib.hid hst
      have HRW2 := Lib.hid hrow2
      have HRU := Lib.hid hru
      have HKP2 := Lib.hid hkp2
      clear hown1 hrow1 hg21 hst hrow2 hru hkp2 hb2
      go_wp2_with fail
      refine (markIntS_only p.2 _ lo hi (k + cntB (ps.take j) + 1) _ HRU.out (by omega) (by omega)).mono ?_
      rintro e w3 ⟨rfl, hm3, hk3⟩
      have h1 := HRW2.out.only HU.out hk3 hm3
      have h2 := outer_onlyP HST.out HRU.out hk3
      have h3 := HKP2.out.trans (hk3.keepI HRU.out).g
      have H4 : Hid (OwPS w3 lo hi (.slice (some ⟨g, 0, Option.none⟩) ps.length c) (mixB k (j + 1) ps)) := by
        refine ⟨us, ?_, ?_, ?_, HBL.out⟩
        · rw [← mixB_step HX.out]
          have : sigs ((mixB k j ps).set j (markT (k + cntB (ps.take j)), marks (k + cntB (ps.take j) + 1) p.2.length)) = (sigs (mixB k j ps)).set j (marks (k + cntB (ps.take j) + 1) p.2.length) := by simp [sigs, List.map_set]
          rw [this]; exact h1
        · rw [← mixB_step HX.out]
          have : txts ((mixB k j ps).set j (markT (k + cntB (ps.take j)), marks (k + cntB (ps.take j) + 1) p.2.length)) = (txts (mixB k j ps)).set j (markT (k + cntB (ps.take j))) := by simp [txts, List.map_set]
          rw [this]
          simpa [mixB_len] using h2
        · rw [← mixB_step HX.out]
          intro x hx
          rcases List.mem_or_eq_of_mem_set hx with hx | rfl
          · exact HTX.out x hx
          · exact markT_size (by omega)
      have H3 := Lib.hid h3
      clear h1 h2 h3 hk3 hm3 hc0 hf0 hc01
      go_wp2
      go_roundw
      case rel => exact ⟨j + 1, by omega, by go_num, int_val (by have := HC.out; omega), H4, H3.out⟩
      case measure => simp [intOf]; omega
    · obtain rfl : j = ps.length := by omega
      have HO := how
      go_wp2
      go_ret
      exact ⟨ret_int (by rw [List.take_of_length_le (Nat.le_refl _)]), by have := HO.out; rwa [mixB_full] at this, hkp⟩
theorem markBook_g (ps : List Phr) (v : Value) (lo hi k : Nat) (w : World) (h : OwB w lo hi v ps) (hh : hi ≤ w.heap.size) (hk1 : 1 ≤ k) (hk : k ≤ 4194304) (hsz : cntB ps ≤ 4194304) :
    Calls Try.prog 12 #[v, .int .i64 (k : Int)] w fun e w' => e = .returned (.int .i64 ((k + cntB ps : Nat) : Int)) ∧ OwB w' lo hi v (marksB k ps) ∧ KeepG lo hi w w' := by
  obtain ⟨u, rfl, hu⟩ := h
  obtain ⟨A, c, rfl, hc, hm⟩ := hu.rd.form
  have hba : Below w.heap.size w (w.alloc (.cells #[.slice A ps.length c] 28)) := (Below.refl _ _).alloc (Nat.le_refl _) _
  have H := Lib.hid (hu.below hba hh)
  have HB := Lib.hid (below_g (lo := lo) (hi := hi) hba)
  clear hu hba
  go_enter Try.func12, Try.ntmps12
  go_wp2_with fail
  refine (markPhraseS_any ps _ lo hi k _ H.out (by simp; omega) hk1 hk hsz).mono ?_
  rintro e w2 ⟨rfl, ho2, hk2⟩
  have HO : Hid (OwB w2 lo hi (.agg #[.slice A ps.length c]) (marksB k ps)) := ⟨_, rfl, ho2⟩
  have HK := Lib.hid (HB.out.trans hk2)
  clear ho2 hk2
  go_wp2_with fail
  go_ret
  exact ⟨rfl, HO.out, HK.out⟩
/-- The count, in a number of its own; the memory in two steps. -/
theorem markBook_ex (ps : List Phr) (v : Value) (lo hi k : Nat) (w : World) (h : OwB w lo hi v ps) (hh : hi ≤ w.heap.size) (hk1 : 1 ≤ k) (hk : k ≤ 4194304) (hsz : sizeB ps ≤ 4194304) :
    Calls Try.prog 12 #[v, .int .i64 (k : Int)] w fun e w' => ∃ (q : Nat) (m : World), e = .returned (.int .i64 (q : Int)) ∧ q ≤ k + sizeB ps ∧ k ≤ q ∧ OwB w' lo hi v (marksB k ps) ∧ Keep lo hi w m ∧ Below m.heap.size m w' :=
  (markBook_g ps v lo hi k w h hh hk1 hk (by have := cntB_le ps; omega)).mono fun _ _ ⟨he, h1, h2⟩ => by
    obtain ⟨m, hm1, hm2⟩ := h2.split
    exact ⟨_, m, he, by have := cntB_le ps; omega, by omega, h1, hm1, hm2⟩
end Go.Proofs.Ytjnkdjokbamibaa
/- Contracts: what a cursor over bytes draws; its block alone turns, and new memory comes. -/
namespace Go.Proofs.Ytjnkdjokbamibaa
open Go.RowKit
def bytesV (zs : List UInt8) : List Value := zs.map fun z => Value.int .u8 (z.toNat : Int)
def RdU (w : World) (hi : Nat) (v : Value) (zs : List UInt8) : Prop := Rd w hi 1 v zs.length (bytesV zs)
theorem RdU.at_ {w : World} {hi : Nat} {v : Value} {zs : List UInt8} (h : RdU w hi v zs) {k : Nat} (hk : k < zs.length) :
    ∃ (b off c : Nat) (z : Int), v = .slice (some ⟨b, off, Option.none⟩) zs.length c ∧ b < hi ∧ w.cell? ⟨b, off + k, Option.none⟩ = some (.int .u8 z) ∧ 0 ≤ z ∧ z ≤ 255 := by
  obtain ⟨_, A, c, hv, _, _, h4⟩ := h
  obtain ⟨b, off, rfl, hb, hc⟩ := h4 (by omega)
  refine ⟨b, off, c, ((zs[k]).toNat : Int), hv, hb, hc k _ (by simp [bytesV, hk]), by omega, ?_⟩
  have := UInt8.toNat_lt zs[k]
  omega
/-- C is the block of a cursor that has been asked at most m times. -/
def Cur (w : World) (C m : Nat) : Prop := ∃ (v : Value) (zs : List UInt8) (p : Nat) (s : Int), Blk w C 89 [v, .int .i64 (p : Int), .int .u64 s] ∧ RdU w C v zs ∧ p ≤ m
theorem KeepG.set_ {C D : Nat} {a w : World} (h : KeepG C D a w) {p : Addr} (h1 : C ≤ p.block) (h2 : p.block < D) (u : Value) : KeepG C D a (w.setCell p u) :=
  h.trans ((Keep.refl C D w).setCell h1 h2 u).g
theorem Cur.mono {w : World} {C m m' : Nat} (h : Cur w C m) (hm : m ≤ m') : Cur w C m' := by
  obtain ⟨v, zs, p, s, h1, h2, h3⟩ := h
  exact ⟨v, zs, p, s, h1, h2, by omega⟩
theorem Cur.lt {w : World} {C m : Nat} (h : Cur w C m) : C < w.heap.size := by
  obtain ⟨v, zs, p, s, h1, _, _⟩ := h
  exact h1.lt
theorem Cur.alloc {w : World} {C m : Nat} (h : Cur w C m) (o : Obj) : Cur (w.alloc o) C m := by
  obtain ⟨v, zs, p, s, h1, h2, h3⟩ := h
  exact ⟨v, zs, p, s, h1.alloc o, h2.below ((Below.refl _ _).alloc (by have := h1.lt; omega) _) (Nat.le_refl _), h3⟩
theorem KeepG.cell {lo hi : Nat} {w w' : World} (h : KeepG lo hi w w') {b o : Nat} (hb : b < w.heap.size) (hne : b < lo ∨ hi ≤ b) : w'.cell? ⟨b, o, Option.none⟩ = w.cell? ⟨b, o, Option.none⟩ := by
  unfold World.cell?
  rw [h.block b hb hne]
end Go.Proofs.Ytjnkdjokbamibaa
/- Plain laws: an order by insertion; the indices in groups of one length each; the words of a canonical code. -/
namespace Go.Proofs.Ytjnkdjokbamibaa
open Go.RowKit
/-- A number's digits to the base r, as many as told. -/
def digL (r : Nat) : Nat → Nat → List Int
  | _, 0 => []
  | n, k + 1 => digL r (n / r) k ++ [((n % r : Nat) : Int)]
/-- The next word, the last length, the words so far. -/
structure CanS where
  next : Nat
  last : Nat
  rows : List (List Int)
end Go.Proofs.Ytjnkdjokbamibaa
/- Plain laws: the search of the least lengths, and the table of least costs level by level. -/
namespace Go.Proofs.Ytjnkdjokbamibaa
open Go.RowKit
/-- A list of lengths with its cost, or none. -/
abbrev Cand := Option (List Nat × Int)
/-- The first one, unless the second one costs less. -/
def pickC : Cand → Cand → Cand
  | Option.none, b => b
  | some x, Option.none => some x
  | some x, some y => if y.2 < x.2 then some y else some x
def addC (l : List Nat) (k : Int) (c : Cand) : Cand := c.map fun x => (l ++ x.1, k + x.2)
theorem pickC_none (a : Cand) : pickC a Option.none = a := by cases a <;> rfl
theorem pickC_assoc (a b c : Cand) : pickC (pickC a b) c = pickC a (pickC b c) := by
  cases a with
  | none => rfl
  | some x =>
    cases b with
    | none => rfl
    | some y =>
      cases c with
      | none => rw [pickC_none, pickC_none]
      | some z =>
        simp only [pickC]
        by_cases h1 : y.2 < x.2
        · by_cases h2 : z.2 < y.2
          · simp only [h1, h2, if_true]; rw [if_pos (by omega)]
          · simp only [h1, h2, if_true, if_false]
        · by_cases h2 : z.2 < y.2
          · simp only [h1, h2, if_true, if_false]
          · simp only [h1, h2, if_false]; rw [if_neg (by omega)]
theorem addC_pick (l : List Nat) (k : Int) (a b : Cand) : addC l k (pickC a b) = pickC (addC l k a) (addC l k b) := by
  cases a with
  | none => rfl
  | some x =>
    cases b with
    | none => rfl
    | some y =>
      simp only [pickC, addC, Option.map]
      by_cases h : y.2 < x.2
      · rw [if_pos h, if_pos (by omega)]
      · rw [if_neg h, if_neg (by omega)]
theorem addC_add (l m : List Nat) (k j : Int) (c : Cand) : addC l k (addC m j c) = addC (l ++ m) (k + j) c := by
  cases c with
  | none => rfl
  | some x => simp only [addC, Option.map, List.append_assoc, Int.add_assoc]
theorem addC_nil (c : Cand) : addC [] 0 c = c := by
  cases c with
  | none => rfl
  | some x => simp [addC]
/-- Of all lists of lengths that 1000000000er fall, from one length on, for which there is room: the first one of the least cost. -/
def bst (r L : Nat) : List Int → Nat → Nat → Cand
  | [], _, _ => some ([], 0)
  | w :: ws, fr, room => (List.range' fr (L + 1 - fr)).foldl (fun c n => pickC c (if r ^ (L - n) ≤ room then addC [n] (w * (n : Int)) (bst r L ws n (room - r ^ (L - n))) else Option.none)) Option.none
theorem pick_fold {f : Nat → Cand} : ∀ (l : List Nat) (a : Cand), l.foldl (fun c n => pickC c (f n)) a = pickC a (l.foldl (fun c n => pickC c (f n)) Option.none)
  | [], a => (pickC_none a).symm
  | n :: l, a => by
    rw [List.foldl_cons, List.foldl_cons, pick_fold l (pickC a (f n)), pick_fold l (pickC Option.none (f n)), pickC_assoc]; rfl
theorem bst_end {r L : Nat} {w : Int} {ws : List Int} {fr room : Nat} (h : L < fr) : bst r L (w :: ws) fr room = Option.none := by
  rw [bst, show L + 1 - fr = 0 by omega]; rfl
theorem bst_step {r L : Nat} {w : Int} {ws : List Int} {fr room : Nat} (h : fr ≤ L) :
    bst r L (w :: ws) fr room = pickC (if r ^ (L - fr) ≤ room then addC [fr] (w * (fr : Int)) (bst r L ws fr (room - r ^ (L - fr))) else Option.none) (bst r L (w :: ws) (fr + 1) room) := by
  rw [bst, bst, show L + 1 - fr = (L + 1 - (fr + 1)) + 1 by omega, List.range'_succ, List.foldl_cons, pick_fold]
  rfl
/-- All weights together. -/
def sumW : List Int → Int
  | [] => 0
  | w :: ws => w + sumW ws
theorem sumW_nonneg {ws : List Int} (h : ∀ w ∈ ws, 0 ≤ w) : 0 ≤ sumW ws := by
  induction ws with
  | nil => exact Int.le_refl _
  | cons w ws ih =>
    have h1 := h w (by simp)
    have h2 := ih (fun x hx => h x (by simp [hx]))
    simp only [sumW]; omega
theorem sumW_app (a b : List Int) : sumW (a ++ b) = sumW a + sumW b := by
  induction a with
  | nil => simp [sumW]
  | cons w ws ih => simp only [List.cons_append, sumW, ih]; omega
theorem pickC_some {a b : Cand} {x : List Nat × Int} (h : pickC a b = some x) : a = some x ∨ b = some x := by
  cases a with
  | none => exact .inr h
  | some y =>
    cases b with
    | none => exact .inl h
    | some z =>
      simp only [pickC] at h
      split at h
      · exact .inr h
      · exact .inl h
theorem addC_some {l : List Nat} {k : Int} {c : Cand} {x : List Nat × Int} (h : addC l k c = some x) : ∃ y, c = some y ∧ x = (l ++ y.1, k + y.2) := by
  cases c with
  | none => cases h
  | some y => exact ⟨y, rfl, by unfold addC at h; simp at h; exact h.symm⟩
/-- Induction over what is found: the lists are as long as the weights, and the cost lies between that of the least and that of the greatest length. -/
theorem bst_bd {r L : Nat} : ∀ (ws : List Int), (∀ w ∈ ws, 0 ≤ w) → ∀ (q fr room : Nat), q = L + 1 - fr → ∀ x, bst r L ws fr room = some x →
    x.1.length = ws.length ∧ (fr : Int) * sumW ws ≤ x.2 ∧ x.2 ≤ (L : Int) * sumW ws ∧ ∀ n ∈ x.1, fr ≤ n ∧ n ≤ L
  | [], _, q, fr, room, _, x, hx => by
    rw [bst] at hx; cases hx
    refine ⟨rfl, by simp [sumW], by simp [sumW], by simp⟩
  | w :: ws, hw, 0, fr, room, hq, x, hx => by
    rw [bst_end (by omega)] at hx; cases hx
  | w :: ws, hw, q + 1, fr, room, hq, x, hx => by
    have hw0 := hw w (by simp)
    have hws : ∀ x ∈ ws, 0 ≤ x := fun x hx => hw x (by simp [hx])
    have hs := sumW_nonneg hws
    rw [bst_step (by omega)] at hx
    rcases pickC_some hx with h | h
    · split at h
      · obtain ⟨y, hy, rfl⟩ := addC_some h
        have ih := bst_bd ws hws _ fr _ rfl y hy
        have hL : (fr : Int) ≤ (L : Int) := by omega
        have h5 : w * (fr : Int) ≤ w * (L : Int) := Int.mul_le_mul_of_nonneg_left hL hw0
        have e1 : (fr : Int) * (w + sumW ws) = w * (fr : Int) + (fr : Int) * sumW ws := by rw [Int.mul_add, Int.mul_comm]
        have e2 : (L : Int) * (w + sumW ws) = w * (L : Int) + (L : Int) * sumW ws := by rw [Int.mul_add, Int.mul_comm]
        refine ⟨by simp [ih.1], ?_, ?_, ?_⟩
        · simp only [sumW]; rw [e1]; have := ih.2.1; omega
        · simp only [sumW]; rw [e2]; have := ih.2.2.1; omega
        · intro n hn
          rcases List.mem_append.1 hn with h1 | h1
          · simp at h1; subst h1; exact ⟨Nat.le_refl _, by omega⟩
          · exact ih.2.2.2 n h1
      · cases h
    · have ih := bst_bd (w :: ws) hw q (fr + 1) room (by omega) x h
      have h0 := sumW_nonneg hw
      have e : ((fr + 1 : Nat) : Int) * sumW (w :: ws) = (fr : Int) * sumW (w :: ws) + sumW (w :: ws) := by rw [Int.natCast_add, Int.add_mul]; simp
      refine ⟨ih.1, by have := ih.2.1; omega, ih.2.2.1, fun n hn => ?_⟩
      have := ih.2.2.2 n hn
      omega
/-- With some free places at a level. -/
def lvl (r L : Nat) (ws : List Int) (level free : Nat) : Cand := bst r L ws level (free * r ^ (L - level))
theorem lvl_nil {r L level free : Nat} : lvl r L [] level free = some ([], 0) := by unfold lvl; rw [bst]
theorem lvl_end {r L level free : Nat} {ws : List Int} (hw : ws ≠ []) (h : L < level) : lvl r L ws level free = Option.none := by
  cases ws with
  | nil => exact absurd rfl hw
  | cons w ws => exact bst_end h
theorem lvl_next {r L level free : Nat} {w : Int} {ws : List Int} (h : level ≤ L) : bst r L (w :: ws) (level + 1) (free * r ^ (L - level)) = lvl r L (w :: ws) (level + 1) (free * r) := by
  rcases Nat.lt_or_ge level L with h1 | h1
  · unfold lvl
    rw [show L - level = (L - (level + 1)) + 1 by omega, Nat.pow_succ, Nat.mul_assoc, Nat.mul_comm (r ^ (L - (level + 1))) r]
  · rw [lvl_end (by simp) (by omega), bst_end (by omega)]
theorem lvl_step {r L level free : Nat} {w : Int} {ws : List Int} (hr : 1 ≤ r) (h : level ≤ L) :
    lvl r L (w :: ws) level (free + 1) = pickC (addC [level] (w * (level : Int)) (lvl r L ws level free)) (lvl r L (w :: ws) (level + 1) ((free + 1) * r)) := by
  have hp : 1 ≤ r ^ (L - level) := Nat.one_le_pow _ _ hr
  conv => lhs; unfold lvl
  rw [bst_step h, lvl_next h, if_pos (by rw [Nat.add_mul]; omega)]
  unfold lvl
  rw [show (free + 1) * r ^ (L - level) - r ^ (L - level) = free * r ^ (L - level) by rw [Nat.add_mul]; omega]
theorem lvl_none {r L : Nat} {w : Int} {ws : List Int} (hr : 1 ≤ r) : ∀ (q level : Nat), q = L + 1 - level → lvl r L (w :: ws) level 0 = Option.none
  | 0, level, hq => lvl_end (by simp) (by omega)
  | q + 1, level, hq => by
    have hp : 1 ≤ r ^ (L - level) := Nat.one_le_pow _ _ hr
    have ih := lvl_none (L := L) (w := w) (ws := ws) hr q (level + 1) (by omega)
    have h2 := lvl_next (r := r) (L := L) (free := 0) (w := w) (ws := ws) (show level ≤ L by omega)
    unfold lvl
    rw [Nat.zero_mul] at h2 ⊢
    rw [bst_step (by omega), if_neg (by omega), h2, Nat.zero_mul, ih]; rfl
/-- Enough places for all. -/
theorem lvl_all {r L : Nat} (hr : 1 ≤ r) : ∀ (ws : List Int), (∀ w ∈ ws, 0 ≤ w) → ∀ (level free : Nat), level ≤ L → ws.length ≤ free →
    lvl r L ws level free = some (List.replicate ws.length level, (level : Int) * sumW ws)
  | [], _, level, free, _, _ => by rw [lvl_nil]; simp [sumW]
  | w :: ws, hw, level, free, hl, hf => by
    obtain ⟨f, rfl⟩ : ∃ f, free = f + 1 := ⟨free - 1, by simp at hf; omega⟩
    have hws : ∀ x ∈ ws, 0 ≤ x := fun x hx => hw x (by simp [hx])
    rw [lvl_step hr hl, lvl_all hr ws hws level f hl (by simp at hf; omega)]
    have e1 : (level : Int) * (w + sumW ws) = w * (level : Int) + (level : Int) * sumW ws := by rw [Int.mul_add, Int.mul_comm]
    have e2 : addC [level] (w * (level : Int)) (some (List.replicate ws.length level, (level : Int) * sumW ws)) = some (List.replicate (w :: ws).length level, (level : Int) * sumW (w :: ws)) := by
      simp only [addC, Option.map, sumW, e1]; rfl
    rw [e2]
    cases hc : lvl r L (w :: ws) (level + 1) ((f + 1) * r) with
    | none => rfl
    | some y =>
      have hb := (bst_bd (w :: ws) hw _ (level + 1) _ rfl y hc).2.1
      have h0 := sumW_nonneg hw
      have e : ((level + 1 : Nat) : Int) * sumW (w :: ws) = (level : Int) * sumW (w :: ws) + sumW (w :: ws) := by rw [Int.natCast_add, Int.add_mul]; simp
      simp only [pickC]
      rw [if_neg (by omega)]
/-- More places than words help no more. -/
theorem lvl_clip {r L : Nat} (hr : 1 ≤ r) {ws : List Int} (hw : ∀ w ∈ ws, 0 ≤ w) {level f g : Nat} (hf : ws.length ≤ f) (hg : ws.length ≤ g) : lvl r L ws level f = lvl r L ws level g := by
  rcases Nat.lt_or_ge L level with h | h
  · cases ws with
    | nil => rw [lvl_nil, lvl_nil]
    | cons w ws => rw [lvl_end (by simp) h, lvl_end (by simp) h]
  · rw [lvl_all hr ws hw level f h hf, lvl_all hr ws hw level g h hg]
theorem lvl_min {r L : Nat} (hr : 1 ≤ r) {ws : List Int} (hw : ∀ w ∈ ws, 0 ≤ w) {level f : Nat} : lvl r L ws level (min f ws.length) = lvl r L ws level f := by
  rcases Nat.le_total f ws.length with h | h
  · rw [Nat.min_eq_left h]
  · exact lvl_clip hr hw (by omega) h
/-- The first of the least ones from f down to 0. -/
def pickDown (g : Nat → Cand) : Nat → Cand
  | 0 => g 0
  | f + 1 => pickC (g (f + 1)) (pickDown g f)
theorem pickDown_congr {g h : Nat → Cand} : ∀ f, (∀ t, t ≤ f → g t = h t) → pickDown g f = pickDown h f
  | 0, e => e 0 (Nat.le_refl _)
  | f + 1, e => by rw [pickDown, pickDown, e (f + 1) (Nat.le_refl _), pickDown_congr f (fun t ht => e t (by omega))]
theorem pickDown_add {g : Nat → Cand} {l : List Nat} {k : Int} : ∀ f, addC l k (pickDown g f) = pickDown (fun t => addC l k (g t)) f
  | 0 => rfl
  | f + 1 => by rw [pickDown, pickDown, addC_pick, pickDown_add f]
theorem pickDown_up {g : Nat → Cand} : ∀ f, pickDown g (f + 1) = pickC (pickDown (fun t => g (t + 1)) f) (g 0)
  | 0 => rfl
  | f + 1 => by
    rw [pickDown, pickDown_up f, pickDown, ← pickC_assoc]
/-- As many words as told end at a level. -/
def cand (r L : Nat) (ws : List Int) (level f take : Nat) : Cand := addC (List.replicate take level) ((level : Int) * sumW (ws.take take)) (lvl r L (ws.drop take) (level + 1) ((f - take) * r))
theorem lvl_take {r L : Nat} (hr : 1 ≤ r) {level : Nat} (hl : level ≤ L) : ∀ (ws : List Int) (f : Nat), f ≤ ws.length → lvl r L ws level f = pickDown (cand r L ws level f) f
  | [], f, hf => by
    obtain rfl : f = 0 := by simpa using hf
    simp only [pickDown, cand]
    rw [List.take_nil, List.drop_nil, lvl_nil, lvl_nil]; simp [addC, sumW]
  | w :: ws, 0, _ => by
    simp only [pickDown, cand]
    rw [List.take_zero, List.drop_zero, Nat.zero_mul, lvl_none hr _ _ rfl, lvl_none hr _ _ rfl]; rfl
  | w :: ws, f + 1, hf => by
    rw [lvl_step hr hl, lvl_take hr hl ws f (by simp at hf; omega), pickDown_add, pickDown_up]
    have e0 : cand r L (w :: ws) level (f + 1) 0 = lvl r L (w :: ws) (level + 1) ((f + 1) * r) := by
      simp only [cand]
      rw [List.take_zero, List.drop_zero, Nat.sub_zero]
      simp only [List.replicate_zero, sumW, Int.mul_zero]
      exact addC_nil _
    rw [e0]
    congr 1
    refine pickDown_congr f (fun t _ => ?_)
    simp only [cand]
    rw [addC_add, List.take_succ_cons, List.drop_succ_cons, show f + 1 - (t + 1) = f - t by omega]
    have e1 : (level : Int) * (w + sumW (ws.take t)) = w * (level : Int) + (level : Int) * sumW (ws.take t) := by rw [Int.mul_add, Int.mul_comm]
    rw [show List.replicate (t + 1) level = [level] ++ List.replicate t level from rfl]
    simp only [sumW]
    rw [e1]
/-- The cost of what is still to be given lengths of at least some level, if each weight costs its own for each level. -/
def relC (r L : Nat) (ws : List Int) (level free : Nat) : Int := match lvl r L ws level free with
  | Option.none => 1000000000
  | some x => x.2 - ((level : Int) - 1) * sumW ws
def withC (r L : Nat) (ws : List Int) (level f take : Nat) : Int := min 1000000000 (sumW ws + relC r L (ws.drop take) (level + 1) ((f - take) * r))
/-- What is found is cheap. -/
theorem lvl_cheap {r L : Nat} {ws : List Int} (hw : ∀ w ∈ ws, 0 ≤ w) {level free : Nat} {x : List Nat × Int} (h : lvl r L ws level free = some x) : (level : Int) * sumW ws ≤ x.2 ∧ x.2 ≤ (L : Int) * sumW ws :=
  ⟨(bst_bd ws hw _ level _ rfl x h).2.1, (bst_bd ws hw _ level _ rfl x h).2.2.1⟩
theorem sum_split (ws : List Int) (t : Nat) : sumW ws = sumW (ws.take t) + sumW (ws.drop t) := by rw [← sumW_app, List.take_append_drop]
/-- The cost of a candidate. -/
theorem cand_cost {r L : Nat} {ws : List Int} (hw : ∀ w ∈ ws, 0 ≤ w) {level f t : Nat} (h1 : 1 ≤ level) (hl : 1 ≤ L) (hL : (L : Int) * sumW ws < 1000000000) :
    withC r L ws level f t = match cand r L ws level f t with
      | Option.none => 1000000000
      | some x => x.2 - ((level : Int) - 1) * sumW ws := by
  have hwd : ∀ w ∈ ws.drop t, 0 ≤ w := fun w hm => hw w (List.mem_of_mem_drop hm)
  have hwt : ∀ w ∈ ws.take t, 0 ≤ w := fun w hm => hw w (List.mem_of_mem_take hm)
  have h0 := sumW_nonneg hw
  have hd0 := sumW_nonneg hwd
  have ht0 := sumW_nonneg hwt
  have hsp := sum_split ws t
  unfold withC relC cand
  cases hc : lvl r L (ws.drop t) (level + 1) ((f - t) * r) with
  | none =>
    show min 1000000000 (sumW ws + 1000000000) = 1000000000
    omega
  | some y =>
    have hb := lvl_cheap hwd hc
    simp only [addC, Option.map]
    have e1 : (((level + 1 : Nat) : Int) - 1) * sumW (ws.drop t) = (level : Int) * sumW (ws.drop t) := by congr 1; omega
    have e2 : ((level : Int) - 1) * sumW ws = (level : Int) * sumW (ws.take t) + (level : Int) * sumW (ws.drop t) - sumW ws := by rw [Int.sub_mul, Int.one_mul, hsp, Int.mul_add]
    have e3 : ((level + 1 : Nat) : Int) * sumW (ws.drop t) = (level : Int) * sumW (ws.drop t) + sumW (ws.drop t) := by rw [Int.natCast_add, Int.add_mul]; simp
    have h3 : (L : Int) * sumW ws = (L : Int) * sumW (ws.take t) + (L : Int) * sumW (ws.drop t) := by rw [hsp, Int.mul_add]
    have h4 : 0 ≤ (L : Int) * sumW (ws.take t) := Int.mul_nonneg (by omega) ht0
    have h5 : 0 ≤ (level : Int) * sumW (ws.drop t) := Int.mul_nonneg (by omega) hd0
    have h6 : sumW (ws.take t) ≤ (L : Int) * sumW (ws.take t) := by
      have := Int.mul_le_mul_of_nonneg_right (show (1 : Int) ≤ (L : Int) by omega) ht0
      omega
    have h7 : sumW (ws.drop t) ≤ (level : Int) * sumW (ws.drop t) := by
      have := Int.mul_le_mul_of_nonneg_right (show (1 : Int) ≤ (level : Int) by omega) hd0
      omega
    rw [e1, e2, Int.min_eq_right (by omega)]
    show _ = (level : Int) * sumW (ws.take t) + y.2 - ((level : Int) * sumW (ws.take t) + (level : Int) * sumW (ws.drop t) - sumW ws)
    omega
theorem pickDown_some {g : Nat → Cand} : ∀ (f : Nat) (x : List Nat × Int), pickDown g f = some x →
    ∃ t, t ≤ f ∧ g t = some x ∧ (∀ s, s ≤ f → ∀ y, g s = some y → x.2 ≤ y.2) ∧ (∀ s, t < s → s ≤ f → ∀ y, g s = some y → x.2 < y.2)
  | 0, x, h => ⟨0, Nat.le_refl _, h, fun s hs y hy => by
      obtain rfl : s = 0 := by omega
      rw [pickDown] at h; rw [h] at hy; cases hy; exact Int.le_refl _, fun s h1 h2 => by omega⟩
  | f + 1, x, h => by
    rw [pickDown] at h
    cases hg : g (f + 1) with
    | none =>
      rw [hg] at h
      obtain ⟨t, h1, h2, h3, h4⟩ := pickDown_some f x h
      refine ⟨t, by omega, h2, fun s hs y hy => ?_, fun s h5 h6 y hy => ?_⟩
      · rcases Nat.lt_or_ge f s with h7 | h7
        · obtain rfl : s = f + 1 := by omega
          rw [hg] at hy; cases hy
        · exact h3 s h7 y hy
      · rcases Nat.lt_or_ge f s with h7 | h7
        · obtain rfl : s = f + 1 := by omega
          rw [hg] at hy; cases hy
        · exact h4 s h5 h7 y hy
    | some z =>
      rw [hg] at h
      cases hp : pickDown g f with
      | none =>
        rw [hp] at h
        cases h
        refine ⟨f + 1, Nat.le_refl _, hg, fun s hs y hy => ?_, fun s h5 h6 => by omega⟩
        rcases Nat.lt_or_ge f s with h7 | h7
        · obtain rfl : s = f + 1 := by omega
          rw [hg] at hy; cases hy; exact Int.le_refl _
        · exact absurd hy (by rw [pickDown_none f hp s h7]; simp)
      | some u =>
        rw [hp] at h
        obtain ⟨t, h1, h2, h3, h4⟩ := pickDown_some f u hp
        simp only [pickC] at h
        split at h
        · rename_i hlt
          cases h
          refine ⟨t, by omega, h2, fun s hs y hy => ?_, fun s h5 h6 y hy => ?_⟩
          · rcases Nat.lt_or_ge f s with h7 | h7
            · obtain rfl : s = f + 1 := by omega
              rw [hg] at hy; cases hy; omega
            · exact h3 s h7 y hy
          · rcases Nat.lt_or_ge f s with h7 | h7
            · obtain rfl : s = f + 1 := by omega
              rw [hg] at hy; cases hy; omega
            · exact h4 s h5 h7 y hy
        · rename_i hlt
          cases h
          refine ⟨f + 1, Nat.le_refl _, hg, fun s hs y hy => ?_, fun s h5 h6 => by omega⟩
          rcases Nat.lt_or_ge f s with h7 | h7
          · obtain rfl : s = f + 1 := by omega
            rw [hg] at hy; cases hy; exact Int.le_refl _
          · have := h3 s h7 y hy
            omega
where pickDown_none {g : Nat → Cand} : ∀ (f : Nat), pickDown g f = Option.none → ∀ s, s ≤ f → g s = Option.none
  | 0, h, s, hs => by obtain rfl : s = 0 := by omega
                      exact h
  | f + 1, h, s, hs => by
    rw [pickDown] at h
    cases hg : g (f + 1) with
    | none =>
      rw [hg] at h
      rcases Nat.lt_or_ge f s with h7 | h7
      · obtain rfl : s = f + 1 := by omega
        exact hg
      · exact pickDown_none f h s h7
    | some z =>
      rw [hg] at h
      cases hp : pickDown g f with
      | none => rw [hp] at h; cases h
      | some u =>
        rw [hp] at h
        simp only [pickC] at h
        split at h <;> cases h
/-- One level of the list: as many words as can end there at the least cost. -/
theorem lvl_greedy {r L : Nat} (hr : 1 ≤ r) {ws : List Int} (hw : ∀ w ∈ ws, 0 ≤ w) {level f : Nat} (hf : f ≤ ws.length) (h1 : 1 ≤ level) (h2 : level ≤ L) (hL : (L : Int) * sumW ws < 1000000000)
    {x : List Nat × Int} (hx : lvl r L ws level f = some x) :
    ∃ t y, t ≤ f ∧ withC r L ws level f t = relC r L ws level f ∧ (∀ s, t < s → s ≤ f → relC r L ws level f < withC r L ws level f s) ∧ lvl r L (ws.drop t) (level + 1) ((f - t) * r) = some y ∧ x.1 = List.replicate t level ++ y.1 := by
  have hcc := fun t => cand_cost (r := r) (f := f) (t := t) hw h1 (show 1 ≤ L by omega) hL
  have hb := lvl_cheap hw hx
  have h0 := sumW_nonneg hw
  have hrel : relC r L ws level f = x.2 - ((level : Int) - 1) * sumW ws := by unfold relC; rw [hx]
  have hp := hx
  rw [lvl_take hr h2 ws f hf] at hp
  obtain ⟨t, ht, hc, hmin, hlt⟩ := pickDown_some f x hp
  have hy := hc
  unfold cand at hy
  obtain ⟨y, hy1, hy2⟩ := addC_some hy
  refine ⟨t, y, ht, ?_, fun s hs1 hs2 => ?_, hy1, by rw [hy2]⟩
  · rw [hcc t, hc, hrel]
  · rw [hcc s, hrel]
    have h3 : 0 ≤ ((level : Int) - 1) * sumW ws := Int.mul_nonneg (by omega) h0
    cases hd : cand r L ws level f s with
    | none => show _ < (1000000000 : Int); omega
    | some z =>
      have := hlt s hs1 hs2 z hd
      show _ < z.2 - ((level : Int) - 1) * sumW ws
      omega
end Go.Proofs.Ytjnkdjokbamibaa
/- Contracts: a stable sort of at most twenty indices by a comparison that only reads. -/
namespace Go.Proofs.Ytjnkdjokbamibaa
open Go.RowKit
theorem Only.trans {b : Option Nat} {a v w : World} (h : Only b a v) (k : Only b v w) : Only b a w :=
  ⟨k.os.trans h.os, k.tape.trans h.tape, k.output.trans h.output, k.size.trans h.size, fun i hi => (k.block i hi).trans (h.block i hi)⟩
end Go.Proofs.Ytjnkdjokbamibaa
/- Contracts: the stable sort of a program's order, its comparison of lengths; the digits of a number. -/
namespace Go.Proofs.Ytjnkdjokbamibaa
open Go.RowKit
theorem RdI.getD {w : World} {hi : Nat} {v : Value} {xs : List Int} (h : RdI w hi v xs) {k : Nat} (hk : k < xs.length) :
    ∃ b off c, v = .slice (some ⟨b, off, Option.none⟩) xs.length c ∧ b < hi ∧ w.cell? ⟨b, off + k, Option.none⟩ = some (.int .i64 (xs.getD k 0)) := by
  obtain ⟨b, off, c, y, hv, hb, hy, hc⟩ := Rd.at_ h hk
  refine ⟨b, off, c, hv, hb, ?_⟩
  rw [hc, List.getD_eq_getElem?_getD, hy]; rfl
/-- The last digits of a number stand, the number is cut. -/
def DigTo (r n len k m : Nat) (D : List Int) : Prop := digL r n len = digL r m k ++ D ∧ m ≤ n
theorem DigTo.start (r n len : Nat) : DigTo r n len len n [] := ⟨by simp, Nat.le_refl _⟩
theorem DigTo.step {r n len k m : Nat} {D : List Int} (h : DigTo r n len (k + 1) m D) : DigTo r n len k (m / r) (((m % r : Nat) : Int) :: D) := by
  refine ⟨?_, Nat.le_trans (Nat.div_le_self _ _) h.2⟩
  rw [h.1, digL]; simp
theorem DigTo.done {r n len m : Nat} {D : List Int} (h : DigTo r n len 0 m D) : D = digL r n len := by rw [h.1, digL]; rfl
end Go.Proofs.Ytjnkdjokbamibaa
/- Contracts: CanonicalCode of the reference. -/
namespace Go.Proofs.Ytjnkdjokbamibaa
open Go.RowKit
/-- One row is put in the place of another one. -/
theorem RowsO.put {w : World} {lo mid hi j : Nat} {us : List Value} {xss : List (List Int)} {u : Value} {xs : List Int} (h : RowsO w lo mid us xss) (hu : OwI w mid hi u xs) (h1 : lo ≤ mid) (h2 : mid ≤ hi) : RowsO w lo hi (us.set j u) (xss.set j xs) := by
  have hl := h.1
  refine ⟨by simp [hl], fun i a b ha hb => ?_, fun i k a b hik ha hb g hg => ?_⟩
  · by_cases e : j = i
    · subst e
      rcases Nat.lt_or_ge j us.length with hi2 | hi2
      · rw [List.getElem?_set_self hi2] at ha
        rw [List.getElem?_set_self (by omega)] at hb
        cases ha; cases hb
        exact hu.mono h1 (Nat.le_refl _)
      · rw [List.getElem?_eq_none (by simpa using hi2)] at ha; cases ha
    · rw [List.getElem?_set_ne e] at ha hb
      exact (h.2.1 i a b ha hb).mono (Nat.le_refl _) h2
  · have hold : ∀ (i : Nat) (a : Value), us[i]? = some a → ∀ g, a.ownBlock = some g → g < mid := by
      intro i a ha g hg
      have hil := (List.getElem?_eq_some_iff.1 ha).1
      exact ((h.2.1 i a xss[i] ha (List.getElem?_eq_getElem (by omega))).range g hg).2
    have hget : ∀ (i : Nat) (a : Value), (us.set j u)[i]? = some a → (i = j ∧ a = u) ∨ (i ≠ j ∧ us[i]? = some a) := by
      intro i a ha
      by_cases e : j = i
      · subst e
        rcases Nat.lt_or_ge j us.length with hi2 | hi2
        · rw [List.getElem?_set_self hi2] at ha; cases ha; exact .inl ⟨rfl, rfl⟩
        · rw [List.getElem?_eq_none (by simpa using hi2)] at ha; cases ha
      · rw [List.getElem?_set_ne e] at ha
        exact .inr ⟨fun e2 => e e2.symm, ha⟩
    intro hg2
    rcases hget i a ha with ⟨rfl, rfl⟩ | ⟨_, ha2⟩
    · rcases hget k b hb with ⟨rfl, rfl⟩ | ⟨_, hb2⟩
      · omega
      · have := hold k b hb2 g hg2
        have := (hu.range g hg).1
        omega
    · rcases hget k b hb with ⟨rfl, rfl⟩ | ⟨_, hb2⟩
      · have := hold i a ha2 g hg
        have := (hu.range g hg2).1
        omega
      · exact h.2.2 i k a b hik ha2 hb2 g hg hg2
/-- Rows that are all empty. -/
theorem RowsO.empty (w : World) (lo hi n : Nat) : RowsO w lo hi (List.replicate n (.slice Option.none 0 0)) (List.replicate n []) := by
  refine ⟨by simp, fun i u xs hu hx => ?_, fun i k a b _ ha _ g hg => ?_⟩
  · rw [List.getElem?_replicate] at hu hx
    split at hu
    · rw [if_pos (by assumption)] at hx
      cases hu; cases hx
      exact owI_nil _ _ _
    · cases hu
  · rw [List.getElem?_replicate] at ha
    split at ha
    · cases ha; cases hg
    · cases ha
theorem RowsO.form {w : World} {lo hi i : Nat} {us : List Value} {xss : List (List Int)} (h : RowsO w lo hi us xss) (hi2 : i < us.length) : ∃ A n c, us[i]? = some (.slice A n c) := by
  have hl := h.1
  obtain ⟨A, c, hv, _⟩ := (h.2.1 i us[i] xss[i] (List.getElem?_eq_getElem hi2) (List.getElem?_eq_getElem (by omega))).form
  exact ⟨A, _, c, by rw [List.getElem?_eq_getElem hi2, hv]⟩
end Go.Proofs.Ytjnkdjokbamibaa
/- Contracts: CanonicalCode of the program. -/
namespace Go.Proofs.Ytjnkdjokbamibaa
open Go.RowKit
theorem Only.bel {w w' : World} {g lo : Nat} (h : Only (some g) w w') (hl : lo ≤ g) : Below lo w w' :=
  ⟨h.os, h.tape, h.output, Nat.le_of_eq h.size.symm, fun k hk => h.block k (by intro e; cases e; omega)⟩
end Go.Proofs.Ytjnkdjokbamibaa
/- Contracts: the search of the least lengths. -/
namespace Go.Proofs.Ytjnkdjokbamibaa
open Go.RowKit
/-- Below block B nothing but block S has turned. -/
structure ButS (B S : Nat) (w w' : World) : Prop where
  os : w'.os = w.os
  tape : w'.tape = w.tape
  output : w'.output = w.output
  size : w.heap.size ≤ w'.heap.size
  block : ∀ k, k < B → k ≠ S → w'.heap[k]? = w.heap[k]?
theorem ButS.refl (B S : Nat) (w : World) : ButS B S w w := ⟨rfl, rfl, rfl, Nat.le_refl _, fun _ _ _ => rfl⟩
theorem ButS.trans {B S : Nat} {a b c : World} (h : ButS B S a b) (k : ButS B S b c) : ButS B S a c :=
  ⟨k.os.trans h.os, k.tape.trans h.tape, k.output.trans h.output, Nat.le_trans h.size k.size, fun i h1 h2 => (k.block i h1 h2).trans (h.block i h1 h2)⟩
theorem ButS.cell {B S : Nat} {w w' : World} (h : ButS B S w w') {b o : Nat} (hb : b < B) (hne : b ≠ S) : w'.cell? ⟨b, o, Option.none⟩ = w.cell? ⟨b, o, Option.none⟩ := by
  unfold World.cell?
  rw [h.block b hb hne]
end Go.Proofs.Ytjnkdjokbamibaa
