/- Texts of one claim, joined: D5, D6, D8, E2, E3, E4, E12, E13, F1, F2, F4, G0, S, E7, G4. -/
import Derived.Shelf.GgClosure.Gives
import Derived.Test.YtabiobjcfopakaaShelf
import Derived.StillTailTactics
import Derived.Lib.OthersKept
import Derived.BigQuiet
import Derived.Shelf.Strings.BuilderK
import Derived.Test.YtabiobjcfopakaaP1Readings
/- Contracts of the tests whether a book is valid, of the program; of the search for a phrase by a predicate. -/
namespace Go.Proofs.Ytabiobjcfopakaa
open Go.RowKit
theorem zipC_take : ∀ (ts : List ByteArray) (us : List Value) (k : Nat), (zipC ts us).take (k * 2) = zipC (ts.take k) (us.take k)
  | [], us, k => by simp [zipC]
  | t :: ts, [], k => by simp [zipC]
  | t :: ts, u :: us, 0 => by simp [zipC]
  | t :: ts, u :: us, k + 1 => by simp only [zipC, List.take_succ_cons, show (k + 1) * 2 = k * 2 + 1 + 1 by omega, zipC_take ts us k]
theorem RowsR.take {w : World} {hi : Nat} {us : List Value} {xss : List (List Int)} (h : RowsR w hi us xss) (k : Nat) : RowsR w hi (us.take k) (xss.take k) := by
  refine ⟨by simp [h.1], fun i u xs hu hx => ?_⟩
  rw [List.getElem?_take] at hu hx
  split at hu
  · rename_i hlt; rw [if_pos hlt] at hx; exact h.2 i u xs hu hx
  · cases hu
theorem RdPS.cut {w : World} {hi n c : Nat} {A : Option Addr} {ps : List Phr} (h : RdPS w hi (.slice A n c) ps) {k : Nat} (hk : k ≤ ps.length) : RdPS w hi (.slice A k c) (ps.take k) := by
  obtain ⟨us, h1, ⟨h0, A', c', hv, h2, h3, h4⟩, ht⟩ := h
  cases hv
  refine ⟨us.take k, ?_, ⟨?_, A, c, ?_, ?_, h3, fun hp => ?_⟩, fun p hp => ht p (List.mem_of_mem_take hp)⟩
  · have := h1.take k; unfold sigs at *; rwa [← List.map_take] at this
  · have e := zipC_take (txts ps) us k
    unfold txts at *
    rw [← List.map_take] at e
    rw [← e, List.length_take, h0, List.length_take]; omega
  · rw [List.length_take]; congr 1; omega
  · rw [List.length_take]; omega
  · obtain ⟨b, off, hA, hb, hc⟩ := h4 (by rw [List.length_take] at hp; omega)
    refine ⟨b, off, hA, hb, fun j u hu => hc j u ?_⟩
    have e := zipC_take (txts ps) us k
    unfold txts at *
    rw [← List.map_take] at e
    rw [← e, List.getElem?_take] at hu
    split at hu
    · exact hu
    · cases hu
/-- What is asked of a predicate on phrases. -/
def PredP (g : Nat) (lb : Array Value) (hi : Nat) (p : Phr → Bool) (w : World) : Prop :=
  ∀ (W : World) (x : Phr) (u : Value), Below w.heap.size w W → RdI W hi u x.2 → x.1.size ≤ 9223372036854775807 → Calls Try.prog g (#[.agg #[.string x.1, u]] ++ lb) W fun e w' => e = .returned (.bool (p x)) ∧ Below W.heap.size W w'
set_option maxHeartbeats 800000 in
theorem indexP_any (ps : List Phr) (v : Value) (hi : Nat) (w : World) (g : Nat) (lb : Array Value) (p : Phr → Bool) (h : RdPS w hi v ps) (hh : hi ≤ w.heap.size) (hp : PredP g lb hi p w)
    (eg : ∀ args w, (callFunc g args).run Try.prog w = .ok (.enter g args) w) :
    Calls Try.prog 224 #[v, .func (.func g) #[] lb] w fun e w' => e = .returned (.int .i64 (ixI (ps.findIdx? p))) ∧ Below w.heap.size w w' := by
  obtain ⟨A, c, rfl, hc, hm⟩ := h.form
  have H := Lib.hid h
  have HP := Lib.hid hp
  clear h hp
  go_enter Try.func224, Try.ntmps224
  go_wp2
  go_loopw [8] (fun i wr => ∃ k : Nat, k ≤ ps.length ∧ i = .int .i64 k ∧ Hid (∀ j, j < k → ∀ x, ps[j]? = some x → p x = false) ∧ Below w.heap.size w wr) (fun i _ => ps.length - (intOf i).toNat)
  case atStart => exact ⟨0, Nat.zero_le _, rfl, fun j hj => by omega, Below.refl _ _⟩
  case round =>
    obtain ⟨k, hk, rfl, hno, hbr⟩ := hrel
    by_cases hlt : k < ps.length
    · obtain ⟨b1, o1, c1, a, t, xs, hv, _, hx, hcell1, hcell2, hra, hts⟩ := (H.out.below hbr hh).at_ hlt
      cases hv
      obtain ⟨A2, c2, rfl, hc2, hm2⟩ := Rd.form hra
      have hcall := HP.out wr (t, xs) _ hbr hra hts
      have HX := Lib.hid hx
      have hs := hbr.size
      have HBR := Lib.hid hbr
      clear hra hx hbr
      cases hq : p (t, xs)
      · have HQ := Lib.hid hq
        rw [hq] at hcall
        clear hq
        have HC := Lib.hid hcall
        clear hcall
        go_wp2_with (go_at_fn g; refine HC.out.mono ?_; rintro e w' ⟨rfl, hb'⟩)
        go_roundw
        case rel => exact ⟨k + 1, by omega, by go_num, fun j hj x hx => by
          by_cases e : j = k
          · subst e; rw [HX.out] at hx; cases hx; exact HQ.out
          · exact hno.out j (by omega) x hx, HBR.out.trans (hb'.mono hs)⟩
        case measure => simp [intOf]; omega
      · have HQ := Lib.hid hq
        rw [hq] at hcall
        clear hq
        have HC := Lib.hid hcall
        clear hcall
        go_wp2_with (go_at_fn g; refine HC.out.mono ?_; rintro e w' ⟨rfl, hb'⟩)
        go_ret
        refine ⟨ret_int ?_, HBR.out.trans (hb'.mono hs)⟩
        rw [findIdx_take (fun j hj x hx => hno.out j hj x hx) HX.out HQ.out]
        rfl
    · obtain rfl : k = ps.length := by omega
      go_wp2_with fail
      go_ret
      refine ⟨ret_int ?_, hbr⟩
      rw [findIdx_none (fun j x hx => hno.out j (List.getElem?_eq_some_iff.1 hx).1 x hx)]
      rfl
theorem phraseIndex1_any (x : Phr) (ys : List Int) (u s : Value) (B hi hj : Nat) (w : World) (h : RdI w hi u x.2) (g : RdI w hj s ys) (hh : hi ≤ w.heap.size) (hg : hj ≤ w.heap.size) (hB : B < w.heap.size) (hc : w.cell? ⟨B, 0, Option.none⟩ = some s) :
    Calls Try.prog 251 #[.agg #[.string x.1, u], .pointer (some ⟨B, 0, Option.none⟩)] w fun e w' => e = .returned (.bool (decide (x.2 = ys))) ∧ Below w.heap.size w w' := by
  obtain ⟨A, c, rfl, hc1, hm⟩ := Rd.form h
  obtain ⟨A', c', rfl, hc2, hm'⟩ := Rd.form g
  have hba : Below w.heap.size w (w.alloc (.cells #[.string x.1, .slice A x.2.length c] 60)) := (Below.refl _ _).alloc (Nat.le_refl _) _
  have H := Lib.hid (RdI.below h hba hh)
  have G := Lib.hid (RdI.below g hba hg)
  clear h g
  go_enter Try.func251, Try.ntmps251
  go_wp2_with fail
  refine (slicesEqual_any x.2 ys _ _ hi hj _ H.out G.out).mono ?_
  rintro e w' ⟨rfl, n, rfl⟩
  go_wp2_with fail
  go_ret
  exact ⟨rfl, hba.trans (bel_drewN _ _ _)⟩
theorem phraseIndex_any (ps : List Phr) (xs : List Int) (v u : Value) (hi hj : Nat) (w : World) (h : RdB w hi v ps) (g : RdI w hj u xs) (hh : hi ≤ w.heap.size) (hg : hj ≤ w.heap.size) :
    Calls Try.prog 217 #[v, u] w fun e w' => e = .returned (.int .i64 (ixI (sigIx ps xs))) ∧ Below w.heap.size w w' := by
  obtain ⟨a, rfl, ha⟩ := h
  obtain ⟨A, c, rfl, hc, hm⟩ := ha.form
  obtain ⟨A', c', rfl, hc', hm'⟩ := Rd.form g
  have hba : Below w.heap.size w ((w.alloc (.cells #[.slice A ps.length c] 48)).alloc (.cells #[.slice A' xs.length c'] 29)) := ((Below.refl _ _).alloc (Nat.le_refl _) _).alloc (by simp) _
  have H := Lib.hid (ha.below hba hh)
  have G := Lib.hid (RdI.below g hba hg)
  clear ha g
  have HB := Lib.hid hba
  clear hba
  have hcap : ((w.alloc (.cells #[.slice A ps.length c] 48)).alloc (.cells #[.slice A' xs.length c'] 29)).cell? ⟨w.heap.size + 1, 0, Option.none⟩ = some (.slice A' xs.length c') := by
    have := (Blk.new (w.alloc (.cells #[.slice A ps.length c] 48)) 29 #[.slice A' xs.length c']).cell 0
    simp at this ⊢
  have hpred : PredP 251 #[.pointer (some ⟨w.heap.size + 1, 0, Option.none⟩)] hi (fun p => decide (p.2 = xs)) ((w.alloc (.cells #[.slice A ps.length c] 48)).alloc (.cells #[.slice A' xs.length c'] 29)) := by
    intro W x u hb hu _
    have hs := hb.size
    have h2 : ((w.alloc (.cells #[.slice A ps.length c] 48)).alloc (.cells #[.slice A' xs.length c'] 29)).heap.size = w.heap.size + 1 + 1 := by simp
    refine phraseIndex1_any x xs u (.slice A' xs.length c') (w.heap.size + 1) hi hj W hu (RdI.below G.out hb (by omega)) (by omega) (by omega) (by omega) ?_
    exact (hb.cell (p := ⟨w.heap.size + 1, 0, Option.none⟩) (by show w.heap.size + 1 < _; omega)).trans hcap
  have HPR := Lib.hid hpred
  have HC := Lib.hid (indexP_any ps _ hi _ _ _ _ H.out (by simp; omega) HPR.out (enters_of Try.func251 (by kernel_rfl) rfl))
  clear hpred hcap
  go_enter Try.func217, Try.ntmps217
  go_wp2_with fail
  refine HC.out.mono ?_
  rintro e w' ⟨rfl, hb'⟩
  go_wp2_with fail
  go_ret
  exact ⟨rfl, HB.out.trans (hb'.mono (by simp; omega))⟩
set_option maxHeartbeats 400000 in
theorem isPhrase_any (p : Phr) (v : Value) (hi : Nat) (w : World) (h : RdP w hi v p) (hh : hi ≤ w.heap.size) : Calls Try.prog 169 #[v] w fun e w' => e = .returned (.bool (phrOk p)) ∧ Below w.heap.size w w' := by
  obtain ⟨u, rfl, hu, ht⟩ := h
  obtain ⟨A, c, rfl, hc, hm⟩ := Rd.form hu
  have hba : Below w.heap.size w (w.alloc (.cells #[.string p.1, .slice A p.2.length c] 60)) := (Below.refl _ _).alloc (Nat.le_refl _) _
  have H := Lib.hid (RdI.below hu hba hh)
  clear hu
  have cT := IsPhraseText_any p.1 (by unfold maxLen; omega)
  have cA := allWithin_any p.2 1 60 (.slice A p.2.length c) hi _ H.out
  unfold phrOk sigOk
  cases h1 : phraseB p.1.data.toList
  · rw [h1] at cT
    have CT := Lib.hid cT
    clear cT cA
    go_enter Try.func169, Try.ntmps169
    go_wp2_with (go_at_call 223; refine (CT.out _).mono ?_; rintro e w' ⟨rfl, rfl⟩)
    go_ret
    exact ⟨rfl, hba⟩
  · rw [h1] at cT
    cases h2 : inB p.2.length 1 3
    · have CT := Lib.hid cT
      clear cT cA
      go_enter Try.func169, Try.ntmps169
      go_wp2_with (first | (go_at_call 223; refine (CT.out _).mono ?_; rintro e w' ⟨rfl, rfl⟩) | (go_at_call 125; refine (within_any _ _ _ _).mono ?_; rintro e w' ⟨rfl, rfl⟩))
      go_ret
      exact ⟨rfl, hba⟩
    · have CT := Lib.hid cT
      have CA := Lib.hid cA
      clear cT cA
      go_enter Try.func169, Try.ntmps169
      go_wp2_with (first | (go_at_call 223; refine (CT.out _).mono ?_; rintro e w' ⟨rfl, rfl⟩) | (go_at_call 125; refine (within_any _ _ _ _).mono ?_; rintro e w' ⟨rfl, rfl⟩) | (go_at_call 181; refine (CA.out).mono ?_; rintro e w' ⟨rfl, rfl⟩))
      go_ret
      exact ⟨rfl, hba⟩
theorem sigIx_take {ps : List Phr} {k : Nat} {p : Phr} (hp : ps[k]? = some p) : sigIx ps p.2 = some k ↔ sigIx (ps.take k) p.2 = Option.none := by
  unfold sigIx
  have hk := (List.getElem?_eq_some_iff.1 hp).1
  constructor
  · intro h
    rw [List.findIdx?_eq_none_iff]
    intro x hx
    rw [List.findIdx?_eq_some_iff_getElem] at h
    obtain ⟨_, _, h3⟩ := h
    obtain ⟨j, hj⟩ := List.getElem?_of_mem hx
    rw [List.getElem?_take] at hj
    split at hj
    · rename_i hlt
      have := h3 j hlt
      have e := (List.getElem?_eq_some_iff.1 hj).2
      rw [← e]; simpa using this
    · cases hj
  · intro h
    rw [List.findIdx?_eq_none_iff] at h
    refine findIdx_take (fun j hj x hx => h x ?_) hp (by simp)
    exact List.mem_of_getElem? (by rw [List.getElem?_take, if_pos hj]; exact hx)
theorem ixI_nonneg {o : Option Nat} : (0 ≤ ixI o) ↔ o ≠ Option.none := by cases o <;> simp [ixI]
end Go.Proofs.Ytabiobjcfopakaa
/- Contracts of the tests whether a book is valid, of the program. -/
namespace Go.Proofs.Ytabiobjcfopakaa
open Go.RowKit
set_option maxRecDepth 100000 in
set_option maxHeartbeats 4000000 in
theorem IsBook_any (ps : List Phr) (v : Value) (hi : Nat) (w : World) (h : RdB w hi v ps) (hh : hi ≤ w.heap.size) :
    Calls Try.prog 137 #[v] w fun e w' => e = .returned (.bool (bookB ps)) ∧ Below w.heap.size w w' := by
  obtain ⟨a, rfl, ha⟩ := h
  obtain ⟨A, c, rfl, hc, hm⟩ := ha.form
  have hba : Below w.heap.size w (w.alloc (.cells #[.slice A ps.length c] 48)) := (Below.refl _ _).alloc (Nat.le_refl _) _
  have HBA := Lib.hid hba
  have H := Lib.hid (ha.below hba hh)
  have hbox : (w.alloc (.cells #[.slice A ps.length c] 48)).cell? ⟨w.heap.size, 0, Option.none⟩ = some (.slice A ps.length c) := (Blk.new w 48 #[.slice A ps.length c]).cell 0
  have HBOX := Lib.hid hbox
  clear ha hba hbox
  cases hl40 : inB ps.length 1 40
  · go_enter Try.func137, Try.ntmps137
    go_wp2_with (go_at_call 125; refine (within_any _ _ _ _).mono ?_; rintro e w' ⟨rfl, rfl⟩)
    go_ret
    exact ⟨ret_bool (by unfold bookB; rw [hl40]; rfl), HBA.out⟩
  go_enter Try.func137, Try.ntmps137
  go_wp2_with (go_at_call 125; refine (within_any _ _ _ _).mono ?_; rintro e w' ⟨rfl, rfl⟩)
  go_loopw [13] (fun i wr => ∃ k : Nat, k ≤ ps.length ∧ i = .int .i64 k ∧ Hid (∀ j, j < k → goodAt ps j = true) ∧ Below (w.heap.size + 1) (w.alloc (.cells #[.slice A ps.length c] 48)) wr) (fun i _ => ps.length - (intOf i).toNat)
  case atStart => exact ⟨0, Nat.zero_le _, rfl, fun j hj => by omega, Below.refl _ _⟩
  case round =>
    obtain ⟨k, hk, rfl, hup, hbr⟩ := hrel
    have hs : w.heap.size + 1 ≤ wr.heap.size := by have := hbr.size; simpa using this
    have hboxr : wr.cell? ⟨w.heap.size, 0, Option.none⟩ = some (.slice A ps.length c) := (hbr.cell (p := ⟨w.heap.size, 0, Option.none⟩) (by show w.heap.size < _; omega)).trans HBOX.out
    by_cases hlt : k < ps.length
    · obtain ⟨b1, o1, c1, a, t, xs, hv, hb1, hx, hcell1, hcell2, hra, hta⟩ := (H.out.below hbr (by omega)).at_ hlt
      cases hv
      obtain ⟨A2, c2, rfl, hc2, hm2⟩ := Rd.form hra
      have HX := Lib.hid hx
      have HBR := Lib.hid (HBA.out.trans (hbr.mono (by omega)))
      have hbw1 : Below (w.heap.size + 1) (w.alloc (.cells #[.slice (some ⟨b1, o1, Option.none⟩) ps.length c] 48)) (wr.alloc (.cells #[.string t, .slice A2 xs.length c2] 60)) := hbr.alloc hs _
      have HBR2 := Lib.hid hbw1
      have hra2 := hra.below ((Below.refl wr.heap.size wr).alloc (Nat.le_refl _) (.cells #[.string t, .slice A2 xs.length c2] 60)) (by omega)
      have HRA := Lib.hid hra2
      have HPS : Hid (RdB (wr.alloc (.cells #[.string t, .slice A2 xs.length c2] 60)) hi (.agg #[.slice (some ⟨b1, o1, Option.none⟩) ps.length c]) ps) := ⟨_, rfl, H.out.below hbw1 (by omega)⟩
      have HPQ : Hid (RdPS (wr.alloc (.cells #[.string t, .slice A2 xs.length c2] 60)) hi (.slice (some ⟨b1, o1, Option.none⟩) ps.length c) ps) := H.out.below hbw1 (by omega)
      have hlat := fun {b o : Nat} {u : Value} (hq : (wr.alloc (.cells #[.string t, .slice A2 xs.length c2] 60)).cell? ⟨b, o, Option.none⟩ = some u) (hb : b < wr.heap.size + 1) => later_cell (B := wr.heap.size + 1) hq hb
      have l0 := hlat ((Blk.new wr 60 #[.string t, .slice A2 xs.length c2]).cell 0) (by omega)
      have l1 := hlat ((Blk.new wr 60 #[.string t, .slice A2 xs.length c2]).cell 1) (by omega)
      have lb := hlat ((hbw1.cell (p := ⟨w.heap.size, 0, Option.none⟩) (by show w.heap.size < _; omega)).trans HBOX.out) (by omega)
      clear hlat hra hra2 hx hbw1 hbr hboxr
      have hxs : wr.heap.size + 1 ≤ (wr.alloc (.cells #[.string t, .slice A2 xs.length c2] 60)).heap.size := by simp
      have HXS := Lib.hid hxs
      clear hxs
      have hcut : RdB (wr.alloc (.cells #[.string t, .slice A2 xs.length c2] 60)) hi (.agg #[.slice (some ⟨b1, o1, Option.none⟩) k c]) (ps.take k) := ⟨_, rfl, HPQ.out.cut hk⟩
      have HCUT := Lib.hid hcut
      clear hcut
      have cT := fun x : LaterW (wr.heap.size + 1) (wr.alloc (.cells #[.string t, .slice A2 xs.length c2] 60)) => isPhrase_any (t, xs) (.agg #[.string t, .slice A2 xs.length c2]) hi x.val ⟨_, rfl, HRA.out.below x.bel (by omega), hta⟩ (by have := x.bel.size; have := HXS.out; omega)
      have cO := fun x : LaterW (wr.heap.size + 1) (wr.alloc (.cells #[.string t, .slice A2 xs.length c2] 60)) => phraseIndex_any (ps.take k) xs (.agg #[.slice (some ⟨b1, o1, Option.none⟩) k c]) (.slice A2 xs.length c2) hi hi x.val (HCUT.out.below x.bel (by omega)) (HRA.out.below x.bel (by omega)) (by have := x.bel.size; have := HXS.out; omega) (by have := x.bel.size; have := HXS.out; omega)
      have hkc : (k : Int) ≤ (c : Int) := by omega
      have hk0' : (0 : Int) ≤ (k : Int) := by omega
      cases hp1 : phrOk (t, xs)
      · rw [hp1] at cT
        have CT := Lib.hid cT
        have CO := Lib.hid cO
        clear cT cO
        go_wp2_with fail
        refine wp_region_later (wr.heap.size + 1) (by kernel_rfl) (by kernel_rfl) ?_; (repeat (go_big_quiet_step ((first | (go_at_call 169; exact later_of HXS.out (CT.out _)) | (go_at_call 217; exact later_of HXS.out (CO.out _)))))); refine later_nil ?_; intro w2 hb2
        go_wp2_with fail
        go_ret
        exact ⟨ret_bool (bookB_no hlt (goodAt_phr HX.out hp1)).symm, (HBA.out.trans (HBR2.out.mono (by omega))).trans (hb2.mono (by omega))⟩
      · have HP := Lib.hid hp1
        rw [hp1] at cT
        have CT := Lib.hid cT
        have CO := Lib.hid cO
        clear cT cO
        rcases Nat.eq_zero_or_pos k with h0 | hpos
        · have hk0 : decide (0 < k) = false := by rw [decide_eq_false_iff_not]; omega
          have H0 := Lib.hid h0
          clear h0
          by_cases hix : sigIx (ps.take k) xs = Option.none
          · have hne : decide (0 ≤ ixI (sigIx (ps.take k) xs)) = false := by rw [decide_eq_false_iff_not, ixI_nonneg]; exact fun h => h hix
            have HIX := Lib.hid hix
            clear hix
            go_wp2_with fail
            refine wp_region_later (wr.heap.size + 1) (by kernel_rfl) (by kernel_rfl) ?_; (repeat (go_big_quiet_step ((first | (go_at_call 169; exact later_of HXS.out (CT.out _)) | (go_at_call 217; exact later_of HXS.out (CO.out _)))))); refine later_nil ?_; intro w2 hb2
            go_wp2_with fail
            go_roundw
            case rel => exact ⟨k + 1, by omega, by go_num, fun j hj => by
              obtain rfl : k = 0 := H0.out
              obtain rfl : j = 0 := by omega
              exact goodAt_0 HX.out HP.out ((sigIx_take HX.out).2 HIX.out), HBR2.out.trans (hb2.mono (by omega))⟩
            case measure => simp [intOf]; omega
          · have hne : decide (0 ≤ ixI (sigIx (ps.take k) xs)) = true := by rw [decide_eq_true_eq, ixI_nonneg]; exact hix
            have HIX := Lib.hid hix
            clear hix
            go_wp2_with fail
            refine wp_region_later (wr.heap.size + 1) (by kernel_rfl) (by kernel_rfl) ?_; (repeat (go_big_quiet_step ((first | (go_at_call 169; exact later_of HXS.out (CT.out _)) | (go_at_call 217; exact later_of HXS.out (CO.out _)))))); refine later_nil ?_; intro w2 hb2
            go_wp2_with fail
            go_ret
            exact ⟨ret_bool (bookB_no hlt (goodAt_ix HX.out (fun h => HIX.out ((sigIx_take HX.out).1 h)))).symm, (HBA.out.trans (HBR2.out.mono (by omega))).trans (hb2.mono (by omega))⟩
        · have hk0 : decide (0 < k) = true := by rw [decide_eq_true_eq]; omega
          obtain ⟨b3, o3, c3, a3, q, ys, hv, hb3, hq, hcq, _, _, hqs⟩ := (HPQ.out).at_ (show k - 1 < ps.length by omega)
          cases hv
          have lq := later_cell (B := wr.heap.size + 1) hcq (by omega)
          have hi1 : (0 : Int) ≤ (k : Int) - 1 := by omega
          have hi2 : (k : Int) - 1 < (ps.length : Int) := by omega
          have hi3 : ((k : Int) - 1).toNat = k - 1 := by omega
          have HQ : Hid (ps[k - 1]? = some (q, ys)) := hq
          clear hq hcq
          have HK : Hid (∃ m, k = m + 1) := ⟨k - 1, by omega⟩
          cases hlt2 : ltT q t
          · have hl1 : Op.bytesLess q.toList t.toList = false := hlt2
            go_wp2_with fail
            refine wp_region_later (wr.heap.size + 1) (by kernel_rfl) (by kernel_rfl) ?_; (repeat (go_big_quiet_step ((first | (go_at_call 169; exact later_of HXS.out (CT.out _)) | (go_at_call 217; exact later_of HXS.out (CO.out _)))))); refine later_nil ?_; intro w2 hb2
            go_wp2_with fail
            go_ret
            refine ⟨ret_bool ?_, (HBA.out.trans (HBR2.out.mono (by omega))).trans (hb2.mono (by omega))⟩
            obtain ⟨m, rfl⟩ := HK.out
            exact (bookB_no hlt (goodAt_lt HX.out HQ.out hlt2)).symm
          · have hl1 : Op.bytesLess q.toList t.toList = true := hlt2
            by_cases hix : sigIx (ps.take k) xs = Option.none
            · have hne : decide (0 ≤ ixI (sigIx (ps.take k) xs)) = false := by rw [decide_eq_false_iff_not, ixI_nonneg]; exact fun h => h hix
              have HIX := Lib.hid hix
              clear hix
              go_wp2_with fail
              refine wp_region_later (wr.heap.size + 1) (by kernel_rfl) (by kernel_rfl) ?_; (repeat (go_big_quiet_step ((first | (go_at_call 169; exact later_of HXS.out (CT.out _)) | (go_at_call 217; exact later_of HXS.out (CO.out _)))))); refine later_nil ?_; intro w2 hb2
              go_wp2_with fail
              go_roundw
              case rel => exact ⟨k + 1, by omega, by go_num, fun j hj => by
                by_cases e : j = k
                · subst e
                  have h5 := (sigIx_take HX.out).2 HIX.out
                  obtain ⟨m, rfl⟩ := HK.out
                  exact goodAt_s HX.out HQ.out HP.out hlt2 h5
                · exact hup.out j (by omega), HBR2.out.trans (hb2.mono (by omega))⟩
              case measure => simp [intOf]; omega
            · have hne : decide (0 ≤ ixI (sigIx (ps.take k) xs)) = true := by rw [decide_eq_true_eq, ixI_nonneg]; exact hix
              have HIX := Lib.hid hix
              clear hix
              go_wp2_with fail
              refine wp_region_later (wr.heap.size + 1) (by kernel_rfl) (by kernel_rfl) ?_; (repeat (go_big_quiet_step ((first | (go_at_call 169; exact later_of HXS.out (CT.out _)) | (go_at_call 217; exact later_of HXS.out (CO.out _)))))); refine later_nil ?_; intro w2 hb2
              go_wp2_with fail
              go_ret
              exact ⟨ret_bool (bookB_no hlt (goodAt_ix HX.out (fun h => HIX.out ((sigIx_take HX.out).1 h)))).symm, (HBA.out.trans (HBR2.out.mono (by omega))).trans (hb2.mono (by omega))⟩
    · obtain rfl : k = ps.length := by omega
      go_wp2_with fail
      go_ret
      refine ⟨ret_bool ?_, HBA.out.trans (hbr.mono (by omega))⟩
      unfold bookB
      rw [goodB_yes hup.out, hl40, Bool.and_true]
end Go.Proofs.Ytabiobjcfopakaa
/- Contracts of the searches in a book by a text, by signals, and for texts of one letter; of the program and of the reference. -/
namespace Go.Proofs.Ytabiobjcfopakaa
open Go.RowKit
theorem bookB_phr {ps : List Phr} {p : Phr} (h : bookB ps = true) (hp : p ∈ ps) : phrOk p = true := by
  obtain ⟨j, hj⟩ := List.getElem?_of_mem hp
  have hl := (List.getElem?_eq_some_iff.1 hj).1
  unfold bookB goodB at h
  rw [Bool.and_eq_true, List.all_eq_true] at h
  have := h.2 j (List.mem_range.2 hl)
  unfold goodAt at this
  rw [hj] at this
  simp only [Bool.and_eq_true] at this
  exact this.1
theorem bookB_len {ps : List Phr} (h : bookB ps = true) : 1 ≤ ps.length ∧ ps.length ≤ 40 := by
  unfold bookB at h
  rw [Bool.and_eq_true, inB_iff] at h
  omega
end Go.Proofs.Ytabiobjcfopakaa
/- Plain laws on good books: no two phrases have one text, nor the same signals; phrases that fit at one place have lengths of their own. Slices cut off at their head. -/
namespace Go.Proofs.Ytabiobjcfopakaa
open Go.RowKit
theorem bookB_at {ps : List Phr} (h : bookB ps = true) {j : Nat} (hj : j < ps.length) : goodAt ps j = true := by
  unfold bookB goodB at h
  rw [Bool.and_eq_true, List.all_eq_true] at h
  exact h.2 j (List.mem_range.2 hj)
theorem book_sig {ps : List Phr} (h : bookB ps = true) {j : Nat} {p : Phr} (hp : ps[j]? = some p) : sigIx ps p.2 = some j := by
  have hj := (List.getElem?_eq_some_iff.1 hp).1
  have := bookB_at h hj
  unfold goodAt at this
  rw [hp] at this
  simp only [Bool.and_eq_true, beq_iff_eq] at this
  exact this.2.2
theorem book_sigs {ps : List Phr} (h : bookB ps = true) {i j : Nat} {p q : Phr} (hp : ps[i]? = some p) (hq : ps[j]? = some q) (hij : i < j) : p.2 ≠ q.2 := by
  intro e
  have h1 := book_sig h hp
  have h2 := book_sig h hq
  rw [e, h2] at h1
  injection h1 with h1
  omega
theorem phrOk_txt {p : Phr} (h : phrOk p = true) : 1 ≤ p.1.size ∧ p.1.size ≤ 12 ∧ smallB p.1.data.toList = true := by
  unfold phrOk phraseB at h
  simp only [Bool.and_eq_true, decide_eq_true_eq] at h
  obtain ⟨⟨⟨h1, h2⟩, h3⟩, _⟩ := h
  exact ⟨by simpa using h1, by simpa using h2, h3⟩
theorem phrOk_sig {p : Phr} (h : phrOk p = true) : 1 ≤ p.2.length ∧ p.2.length ≤ 3 ∧ allB p.2 1 60 = true := by
  unfold phrOk sigOk at h
  simp only [Bool.and_eq_true, inB_iff] at h
  obtain ⟨_, h1, h2⟩ := h
  exact ⟨by omega, by omega, h2⟩
/-- Does a phrase's signals lie at a place? -/
def fitS (sig : List Int) (m : Nat) (p : Phr) : Bool := begB p.2 (sig.drop m)
/-- Does a phrase's text lie at a place? -/
def fitT (s : ByteArray) (m : Nat) (p : Phr) : Bool := Lib.hasPrefix (s.extract m s.size).data.toList p.1.data.toList
theorem apart_sig {ps : List Phr} (h : bookB ps = true) (sig : List Int) (m : Nat) : Apart (fitS sig m) (fun p => p.2.length) (sig.length - m) ps := by
  refine ⟨?_, fun p hp hf => ?_⟩
  · rw [List.pairwise_iff_getElem]
    intro i j hi hj hij f1 f2 e
    unfold fitS at f1 f2
    rw [begB_iff, List.prefix_iff_eq_take] at f1 f2
    refine book_sigs h (List.getElem?_eq_getElem hi) (List.getElem?_eq_getElem hj) hij ?_
    have e' : ps[i].2.length = ps[j].2.length := e
    rw [f1, f2, e']
  · have h1 := phrOk_sig (bookB_phr h hp)
    unfold fitS at hf
    rw [begB_iff] at hf
    have := hf.length_le
    rw [List.length_drop] at this
    exact ⟨h1.1, this⟩
/-- The table's cells: m places still empty, then the table. -/
def tblZ (m : Nat) (tb : List Nat) : List Value := List.replicate m (Value.int .i64 0) ++ nats tb
theorem tblZ_down {m : Nat} {tb : List Nat} : tblZ (m + 1) tb = tblC m 0 tb := by
  unfold tblZ tblC
  rw [List.replicate_succ']; simp
theorem tblC_Z {m a : Nat} {tb : List Nat} : tblC m a tb = tblZ m (a :: tb) := rfl
theorem tblZ_start (n : Nat) : ((zeros (n + 1)).setIfInBounds n (.int .i64 1)).toList = tblZ n [1] := by
  unfold tblZ zeros
  rw [Array.toList_setIfInBounds, List.replicate_succ']
  rw [List.set_append_right _ _ (by simp)]
  simp
theorem RdI.drop {w : World} {hi c : Nat} {b off : Nat} {xs : List Int} (h : RdI w hi (.slice (some ⟨b, off, Option.none⟩) xs.length c) xs) {k : Nat} (hk : k < xs.length) :
    RdI w hi (.slice (some ⟨b, off + k, Option.none⟩) (xs.length - k) (c - k)) (xs.drop k) := by
  obtain ⟨h0, A', c', hv, h1, h2, h3⟩ := h
  cases hv
  obtain ⟨b', off', hA, hb, hc⟩ := h3 (by omega)
  cases hA
  refine ⟨by simp, some ⟨b, off + k, Option.none⟩, c - k, by rw [List.length_drop], by rw [List.length_drop]; omega, by omega, fun _ => ⟨b, off + k, rfl, hb, fun j u hu => ?_⟩⟩
  have := hc (k + j) u (by
    rw [ints, List.getElem?_map, List.getElem?_drop] at hu
    rw [ints, List.getElem?_map]; exact hu)
  rwa [← Nat.add_assoc] at this
theorem wrap_in {x : Int} (h : -9223372036854775808 ≤ x ∧ x ≤ 9223372036854775807) : IntKind.i64.wrap x = x := IntWalk.i64_in _ h
end Go.Proofs.Ytabiobjcfopakaa
/- Contracts of the tables of readings, of the program and of the reference. -/
namespace Go.Proofs.Ytabiobjcfopakaa
open Go.RowKit
abbrev sigLen (p : Phr) : Nat := p.2.length
def waysI (l : List Nat) : List Int := l.map fun m : Nat => (m : Int)
theorem nats_ints (l : List Nat) : nats l = ints (waysI l) := by simp [waysI]
theorem dpW_sig {ps : List Phr} (h : bookB ps = true) (sig : List Int) : ∀ k, k ≤ sig.length → ∀ i m, (dpW (fitS sig) sigLen ps sig.length k)[i]? = some m → m ≤ 2 ^ (k - i) :=
  dpW_le fun k hk => by
    have := apart_sig h sig (sig.length - (k + 1))
    rwa [show sig.length - (sig.length - (k + 1)) = k + 1 by omega] at this
set_option maxRecDepth 100000 in
set_option maxHeartbeats 4000000 in
theorem spWays_any (ps : List Phr) (sig : List Int) (v u : Value) (hi hj : Nat) (w : World) (h : RdB w hi v ps) (g : RdI w hj u sig) (hh : hi ≤ w.heap.size) (hg : hj ≤ w.heap.size) (hbk : bookB ps = true) (hlen : sig.length ≤ 60) :
    Calls Try.prog 178 #[v, u] w (RetOwI (waysI (dpW (fitS sig) sigLen ps sig.length sig.length)) w) := by
  obtain ⟨A', c', rfl, hc', hm'⟩ := Rd.form g
  have G := Lib.hid g
  clear g
  obtain ⟨a, rfl, ha⟩ := h
  obtain ⟨A, c, rfl, hc, hm⟩ := ha.form
  have HA0 := Lib.hid ha
  have hba : Below w.heap.size w (w.alloc (.cells #[.slice A ps.length c] 48)) := (Below.refl _ _).alloc (Nat.le_refl _) _
  have HB := Lib.hid hba
  have HA := Lib.hid (ha.below hba hh)
  have HG : Hid (RdB (w.alloc (.cells #[.slice A ps.length c] 48)) hi (.agg #[.slice A ps.length c]) ps) := ⟨_, rfl, HA.out⟩
  have hcb0 : (w.alloc (.cells #[.slice A ps.length c] 48)).cell? ⟨w.heap.size, 0, Option.none⟩ = some (.slice A ps.length c) := (Blk.new w 48 #[.slice A ps.length c]).cell 0
  have HCB := Lib.hid hcb0
  have hsz1 : hi ≤ (w.alloc (.cells #[.slice A ps.length c] 48)).heap.size := by simp; omega
  clear ha hba hcb0
  have HBK := Lib.hid hbk
  clear hbk
  have hmk := make_ints (sig.length + 1) (by omega)
  rw [show ((sig.length + 1 : Nat) : Int) = (sig.length : Int) + 1 from rfl] at hmk
  have HBW : Hid (Below w.heap.size w ((w.alloc (.cells #[.slice A ps.length c] 48)).alloc (.cells ((zeros (sig.length + 1)).setIfInBounds sig.length (.int .i64 1)) 3))) := ((Below.refl _ _).alloc (Nat.le_refl _) _).alloc (by simp) _
  have HTB0 : Hid (Blk ((w.alloc (.cells #[.slice A ps.length c] 48)).alloc (.cells ((zeros (sig.length + 1)).setIfInBounds sig.length (.int .i64 1)) 3)) (w.heap.size + 1) 3 (tblZ sig.length (dpW (fitS sig) sigLen ps sig.length 0))) := by
    have := Blk.new (w.alloc (.cells #[.slice A ps.length c] 48)) 3 ((zeros (sig.length + 1)).setIfInBounds sig.length (.int .i64 1))
    rw [tblZ_start] at this
    simp at this
    exact this
  have HCBX : Hid (((w.alloc (.cells #[.slice A ps.length c] 48)).alloc (.cells ((zeros (sig.length + 1)).setIfInBounds sig.length (.int .i64 1)) 3)).cell? ⟨w.heap.size, 0, Option.none⟩ = some (.slice A ps.length c)) :=
    (((Below.refl (w.alloc (.cells #[.slice A ps.length c] 48)).heap.size (w.alloc (.cells #[.slice A ps.length c] 48))).alloc (Nat.le_refl _) (.cells ((zeros (sig.length + 1)).setIfInBounds sig.length (.int .i64 1)) 3)).cell (p := ⟨w.heap.size, 0, Option.none⟩) (by simp)).trans HCB.out
  have hz0 : ((w.alloc (.cells #[.slice A ps.length c] 48)).alloc (.cells (zeros (sig.length + 1)) 3)).cell? ⟨w.heap.size + 1, sig.length, Option.none⟩ = some (.int .i64 0) := by
    have := (Blk.new (w.alloc (.cells #[.slice A ps.length c] 48)) 3 (zeros (sig.length + 1))).cell sig.length
    rw [show (zeros (sig.length + 1)).toList[sig.length]? = some (.int .i64 0) by simp [zeros]] at this
    simpa using this
  go_enter Try.func178, Try.ntmps178
  go_wp2_with fail
  go_loopw [6] (fun i wr => ∃ (m k : Nat) (z : Int), Hid (m + k = sig.length) ∧ Hid (z = (m : Int) - 1) ∧ i = .int .i64 z ∧ Hid (Blk wr (w.heap.size + 1) 3 (tblZ m (dpW (fitS sig) sigLen ps sig.length k))) ∧ Hid (Below (w.heap.size + 1) ((w.alloc (.cells #[.slice A ps.length c] 48)).alloc (.cells ((zeros (sig.length + 1)).setIfInBounds sig.length (.int .i64 1)) 3)) wr)) (fun i _ => (intOf i + 1).toNat)
  case atStart => exact ⟨sig.length, 0, (sig.length : Int) - 1, rfl, rfl, rfl, HTB0.out, Below.refl _ _⟩
  case round =>
    obtain ⟨m, k, z, hmk1, hz, rfl, hblk, hbr⟩ := hrel
    have hs : (w.heap.size + 1) + 1 ≤ wr.heap.size := by have := hblk.out.lt; omega
    rcases m with _ | m
    · obtain rfl : z = -1 := by have := hz.out; omega
      have HK : Hid (k = sig.length) := by have := hmk1.out; show k = _; omega
      go_wp2_with fail
      go_ret
      have h1 := hblk.out
      rw [HK.out] at h1
      refine ⟨_, rfl, ?_, HBW.out.trans (hbr.out.mono (by omega))⟩
      have e : (waysI (dpW (fitS sig) sigLen ps sig.length sig.length)).length = sig.length + 1 := by simp [waysI, dpW_len]
      have h2 : Blk wr (w.heap.size + 1) 3 (ints (waysI (dpW (fitS sig) sigLen ps sig.length sig.length))) := by rw [← nats_ints]; simpa [tblZ] using h1
      have := own_of_blk (lo := w.heap.size) (hi := wr.heap.size) h2 (by omega) (by omega) (by rw [e]; unfold maxLen; omega)
      rw [e] at this
      exact this
    · obtain rfl : z = (m : Int) := by have := hz.out; omega
      have hm1 : m < sig.length := by have := hmk1.out; omega
      have hboxr := (hbr.out.cell (p := ⟨w.heap.size, 0, Option.none⟩) (by show w.heap.size < (w.heap.size + 1); omega)).trans HCBX.out
      obtain ⟨b3, o3, c3, y3, hv3, _, _, _⟩ := Rd.at_ G.out hm1
      injection hv3 with hv4 hv5 hv6
      subst hv4
      clear hv5 hv6
      rename World => wo
      go_wp2_with fail
      go_loopw [27] (fun i wr => ∃ j : Nat, j ≤ ps.length ∧ i = .int .i64 j ∧ Hid (Blk wr (w.heap.size + 1) 3 (tblC m (wayAt (fitS sig m) sigLen (ps.take j) (dpW (fitS sig) sigLen ps sig.length k)) (dpW (fitS sig) sigLen ps sig.length k))) ∧ Hid (Below (w.heap.size + 1) ((w.alloc (.cells #[.slice A ps.length c] 48)).alloc (.cells ((zeros (sig.length + 1)).setIfInBounds sig.length (.int .i64 1)) 3)) wr)) (fun i _ => ps.length - (intOf i).toNat)
      case atStart => exact ⟨0, Nat.zero_le _, rfl, by have := hblk.out; rw [tblZ_down] at this; exact this, hbr⟩
      case round =>
        obtain ⟨j, hjl, rfl, hblk2, hbr2⟩ := hrel
        have hs2 : (w.heap.size + 1) + 1 ≤ wr.heap.size := by have := hblk2.out.lt; omega
        have HBR := Lib.hid (HBW.out.trans (hbr2.out.mono (by omega)))
        by_cases hlt : j < ps.length
        · obtain ⟨b1, o1, c1, a, t, xs, hv, hb1, hx, hcell1, hcell2, hra, hta⟩ := (HA0.out.below HBR.out (by omega)).at_ hlt
          cases hv
          obtain ⟨A2, c2, rfl, hc2, hm2⟩ := Rd.form hra
          have HX := Lib.hid hx
          have HRA := Lib.hid hra
          clear hra
          have hfit : fitS sig m (t, xs) = begB xs (sig.drop m) := rfl
          have HF := Lib.hid hfit
          have HAP := Lib.hid (((apart_sig HBK.out sig m).2 (t, xs) (List.mem_of_getElem? HX.out)))
          have HBP := Lib.hid (hbr2.out.alloc (show (w.heap.size + 1) ≤ wr.heap.size by omega) (.cells #[.string t, .slice A2 xs.length c2] 60))
          have HBLP : Hid (Blk (wr.alloc (.cells #[.string t, .slice A2 xs.length c2] 60)) (w.heap.size + 1) 3 (tblC m (wayAt (fitS sig m) sigLen (ps.take j) (dpW (fitS sig) sigLen ps sig.length k)) (dpW (fitS sig) sigLen ps sig.length k))) := hblk2.out.alloc _
          clear hx hfit
          have HGD : Hid (RdI (wr.alloc (.cells #[.string t, .slice A2 xs.length c2] 60)) hj (.slice (some ⟨b3, o3 + m, Option.none⟩) (sig.length - m) (c' - m)) (sig.drop m)) := (RdI.below G.out (HBR.out.trans ((Below.refl wr.heap.size wr).alloc (Nat.le_refl _) _ |>.mono (by omega))) (by omega)).drop (by omega)
          have HRX : Hid (RdI (wr.alloc (.cells #[.string t, .slice A2 xs.length c2] 60)) hi (.slice A2 xs.length c2) xs) := HRA.out.below ((Below.refl wr.heap.size wr).alloc (Nat.le_refl _) _) (by omega)
          have cB := fun n => bkBegins_any xs (sig.drop m) (.slice A2 xs.length c2) (.slice (some ⟨b3, o3 + m, Option.none⟩) (sig.length - m) (c' - m)) hi hj ((wr.alloc (.cells #[.string t, .slice A2 xs.length c2] 60)).drewN n) (show RdI ((wr.alloc (.cells #[.string t, .slice A2 xs.length c2] 60)).drewN n) hi _ _ from HRX.out) (show RdI ((wr.alloc (.cells #[.string t, .slice A2 xs.length c2] 60)).drewN n) hj _ _ from HGD.out)
          cases hbg : begB xs (sig.drop m)
          · rw [hbg] at cB
            have CB := Lib.hid cB
            have HBG := Lib.hid hbg
            clear cB hbg
            go_wp2_with fail
            go_quiet ((go_at_call 209; exact Calls.quiet_of (CB.out _)))
            go_wp2_with fail
            go_roundw
            case rel => exact ⟨j + 1, by omega, by go_num, by rw [wayAt_snoc HX.out, HF.out, HBG.out]; exact HBLP.out, HBP.out.trans (bel_drewN _ _ _)⟩
            case measure => simp [intOf]; omega
          · rw [hbg] at cB
            have CB := Lib.hid cB
            have HBG := Lib.hid hbg
            have hl := HAP.out (by rw [HF.out, HBG.out])
            have hl1 : 1 ≤ xs.length := hl.1
            have hl2 : xs.length ≤ sig.length - m := hl.2
            have hmk2 := hmk1.out
            obtain ⟨va, hva⟩ : ∃ va, va = wayAt (fitS sig m) sigLen (ps.take j) (dpW (fitS sig) sigLen ps sig.length k) := ⟨_, rfl⟩
            obtain ⟨vb, hvb⟩ : ∃ vb, (dpW (fitS sig) sigLen ps sig.length k)[xs.length - 1]? = some vb := ⟨_, List.getElem?_eq_getElem (by rw [dpW_len]; omega)⟩
            have hsum : va + vb ≤ 2 ^ 61 := by
              have h1 : va < 2 ^ (sig.length - m) := by rw [hva]; exact wayAt_lt ((apart_sig HBK.out sig m).take j) (fun i q hq => by have := (dpW_sig HBK.out sig) k (by omega) i q hq; rwa [show sig.length - m - (i + 1) = k - i by omega])
              have h2 := (dpW_sig HBK.out sig) k (by omega) _ _ hvb
              have h3 : 2 ^ (sig.length - m) ≤ 2 ^ 60 := Nat.pow_le_pow_right (by decide) (by omega)
              have h4 : 2 ^ (k - (xs.length - 1)) ≤ 2 ^ 60 := Nat.pow_le_pow_right (by decide) (by omega)
              omega
            have HVA := Lib.hid hva
            have HVB := Lib.hid hvb
            have HS := Lib.hid hsum
            have HMK := Lib.hid hmk2
            rw [← HVA.out] at HBLP
            have c0 := HBLP.out.cell m
            rw [tblC_at] at c0
            have c1' := HBLP.out.cell (m + xs.length)
            rw [show m + xs.length = m + 1 + (xs.length - 1) by omega, tblC_on hvb, show m + 1 + (xs.length - 1) = m + xs.length by omega] at c1'
            have f0 := HBLP.out.frozen m
            have i1 : IntKind.i64.wrap ((m : Int) + (xs.length : Int)) = (m : Int) + (xs.length : Int) := wrap_in (by omega)
            have i2 : (0 : Int) ≤ (m : Int) + (xs.length : Int) := by omega
            have i3 : (m : Int) + (xs.length : Int) < (sig.length : Int) + 1 := by omega
            have i4 : ((m : Int) + (xs.length : Int)).toNat = m + xs.length := by omega
            have i6 : (m : Int) < (sig.length : Int) + 1 := by omega
            have i7 : (0 : Int) ≤ (m : Int) := by omega
            have i8 : ((m : Int)).toNat = m := by omega
            have i5 : IntKind.i64.wrap ((va : Int) + (vb : Int)) = (va : Int) + (vb : Int) := wrap_in (by omega)
            clear cB hbg hl hva hvb hsum hmk2
            go_wp2_with fail
            go_quiet ((go_at_call 209; exact Calls.quiet_of (CB.out _)))
            go_wp2_with fail
            have d0 : ((wr.alloc (.cells #[.string t, .slice A2 xs.length c2] 60)).drewN nq).cell? ⟨w.heap.size + 1, m, Option.none⟩ = some (.int .i64 (va : Int)) := c0
            have d1 : ((wr.alloc (.cells #[.string t, .slice A2 xs.length c2] 60)).drewN nq).cell? ⟨w.heap.size + 1, m + xs.length, Option.none⟩ = some (.int .i64 (vb : Int)) := c1'
            have d2 : ((wr.alloc (.cells #[.string t, .slice A2 xs.length c2] 60)).drewN nq).frozen? ⟨w.heap.size + 1, m, Option.none⟩ = false := f0
            have d3 : ((wr.alloc (.cells #[.string t, .slice A2 xs.length c2] 60)).drewN nq).cell? ⟨wr.heap.size, 1, Option.none⟩ = some (.slice A2 xs.length c2) := (Blk.new wr 60 #[.string t, .slice A2 xs.length c2]).cell 1
            have HBQ := Lib.hid (HBP.out.trans (bel_drewN (w.heap.size + 1) (wr.alloc (.cells #[.string t, .slice A2 xs.length c2] 60)) nq))
            have HBLQ : Hid (Blk ((wr.alloc (.cells #[.string t, .slice A2 xs.length c2] 60)).drewN nq) (w.heap.size + 1) 3 (tblC m va (dpW (fitS sig) sigLen ps sig.length k))) := HBLP.out
            clear c0 c1' f0
            generalize (wr.alloc (.cells #[.string t, .slice A2 xs.length c2] 60)).drewN nq = wq at d0 d1 d2 d3 HBQ HBLQ ⊢
            go_still_tail 14, (by kernel_rfl)
            change wpList _ _ _ _ _ wq.drew
            clear i1 i2 i3 i4 i5 i6 i7 i8 d1 d3
            have d4 : wq.drew.frozen? ⟨w.heap.size + 1, m, Option.none⟩ = false := d2
            have d5 : wq.drew.cell? ⟨w.heap.size + 1, m, Option.none⟩ = some (.int .i64 (va : Int)) := d0
            clear d2 d0
            go_wp2_with fail
            go_roundw
            case rel =>
              refine ⟨j + 1, by omega, by go_num, ?_, ?_⟩
              · rw [wayAt_snoc HX.out, HF.out, HBG.out]
                show Blk _ _ _ (tblC m (_ + List.getD _ (xs.length - 1) 0) _)
                rw [← HVA.out, List.getD_eq_getElem?_getD, HVB.out]
                have := Blk.set_ (show Blk wq.drew (w.heap.size + 1) 3 _ from HBLQ.out) m (.int .i64 ((va + vb : Nat) : Int))
                rw [tblC_set] at this
                exact this
              · exact (HBQ.out.drew).setCell (Nat.le_refl _) _
            case measure => simp [intOf]; omega
        · obtain rfl : j = ps.length := by omega
          go_wp2_with fail
          go_roundw
          case rel => exact ⟨m, k + 1, (m : Int) - 1, by have := hmk1.out; show m + (k + 1) = _; omega, rfl, rfl, by
            have h1 := hblk2.out
            rw [List.take_of_length_le (Nat.le_refl _), tblC_Z] at h1
            have h2 : sig.length - (k + 1) = m := by have := hmk1.out; omega
            show Blk _ _ _ (tblZ m (dpW _ _ _ _ (k + 1)))
            rw [dpW, h2]; exact h1, hbr2⟩
          case measure => (simp [intOf]; try omega)
set_option maxRecDepth 100000 in
set_option maxHeartbeats 4000000 in
theorem readings_any (ps : List Phr) (sig : List Int) (v u : Value) (hi hj : Nat) (w : World) (h : RdB w hi v ps) (g : RdI w hj u sig) (hh : hi ≤ w.heap.size) (hg : hj ≤ w.heap.size) (hbk : bookB ps = true) (hlen : sig.length ≤ 60) :
    Calls Try.prog 177 #[v, u] w (RetOwI (waysI (dpW (fitS sig) sigLen ps sig.length sig.length)) w) := by
  obtain ⟨A', c', rfl, hc', hm'⟩ := Rd.form g
  have G := Lib.hid g
  clear g
  obtain ⟨a, rfl, ha⟩ := h
  obtain ⟨A, c, rfl, hc, hm⟩ := ha.form
  have HA0 := Lib.hid ha
  have hba : Below w.heap.size w (w.alloc (.cells #[.slice A ps.length c] 48)) := (Below.refl _ _).alloc (Nat.le_refl _) _
  have HB := Lib.hid hba
  have HA := Lib.hid (ha.below hba hh)
  have HG : Hid (RdB (w.alloc (.cells #[.slice A ps.length c] 48)) hi (.agg #[.slice A ps.length c]) ps) := ⟨_, rfl, HA.out⟩
  have hcb0 : (w.alloc (.cells #[.slice A ps.length c] 48)).cell? ⟨w.heap.size, 0, Option.none⟩ = some (.slice A ps.length c) := (Blk.new w 48 #[.slice A ps.length c]).cell 0
  have HCB := Lib.hid hcb0
  have hsz1 : hi ≤ (w.alloc (.cells #[.slice A ps.length c] 48)).heap.size := by simp; omega
  clear ha hba hcb0
  have HBK := Lib.hid hbk
  clear hbk
  have hmk := make_ints (sig.length + 1) (by omega)
  rw [show ((sig.length + 1 : Nat) : Int) = (sig.length : Int) + 1 from rfl] at hmk
  have HBW : Hid (Below w.heap.size w ((w.alloc (.cells #[.slice A ps.length c] 48)).alloc (.cells ((zeros (sig.length + 1)).setIfInBounds sig.length (.int .i64 1)) 3))) := ((Below.refl _ _).alloc (Nat.le_refl _) _).alloc (by simp) _
  have HTB0 : Hid (Blk ((w.alloc (.cells #[.slice A ps.length c] 48)).alloc (.cells ((zeros (sig.length + 1)).setIfInBounds sig.length (.int .i64 1)) 3)) (w.heap.size + 1) 3 (tblZ sig.length (dpW (fitS sig) sigLen ps sig.length 0))) := by
    have := Blk.new (w.alloc (.cells #[.slice A ps.length c] 48)) 3 ((zeros (sig.length + 1)).setIfInBounds sig.length (.int .i64 1))
    rw [tblZ_start] at this
    simp at this
    exact this
  have HCBX : Hid (((w.alloc (.cells #[.slice A ps.length c] 48)).alloc (.cells ((zeros (sig.length + 1)).setIfInBounds sig.length (.int .i64 1)) 3)).cell? ⟨w.heap.size, 0, Option.none⟩ = some (.slice A ps.length c)) :=
    (((Below.refl (w.alloc (.cells #[.slice A ps.length c] 48)).heap.size (w.alloc (.cells #[.slice A ps.length c] 48))).alloc (Nat.le_refl _) (.cells ((zeros (sig.length + 1)).setIfInBounds sig.length (.int .i64 1)) 3)).cell (p := ⟨w.heap.size, 0, Option.none⟩) (by simp)).trans HCB.out
  have hz0 : ((w.alloc (.cells #[.slice A ps.length c] 48)).alloc (.cells (zeros (sig.length + 1)) 3)).cell? ⟨w.heap.size + 1, sig.length, Option.none⟩ = some (.int .i64 0) := by
    have := (Blk.new (w.alloc (.cells #[.slice A ps.length c] 48)) 3 (zeros (sig.length + 1))).cell sig.length
    rw [show (zeros (sig.length + 1)).toList[sig.length]? = some (.int .i64 0) by simp [zeros]] at this
    simpa using this
  go_enter Try.func177, Try.ntmps177
  go_wp2_with fail
  go_loopw [6] (fun i wr => ∃ (m k : Nat) (z : Int), Hid (m + k = sig.length) ∧ Hid (z = (m : Int) - 1) ∧ i = .int .i64 z ∧ Hid (Blk wr (w.heap.size + 1) 3 (tblZ m (dpW (fitS sig) sigLen ps sig.length k))) ∧ Hid (Below (w.heap.size + 1) ((w.alloc (.cells #[.slice A ps.length c] 48)).alloc (.cells ((zeros (sig.length + 1)).setIfInBounds sig.length (.int .i64 1)) 3)) wr)) (fun i _ => (intOf i + 1).toNat)
  case atStart => exact ⟨sig.length, 0, (sig.length : Int) - 1, rfl, rfl, rfl, HTB0.out, Below.refl _ _⟩
  case round =>
    obtain ⟨m, k, z, hmk1, hz, rfl, hblk, hbr⟩ := hrel
    have hs : (w.heap.size + 1) + 1 ≤ wr.heap.size := by have := hblk.out.lt; omega
    rcases m with _ | m
    · obtain rfl : z = -1 := by have := hz.out; omega
      have HK : Hid (k = sig.length) := by have := hmk1.out; show k = _; omega
      go_wp2_with fail
      go_ret
      have h1 := hblk.out
      rw [HK.out] at h1
      refine ⟨_, rfl, ?_, HBW.out.trans (hbr.out.mono (by omega))⟩
      have e : (waysI (dpW (fitS sig) sigLen ps sig.length sig.length)).length = sig.length + 1 := by simp [waysI, dpW_len]
      have h2 : Blk wr (w.heap.size + 1) 3 (ints (waysI (dpW (fitS sig) sigLen ps sig.length sig.length))) := by rw [← nats_ints]; simpa [tblZ] using h1
      have := own_of_blk (lo := w.heap.size) (hi := wr.heap.size) h2 (by omega) (by omega) (by rw [e]; unfold maxLen; omega)
      rw [e] at this
      exact this
    · obtain rfl : z = (m : Int) := by have := hz.out; omega
      have hm1 : m < sig.length := by have := hmk1.out; omega
      have hboxr := (hbr.out.cell (p := ⟨w.heap.size, 0, Option.none⟩) (by show w.heap.size < (w.heap.size + 1); omega)).trans HCBX.out
      obtain ⟨b3, o3, c3, y3, hv3, _, _, _⟩ := Rd.at_ G.out hm1
      injection hv3 with hv4 hv5 hv6
      subst hv4
      clear hv5 hv6
      rename World => wo
      go_wp2_with fail
      go_loopw [27] (fun i wr => ∃ j : Nat, j ≤ ps.length ∧ i = .int .i64 j ∧ Hid (Blk wr (w.heap.size + 1) 3 (tblC m (wayAt (fitS sig m) sigLen (ps.take j) (dpW (fitS sig) sigLen ps sig.length k)) (dpW (fitS sig) sigLen ps sig.length k))) ∧ Hid (Below (w.heap.size + 1) ((w.alloc (.cells #[.slice A ps.length c] 48)).alloc (.cells ((zeros (sig.length + 1)).setIfInBounds sig.length (.int .i64 1)) 3)) wr)) (fun i _ => ps.length - (intOf i).toNat)
      case atStart => exact ⟨0, Nat.zero_le _, rfl, by have := hblk.out; rw [tblZ_down] at this; exact this, hbr⟩
      case round =>
        obtain ⟨j, hjl, rfl, hblk2, hbr2⟩ := hrel
        have hs2 : (w.heap.size + 1) + 1 ≤ wr.heap.size := by have := hblk2.out.lt; omega
        have HBR := Lib.hid (HBW.out.trans (hbr2.out.mono (by omega)))
        by_cases hlt : j < ps.length
        · obtain ⟨b1, o1, c1, a, t, xs, hv, hb1, hx, hcell1, hcell2, hra, hta⟩ := (HA0.out.below HBR.out (by omega)).at_ hlt
          cases hv
          obtain ⟨A2, c2, rfl, hc2, hm2⟩ := Rd.form hra
          have HX := Lib.hid hx
          have HRA := Lib.hid hra
          clear hra
          have hfit : fitS sig m (t, xs) = begB xs (sig.drop m) := rfl
          have HF := Lib.hid hfit
          have HAP := Lib.hid (((apart_sig HBK.out sig m).2 (t, xs) (List.mem_of_getElem? HX.out)))
          have HBP := Lib.hid (hbr2.out.alloc (show (w.heap.size + 1) ≤ wr.heap.size by omega) (.cells #[.string t, .slice A2 xs.length c2] 60))
          have HBLP : Hid (Blk (wr.alloc (.cells #[.string t, .slice A2 xs.length c2] 60)) (w.heap.size + 1) 3 (tblC m (wayAt (fitS sig m) sigLen (ps.take j) (dpW (fitS sig) sigLen ps sig.length k)) (dpW (fitS sig) sigLen ps sig.length k))) := hblk2.out.alloc _
          clear hx hfit
          have HGD : Hid (RdI (wr.alloc (.cells #[.string t, .slice A2 xs.length c2] 60)) hj (.slice (some ⟨b3, o3 + m, Option.none⟩) (sig.length - m) (c' - m)) (sig.drop m)) := (RdI.below G.out (HBR.out.trans ((Below.refl wr.heap.size wr).alloc (Nat.le_refl _) _ |>.mono (by omega))) (by omega)).drop (by omega)
          have HRX : Hid (RdI (wr.alloc (.cells #[.string t, .slice A2 xs.length c2] 60)) hi (.slice A2 xs.length c2) xs) := HRA.out.below ((Below.refl wr.heap.size wr).alloc (Nat.le_refl _) _) (by omega)
          have cB := fun n => begins_any xs (sig.drop m) (.slice A2 xs.length c2) (.slice (some ⟨b3, o3 + m, Option.none⟩) (sig.length - m) (c' - m)) hi hj ((wr.alloc (.cells #[.string t, .slice A2 xs.length c2] 60)).drewN n) (show RdI ((wr.alloc (.cells #[.string t, .slice A2 xs.length c2] 60)).drewN n) hi _ _ from HRX.out) (show RdI ((wr.alloc (.cells #[.string t, .slice A2 xs.length c2] 60)).drewN n) hj _ _ from HGD.out)
          cases hbg : begB xs (sig.drop m)
          · rw [hbg] at cB
            have CB := Lib.hid cB
            have HBG := Lib.hid hbg
            clear cB hbg
            go_wp2_with fail
            go_quiet ((go_at_call 208; exact Calls.quiet_of (CB.out _)))
            go_wp2_with fail
            go_roundw
            case rel => exact ⟨j + 1, by omega, by go_num, by rw [wayAt_snoc HX.out, HF.out, HBG.out]; exact HBLP.out, HBP.out.trans (bel_drewN _ _ _)⟩
            case measure => simp [intOf]; omega
          · rw [hbg] at cB
            have CB := Lib.hid cB
            have HBG := Lib.hid hbg
            have hl := HAP.out (by rw [HF.out, HBG.out])
            have hl1 : 1 ≤ xs.length := hl.1
            have hl2 : xs.length ≤ sig.length - m := hl.2
            have hmk2 := hmk1.out
            obtain ⟨va, hva⟩ : ∃ va, va = wayAt (fitS sig m) sigLen (ps.take j) (dpW (fitS sig) sigLen ps sig.length k) := ⟨_, rfl⟩
            obtain ⟨vb, hvb⟩ : ∃ vb, (dpW (fitS sig) sigLen ps sig.length k)[xs.length - 1]? = some vb := ⟨_, List.getElem?_eq_getElem (by rw [dpW_len]; omega)⟩
            have hsum : va + vb ≤ 2 ^ 61 := by
              have h1 : va < 2 ^ (sig.length - m) := by rw [hva]; exact wayAt_lt ((apart_sig HBK.out sig m).take j) (fun i q hq => by have := (dpW_sig HBK.out sig) k (by omega) i q hq; rwa [show sig.length - m - (i + 1) = k - i by omega])
              have h2 := (dpW_sig HBK.out sig) k (by omega) _ _ hvb
              have h3 : 2 ^ (sig.length - m) ≤ 2 ^ 60 := Nat.pow_le_pow_right (by decide) (by omega)
              have h4 : 2 ^ (k - (xs.length - 1)) ≤ 2 ^ 60 := Nat.pow_le_pow_right (by decide) (by omega)
              omega
            have HVA := Lib.hid hva
            have HVB := Lib.hid hvb
            have HS := Lib.hid hsum
            have HMK := Lib.hid hmk2
            rw [← HVA.out] at HBLP
            have c0 := HBLP.out.cell m
            rw [tblC_at] at c0
            have c1' := HBLP.out.cell (m + xs.length)
            rw [show m + xs.length = m + 1 + (xs.length - 1) by omega, tblC_on hvb, show m + 1 + (xs.length - 1) = m + xs.length by omega] at c1'
            have f0 := HBLP.out.frozen m
            have i1 : IntKind.i64.wrap ((m : Int) + (xs.length : Int)) = (m : Int) + (xs.length : Int) := wrap_in (by omega)
            have i2 : (0 : Int) ≤ (m : Int) + (xs.length : Int) := by omega
            have i3 : (m : Int) + (xs.length : Int) < (sig.length : Int) + 1 := by omega
            have i4 : ((m : Int) + (xs.length : Int)).toNat = m + xs.length := by omega
            have i6 : (m : Int) < (sig.length : Int) + 1 := by omega
            have i7 : (0 : Int) ≤ (m : Int) := by omega
            have i8 : ((m : Int)).toNat = m := by omega
            have i5 : IntKind.i64.wrap ((va : Int) + (vb : Int)) = (va : Int) + (vb : Int) := wrap_in (by omega)
            clear cB hbg hl hva hvb hsum hmk2
            go_wp2_with fail
            go_quiet ((go_at_call 208; exact Calls.quiet_of (CB.out _)))
            go_wp2_with fail
            have d0 : ((wr.alloc (.cells #[.string t, .slice A2 xs.length c2] 60)).drewN nq).cell? ⟨w.heap.size + 1, m, Option.none⟩ = some (.int .i64 (va : Int)) := c0
            have d1 : ((wr.alloc (.cells #[.string t, .slice A2 xs.length c2] 60)).drewN nq).cell? ⟨w.heap.size + 1, m + xs.length, Option.none⟩ = some (.int .i64 (vb : Int)) := c1'
            have d2 : ((wr.alloc (.cells #[.string t, .slice A2 xs.length c2] 60)).drewN nq).frozen? ⟨w.heap.size + 1, m, Option.none⟩ = false := f0
            have d3 : ((wr.alloc (.cells #[.string t, .slice A2 xs.length c2] 60)).drewN nq).cell? ⟨wr.heap.size, 1, Option.none⟩ = some (.slice A2 xs.length c2) := (Blk.new wr 60 #[.string t, .slice A2 xs.length c2]).cell 1
            have HBQ := Lib.hid (HBP.out.trans (bel_drewN (w.heap.size + 1) (wr.alloc (.cells #[.string t, .slice A2 xs.length c2] 60)) nq))
            have HBLQ : Hid (Blk ((wr.alloc (.cells #[.string t, .slice A2 xs.length c2] 60)).drewN nq) (w.heap.size + 1) 3 (tblC m va (dpW (fitS sig) sigLen ps sig.length k))) := HBLP.out
            clear c0 c1' f0
            generalize (wr.alloc (.cells #[.string t, .slice A2 xs.length c2] 60)).drewN nq = wq at d0 d1 d2 d3 HBQ HBLQ ⊢
            go_still_tail 14, (by kernel_rfl)
            change wpList _ _ _ _ _ wq.drew
            clear i1 i2 i3 i4 i5 i6 i7 i8 d1 d3
            have d4 : wq.drew.frozen? ⟨w.heap.size + 1, m, Option.none⟩ = false := d2
            have d5 : wq.drew.cell? ⟨w.heap.size + 1, m, Option.none⟩ = some (.int .i64 (va : Int)) := d0
            clear d2 d0
            go_wp2_with fail
            go_roundw
            case rel =>
              refine ⟨j + 1, by omega, by go_num, ?_, ?_⟩
              · rw [wayAt_snoc HX.out, HF.out, HBG.out]
                show Blk _ _ _ (tblC m (_ + List.getD _ (xs.length - 1) 0) _)
                rw [← HVA.out, List.getD_eq_getElem?_getD, HVB.out]
                have := Blk.set_ (show Blk wq.drew (w.heap.size + 1) 3 _ from HBLQ.out) m (.int .i64 ((va + vb : Nat) : Int))
                rw [tblC_set] at this
                exact this
              · exact (HBQ.out.drew).setCell (Nat.le_refl _) _
            case measure => simp [intOf]; omega
        · obtain rfl : j = ps.length := by omega
          go_wp2_with fail
          go_roundw
          case rel => exact ⟨m, k + 1, (m : Int) - 1, by have := hmk1.out; show m + (k + 1) = _; omega, rfl, rfl, by
            have h1 := hblk2.out
            rw [List.take_of_length_le (Nat.le_refl _), tblC_Z] at h1
            have h2 : sig.length - (k + 1) = m := by have := hmk1.out; omega
            show Blk _ _ _ (tblZ m (dpW _ _ _ _ (k + 1)))
            rw [dpW, h2]; exact h1, hbr2⟩
          case measure => (simp [intOf]; try omega)
end Go.Proofs.Ytabiobjcfopakaa
/- Contracts: how many readings signals have; of the program and of the reference. -/
namespace Go.Proofs.Ytabiobjcfopakaa
open Go.RowKit
def readB (sig : List Int) : Bool := decide (sig.length ≤ 60) && allB sig 1 60
theorem areRead_any (sig : List Int) (v : Value) (hi : Nat) (w : World) (h : RdI w hi v sig) : Calls Try.prog 173 #[v] w fun e w' => e = .returned (.bool (readB sig)) ∧ w = w' := by
  obtain ⟨A, c, rfl, hc, hm⟩ := Rd.form h
  have H := Lib.hid h
  clear h
  unfold readB
  by_cases hl : sig.length ≤ 60
  · rw [decide_eq_true hl, Bool.true_and]
    have hl2 : (sig.length : Int) ≤ 60 := by omega
    go_enter Try.func173, Try.ntmps173
    go_wp2_with (go_at_call 181; refine (allWithin_any sig _ _ _ hi _ H.out).mono ?_; rintro e w' ⟨rfl, rfl⟩)
    go_ret
    exact ⟨rfl, rfl⟩
  · rw [decide_eq_false hl, Bool.false_and]
    have hl2 : ¬ (sig.length : Int) ≤ 60 := by omega
    go_enter Try.func173, Try.ntmps173
    go_wp2_with fail
    go_ret
    exact ⟨rfl, rfl⟩
set_option maxHeartbeats 800000 in
theorem spSignals_any (ps : List Phr) (sig : List Int) (v u : Value) (hi hj : Nat) (w : World) (h : RdB w hi v ps) (g : RdI w hj u sig) (hh : hi ≤ w.heap.size) (hg : hj ≤ w.heap.size) :
    Calls Try.prog 175 #[v, u] w fun e w' => e = .returned (.bool (bookB ps && readB sig)) ∧ Below w.heap.size w w' := by
  obtain ⟨A', c', rfl, hc', hm'⟩ := Rd.form g
  have G := Lib.hid g
  clear g
  obtain ⟨a, rfl, ha⟩ := h
  obtain ⟨A, c, rfl, hc, hm⟩ := ha.form
  have hba : Below w.heap.size w (w.alloc (.cells #[.slice A ps.length c] 48)) := (Below.refl _ _).alloc (Nat.le_refl _) _
  have HB := Lib.hid hba
  have HA := Lib.hid (ha.below hba hh)
  have HG : Hid (RdB (w.alloc (.cells #[.slice A ps.length c] 48)) hi (.agg #[.slice A ps.length c]) ps) := ⟨_, rfl, HA.out⟩
  have hcb0 : (w.alloc (.cells #[.slice A ps.length c] 48)).cell? ⟨w.heap.size, 0, Option.none⟩ = some (.slice A ps.length c) := (Blk.new w 48 #[.slice A ps.length c]).cell 0
  have HCB := Lib.hid hcb0
  have hsz1 : hi ≤ (w.alloc (.cells #[.slice A ps.length c] 48)).heap.size := by simp; omega
  clear ha hba hcb0
  have cB := bkGood_any ps (.agg #[.slice A ps.length c]) hi (w.alloc (.cells #[.slice A ps.length c] 48)) HG.out hsz1
  cases hbk : bookB ps
  · rw [hbk] at cB
    have CB := Lib.hid cB
    clear cB
    go_enter Try.func175, Try.ntmps175
    go_wp2_with (go_at_call 134; refine CB.out.mono ?_; rintro e w1 ⟨rfl, hb1⟩)
    go_ret
    exact ⟨rfl, HB.out.trans (hb1.mono (by simp))⟩
  · rw [hbk] at cB
    have CB := Lib.hid cB
    have HBK := Lib.hid hbk
    clear cB
    go_enter Try.func175, Try.ntmps175
    go_wp2_with fail
    refine CB.out.mono ?_
    rintro e w1 ⟨rfl, hb1⟩
    have hcb := (hb1.cell (p := ⟨w.heap.size, 0, Option.none⟩) (by simp)).trans HCB.out
    have hs1 : w.heap.size + 1 ≤ w1.heap.size := by have := hb1.size; simpa using this
    have HA1 := Lib.hid (HA.out.below hb1 hsz1)
    have HG1 : Hid (RdB w1 hi (.agg #[.slice A ps.length c]) ps) := ⟨_, rfl, HA1.out⟩
    have HB1 := Lib.hid (HB.out.trans (hb1.mono (by simp)))
    clear hb1
    have G1 := Lib.hid (RdI.below G.out (HB1.out) (by omega))
    have e : (true && readB sig) = readB sig := rfl
    by_cases hl : sig.length ≤ 60
    · have HL := Lib.hid hl
      have hl2 : (sig.length : Int) ≤ 60 := by omega
      go_wp2_with (go_at_call 184; refine (l1All_any sig _ _ _ hj _ G1.out).mono ?_; rintro e w' ⟨rfl, rfl⟩)
      go_ret
      exact ⟨ret_bool (by unfold readB; rw [decide_eq_true HL.out]; rfl), HB1.out⟩
    · have HL := Lib.hid hl
      have hl2 : ¬ (sig.length : Int) ≤ 60 := by omega
      go_wp2_with fail
      go_ret
      exact ⟨ret_bool (by unfold readB; rw [decide_eq_false HL.out]; rfl), HB1.out⟩
/-- How many readings. -/
def cntS (ps : List Phr) (sig : List Int) : Nat := (dpW (fitS sig) sigLen ps sig.length sig.length).getD 0 0
def cntV (b : Bool) (n : Nat) : Value := if b then .tuple #[.int .i64 (n : Int), .bool true] else .tuple #[.int .i64 0, .bool false]
theorem waysI_head {l : List Nat} {y : Int} (h : (waysI l)[0]? = some y) : y = (l.getD 0 0 : Nat) := by
  unfold waysI at h
  rw [List.getElem?_map] at h
  rw [List.getD_eq_getElem?_getD]
  cases e : l[0]? with
  | none => rw [e] at h; cases h
  | some m => rw [e] at h; cases h; rfl
/-- A table of ways that the call has made: its head. -/
theorem own_head {w : World} {lo hi : Nat} {v : Value} {fit : Nat → Phr → Bool} {len : Phr → Nat} {ps : List Phr} {n : Nat} (h : OwI w lo hi v (waysI (dpW fit len ps n n))) :
    ∃ b c, v = .slice (some ⟨b, 0, Option.none⟩) (n + 1) c ∧ w.cell? ⟨b, 0, Option.none⟩ = some (.int .i64 (((dpW fit len ps n n).getD 0 0 : Nat) : Int)) := by
  have hl : (waysI (dpW fit len ps n n)).length = n + 1 := by simp [waysI, dpW_len]
  obtain ⟨b, off, c, y, hv, _, hy, hc⟩ := Rd.at_ h.rd (k := 0) (by rw [hl]; omega)
  rcases h.1.2 with ⟨rfl, _⟩ | ⟨g, cap, cur, hv2, _⟩
  · cases hv
  · rw [hv] at hv2
    cases hv2
    rw [hl] at hv
    refine ⟨b, c, hv, ?_⟩
    rw [waysI_head hy] at hc
    simpa using hc
set_option maxHeartbeats 1600000 in
theorem sCountReadings_any (ps : List Phr) (sig : List Int) (v u : Value) (hi hj : Nat) (w : World) (h : RdB w hi v ps) (g : RdI w hj u sig) (hh : hi ≤ w.heap.size) (hg : hj ≤ w.heap.size) :
    Calls Try.prog 76 #[v, u] w fun e w' => e = .returned (cntV (bookB ps && readB sig) (cntS ps sig)) ∧ Below w.heap.size w w' := by
  obtain ⟨A', c', rfl, hc', hm'⟩ := Rd.form g
  have G := Lib.hid g
  clear g
  obtain ⟨a, rfl, ha⟩ := h
  obtain ⟨A, c, rfl, hc, hm⟩ := ha.form
  have hba : Below w.heap.size w (w.alloc (.cells #[.slice A ps.length c] 48)) := (Below.refl _ _).alloc (Nat.le_refl _) _
  have HB := Lib.hid hba
  have HA := Lib.hid (ha.below hba hh)
  have HG : Hid (RdB (w.alloc (.cells #[.slice A ps.length c] 48)) hi (.agg #[.slice A ps.length c]) ps) := ⟨_, rfl, HA.out⟩
  have hcb0 : (w.alloc (.cells #[.slice A ps.length c] 48)).cell? ⟨w.heap.size, 0, Option.none⟩ = some (.slice A ps.length c) := (Blk.new w 48 #[.slice A ps.length c]).cell 0
  have HCB := Lib.hid hcb0
  have hsz1 : hi ≤ (w.alloc (.cells #[.slice A ps.length c] 48)).heap.size := by simp; omega
  clear ha hba hcb0
  have G0 := Lib.hid (RdI.below G.out HB.out hg)
  have hsz2 : hj ≤ (w.alloc (.cells #[.slice A ps.length c] 48)).heap.size := by simp; omega
  have cB := spSignals_any ps sig (.agg #[.slice A ps.length c]) _ hi hj (w.alloc (.cells #[.slice A ps.length c] 48)) HG.out G0.out hsz1 hsz2
  cases hbr : (bookB ps && readB sig)
  · rw [hbr] at cB
    have CB := Lib.hid cB
    clear cB
    go_enter Try.func76, Try.ntmps76
    go_wp2_with (go_at_call 175; refine CB.out.mono ?_; rintro e w1 ⟨rfl, hb1⟩)
    go_ret2
    exact ⟨ret_val rfl, HB.out.trans (hb1.mono (by simp))⟩
  · rw [hbr] at cB
    have CB := Lib.hid cB
    have HRB := Lib.hid hbr
    rw [Bool.and_eq_true] at hbr
    have HBK := Lib.hid hbr.1
    have hl60 : sig.length ≤ 60 := by have := hbr.2; unfold readB at this; rw [Bool.and_eq_true, decide_eq_true_eq] at this; exact this.1
    clear cB hbr
    go_enter Try.func76, Try.ntmps76
    go_wp2_with fail
    refine CB.out.mono ?_
    rintro e w1 ⟨rfl, hb1⟩
    have hcb := (hb1.cell (p := ⟨w.heap.size, 0, Option.none⟩) (by simp)).trans HCB.out
    have hs1 : w.heap.size + 1 ≤ w1.heap.size := by have := hb1.size; simpa using this
    have HA1 := Lib.hid (HA.out.below hb1 hsz1)
    have HG1 : Hid (RdB w1 hi (.agg #[.slice A ps.length c]) ps) := ⟨_, rfl, HA1.out⟩
    have HB1 := Lib.hid (HB.out.trans (hb1.mono (by simp)))
    clear hb1
    have G1 := Lib.hid (RdI.below G.out (HB1.out) (by omega))
    have cW := spWays_any ps sig (.agg #[.slice A ps.length c]) _ hi hj w1 HG1.out G1.out (by omega) (by omega) HBK.out hl60
    have CW := Lib.hid cW
    clear cW
    go_wp2_with fail
    refine CW.out.mono ?_
    rintro e w2 ⟨q, rfl, hq, hb2⟩
    obtain ⟨bq, cq, rfl, hcq⟩ := own_head hq
    clear hq
    have HB2 := Lib.hid (HB1.out.trans (hb2.mono (by omega)))
    clear hb2
    go_wp2_with fail
    go_ret2
    exact ⟨ret_val (by first | rfl | (rw [HRB.out]; rfl)), HB2.out⟩
set_option maxHeartbeats 1600000 in
theorem CountReadings_any (ps : List Phr) (sig : List Int) (v u : Value) (hi hj : Nat) (w : World) (h : RdB w hi v ps) (g : RdI w hj u sig) (hh : hi ≤ w.heap.size) (hg : hj ≤ w.heap.size) :
    Calls Try.prog 75 #[v, u] w fun e w' => e = .returned (cntV (bookB ps && readB sig) (cntS ps sig)) ∧ Below w.heap.size w w' := by
  obtain ⟨A', c', rfl, hc', hm'⟩ := Rd.form g
  have G := Lib.hid g
  clear g
  obtain ⟨a, rfl, ha⟩ := h
  obtain ⟨A, c, rfl, hc, hm⟩ := ha.form
  have hba : Below w.heap.size w (w.alloc (.cells #[.slice A ps.length c] 48)) := (Below.refl _ _).alloc (Nat.le_refl _) _
  have HB := Lib.hid hba
  have HA := Lib.hid (ha.below hba hh)
  have HG : Hid (RdB (w.alloc (.cells #[.slice A ps.length c] 48)) hi (.agg #[.slice A ps.length c]) ps) := ⟨_, rfl, HA.out⟩
  have hcb0 : (w.alloc (.cells #[.slice A ps.length c] 48)).cell? ⟨w.heap.size, 0, Option.none⟩ = some (.slice A ps.length c) := (Blk.new w 48 #[.slice A ps.length c]).cell 0
  have HCB := Lib.hid hcb0
  have hsz1 : hi ≤ (w.alloc (.cells #[.slice A ps.length c] 48)).heap.size := by simp; omega
  clear ha hba hcb0
  have cB := IsBook_any ps (.agg #[.slice A ps.length c]) hi (w.alloc (.cells #[.slice A ps.length c] 48)) HG.out hsz1
  cases hbk : bookB ps
  · rw [hbk] at cB
    have CB := Lib.hid cB
    clear cB
    go_enter Try.func75, Try.ntmps75
    go_wp2_with (go_at_call 137; refine CB.out.mono ?_; rintro e w1 ⟨rfl, hb1⟩)
    go_ret2
    exact ⟨ret_val rfl, HB.out.trans (hb1.mono (by simp))⟩
  · rw [hbk] at cB
    have CB := Lib.hid cB
    have HBK := Lib.hid hbk
    clear cB
    go_enter Try.func75, Try.ntmps75
    go_wp2_with fail
    refine CB.out.mono ?_
    rintro e w1 ⟨rfl, hb1⟩
    have hcb := (hb1.cell (p := ⟨w.heap.size, 0, Option.none⟩) (by simp)).trans HCB.out
    have hs1 : w.heap.size + 1 ≤ w1.heap.size := by have := hb1.size; simpa using this
    have HA1 := Lib.hid (HA.out.below hb1 hsz1)
    have HG1 : Hid (RdB w1 hi (.agg #[.slice A ps.length c]) ps) := ⟨_, rfl, HA1.out⟩
    have HB1 := Lib.hid (HB.out.trans (hb1.mono (by simp)))
    clear hb1
    have G1r := Lib.hid (RdI.below G.out (HB1.out) (by omega))
    have cR := areRead_any sig _ hj w1 G1r.out
    cases hrd : readB sig
    · rw [hrd] at cR
      have CR := Lib.hid cR
      clear cR
      go_wp2_with (go_at_call 173; refine (CR.out).mono ?_; rintro e w' ⟨rfl, rfl⟩)
      go_ret2
      exact ⟨ret_val (by rw [hrd]; rfl), HB1.out⟩
    · rw [hrd] at cR
      have CR := Lib.hid cR
      have HRB : Hid ((true && readB sig) = true) := hrd
      have hl60 : sig.length ≤ 60 := by have := hrd; unfold readB at this; rw [Bool.and_eq_true, decide_eq_true_eq] at this; exact this.1
      clear cR hrd
      have G1 := Lib.hid (RdI.below G.out (HB1.out) (by omega))
      have cW := readings_any ps sig (.agg #[.slice A ps.length c]) _ hi hj w1 HG1.out G1.out (by omega) (by omega) HBK.out hl60
      have CW := Lib.hid cW
      clear cW
      go_wp2_with (go_at_call 173; refine (CR.out).mono ?_; rintro e w' ⟨rfl, rfl⟩)
      refine CW.out.mono ?_
      rintro e w2 ⟨q, rfl, hq, hb2⟩
      obtain ⟨bq, cq, rfl, hcq⟩ := own_head hq
      clear hq
      have HB2 := Lib.hid (HB1.out.trans (hb2.mono (by omega)))
      clear hb2
      go_wp2_with fail
      go_ret2
      exact ⟨ret_val (by first | rfl | (rw [HRB.out]; rfl)), HB2.out⟩
end Go.Proofs.Ytabiobjcfopakaa
/- Plain laws: which first parts of letters can be spelled. -/
namespace Go.Proofs.Ytabiobjcfopakaa
/-- A place that phrases reach, one after the other. -/
inductive Rch (ps : List Phr) (s : ByteArray) : Nat → Prop
  | zero : Rch ps s 0
  | step {a : Nat} {p : Phr} : Rch ps s a → p ∈ ps → fitT s a p = true → Rch ps s (a + p.1.size)
/-- A place from which phrases reach the end. -/
inductive Bck (ps : List Phr) (s : ByteArray) : Nat → Prop
  | fin : Bck ps s s.size
  | step {a : Nat} {p : Phr} : Bck ps s (a + p.1.size) → p ∈ ps → fitT s a p = true → Bck ps s a
theorem Bck.rch {ps : List Phr} {s : ByteArray} {a : Nat} (h : Bck ps s a) : Rch ps s a → Rch ps s s.size := by
  induction h with
  | fin => exact id
  | step _ hp hf ih => exact fun hr => ih (hr.step hp hf)
/-- What has been reached: from the places before at_, and from at_ by some phrases. -/
def RchTo (ps : List Phr) (s : ByteArray) (at_ : Nat) (qs : List Phr) (p : Nat) : Prop :=
  p = 0 ∨ (∃ a q, a < at_ ∧ Rch ps s a ∧ q ∈ ps ∧ fitT s a q = true ∧ p = a + q.1.size) ∨ (Rch ps s at_ ∧ ∃ q, q ∈ qs ∧ fitT s at_ q = true ∧ p = at_ + q.1.size)
theorem RchTo.rch {ps qs : List Phr} {s : ByteArray} {at_ p : Nat} (hq : ∀ q ∈ qs, q ∈ ps) (h : RchTo ps s at_ qs p) : Rch ps s p := by
  rcases h with rfl | ⟨a, q, _, h1, h2, h3, rfl⟩ | ⟨h1, q, h2, h3, rfl⟩
  · exact .zero
  · exact h1.step h2 h3
  · exact h1.step (hq q h2) h3
theorem Rch.to {ps : List Phr} {s : ByteArray} {at_ p : Nat} (hbk : bookB ps = true) (h : Rch ps s p) (hp : p ≤ at_) : RchTo ps s at_ [] p := by
  cases h with
  | zero => exact .inl rfl
  | @step a q h1 h2 h3 =>
    have := (phrOk_txt (bookB_phr hbk h2)).1
    exact .inr (.inl ⟨a, q, by omega, h1, h2, h3, rfl⟩)
theorem RchTo.turn {ps : List Phr} {s : ByteArray} {at_ p : Nat} : RchTo ps s at_ ps p ↔ RchTo ps s (at_ + 1) [] p := by
  constructor
  · rintro (h | ⟨a, q, h0, h1⟩ | ⟨h1, q, h2, h3, h4⟩)
    · exact .inl h
    · exact .inr (.inl ⟨a, q, by omega, h1⟩)
    · exact .inr (.inl ⟨at_, q, by omega, h1, h2, h3, h4⟩)
  · rintro (h | ⟨a, q, h0, h1, h2, h3, h4⟩ | ⟨_, q, h2, _⟩)
    · exact .inl h
    · by_cases e : a = at_
      · subst e; exact .inr (.inr ⟨h1, q, h2, h3, h4⟩)
      · exact .inr (.inl ⟨a, q, by omega, h1, h2, h3, h4⟩)
    · cases h2
theorem RchTo.no {ps qs : List Phr} {s : ByteArray} {at_ p : Nat} {q : Phr} (h : ¬ (Rch ps s at_ ∧ fitT s at_ q = true)) : RchTo ps s at_ (qs ++ [q]) p ↔ RchTo ps s at_ qs p := by
  unfold RchTo
  constructor
  · rintro (h1 | h1 | ⟨h1, r, h2, h3, h4⟩)
    · exact .inl h1
    · exact .inr (.inl h1)
    · rw [List.mem_append, List.mem_singleton] at h2
      rcases h2 with h2 | rfl
      · exact .inr (.inr ⟨h1, r, h2, h3, h4⟩)
      · exact absurd ⟨h1, h3⟩ h
  · rintro (h1 | h1 | ⟨h1, r, h2, h3, h4⟩)
    · exact .inl h1
    · exact .inr (.inl h1)
    · exact .inr (.inr ⟨h1, r, List.mem_append_left _ h2, h3, h4⟩)
end Go.Proofs.Ytabiobjcfopakaa
/- Contracts: how many first letters can be spelled; of the program and of the reference. -/
namespace Go.Proofs.Ytabiobjcfopakaa
open Go.RowKit
def FitsF (ps : List Phr) (s : ByteArray) (f : Nat → Bool) (at_ : Nat) (qs : List Phr) : Prop := ∀ p, p ≤ s.size → (f p = true ↔ RchTo ps s at_ qs p)
def MaxF (ps : List Phr) (s : ByteArray) (m at_ : Nat) (qs : List Phr) : Prop := RchTo ps s at_ qs m ∧ m ≤ s.size ∧ ∀ p, p ≤ s.size → RchTo ps s at_ qs p → p ≤ m
theorem FitsF.no {ps qs : List Phr} {s : ByteArray} {f : Nat → Bool} {at_ : Nat} {q : Phr} (h : FitsF ps s f at_ qs) (hn : ¬ (Rch ps s at_ ∧ fitT s at_ q = true)) : FitsF ps s f at_ (qs ++ [q]) := fun p hp => by rw [RchTo.no hn]; exact h p hp
theorem MaxF.no {ps qs : List Phr} {s : ByteArray} {m at_ : Nat} {q : Phr} (h : MaxF ps s m at_ qs) (hn : ¬ (Rch ps s at_ ∧ fitT s at_ q = true)) : MaxF ps s m at_ (qs ++ [q]) :=
  ⟨(RchTo.no hn).2 h.1, h.2.1, fun p hp hr => h.2.2 p hp ((RchTo.no hn).1 hr)⟩
theorem RchTo.at_ {ps qs : List Phr} {s : ByteArray} {k : Nat} (hbk : bookB ps = true) (hq : ∀ q ∈ qs, q ∈ ps) : RchTo ps s k qs k ↔ Rch ps s k := by
  constructor
  · exact fun h => h.rch hq
  · intro h
    rcases h.to hbk (Nat.le_refl k) with e | e | ⟨_, q, e, _⟩
    · exact .inl e
    · exact .inr (.inl e)
    · cases e
theorem FitsF.turn {ps : List Phr} {s : ByteArray} {f : Nat → Bool} {k : Nat} (h : FitsF ps s f k ps) : FitsF ps s f (k + 1) [] := fun p hp => by rw [← RchTo.turn]; exact h p hp
theorem MaxF.turn {ps : List Phr} {s : ByteArray} {m k : Nat} (h : MaxF ps s m k ps) : MaxF ps s m (k + 1) [] := ⟨RchTo.turn.1 h.1, h.2.1, fun p hp hr => h.2.2 p hp (RchTo.turn.2 hr)⟩
theorem FitsF.start (ps : List Phr) (s : ByteArray) : FitsF ps s (fun p => p == 0) 0 [] := fun p _ => by
  rw [beq_iff_eq]
  constructor
  · exact fun h => .inl h
  · rintro (h | ⟨a, _, h, _⟩ | ⟨_, q, h, _⟩)
    · exact h
    · omega
    · cases h
theorem MaxF.start (ps : List Phr) (s : ByteArray) : MaxF ps s 0 0 [] := ⟨.inl rfl, Nat.zero_le _, fun p hp h => by
  have := (FitsF.start ps s p hp).2 h
  rw [beq_iff_eq] at this; omega⟩
end Go.Proofs.Ytabiobjcfopakaa
/- Plain laws: the first path through a table, place by place; of readings and of spellings. -/
namespace Go.Proofs.Ytabiobjcfopakaa
/-- The choices from place m on: nx names the phrase, ln how far it leads. -/
def pathF (n : Nat) (nx : Nat → Option Nat) (ln : Nat → Nat) : Nat → Nat → List Nat
  | 0, _ => []
  | f + 1, m => if m < n then match nx m with
      | Option.none => []
      | some i => i :: pathF n nx ln f (m + ln i)
    else []
theorem pathF_end {n : Nat} {nx : Nat → Option Nat} {ln : Nat → Nat} {f m : Nat} (h : n ≤ m) : pathF n nx ln f m = [] := by
  cases f with
  | zero => rfl
  | succ f => unfold pathF; rw [if_neg (by omega)]
theorem pathF_on {n : Nat} {nx : Nat → Option Nat} {ln : Nat → Nat} {f m i : Nat} (h : m < n) (h2 : nx m = some i) : pathF n nx ln (f + 1) m = i :: pathF n nx ln f (m + ln i) := by
  rw [pathF, if_pos h, h2]
theorem pathF_len {n : Nat} {nx : Nat → Option Nat} {ln : Nat → Nat} : ∀ (f m : Nat), (pathF n nx ln f m).length ≤ f
  | 0, m => by simp [pathF]
  | f + 1, m => by
    unfold pathF
    split
    · split
      · simp
      · rw [List.length_cons]
        exact Nat.succ_le_succ (pathF_len f _)
    · simp
/-- So far the path l was taken, it stands at m. -/
def PathTo (n : Nat) (nx : Nat → Option Nat) (ln : Nat → Nat) (l : List Nat) (m : Nat) : Prop := ∃ f, n - m ≤ f ∧ f + l.length ≤ n ∧ l ++ pathF n nx ln f m = pathF n nx ln n 0
theorem PathTo.start {n : Nat} {nx : Nat → Option Nat} {ln : Nat → Nat} : PathTo n nx ln [] 0 := ⟨n, by omega, by simp, rfl⟩
theorem PathTo.on {n : Nat} {nx : Nat → Option Nat} {ln : Nat → Nat} {l : List Nat} {m i : Nat} (h : PathTo n nx ln l m) (hm : m < n) (hn : nx m = some i) (hl : 1 ≤ ln i) : PathTo n nx ln (l ++ [i]) (m + ln i) := by
  obtain ⟨f, h1, h2, h3⟩ := h
  obtain ⟨f, rfl⟩ : ∃ g, f = g + 1 := ⟨f - 1, by omega⟩
  rw [pathF_on hm hn] at h3
  exact ⟨f, by omega, by rw [List.length_append, List.length_singleton]; omega, by rw [List.append_assoc]; exact h3⟩
theorem PathTo.done {n : Nat} {nx : Nat → Option Nat} {ln : Nat → Nat} {l : List Nat} {m : Nat} (h : PathTo n nx ln l m) (hm : n ≤ m) : l = pathF n nx ln n 0 := by
  obtain ⟨f, _, _, h3⟩ := h
  rw [pathF_end hm, List.append_nil] at h3
  exact h3
theorem PathTo.short {n : Nat} {nx : Nat → Option Nat} {ln : Nat → Nat} {l : List Nat} {m : Nat} (h : PathTo n nx ln l m) : l.length ≤ n := by
  obtain ⟨f, _, h2, _⟩ := h; omega
/-- How far the i-th phrase leads. -/
def lnOf (len : Phr → Nat) (ps : List Phr) (i : Nat) : Nat := (ps[i]?.map len).getD 0
theorem lnOf_at {len : Phr → Nat} {ps : List Phr} {i : Nat} {p : Phr} (h : ps[i]? = some p) : lnOf len ps i = len p := by unfold lnOf; rw [h]; rfl
theorem dpW_drop (fit : Nat → Phr → Bool) (len : Phr → Nat) (ps : List Phr) (n : Nat) : ∀ k j, j ≤ k → (dpW fit len ps n k).drop j = dpW fit len ps n (k - j)
  | 0, j, h => by obtain rfl : j = 0 := by omega
                  rfl
  | k + 1, 0, _ => rfl
  | k + 1, j + 1, h => by rw [dpW, List.drop_succ_cons, dpW_drop fit len ps n k j (by omega), show k + 1 - (j + 1) = k - j by omega]
theorem dpW_at {fit : Nat → Phr → Bool} {len : Phr → Nat} {ps : List Phr} {n m : Nat} (h : m < n) : (dpW fit len ps n n)[m]? = some (wayAt (fit m) len ps (dpW fit len ps n (n - (m + 1)))) := by
  have h1 := dpW_drop fit len ps n n m (by omega)
  obtain ⟨k, hk⟩ : ∃ k, n - m = k + 1 := ⟨n - m - 1, by omega⟩
  rw [hk, dpW] at h1
  have h2 : ((dpW fit len ps n n).drop m)[0]? = some (wayAt (fit (n - (k + 1))) len ps (dpW fit len ps n k)) := by rw [h1]; rfl
  rw [List.getElem?_drop, Nat.add_zero] at h2
  rw [h2, show n - (k + 1) = m by omega, show k = n - (m + 1) by omega]
theorem dpW_rest {fit : Nat → Phr → Bool} {len : Phr → Nat} {ps : List Phr} {n m d : Nat} (h : m < n) : (dpW fit len ps n (n - (m + 1)))[d]? = (dpW fit len ps n n)[m + 1 + d]? := by
  rw [← dpW_drop fit len ps n n (m + 1) (by omega), List.getElem?_drop]
/-- The first phrase that fits at m and leads on to where there is a way. -/
def okW (fit : Nat → Phr → Bool) (len : Phr → Nat) (tb : List Nat) (m : Nat) (p : Phr) : Bool := fit m p && decide (0 < tb.getD (m + len p) 0)
def nextW (fit : Nat → Phr → Bool) (len : Phr → Nat) (ps : List Phr) (tb : List Nat) (m : Nat) : Option Nat := ps.findIdx? (okW fit len tb m)
theorem wayAt_pos {fit : Phr → Bool} {len : Phr → Nat} {tb : List Nat} : ∀ {ps : List Phr}, 0 < wayAt fit len ps tb → ∃ p ∈ ps, fit p = true ∧ 0 < tb.getD (len p - 1) 0
  | [], h => by simp [wayAt] at h
  | p :: ps, h => by
    have e : wayAt fit len (p :: ps) tb = (if fit p then tb.getD (len p - 1) 0 else 0) + wayAt fit len ps tb := by simp [wayAt]
    rw [e] at h
    by_cases h1 : 0 < wayAt fit len ps tb
    · obtain ⟨q, hq, h2⟩ := wayAt_pos h1
      exact ⟨q, List.mem_cons_of_mem _ hq, h2⟩
    · split at h
      · rename_i hf
        exact ⟨p, by simp, hf, by omega⟩
      · omega
theorem nextW_some {fit : Nat → Phr → Bool} {len : Phr → Nat} {ps : List Phr} {n m : Nat} (hm : m < n) (hl : ∀ p ∈ ps, fit m p = true → 1 ≤ len p) (h : 0 < (dpW fit len ps n n).getD m 0) :
    ∃ i p, nextW fit len ps (dpW fit len ps n n) m = some i ∧ ps[i]? = some p ∧ fit m p = true ∧ 0 < (dpW fit len ps n n).getD (m + len p) 0 := by
  rw [List.getD_eq_getElem?_getD, dpW_at hm] at h
  obtain ⟨q, hq, hf, h2⟩ := wayAt_pos h
  have hq1 := hl q hq hf
  rw [List.getD_eq_getElem?_getD, dpW_rest hm, show m + 1 + (len q - 1) = m + len q by omega] at h2
  cases hn : nextW fit len ps (dpW fit len ps n n) m with
  | none =>
    unfold nextW at hn
    rw [List.findIdx?_eq_none_iff] at hn
    have := hn q hq
    unfold okW at this
    rw [hf, Bool.true_and, decide_eq_false_iff_not, List.getD_eq_getElem?_getD] at this
    exact absurd h2 this
  | some i =>
    have h3 := hn
    unfold nextW at h3
    rw [List.findIdx?_eq_some_iff_getElem] at h3
    obtain ⟨hi, h4, _⟩ := h3
    unfold okW at h4
    rw [Bool.and_eq_true, decide_eq_true_eq] at h4
    exact ⟨i, ps[i], rfl, List.getElem?_eq_getElem hi, h4.1, h4.2⟩
/-- cur is the least of what the phrases seen cost. -/
structure Least (val : Phr → Option Nat) (ps : List Phr) (cur : Option Nat) : Prop where
  le : ∀ p ∈ ps, ∀ v, val p = some v → ∃ c, cur = some c ∧ c ≤ v
  hit : ∀ c, cur = some c → ∃ p ∈ ps, val p = some c
/-- Each choice on the path is a phrase. -/
theorem path_mem {n : Nat} {nx : Nat → Option Nat} {ln : Nat → Nat} {P : Nat → Prop} (h : ∀ m i, nx m = some i → P i) : ∀ f m, ∀ i ∈ pathF n nx ln f m, P i
  | 0, m, i, hi => by cases hi
  | f + 1, m, i, hi => by
    unfold pathF at hi
    split at hi
    · split at hi
      · cases hi
      · rename_i j hj
        rw [List.mem_cons] at hi
        rcases hi with rfl | hi
        · exact h m i hj
        · exact path_mem h f _ i hi
    · cases hi
/-- The signals of phrases, one after the other. -/
def sigsOf (ps : List Phr) (l : List Nat) : List Int := l.flatMap fun i => (ps[i]?.map (·.2)).getD []
theorem sigsOf_snoc {ps : List Phr} {l : List Nat} {i : Nat} {p : Phr} (h : ps[i]? = some p) : sigsOf ps (l ++ [i]) = sigsOf ps l ++ p.2 := by
  unfold sigsOf; rw [List.flatMap_append]; simp [h]
end Go.Proofs.Ytabiobjcfopakaa
/- Plain laws: the two tables of the program's search for the first list of the least cost. -/
namespace Go.Proofs.Ytabiobjcfopakaa
/-- The first of the first j phrases that a test holds for. -/
def fstJ (t : Phr → Bool) (ps : List Phr) (j : Nat) : Option Nat := (ps.take j).findIdx? t
theorem fstJ_old {t : Phr → Bool} {ps : List Phr} {j i : Nat} {p : Phr} (hp : ps[j]? = some p) (h : fstJ t ps j = some i) : fstJ t ps (j + 1) = some i := by
  unfold fstJ at h ⊢; rw [take_snocN hp, List.findIdx?_append, h]; rfl
theorem fstJ_no {t : Phr → Bool} {ps : List Phr} {j : Nat} {p : Phr} (hp : ps[j]? = some p) (h : fstJ t ps j = Option.none) (hf : t p = false) : fstJ t ps (j + 1) = Option.none := by
  unfold fstJ at h ⊢; rw [take_snocN hp, List.findIdx?_append, h]; simp [hf]
theorem fstJ_yes {t : Phr → Bool} {ps : List Phr} {j : Nat} {p : Phr} (hp : ps[j]? = some p) (h : fstJ t ps j = Option.none) (hf : t p = true) : fstJ t ps (j + 1) = some j := by
  have hj := (List.getElem?_eq_some_iff.1 hp).1
  unfold fstJ at h ⊢; rw [take_snocN hp, List.findIdx?_append, h]; simp [hf]; omega
theorem fstJ_end {t : Phr → Bool} {ps : List Phr} : fstJ t ps ps.length = ps.findIdx? t := by unfold fstJ; rw [List.take_length]
end Go.Proofs.Ytabiobjcfopakaa
/- Contracts: the first list of phrases of the least length, of the reference. -/
namespace Go.Proofs.Ytabiobjcfopakaa
open Go.RowKit
theorem waysI_snoc {l : List Nat} {i : Nat} : waysI (l ++ [i]) = waysI l ++ [(i : Int)] := by simp [waysI]
theorem retOwT_from {w w2 wr : World} {v : Value} {xs : List Int} (b : Bool) (h : GrowI w2 w2.heap.size wr v xs) (hb : Below w.heap.size w w2) (hs : w.heap.size ≤ w2.heap.size) : RetOwT xs b w (.returned (.tuple #[v, .bool b])) wr := by
  refine ⟨v, rfl, ⟨⟨h.1.1, ?_⟩, h.own.2⟩, hb.trans (h.2.1.mono hs)⟩
  rcases h.1.2 with hn | ⟨g, cap, cur, rfl, hl, rest⟩
  · exact .inl hn
  · exact .inr ⟨g, cap, cur, rfl, by omega, rest⟩
theorem waysI_len {l : List Nat} : (waysI l).length = l.length := by simp [waysI]
end Go.Proofs.Ytabiobjcfopakaa
/- Plain laws: the phrases that spell letters, as numbers; their signals. -/
namespace Go.Proofs.Ytabiobjcfopakaa
open Go.RowKit
theorem sigsOf_bd {ps : List Phr} (h : bookB ps = true) : ∀ l : List Nat, (sigsOf ps l).length ≤ 3 * l.length
  | [] => by simp [sigsOf]
  | i :: l => by
    have ih := sigsOf_bd h l
    unfold sigsOf at ih ⊢
    rw [List.flatMap_cons, List.length_append, List.length_cons]
    cases e : ps[i]? with
    | none => simp only [Option.map_none, Option.getD_none, List.length_nil]; omega
    | some p =>
      have := (phrOk_sig (bookB_phr h (List.mem_of_getElem? e))).2.1
      simp only [Option.map_some, Option.getD_some]; omega
theorem waysI_at {l : List Nat} {k i : Nat} (h : l[k]? = some i) : (waysI l)[k]? = some (i : Int) := by unfold waysI; rw [List.getElem?_map, h]; rfl
theorem retOwT_pass {w w1 w2 : World} {v : Value} {xs : List Int} {b : Bool} (h : OwI w2 w1.heap.size w2.heap.size v xs) (hb1 : Below w.heap.size w w1) (hb2 : Below w1.heap.size w1 w2) : RetOwT xs b w (.returned (.tuple #[v, .bool b])) w2 :=
  ⟨v, rfl, h.mono hb1.size (Nat.le_refl _), hb1.trans (hb2.mono hb1.size)⟩
end Go.Proofs.Ytabiobjcfopakaa
/- The library's strings.Builder at this dump: its contracts, laid by hand (the numbers of functions and types put in their places). -/
namespace Go.Proofs.Ytabiobjcfopakaa
open Go Go.RowKit
def builderRen : Go.Shelf.Ren := ⟨fun | 166 => 241 | 240 => 256 | 276 => 260 | n => n,
  fun | 70 => 164 | 9 => 9 | 0 => 0 | 72 => 166 | 37 => 22 | 3 => 3 | 4 => 4 | 5 => 5 | 20 => 20 | 75 => 168 | 80 => 171 | 164 => 185 | n => n, fun | n => n⟩
theorem laysBuilder : Go.Proofs.Lays.n166 Try.prog builderRen := {
  mixed := by kernel_rfl
  f166 := Try.func241.trans (congrArg some (by kernel_rfl))
  f240 := Try.func256.trans (congrArg some (by kernel_rfl))
  f276 := Try.func260.trans (congrArg some (by kernel_rfl))
  t0 := Try.underlying0
  a0 := Try.isAgg0
  z0 := Try.sizeOf0
  v0 := Try.zeroValue0
  t3 := Try.underlying3
  a3 := Try.isAgg3
  z3 := Try.sizeOf3
  v3 := Try.zeroValue3
  t4 := Try.underlying4
  a4 := Try.isAgg4
  z4 := Try.sizeOf4
  v4 := Try.zeroValue4
  t9 := Try.underlying9
  a9 := Try.isAgg9
  z9 := Try.sizeOf9
  v9 := Try.zeroValue9
  t20 := Try.underlying20
  a20 := Try.isAgg20
  z20 := Try.sizeOf20
  v20 := Try.zeroValue20
  t37 := Try.underlying22
  a37 := Try.isAgg22
  z37 := Try.sizeOf22
  v37 := Try.zeroValue22
  t70 := Try.underlying164
  a70 := Try.isAgg164
  z70 := Try.sizeOf164
  v70 := Try.zeroValue164
  t72 := Try.underlying166
  a72 := Try.isAgg166
  z72 := Try.sizeOf166
  v72 := Try.zeroValue166
  t75 := Try.underlying168
  a75 := Try.isAgg168
  z75 := Try.sizeOf168
  v75 := Try.zeroValue168
  t164 := Try.underlying185
  a164 := Try.isAgg185
  z164 := Try.sizeOf185
  v164 := Try.zeroValue185 }
theorem builderExtra : Builder.Extra Try.prog builderRen := {
  sizeBuilder := by kernel_rfl
  liesBuilder := by kernel_rfl
  t5 := Try.underlying5
  a5 := Try.isAgg5
  z5 := Try.sizeOf5
  v5 := Try.zeroValue5
  infoByte := by kernel_rfl
  cellsByte := by kernel_rfl
  sizeByte := by kernel_rfl
  neB5 := by decide }
/-- A builder of the call's own that holds the bytes l. -/
def Bld (B b : Nat) (l : List UInt8) (w : World) : Prop := Lib.IsBuilder 166 5 B b (Lib.byteCells l) w
theorem writeString_any (B b : Nat) (l : List UInt8) (s : ByteArray) (w : World) (h : Bld B b l w) (hlen : l.length + s.size ≤ 140737488355328) (hBw : B ≤ w.heap.size) :
    Calls Try.prog 241 #[.pointer (some ⟨b, 0, Option.none⟩), .string s] w fun e w' => e = .returned (.tuple #[.int .i64 s.size, .nilIface]) ∧ Bld B b (l ++ s.data.toList) w' ∧ Below B w w' :=
  (Any.Builder_WriteString laysBuilder builderExtra B b (Lib.byteCells l) s w h (by simpa [Lib.byteCells] using hlen) hBw).mono fun _ _ ⟨he, h1, h2⟩ => ⟨he, by
    unfold Bld
    have e : Lib.byteCells (l ++ s.data.toList) = Lib.byteCells l ++ Lib.strCells s := by simp [Lib.byteCells, Lib.strCells]
    rw [e]; exact .inr h1, h2⟩
end Go.Proofs.Ytabiobjcfopakaa
/- Contracts: the texts of phrases one after the other; of the program and of the reference. -/
namespace Go.Proofs.Ytabiobjcfopakaa
open Go.RowKit
/-- The text of the phrase with a number. -/
def txtOf (ps : List Phr) (y : Int) : List UInt8 := match ps[y.toNat]? with
  | some p => p.1.data.toList
  | Option.none => []
def textL (ps : List Phr) (l : List Int) : List UInt8 := l.flatMap (txtOf ps)
def IxOk (ps : List Phr) (l : List Int) : Prop := ∀ y ∈ l, 0 ≤ y ∧ y < (ps.length : Int)
theorem textL_snoc {ps : List Phr} {l : List Int} {k : Nat} {y : Int} {p : Phr} (h : l[k]? = some y) (hp : ps[y.toNat]? = some p) : textL ps (l.take (k + 1)) = textL ps (l.take k) ++ p.1.data.toList := by
  unfold textL; rw [take_snocN h, List.flatMap_append]; simp [txtOf, hp]
theorem textL_len {ps : List Phr} (hbk : bookB ps = true) (l : List Int) : (textL ps l).length ≤ 12 * l.length := by
  unfold textL
  induction l with
  | nil => simp
  | cons y r ih =>
    rw [List.flatMap_cons, List.length_append, List.length_cons]
    have : (txtOf ps y).length ≤ 12 := by
      unfold txtOf
      cases e : ps[y.toNat]? with
      | none => simp
      | some p => have := phrOk_txt (bookB_phr hbk (List.mem_of_getElem? e)); simpa using this.2.1
    omega
theorem str_app (l : List UInt8) (t : ByteArray) : (⟨l.toArray⟩ : ByteArray) ++ t = ⟨(l ++ t.data.toList).toArray⟩ := by
  rw [ByteArray.ext_iff]; simp
set_option maxHeartbeats 800000 in
theorem spText_any (ps : List Phr) (l : List Int) (v u : Value) (hi hj : Nat) (w : World) (h : RdB w hi v ps) (g : RdI w hj u l) (hh : hi ≤ w.heap.size) (hg : hj ≤ w.heap.size) (hbk : bookB ps = true) (hix : IxOk ps l) (hlen : l.length ≤ 60) :
    Calls Try.prog 180 #[v, u] w fun e w' => e = .returned (.string ⟨(textL ps l).toArray⟩) ∧ Below w.heap.size w w' := by
  obtain ⟨A', c', rfl, hc', hm'⟩ := Rd.form g
  have G := Lib.hid g
  clear g
  obtain ⟨a, rfl, ha⟩ := h
  obtain ⟨A, c, rfl, hc, hm⟩ := ha.form
  have hba : Below w.heap.size w (w.alloc (.cells #[.slice A ps.length c] 48)) := (Below.refl _ _).alloc (Nat.le_refl _) _
  have HB := Lib.hid hba
  have HA := Lib.hid (ha.below hba hh)
  have HG : Hid (RdB (w.alloc (.cells #[.slice A ps.length c] 48)) hi (.agg #[.slice A ps.length c]) ps) := ⟨_, rfl, HA.out⟩
  have hcb0 : (w.alloc (.cells #[.slice A ps.length c] 48)).cell? ⟨w.heap.size, 0, Option.none⟩ = some (.slice A ps.length c) := (Blk.new w 48 #[.slice A ps.length c]).cell 0
  have HCB := Lib.hid hcb0
  have hsz1 : hi ≤ (w.alloc (.cells #[.slice A ps.length c] 48)).heap.size := by simp; omega
  clear ha hba hcb0
  have HBK := Lib.hid hbk
  have HIX := Lib.hid hix
  have G0 := Lib.hid (RdI.below G.out HB.out hg)
  clear hbk hix
  have hcb := HCB.out
  go_enter Try.func180, Try.ntmps180
  go_wp2_with fail
  go_loop [5, 10] (fun q i => ∃ k : Nat, k ≤ l.length ∧ i = .int .i64 k ∧ q = .string ⟨(textL ps (l.take k)).toArray⟩) (fun _ i => l.length - (intOf i).toNat)
  case atStart => exact ⟨0, Nat.zero_le _, rfl, rfl⟩
  case round =>
    obtain ⟨k, hk, rfl, rfl⟩ := hrel
    by_cases hlt : k < l.length
    · obtain ⟨b1, o1, c1, y, hv, hb1, hy, hcell1⟩ := Rd.at_ (G0.out) hlt
      injection hv with hv1 hv2 hv3
      subst hv1
      clear hv2 hv3
      have hyy := HIX.out y (List.mem_of_getElem? hy)
      obtain ⟨b2, o2, c2, a2, t, xs, hv, hb2, hx, hcell2, hcell3, hra, hta⟩ := (HA.out).at_ (show y.toNat < ps.length by omega)
      injection hv with hv1 hv2 hv3
      subst hv1
      clear hv2 hv3
      have hy0 := hyy.1
      have hy1 := hyy.2
      have htl := (phrOk_txt (bookB_phr HBK.out (List.mem_of_getElem? hx))).2.1
      have HY := Lib.hid hy
      have HX := Lib.hid hx
      have htx := textL_len HBK.out (l.take k)
      have htx2 : (textL ps (l.take k)).length ≤ 720 := by rw [List.length_take] at htx; omega
      have htl2 : t.size ≤ 12 := htl
      clear hra hy hx hyy htl htx hcell3
      go_wp2_with fail
      go_round
      case rel => exact ⟨k + 1, by omega, by go_num, by rw [textL_snoc HY.out HX.out, str_app]⟩
      case measure => simp [intOf]; omega
    · obtain rfl : k = l.length := by omega
      go_wp2_with fail
      go_ret
      exact ⟨ret_val (by first | rfl | rw [List.take_of_length_le (Nat.le_refl _)]), HB.out⟩
set_option maxHeartbeats 1600000 in
theorem textOf_any (ps : List Phr) (l : List Int) (v u : Value) (hi hj : Nat) (w : World) (h : RdB w hi v ps) (g : RdI w hj u l) (hh : hi ≤ w.heap.size) (hg : hj ≤ w.heap.size) (hbk : bookB ps = true) (hix : IxOk ps l) (hlen : l.length ≤ 60) :
    Calls Try.prog 179 #[v, u] w fun e w' => e = .returned (.string ⟨(textL ps l).toArray⟩) ∧ Below w.heap.size w w' := by
  obtain ⟨A', c', rfl, hc', hm'⟩ := Rd.form g
  have G := Lib.hid g
  clear g
  obtain ⟨a, rfl, ha⟩ := h
  obtain ⟨A, c, rfl, hc, hm⟩ := ha.form
  have hba : Below w.heap.size w (w.alloc (.cells #[.slice A ps.length c] 48)) := (Below.refl _ _).alloc (Nat.le_refl _) _
  have HB := Lib.hid hba
  have HA := Lib.hid (ha.below hba hh)
  have HG : Hid (RdB (w.alloc (.cells #[.slice A ps.length c] 48)) hi (.agg #[.slice A ps.length c]) ps) := ⟨_, rfl, HA.out⟩
  have hcb0 : (w.alloc (.cells #[.slice A ps.length c] 48)).cell? ⟨w.heap.size, 0, Option.none⟩ = some (.slice A ps.length c) := (Blk.new w 48 #[.slice A ps.length c]).cell 0
  have HCB := Lib.hid hcb0
  have hsz1 : hi ≤ (w.alloc (.cells #[.slice A ps.length c] 48)).heap.size := by simp; omega
  clear ha hba hcb0
  have HBK := Lib.hid hbk
  have HIX := Lib.hid hix
  have G0 := Lib.hid (RdI.below G.out HB.out hg)
  clear hbk hix
  have hfr : Bld (w.heap.size + 1) (w.heap.size + 1) [] ((w.alloc (.cells #[.slice A ps.length c] 48)).alloc (.cells #[.pointer Option.none, .slice Option.none 0 0] 166)) := by
    have := Lib.fresh_isBuilder 166 5 (w.alloc (.cells #[.slice A ps.length c] 48))
    simp only [World.size_alloc] at this
    exact this
  have HFR := Lib.hid hfr
  clear hfr
  have HB1 : Hid (Below (w.heap.size + 1) (w.alloc (.cells #[.slice A ps.length c] 48)) ((w.alloc (.cells #[.slice A ps.length c] 48)).alloc (.cells #[.pointer Option.none, .slice Option.none 0 0] 166))) := (Below.refl _ _).alloc (by simp) _
  go_enter Try.func179, Try.ntmps179
  go_wp2_with fail
  go_loopw [10] (fun i wr => ∃ k : Nat, k ≤ l.length ∧ i = .int .i64 k ∧ Hid (Bld (w.heap.size + 1) (w.heap.size + 1) (textL ps (l.take k)) wr) ∧ Below (w.heap.size + 1) (w.alloc (.cells #[.slice A ps.length c] 48)) wr) (fun i _ => l.length - (intOf i).toNat)
  case atStart => exact ⟨0, Nat.zero_le _, rfl, HFR.out, HB1.out⟩
  case round =>
    obtain ⟨k, hk, rfl, hbld, hbr⟩ := hrel
    have hs : w.heap.size + 1 ≤ wr.heap.size := by have := hbr.size; simpa using this
    have hboxr := (hbr.cell (p := ⟨w.heap.size, 0, Option.none⟩) (by show w.heap.size < _; omega)).trans HCB.out
    by_cases hlt : k < l.length
    · obtain ⟨b1, o1, c1, y, hv, hb1, hy, hcell1⟩ := Rd.at_ (G0.out.below hbr (by omega)) hlt
      injection hv with hv1 hv2 hv3
      subst hv1
      clear hv2 hv3
      have hyy := HIX.out y (List.mem_of_getElem? hy)
      obtain ⟨b2, o2, c2, a2, t, xs, hv, hb2, hx, hcell2, hcell3, hra, hta⟩ := (HA.out.below hbr (by omega)).at_ (show y.toNat < ps.length by omega)
      injection hv with hv1 hv2 hv3
      subst hv1
      clear hv2 hv3
      have hy0 := hyy.1
      have hy1 := hyy.2
      have htl := (phrOk_txt (bookB_phr HBK.out (List.mem_of_getElem? hx))).2.1
      have HY := Lib.hid hy
      have HX := Lib.hid hx
      have htx := textL_len HBK.out (l.take k)
      have htx2 : (textL ps (l.take k)).length ≤ 720 := by rw [List.length_take] at htx; omega
      have htl2 : t.size ≤ 12 := htl
      clear hra hy hx hyy htl htx hcell3
      have HBR := Lib.hid hbr
      clear hbr
      go_wp2_with fail
      refine (writeString_any (w.heap.size + 1) (w.heap.size + 1) (textL ps (l.take k)) t _ hbld.out (by omega) (by omega)).mono ?_
      rintro e w2 ⟨rfl, hb2, hbe⟩
      have HBL := Lib.hid hb2
      have HBE := Lib.hid (HBR.out.trans hbe)
      clear hb2 hbe
      go_wp2_with fail
      go_roundw
      case rel => exact ⟨k + 1, by omega, by go_num, by rw [textL_snoc HY.out HX.out]; exact HBL.out, HBE.out⟩
      case measure => simp [intOf]; omega
    · obtain rfl : k = l.length := by omega
      have HBR := Lib.hid hbr
      clear hbr
      go_wp2_with fail
      refine (Try.Builder_String_any (w.heap.size + 1) (w.heap.size + 1) (textL ps (l.take l.length)) _ hbld.out (by omega)).mono ?_
      rintro e w2 ⟨rfl, hb2⟩
      have HB2 := Lib.hid hb2
      clear hb2
      go_wp2_with fail
      go_ret
      exact ⟨ret_val (by first | rfl | rw [List.take_of_length_le (Nat.le_refl _)]), HB.out.trans ((HBR.out.mono (by omega)).trans (HB2.out.mono (by omega)))⟩
def ixB (ps : List Phr) (l : List Int) : Bool := decide (l.length ≤ 40) && allB l 0 ((ps.length : Int) - 1)
theorem ixB_ok {ps : List Phr} {l : List Int} (h : ixB ps l = true) : IxOk ps l ∧ l.length ≤ 40 := by
  unfold ixB allB at h
  rw [Bool.and_eq_true, decide_eq_true_eq, List.all_eq_true] at h
  exact ⟨fun y hy => by have := inB_iff.1 (h.2 y hy); omega, h.1⟩
def txtsV (ps : List Phr) (l : List Int) : Value := if bookB ps && ixB ps l then .tuple #[.string ⟨(textL ps l).toArray⟩, .bool true] else .tuple #[.string ⟨#[]⟩, .bool false]
theorem txtsV_form (ps : List Phr) (l : List Int) : ∃ p q, txtsV ps l = .tuple #[.string p, .bool q] := by unfold txtsV; split <;> exact ⟨_, _, rfl⟩
set_option maxHeartbeats 1600000 in
theorem sTextOfPhrases_any (ps : List Phr) (l : List Int) (v u : Value) (hi hj : Nat) (w : World) (h : RdB w hi v ps) (g : RdI w hj u l) (hh : hi ≤ w.heap.size) (hg : hj ≤ w.heap.size) :
    Calls Try.prog 81 #[v, u] w fun e w' => e = .returned (txtsV ps l) ∧ Below w.heap.size w w' := by
  obtain ⟨A', c', rfl, hc', hm'⟩ := Rd.form g
  have G := Lib.hid g
  clear g
  obtain ⟨a, rfl, ha⟩ := h
  obtain ⟨A, c, rfl, hc, hm⟩ := ha.form
  have hba : Below w.heap.size w (w.alloc (.cells #[.slice A ps.length c] 48)) := (Below.refl _ _).alloc (Nat.le_refl _) _
  have HB := Lib.hid hba
  have HA := Lib.hid (ha.below hba hh)
  have HG : Hid (RdB (w.alloc (.cells #[.slice A ps.length c] 48)) hi (.agg #[.slice A ps.length c]) ps) := ⟨_, rfl, HA.out⟩
  have hcb0 : (w.alloc (.cells #[.slice A ps.length c] 48)).cell? ⟨w.heap.size, 0, Option.none⟩ = some (.slice A ps.length c) := (Blk.new w 48 #[.slice A ps.length c]).cell 0
  have HCB := Lib.hid hcb0
  have hsz1 : hi ≤ (w.alloc (.cells #[.slice A ps.length c] 48)).heap.size := by simp; omega
  clear ha hba hcb0
  have cB := bkGood_any ps (.agg #[.slice A ps.length c]) hi (w.alloc (.cells #[.slice A ps.length c] 48)) HG.out hsz1
  cases hbk : bookB ps
  · rw [hbk] at cB
    have CB := Lib.hid cB
    clear cB
    go_enter Try.func81, Try.ntmps81
    go_wp2_with (go_at_call 134; refine CB.out.mono ?_; rintro e w1 ⟨rfl, hb1⟩)
    go_ret2
    exact ⟨ret_val (by unfold txtsV; rw [hbk]; rfl), HB.out.trans (hb1.mono (by simp))⟩
  · rw [hbk] at cB
    have CB := Lib.hid cB
    have HBK := Lib.hid hbk
    clear cB
    have hlen := bookB_len hbk
    have hlen1 := hlen.2
    have hlen0 := hlen.1
    clear hlen hbk
    go_enter Try.func81, Try.ntmps81
    go_wp2_with fail
    refine CB.out.mono ?_
    rintro e w1 ⟨rfl, hb1⟩
    have hcb := (hb1.cell (p := ⟨w.heap.size, 0, Option.none⟩) (by simp)).trans HCB.out
    have hs1 : w.heap.size + 1 ≤ w1.heap.size := by have := hb1.size; simpa using this
    have HA1 := Lib.hid (HA.out.below hb1 hsz1)
    have HG1 : Hid (RdB w1 hi (.agg #[.slice A ps.length c]) ps) := ⟨_, rfl, HA1.out⟩
    have HB1 := Lib.hid (HB.out.trans (hb1.mono (by simp)))
    clear hb1
    have G1 := Lib.hid (RdI.below G.out HB1.out (by omega))
    by_cases h40 : l.length ≤ 40
    · have H40 := Lib.hid h40
      have h40i : ¬ (40 : Int) < (l.length : Int) := by omega
      have cA := l1All_any l 0 ((ps.length : Int) - 1) _ hj w1 G1.out
      cases hal : allB l 0 ((ps.length : Int) - 1)
      · rw [hal] at cA
        have CA := Lib.hid cA
        have HX : Hid (ixB ps l = false) := by show ixB ps l = false; unfold ixB; rw [hal, Bool.and_false]
        clear cA hal
        go_wp2_with (go_at_call 184; refine (CA.out).mono ?_; rintro e w' ⟨rfl, rfl⟩)
        go_ret2
        exact ⟨ret_val (by unfold txtsV; rw [HX.out]; simp), HB1.out⟩
      · rw [hal] at cA
        have CA := Lib.hid cA
        have hx : ixB ps l = true := by unfold ixB; rw [hal, decide_eq_true H40.out]; rfl
        have HX := Lib.hid hx
        have cT := spText_any ps l (.agg #[.slice A ps.length c]) _ hi hj w1 HG1.out G1.out (by omega) (by omega) HBK.out (ixB_ok hx).1 (by omega)
        have CT := Lib.hid cT
        clear cA hal hx cT
        go_wp2_with (go_at_call 184; refine (CA.out).mono ?_; rintro e w' ⟨rfl, rfl⟩)
        refine CT.out.mono ?_
        rintro e w2 ⟨rfl, hb2⟩
        have HB2 := Lib.hid (HB1.out.trans (hb2.mono (by omega)))
        clear hb2
        go_wp2_with fail
        go_ret2
        exact ⟨ret_val (by unfold txtsV; rw [HX.out, HBK.out]; simp), HB2.out⟩
    · have HX : Hid (ixB ps l = false) := by show ixB ps l = false; unfold ixB; rw [decide_eq_false h40]; rfl
      have h40i : (40 : Int) < (l.length : Int) := by omega
      go_wp2_with fail
      go_ret2
      exact ⟨ret_val (by unfold txtsV; rw [HX.out]; simp), HB1.out⟩
set_option maxHeartbeats 1600000 in
theorem TextOfPhrases_any (ps : List Phr) (l : List Int) (v u : Value) (hi hj : Nat) (w : World) (h : RdB w hi v ps) (g : RdI w hj u l) (hh : hi ≤ w.heap.size) (hg : hj ≤ w.heap.size) :
    Calls Try.prog 79 #[v, u] w fun e w' => e = .returned (txtsV ps l) ∧ Below w.heap.size w w' := by
  obtain ⟨A', c', rfl, hc', hm'⟩ := Rd.form g
  have G := Lib.hid g
  clear g
  obtain ⟨a, rfl, ha⟩ := h
  obtain ⟨A, c, rfl, hc, hm⟩ := ha.form
  have hba : Below w.heap.size w (w.alloc (.cells #[.slice A ps.length c] 48)) := (Below.refl _ _).alloc (Nat.le_refl _) _
  have HB := Lib.hid hba
  have HA := Lib.hid (ha.below hba hh)
  have HG : Hid (RdB (w.alloc (.cells #[.slice A ps.length c] 48)) hi (.agg #[.slice A ps.length c]) ps) := ⟨_, rfl, HA.out⟩
  have hcb0 : (w.alloc (.cells #[.slice A ps.length c] 48)).cell? ⟨w.heap.size, 0, Option.none⟩ = some (.slice A ps.length c) := (Blk.new w 48 #[.slice A ps.length c]).cell 0
  have HCB := Lib.hid hcb0
  have hsz1 : hi ≤ (w.alloc (.cells #[.slice A ps.length c] 48)).heap.size := by simp; omega
  clear ha hba hcb0
  have cB := IsBook_any ps (.agg #[.slice A ps.length c]) hi (w.alloc (.cells #[.slice A ps.length c] 48)) HG.out hsz1
  cases hbk : bookB ps
  · rw [hbk] at cB
    have CB := Lib.hid cB
    clear cB
    go_enter Try.func79, Try.ntmps79
    go_wp2_with (go_at_call 137; refine CB.out.mono ?_; rintro e w1 ⟨rfl, hb1⟩)
    go_ret2
    exact ⟨ret_val (by unfold txtsV; rw [hbk]; rfl), HB.out.trans (hb1.mono (by simp))⟩
  · rw [hbk] at cB
    have CB := Lib.hid cB
    have HBK := Lib.hid hbk
    clear cB
    have hlen := bookB_len hbk
    have hlen1 := hlen.2
    have hlen0 := hlen.1
    clear hlen hbk
    go_enter Try.func79, Try.ntmps79
    go_wp2_with fail
    refine CB.out.mono ?_
    rintro e w1 ⟨rfl, hb1⟩
    have hcb := (hb1.cell (p := ⟨w.heap.size, 0, Option.none⟩) (by simp)).trans HCB.out
    have hs1 : w.heap.size + 1 ≤ w1.heap.size := by have := hb1.size; simpa using this
    have HA1 := Lib.hid (HA.out.below hb1 hsz1)
    have HG1 : Hid (RdB w1 hi (.agg #[.slice A ps.length c]) ps) := ⟨_, rfl, HA1.out⟩
    have HB1 := Lib.hid (HB.out.trans (hb1.mono (by simp)))
    clear hb1
    have G1 := Lib.hid (RdI.below G.out HB1.out (by omega))
    by_cases h40 : l.length ≤ 40
    · have H40 := Lib.hid h40
      have h40i : ¬ (40 : Int) < (l.length : Int) := by omega
      have cA := allWithin_any l 0 ((ps.length : Int) - 1) _ hj w1 G1.out
      cases hal : allB l 0 ((ps.length : Int) - 1)
      · rw [hal] at cA
        have CA := Lib.hid cA
        have HX : Hid (ixB ps l = false) := by show ixB ps l = false; unfold ixB; rw [hal, Bool.and_false]
        clear cA hal
        go_wp2_with (go_at_call 181; refine (CA.out).mono ?_; rintro e w' ⟨rfl, rfl⟩)
        go_ret2
        exact ⟨ret_val (by unfold txtsV; rw [HX.out]; simp), HB1.out⟩
      · rw [hal] at cA
        have CA := Lib.hid cA
        have hx : ixB ps l = true := by unfold ixB; rw [hal, decide_eq_true H40.out]; rfl
        have HX := Lib.hid hx
        have cT := textOf_any ps l (.agg #[.slice A ps.length c]) _ hi hj w1 HG1.out G1.out (by omega) (by omega) HBK.out (ixB_ok hx).1 (by omega)
        have CT := Lib.hid cT
        clear cA hal hx cT
        go_wp2_with (go_at_call 181; refine (CA.out).mono ?_; rintro e w' ⟨rfl, rfl⟩)
        refine CT.out.mono ?_
        rintro e w2 ⟨rfl, hb2⟩
        have HB2 := Lib.hid (HB1.out.trans (hb2.mono (by omega)))
        clear hb2
        go_wp2_with fail
        go_ret2
        exact ⟨ret_val (by unfold txtsV; rw [HX.out, HBK.out]; simp), HB2.out⟩
    · have HX : Hid (ixB ps l = false) := by show ixB ps l = false; unfold ixB; rw [decide_eq_false h40]; rfl
      have h40i : (40 : Int) < (l.length : Int) := by omega
      go_wp2_with fail
      go_ret2
      exact ⟨ret_val (by unfold txtsV; rw [HX.out]; simp), HB1.out⟩
end Go.Proofs.Ytabiobjcfopakaa
/- Plain laws: letters one by one; the first reading; the rests of phrases. -/
namespace Go.Proofs.Ytabiobjcfopakaa
open Go.RowKit
/-- The first reading. -/
def tbS (ps : List Phr) (sig : List Int) : List Nat := dpW (fitS sig) sigLen ps sig.length sig.length
def pathR (ps : List Phr) (sig : List Int) : List Nat := pathF sig.length (nextW (fitS sig) sigLen ps (tbS ps sig)) (lnOf sigLen ps) sig.length 0
def readN (ps : List Phr) (sig : List Int) : List Nat := if 0 < cntS ps sig then pathR ps sig else []
def readQ (ps : List Phr) (sig : List Int) : Bool := decide (0 < cntS ps sig)
abbrev PathR (ps : List Phr) (sig : List Int) (l : List Nat) (m : Nat) : Prop := PathTo sig.length (nextW (fitS sig) sigLen ps (tbS ps sig)) (lnOf sigLen ps) l m
theorem nextW_lt {fit : Nat → Phr → Bool} {len : Phr → Nat} {ps : List Phr} {tb : List Nat} {m i : Nat} (h : nextW fit len ps tb m = some i) : i < ps.length := by
  unfold nextW at h
  rw [List.findIdx?_eq_some_iff_getElem] at h
  obtain ⟨hi, _⟩ := h
  exact hi
theorem readN_lt (ps : List Phr) (sig : List Int) : ∀ i ∈ readN ps sig, i < ps.length := by
  unfold readN
  split
  · intro i hi
    exact path_mem (P := fun i => i < ps.length) (fun m i h => nextW_lt h) _ _ i hi
  · intro i hi; cases hi
theorem readN_len (ps : List Phr) (sig : List Int) : (readN ps sig).length ≤ sig.length := by
  unfold readN
  split
  · exact pathF_len _ _
  · simp
theorem fitS_hyp {ps : List Phr} (h : bookB ps = true) (sig : List Int) (m : Nat) : ∀ p ∈ ps, fitS sig m p = true → 1 ≤ sigLen p := fun _ hp _ => (phrOk_sig (bookB_phr h hp)).1
theorem fitS_le {sig : List Int} {m : Nat} {p : Phr} (h : fitS sig m p = true) (hp : 1 ≤ p.2.length) : m + p.2.length ≤ sig.length := by
  unfold fitS at h
  rw [begB_iff] at h
  have := h.length_le
  rw [List.length_drop] at this
  omega
theorem ixok_of {ps : List Phr} {l : List Nat} (h : ∀ i ∈ l, i < ps.length) : IxOk ps (waysI l) := by
  intro y hy
  unfold waysI at hy
  rw [List.mem_map] at hy
  obtain ⟨i, hi, rfl⟩ := hy
  have := h i hi
  exact ⟨by omega, by omega⟩
end Go.Proofs.Ytabiobjcfopakaa
