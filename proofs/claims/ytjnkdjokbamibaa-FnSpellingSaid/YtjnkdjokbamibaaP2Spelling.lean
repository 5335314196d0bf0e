/- Texts of one claim, joined: D5, D6, D8, E2, E3, E4, E5, E10. -/
import Derived.Shelf.GgClosure.Gives
import Derived.Test.YtjnkdjokbamibaaShelf
import Derived.StillTailTactics
import Derived.Test.YtjnkdjokbamibaaP1Spelling
/- Contracts of the tests whether a book is valid, of the program; of the search for a phrase by a predicate. -/
namespace Go.Proofs.Ytjnkdjokbamibaa
open Go.RowKit
theorem zipC_take : ∀ (ts : List ByteArray) (us : List Value) (k : Nat), (zipC ts us).take (k * 2) = zipC (ts.take k) (us.take k)
  | [], us, k => by simp [zipC]
  | t :: ts, [], k => by simp [zipC]
  | t :: ts, u :: us, 0 => by simp [zipC]
  | t :: ts, u :: us, k + 1 => by simp only [zipC, List.take_succ_cons, show (k + 1) * 2 = k * 2 + 1 + 1 by omega, zipC_take ts us k]
theorem RowsR.take {w : World} {hi : Nat} {us : List Value} {xss : List (List Int)} (h : RowsR w hi us xss) (k : Nat) : RowsR w hi (us.take k) (xss.take k) := by
  refine ⟨by simp [h.1], fun i u xs hu hx => ?_⟩
  rw [List.getElem?_take] at hu hx
  split at hu
  · rename_i hlt; rw [if_pos hlt] at hx; exact h.2 i u xs hu hx
  · cases hu
theorem RdPS.cut {w : World} {hi n c : Nat} {A : Option Addr} {ps : List Phr} (h : RdPS w hi (.slice A n c) ps) {k : Nat} (hk : k ≤ ps.length) : RdPS w hi (.slice A k c) (ps.take k) := by
  obtain ⟨us, h1, ⟨h0, A', c', hv, h2, h3, h4⟩, ht⟩ := h
  cases hv
  refine ⟨us.take k, ?_, ⟨?_, A, c, ?_, ?_, h3, fun hp => ?_⟩, fun p hp => ht p (List.mem_of_mem_take hp)⟩
  · have := h1.take k; unfold sigs at *; rwa [← List.map_take] at this
  · have e := zipC_take (txts ps) us k
    unfold txts at *
    rw [← List.map_take] at e
    rw [← e, List.length_take, h0, List.length_take]; omega
  · rw [List.length_take]; congr 1; omega
  · rw [List.length_take]; omega
  · obtain ⟨b, off, hA, hb, hc⟩ := h4 (by rw [List.length_take] at hp; omega)
    refine ⟨b, off, hA, hb, fun j u hu => hc j u ?_⟩
    have e := zipC_take (txts ps) us k
    unfold txts at *
    rw [← List.map_take] at e
    rw [← e, List.getElem?_take] at hu
    split at hu
    · exact hu
    · cases hu
/-- What is asked of a predicate on phrases. -/
def PredP (g : Nat) (lb : Array Value) (hi : Nat) (p : Phr → Bool) (w : World) : Prop :=
  ∀ (W : World) (x : Phr) (u : Value), Below w.heap.size w W → RdI W hi u x.2 → x.1.size ≤ 9223372036854775807 → Calls Try.prog g (#[.agg #[.string x.1, u]] ++ lb) W fun e w' => e = .returned (.bool (p x)) ∧ Below W.heap.size W w'
set_option maxHeartbeats 800000 in
theorem indexP_any (ps : List Phr) (v : Value) (hi : Nat) (w : World) (g : Nat) (lb : Array Value) (p : Phr → Bool) (h : RdPS w hi v ps) (hh : hi ≤ w.heap.size) (hp : PredP g lb hi p w)
    (eg : ∀ args w, (callFunc g args).run Try.prog w = .ok (.enter g args) w) :
    Calls Try.prog 124 #[v, .func (.func g) #[] lb] w fun e w' => e = .returned (.int .i64 (ixI (ps.findIdx? p))) ∧ Below w.heap.size w w' := by
  obtain ⟨A, c, rfl, hc, hm⟩ := h.form
  have H := Lib.hid h
  have HP := Lib.hid hp
  clear h hp
  go_enter Try.func124, Try.ntmps124
  go_wp2
  go_loopw [8] (fun i wr => ∃ k : Nat, k ≤ ps.length ∧ i = .int .i64 k ∧ Hid (∀ j, j < k → ∀ x, ps[j]? = some x → p x = false) ∧ Below w.heap.size w wr) (fun i _ => ps.length - (intOf i).toNat)
  case atStart => exact ⟨0, Nat.zero_le _, rfl, fun j hj => by omega, Below.refl _ _⟩
  case round =>
    obtain ⟨k, hk, rfl, hno, hbr⟩ := hrel
    by_cases hlt : k < ps.length
    · obtain ⟨b1, o1, c1, a, t, xs, hv, _, hx, hcell1, hcell2, hra, hts⟩ := (H.out.below hbr hh).at_ hlt
      cases hv
      obtain ⟨A2, c2, rfl, hc2, hm2⟩ := Rd.form hra
      have hcall := HP.out wr (t, xs) _ hbr hra hts
      have HX := Lib.hid hx
      have hs := hbr.size
      have HBR := Lib.hid hbr
      clear hra hx hbr
      cases hq : p (t, xs)
      · have HQ := Lib.hid hq
        rw [hq] at hcall
        clear hq
        have HC := Lib.hid hcall
        clear hcall
        go_wp2_with (go_at_fn g; refine HC.out.mono ?_; rintro e w' ⟨rfl, hb'⟩)
        go_roundw
        case rel => exact ⟨k + 1, by omega, by go_num, fun j hj x hx => by
          by_cases e : j = k
          · subst e; rw [HX.out] at hx; cases hx; exact HQ.out
          · exact hno.out j (by omega) x hx, HBR.out.trans (hb'.mono hs)⟩
        case measure => simp [intOf]; omega
      · have HQ := Lib.hid hq
        rw [hq] at hcall
        clear hq
        have HC := Lib.hid hcall
        clear hcall
        go_wp2_with (go_at_fn g; refine HC.out.mono ?_; rintro e w' ⟨rfl, hb'⟩)
        go_ret
        refine ⟨ret_int ?_, HBR.out.trans (hb'.mono hs)⟩
        rw [findIdx_take (fun j hj x hx => hno.out j hj x hx) HX.out HQ.out]
        rfl
    · obtain rfl : k = ps.length := by omega
      go_wp2_with fail
      go_ret
      refine ⟨ret_int ?_, hbr⟩
      rw [findIdx_none (fun j x hx => hno.out j (List.getElem?_eq_some_iff.1 hx).1 x hx)]
      rfl
theorem phraseIndex1_any (x : Phr) (ys : List Int) (u s : Value) (B hi hj : Nat) (w : World) (h : RdI w hi u x.2) (g : RdI w hj s ys) (hh : hi ≤ w.heap.size) (hg : hj ≤ w.heap.size) (hB : B < w.heap.size) (hc : w.cell? ⟨B, 0, Option.none⟩ = some s) :
    Calls Try.prog 150 #[.agg #[.string x.1, u], .pointer (some ⟨B, 0, Option.none⟩)] w fun e w' => e = .returned (.bool (decide (x.2 = ys))) ∧ Below w.heap.size w w' := by
  obtain ⟨A, c, rfl, hc1, hm⟩ := Rd.form h
  obtain ⟨A', c', rfl, hc2, hm'⟩ := Rd.form g
  have hba : Below w.heap.size w (w.alloc (.cells #[.string x.1, .slice A x.2.length c] 40)) := (Below.refl _ _).alloc (Nat.le_refl _) _
  have H := Lib.hid (RdI.below h hba hh)
  have G := Lib.hid (RdI.below g hba hg)
  clear h g
  go_enter Try.func150, Try.ntmps150
  go_wp2_with fail
  refine (slicesEqual_any x.2 ys _ _ hi hj _ H.out G.out).mono ?_
  rintro e w' ⟨rfl, n, rfl⟩
  go_wp2_with fail
  go_ret
  exact ⟨rfl, hba.trans (bel_drewN _ _ _)⟩
theorem phraseIndex_any (ps : List Phr) (xs : List Int) (v u : Value) (hi hj : Nat) (w : World) (h : RdB w hi v ps) (g : RdI w hj u xs) (hh : hi ≤ w.heap.size) (hg : hj ≤ w.heap.size) :
    Calls Try.prog 129 #[v, u] w fun e w' => e = .returned (.int .i64 (ixI (sigIx ps xs))) ∧ Below w.heap.size w w' := by
  obtain ⟨a, rfl, ha⟩ := h
  obtain ⟨A, c, rfl, hc, hm⟩ := ha.form
  obtain ⟨A', c', rfl, hc', hm'⟩ := Rd.form g
  have hba : Below w.heap.size w ((w.alloc (.cells #[.slice A ps.length c] 28)).alloc (.cells #[.slice A' xs.length c'] 35)) := ((Below.refl _ _).alloc (Nat.le_refl _) _).alloc (by simp) _
  have H := Lib.hid (ha.below hba hh)
  have G := Lib.hid (RdI.below g hba hg)
  clear ha g
  have HB := Lib.hid hba
  clear hba
  have hcap : ((w.alloc (.cells #[.slice A ps.length c] 28)).alloc (.cells #[.slice A' xs.length c'] 35)).cell? ⟨w.heap.size + 1, 0, Option.none⟩ = some (.slice A' xs.length c') := by
    have := (Blk.new (w.alloc (.cells #[.slice A ps.length c] 28)) 35 #[.slice A' xs.length c']).cell 0
    simp at this ⊢
  have hpred : PredP 150 #[.pointer (some ⟨w.heap.size + 1, 0, Option.none⟩)] hi (fun p => decide (p.2 = xs)) ((w.alloc (.cells #[.slice A ps.length c] 28)).alloc (.cells #[.slice A' xs.length c'] 35)) := by
    intro W x u hb hu _
    have hs := hb.size
    have h2 : ((w.alloc (.cells #[.slice A ps.length c] 28)).alloc (.cells #[.slice A' xs.length c'] 35)).heap.size = w.heap.size + 1 + 1 := by simp
    refine phraseIndex1_any x xs u (.slice A' xs.length c') (w.heap.size + 1) hi hj W hu (RdI.below G.out hb (by omega)) (by omega) (by omega) (by omega) ?_
    exact (hb.cell (p := ⟨w.heap.size + 1, 0, Option.none⟩) (by show w.heap.size + 1 < _; omega)).trans hcap
  have HPR := Lib.hid hpred
  have HC := Lib.hid (indexP_any ps _ hi _ _ _ _ H.out (by simp; omega) HPR.out (enters_of Try.func150 (by kernel_rfl) rfl))
  clear hpred hcap
  go_enter Try.func129, Try.ntmps129
  go_wp2_with fail
  refine HC.out.mono ?_
  rintro e w' ⟨rfl, hb'⟩
  go_wp2_with fail
  go_ret
  exact ⟨rfl, HB.out.trans (hb'.mono (by simp; omega))⟩
set_option maxHeartbeats 400000 in
theorem isPhrase_any (p : Phr) (v : Value) (hi : Nat) (w : World) (h : RdP w hi v p) (hh : hi ≤ w.heap.size) : Calls Try.prog 72 #[v] w fun e w' => e = .returned (.bool (phrOk p)) ∧ Below w.heap.size w w' := by
  obtain ⟨u, rfl, hu, ht⟩ := h
  obtain ⟨A, c, rfl, hc, hm⟩ := Rd.form hu
  have hba : Below w.heap.size w (w.alloc (.cells #[.string p.1, .slice A p.2.length c] 40)) := (Below.refl _ _).alloc (Nat.le_refl _) _
  have H := Lib.hid (RdI.below hu hba hh)
  clear hu
  have cT := IsPhraseText_any p.1 (by unfold maxLen; omega)
  have cA := allWithin_any p.2 1 60 (.slice A p.2.length c) hi _ H.out
  unfold phrOk sigOk
  cases h1 : phraseB p.1.data.toList
  · rw [h1] at cT
    have CT := Lib.hid cT
    clear cT cA
    go_enter Try.func72, Try.ntmps72
    go_wp2_with (go_at_call 123; refine (CT.out _).mono ?_; rintro e w' ⟨rfl, rfl⟩)
    go_ret
    exact ⟨rfl, hba⟩
  · rw [h1] at cT
    cases h2 : inB p.2.length 1 3
    · have CT := Lib.hid cT
      clear cT cA
      go_enter Try.func72, Try.ntmps72
      go_wp2_with (first | (go_at_call 123; refine (CT.out _).mono ?_; rintro e w' ⟨rfl, rfl⟩) | (go_at_call 128; refine (within_any _ _ _ _).mono ?_; rintro e w' ⟨rfl, rfl⟩))
      go_ret
      exact ⟨rfl, hba⟩
    · have CT := Lib.hid cT
      have CA := Lib.hid cA
      clear cT cA
      go_enter Try.func72, Try.ntmps72
      go_wp2_with (first | (go_at_call 123; refine (CT.out _).mono ?_; rintro e w' ⟨rfl, rfl⟩) | (go_at_call 128; refine (within_any _ _ _ _).mono ?_; rintro e w' ⟨rfl, rfl⟩) | (go_at_call 87; refine (CA.out).mono ?_; rintro e w' ⟨rfl, rfl⟩))
      go_ret
      exact ⟨rfl, hba⟩
theorem sigIx_take {ps : List Phr} {k : Nat} {p : Phr} (hp : ps[k]? = some p) : sigIx ps p.2 = some k ↔ sigIx (ps.take k) p.2 = Option.none := by
  unfold sigIx
  have hk := (List.getElem?_eq_some_iff.1 hp).1
  constructor
  · intro h
    rw [List.findIdx?_eq_none_iff]
    intro x hx
    rw [List.findIdx?_eq_some_iff_getElem] at h
    obtain ⟨_, _, h3⟩ := h
    obtain ⟨j, hj⟩ := List.getElem?_of_mem hx
    rw [List.getElem?_take] at hj
    split at hj
    · rename_i hlt
      have := h3 j hlt
      have e := (List.getElem?_eq_some_iff.1 hj).2
      rw [← e]; simpa using this
    · cases hj
  · intro h
    rw [List.findIdx?_eq_none_iff] at h
    refine findIdx_take (fun j hj x hx => h x ?_) hp (by simp)
    exact List.mem_of_getElem? (by rw [List.getElem?_take, if_pos hj]; exact hx)
theorem ixI_nonneg {o : Option Nat} : (0 ≤ ixI o) ↔ o ≠ Option.none := by cases o <;> simp [ixI]
end Go.Proofs.Ytjnkdjokbamibaa
/- Contracts of the tests whether a book is valid, of the program. -/
namespace Go.Proofs.Ytjnkdjokbamibaa
open Go.RowKit
set_option maxRecDepth 100000 in
set_option maxHeartbeats 4000000 in
theorem IsBook_any (ps : List Phr) (v : Value) (hi : Nat) (w : World) (h : RdB w hi v ps) (hh : hi ≤ w.heap.size) :
    Calls Try.prog 71 #[v] w fun e w' => e = .returned (.bool (bookB ps)) ∧ Below w.heap.size w w' := by
  obtain ⟨a, rfl, ha⟩ := h
  obtain ⟨A, c, rfl, hc, hm⟩ := ha.form
  have hba : Below w.heap.size w (w.alloc (.cells #[.slice A ps.length c] 28)) := (Below.refl _ _).alloc (Nat.le_refl _) _
  have HBA := Lib.hid hba
  have H := Lib.hid (ha.below hba hh)
  have hbox : (w.alloc (.cells #[.slice A ps.length c] 28)).cell? ⟨w.heap.size, 0, Option.none⟩ = some (.slice A ps.length c) := (Blk.new w 28 #[.slice A ps.length c]).cell 0
  have HBOX := Lib.hid hbox
  clear ha hba hbox
  cases hl40 : inB ps.length 1 40
  · go_enter Try.func71, Try.ntmps71
    go_wp2_with (go_at_call 128; refine (within_any _ _ _ _).mono ?_; rintro e w' ⟨rfl, rfl⟩)
    go_ret
    exact ⟨ret_bool (by unfold bookB; rw [hl40]; rfl), HBA.out⟩
  go_enter Try.func71, Try.ntmps71
  go_wp2_with (go_at_call 128; refine (within_any _ _ _ _).mono ?_; rintro e w' ⟨rfl, rfl⟩)
  go_loopw [13] (fun i wr => ∃ k : Nat, k ≤ ps.length ∧ i = .int .i64 k ∧ Hid (∀ j, j < k → goodAt ps j = true) ∧ Below (w.heap.size + 1) (w.alloc (.cells #[.slice A ps.length c] 28)) wr) (fun i _ => ps.length - (intOf i).toNat)
  case atStart => exact ⟨0, Nat.zero_le _, rfl, fun j hj => by omega, Below.refl _ _⟩
  case round =>
    obtain ⟨k, hk, rfl, hup, hbr⟩ := hrel
    have hs : w.heap.size + 1 ≤ wr.heap.size := by have := hbr.size; simpa using this
    have hboxr : wr.cell? ⟨w.heap.size, 0, Option.none⟩ = some (.slice A ps.length c) := (hbr.cell (p := ⟨w.heap.size, 0, Option.none⟩) (by show w.heap.size < _; omega)).trans HBOX.out
    by_cases hlt : k < ps.length
    · obtain ⟨b1, o1, c1, a, t, xs, hv, hb1, hx, hcell1, hcell2, hra, hta⟩ := (H.out.below hbr (by omega)).at_ hlt
      cases hv
      obtain ⟨A2, c2, rfl, hc2, hm2⟩ := Rd.form hra
      have HX := Lib.hid hx
      have HBR := Lib.hid (HBA.out.trans (hbr.mono (by omega)))
      have hbw1 : Below (w.heap.size + 1) (w.alloc (.cells #[.slice (some ⟨b1, o1, Option.none⟩) ps.length c] 28)) (wr.alloc (.cells #[.string t, .slice A2 xs.length c2] 40)) := hbr.alloc hs _
      have HBR2 := Lib.hid hbw1
      have hra2 := hra.below ((Below.refl wr.heap.size wr).alloc (Nat.le_refl _) (.cells #[.string t, .slice A2 xs.length c2] 40)) (by omega)
      have HRA := Lib.hid hra2
      have HPS : Hid (RdB (wr.alloc (.cells #[.string t, .slice A2 xs.length c2] 40)) hi (.agg #[.slice (some ⟨b1, o1, Option.none⟩) ps.length c]) ps) := ⟨_, rfl, H.out.below hbw1 (by omega)⟩
      have HPQ : Hid (RdPS (wr.alloc (.cells #[.string t, .slice A2 xs.length c2] 40)) hi (.slice (some ⟨b1, o1, Option.none⟩) ps.length c) ps) := H.out.below hbw1 (by omega)
      have hlat := fun {b o : Nat} {u : Value} (hq : (wr.alloc (.cells #[.string t, .slice A2 xs.length c2] 40)).cell? ⟨b, o, Option.none⟩ = some u) (hb : b < wr.heap.size + 1) => later_cell (B := wr.heap.size + 1) hq hb
      have l0 := hlat ((Blk.new wr 40 #[.string t, .slice A2 xs.length c2]).cell 0) (by omega)
      have l1 := hlat ((Blk.new wr 40 #[.string t, .slice A2 xs.length c2]).cell 1) (by omega)
      have lb := hlat ((hbw1.cell (p := ⟨w.heap.size, 0, Option.none⟩) (by show w.heap.size < _; omega)).trans HBOX.out) (by omega)
      clear hlat hra hra2 hx hbw1 hbr hboxr
      have hxs : wr.heap.size + 1 ≤ (wr.alloc (.cells #[.string t, .slice A2 xs.length c2] 40)).heap.size := by simp
      have HXS := Lib.hid hxs
      clear hxs
      have hcut : RdB (wr.alloc (.cells #[.string t, .slice A2 xs.length c2] 40)) hi (.agg #[.slice (some ⟨b1, o1, Option.none⟩) k c]) (ps.take k) := ⟨_, rfl, HPQ.out.cut hk⟩
      have HCUT := Lib.hid hcut
      clear hcut
      have cT := fun x : LaterW (wr.heap.size + 1) (wr.alloc (.cells #[.string t, .slice A2 xs.length c2] 40)) => isPhrase_any (t, xs) (.agg #[.string t, .slice A2 xs.length c2]) hi x.val ⟨_, rfl, HRA.out.below x.bel (by omega), hta⟩ (by have := x.bel.size; have := HXS.out; omega)
      have cO := fun x : LaterW (wr.heap.size + 1) (wr.alloc (.cells #[.string t, .slice A2 xs.length c2] 40)) => phraseIndex_any (ps.take k) xs (.agg #[.slice (some ⟨b1, o1, Option.none⟩) k c]) (.slice A2 xs.length c2) hi hi x.val (HCUT.out.below x.bel (by omega)) (HRA.out.below x.bel (by omega)) (by have := x.bel.size; have := HXS.out; omega) (by have := x.bel.size; have := HXS.out; omega)
      have hkc : (k : Int) ≤ (c : Int) := by omega
      have hk0' : (0 : Int) ≤ (k : Int) := by omega
      cases hp1 : phrOk (t, xs)
      · rw [hp1] at cT
        have CT := Lib.hid cT
        have CO := Lib.hid cO
        clear cT cO
        go_wp2_with fail
        refine wp_region_later (wr.heap.size + 1) (by kernel_rfl) (by kernel_rfl) ?_; (repeat (go_big_quiet_step ((first | (go_at_call 72; exact later_of HXS.out (CT.out _)) | (go_at_call 129; exact later_of HXS.out (CO.out _)))))); refine later_nil ?_; intro w2 hb2
        go_wp2_with fail
        go_ret
        exact ⟨ret_bool (bookB_no hlt (goodAt_phr HX.out hp1)).symm, (HBA.out.trans (HBR2.out.mono (by omega))).trans (hb2.mono (by omega))⟩
      · have HP := Lib.hid hp1
        rw [hp1] at cT
        have CT := Lib.hid cT
        have CO := Lib.hid cO
        clear cT cO
        rcases Nat.eq_zero_or_pos k with h0 | hpos
        · have hk0 : decide (0 < k) = false := by rw [decide_eq_false_iff_not]; omega
          have H0 := Lib.hid h0
          clear h0
          by_cases hix : sigIx (ps.take k) xs = Option.none
          · have hne : decide (0 ≤ ixI (sigIx (ps.take k) xs)) = false := by rw [decide_eq_false_iff_not, ixI_nonneg]; exact fun h => h hix
            have HIX := Lib.hid hix
            clear hix
            go_wp2_with fail
            refine wp_region_later (wr.heap.size + 1) (by kernel_rfl) (by kernel_rfl) ?_; (repeat (go_big_quiet_step ((first | (go_at_call 72; exact later_of HXS.out (CT.out _)) | (go_at_call 129; exact later_of HXS.out (CO.out _)))))); refine later_nil ?_; intro w2 hb2
            go_wp2_with fail
            go_roundw
            case rel => exact ⟨k + 1, by omega, by go_num, fun j hj => by
              obtain rfl : k = 0 := H0.out
              obtain rfl : j = 0 := by omega
              exact goodAt_0 HX.out HP.out ((sigIx_take HX.out).2 HIX.out), HBR2.out.trans (hb2.mono (by omega))⟩
            case measure => simp [intOf]; omega
          · have hne : decide (0 ≤ ixI (sigIx (ps.take k) xs)) = true := by rw [decide_eq_true_eq, ixI_nonneg]; exact hix
            have HIX := Lib.hid hix
            clear hix
            go_wp2_with fail
            refine wp_region_later (wr.heap.size + 1) (by kernel_rfl) (by kernel_rfl) ?_; (repeat (go_big_quiet_step ((first | (go_at_call 72; exact later_of HXS.out (CT.out _)) | (go_at_call 129; exact later_of HXS.out (CO.out _)))))); refine later_nil ?_; intro w2 hb2
            go_wp2_with fail
            go_ret
            exact ⟨ret_bool (bookB_no hlt (goodAt_ix HX.out (fun h => HIX.out ((sigIx_take HX.out).1 h)))).symm, (HBA.out.trans (HBR2.out.mono (by omega))).trans (hb2.mono (by omega))⟩
        · have hk0 : decide (0 < k) = true := by rw [decide_eq_true_eq]; omega
          obtain ⟨b3, o3, c3, a3, q, ys, hv, hb3, hq, hcq, _, _, hqs⟩ := (HPQ.out).at_ (show k - 1 < ps.length by omega)
          cases hv
          have lq := later_cell (B := wr.heap.size + 1) hcq (by omega)
          have hi1 : (0 : Int) ≤ (k : Int) - 1 := by omega
          have hi2 : (k : Int) - 1 < (ps.length : Int) := by omega
          have hi3 : ((k : Int) - 1).toNat = k - 1 := by omega
          have HQ : Hid (ps[k - 1]? = some (q, ys)) := hq
          clear hq hcq
          have HK : Hid (∃ m, k = m + 1) := ⟨k - 1, by omega⟩
          cases hlt2 : ltT q t
          · have hl1 : Op.bytesLess q.toList t.toList = false := hlt2
            go_wp2_with fail
            refine wp_region_later (wr.heap.size + 1) (by kernel_rfl) (by kernel_rfl) ?_; (repeat (go_big_quiet_step ((first | (go_at_call 72; exact later_of HXS.out (CT.out _)) | (go_at_call 129; exact later_of HXS.out (CO.out _)))))); refine later_nil ?_; intro w2 hb2
            go_wp2_with fail
            go_ret
            refine ⟨ret_bool ?_, (HBA.out.trans (HBR2.out.mono (by omega))).trans (hb2.mono (by omega))⟩
            obtain ⟨m, rfl⟩ := HK.out
            exact (bookB_no hlt (goodAt_lt HX.out HQ.out hlt2)).symm
          · have hl1 : Op.bytesLess q.toList t.toList = true := hlt2
            by_cases hix : sigIx (ps.take k) xs = Option.none
            · have hne : decide (0 ≤ ixI (sigIx (ps.take k) xs)) = false := by rw [decide_eq_false_iff_not, ixI_nonneg]; exact fun h => h hix
              have HIX := Lib.hid hix
              clear hix
              go_wp2_with fail
              refine wp_region_later (wr.heap.size + 1) (by kernel_rfl) (by kernel_rfl) ?_; (repeat (go_big_quiet_step ((first | (go_at_call 72; exact later_of HXS.out (CT.out _)) | (go_at_call 129; exact later_of HXS.out (CO.out _)))))); refine later_nil ?_; intro w2 hb2
              go_wp2_with fail
              go_roundw
              case rel => exact ⟨k + 1, by omega, by go_num, fun j hj => by
                by_cases e : j = k
                · subst e
                  have h5 := (sigIx_take HX.out).2 HIX.out
                  obtain ⟨m, rfl⟩ := HK.out
                  exact goodAt_s HX.out HQ.out HP.out hlt2 h5
                · exact hup.out j (by omega), HBR2.out.trans (hb2.mono (by omega))⟩
              case measure => simp [intOf]; omega
            · have hne : decide (0 ≤ ixI (sigIx (ps.take k) xs)) = true := by rw [decide_eq_true_eq, ixI_nonneg]; exact hix
              have HIX := Lib.hid hix
              clear hix
              go_wp2_with fail
              refine wp_region_later (wr.heap.size + 1) (by kernel_rfl) (by kernel_rfl) ?_; (repeat (go_big_quiet_step ((first | (go_at_call 72; exact later_of HXS.out (CT.out _)) | (go_at_call 129; exact later_of HXS.out (CO.out _)))))); refine later_nil ?_; intro w2 hb2
              go_wp2_with fail
              go_ret
              exact ⟨ret_bool (bookB_no hlt (goodAt_ix HX.out (fun h => HIX.out ((sigIx_take HX.out).1 h)))).symm, (HBA.out.trans (HBR2.out.mono (by omega))).trans (hb2.mono (by omega))⟩
    · obtain rfl : k = ps.length := by omega
      go_wp2_with fail
      go_ret
      refine ⟨ret_bool ?_, HBA.out.trans (hbr.mono (by omega))⟩
      unfold bookB
      rw [goodB_yes hup.out, hl40, Bool.and_true]
end Go.Proofs.Ytjnkdjokbamibaa
/- Contracts of the searches in a book by a text, by signals, and for texts of one letter; of the program and of the reference. -/
namespace Go.Proofs.Ytjnkdjokbamibaa
open Go.RowKit
theorem str_inj {a b : ByteArray} (h : (a.toList == b.toList) = true) : a = b := by
  rw [ByteArray.toList_eq, ByteArray.toList_eq, beq_iff_eq] at h
  exact ByteArray.ext (Array.toList_inj.1 h)
/-- The place of the phrase with a text. -/
def txtIx (ps : List Phr) (s : ByteArray) : Option Nat := ps.findIdx? fun p => p.1.toList == s.toList
/-- A place, if the book is good and there is one. -/
def findV (b : Bool) (o : Option Nat) : Value := match b, o with
  | true, some i => .tuple #[.int .i64 (i : Int), .bool true]
  | _, _ => .tuple #[.int .i64 0, .bool false]
theorem txtIx_lt {ps : List Phr} {s : ByteArray} {i : Nat} (h : txtIx ps s = some i) : i < ps.length := by
  unfold txtIx at h; rw [List.findIdx?_eq_some_iff_getElem] at h; exact h.1
theorem bookB_phr {ps : List Phr} {p : Phr} (h : bookB ps = true) (hp : p ∈ ps) : phrOk p = true := by
  obtain ⟨j, hj⟩ := List.getElem?_of_mem hp
  have hl := (List.getElem?_eq_some_iff.1 hj).1
  unfold bookB goodB at h
  rw [Bool.and_eq_true, List.all_eq_true] at h
  have := h.2 j (List.mem_range.2 hl)
  unfold goodAt at this
  rw [hj] at this
  simp only [Bool.and_eq_true] at this
  exact this.1
theorem txtIx_no {ps : List Phr} {s : ByteArray} (h : bookB ps = true) (hp : phraseB s.data.toList = false) : txtIx ps s = Option.none := by
  unfold txtIx
  rw [List.findIdx?_eq_none_iff]
  intro x hx
  rcases he : (x.1.toList == s.toList)
  · rfl
  · have := bookB_phr h hx
    unfold phrOk at this
    rw [str_inj he, hp] at this
    cases this
theorem bookB_len {ps : List Phr} (h : bookB ps = true) : 1 ≤ ps.length ∧ ps.length ≤ 40 := by
  unfold bookB at h
  rw [Bool.and_eq_true, inB_iff] at h
  omega
set_option maxHeartbeats 800000 in
theorem bkFind_any (ps : List Phr) (s : ByteArray) (v : Value) (hi : Nat) (w : World) (h : RdB w hi v ps) (hh : hi ≤ w.heap.size) :
    Calls Try.prog 58 #[v, .string s] w fun e w' => e = .returned (.int .i64 (ixI (txtIx ps s))) ∧ Below w.heap.size w w' := by
  obtain ⟨a, rfl, ha⟩ := h
  obtain ⟨A, c, rfl, hc, hm⟩ := ha.form
  have hba : Below w.heap.size w (w.alloc (.cells #[.slice A ps.length c] 28)) := (Below.refl _ _).alloc (Nat.le_refl _) _
  have HB := Lib.hid hba
  have HA := Lib.hid (ha.below hba hh)
  have HG : Hid (RdB (w.alloc (.cells #[.slice A ps.length c] 28)) hi (.agg #[.slice A ps.length c]) ps) := ⟨_, rfl, HA.out⟩
  have hcb0 : (w.alloc (.cells #[.slice A ps.length c] 28)).cell? ⟨w.heap.size, 0, Option.none⟩ = some (.slice A ps.length c) := (Blk.new w 28 #[.slice A ps.length c]).cell 0
  have HCB := Lib.hid hcb0
  have hsz1 : hi ≤ (w.alloc (.cells #[.slice A ps.length c] 28)).heap.size := by simp; omega
  clear ha hba hcb0
  go_enter Try.func58, Try.ntmps58
  go_wp2_with fail
  go_loopw [10] (fun i wr => ∃ k : Nat, k ≤ ps.length ∧ i = .int .i64 k ∧ Hid (∀ j, j < k → ∀ x, ps[j]? = some x → (x.1.toList == s.toList) = false) ∧ Below (w.heap.size + 1) (w.alloc (.cells #[.slice A ps.length c] 28)) wr) (fun i _ => ps.length - (intOf i).toNat)
  case atStart => exact ⟨0, Nat.zero_le _, rfl, fun j hj => by omega, Below.refl _ _⟩
  case round =>
    obtain ⟨k, hk, rfl, hno, hbr⟩ := hrel
    have hs : w.heap.size + 1 ≤ wr.heap.size := by have := hbr.size; simpa using this
    by_cases hlt : k < ps.length
    · obtain ⟨b1, o1, c1, a, t, xs, hv, hb1, hx, hcell1, hcell2, hra, hta⟩ := (HA.out.below hbr (by omega)).at_ hlt
      cases hv
      obtain ⟨A2, c2, rfl, hc2, hm2⟩ := Rd.form hra
      have HX := Lib.hid hx
      have HRA := Lib.hid hra
      clear hx hra
      cases hts : (t.toList == s.toList)
      · have HTS := Lib.hid hts
        go_wp2_with fail
        go_roundw
        case rel => exact ⟨k + 1, by omega, by go_num, fun j hj x hx => by
          by_cases e : j = k
          · subst e; rw [HX.out] at hx; cases hx; exact HTS.out
          · exact hno.out j (by omega) x hx, hbr.alloc hs _⟩
        case measure => simp [intOf]; omega
      · have HTS := Lib.hid hts
        go_wp2_with fail
        go_ret
        refine ⟨ret_int ?_, HB.out.trans ((hbr.alloc hs _).mono (by omega))⟩
        unfold txtIx
        rw [findIdx_take (fun j hj x hx => hno.out j hj x hx) HX.out HTS.out]
        rfl
    · obtain rfl : k = ps.length := by omega
      go_wp2_with fail
      go_ret
      refine ⟨ret_int ?_, HB.out.trans (hbr.mono (by omega))⟩
      unfold txtIx
      rw [findIdx_none (fun j x hx => hno.out j (List.getElem?_eq_some_iff.1 hx).1 x hx)]
      rfl
theorem FindPhrase1_any (x : Phr) (s : ByteArray) (u : Value) (B hi : Nat) (w : World) (h : RdI w hi u x.2) (hB : B < w.heap.size) (hc : w.cell? ⟨B, 0, Option.none⟩ = some (.string s)) :
    Calls Try.prog 125 #[.agg #[.string x.1, u], .pointer (some ⟨B, 0, Option.none⟩)] w fun e w' => e = .returned (.bool (x.1.toList == s.toList)) ∧ Below w.heap.size w w' := by
  obtain ⟨A, c, rfl, hc1, hm⟩ := Rd.form h
  have hba : Below w.heap.size w (w.alloc (.cells #[.string x.1, .slice A x.2.length c] 40)) := (Below.refl _ _).alloc (Nat.le_refl _) _
  clear h
  go_enter Try.func125, Try.ntmps125
  go_wp2_with fail
  go_ret
  exact ⟨rfl, hba⟩
set_option maxHeartbeats 1600000 in
theorem FindPhrase_any (ps : List Phr) (s : ByteArray) (v : Value) (hi : Nat) (w : World) (hs0 : s.size ≤ maxLen) (h : RdB w hi v ps) (hh : hi ≤ w.heap.size) :
    Calls Try.prog 63 #[v, .string s] w fun e w' => e = .returned (findV (bookB ps) (txtIx ps s)) ∧ Below w.heap.size w w' := by
  obtain ⟨a, rfl, ha⟩ := h
  obtain ⟨A, c, rfl, hc, hm⟩ := ha.form
  have hba : Below w.heap.size w ((w.alloc (.cells #[.slice A ps.length c] 28)).alloc (.cells #[.string s] 9)) := ((Below.refl _ _).alloc (Nat.le_refl _) _).alloc (by simp) _
  have HB := Lib.hid hba
  have HA := Lib.hid (ha.below hba hh)
  have HG : Hid (RdB ((w.alloc (.cells #[.slice A ps.length c] 28)).alloc (.cells #[.string s] 9)) hi (.agg #[.slice A ps.length c]) ps) := ⟨_, rfl, HA.out⟩
  have hcb0 : ((w.alloc (.cells #[.slice A ps.length c] 28)).alloc (.cells #[.string s] 9)).cell? ⟨w.heap.size, 0, Option.none⟩ = some (.slice A ps.length c) := ((Blk.new w 28 #[.slice A ps.length c]).alloc _).cell 0
  have hcs0 : ((w.alloc (.cells #[.slice A ps.length c] 28)).alloc (.cells #[.string s] 9)).cell? ⟨w.heap.size + 1, 0, Option.none⟩ = some (.string s) := by
    have := (Blk.new (w.alloc (.cells #[.slice A ps.length c] 28)) 9 #[.string s]).cell 0
    simp at this ⊢
  have HCB := Lib.hid hcb0
  have HCS := Lib.hid hcs0
  have hsz1 : hi ≤ ((w.alloc (.cells #[.slice A ps.length c] 28)).alloc (.cells #[.string s] 9)).heap.size := by simp; omega
  clear ha hba hcb0 hcs0
  have cB := IsBook_any ps (.agg #[.slice A ps.length c]) hi ((w.alloc (.cells #[.slice A ps.length c] 28)).alloc (.cells #[.string s] 9)) HG.out hsz1
  cases hbk : bookB ps
  · rw [hbk] at cB
    have CB := Lib.hid cB
    clear cB
    go_enter Try.func63, Try.ntmps63
    go_wp2_with (go_at_call 71; refine CB.out.mono ?_; rintro e w1 ⟨rfl, hb1⟩)
    go_ret2
    exact ⟨ret_val rfl, HB.out.trans (hb1.mono (by simp; omega))⟩
  · rw [hbk] at cB
    have CB := Lib.hid cB
    have cT := IsPhraseText_any s hs0
    cases hp : phraseB s.data.toList
    · have hno : txtIx ps s = Option.none := txtIx_no hbk hp
      rw [hp] at cT
      have CT := Lib.hid cT
      clear cB cT
      go_enter Try.func63, Try.ntmps63
      go_wp2_with fail
      refine CB.out.mono ?_
      rintro e w1 ⟨rfl, hb1⟩
      have hcs := (hb1.cell (p := ⟨w.heap.size + 1, 0, Option.none⟩) (by simp)).trans HCS.out
      go_wp2_with (go_at_call 123; refine (CT.out _).mono ?_; rintro e w' ⟨rfl, rfl⟩)
      go_ret2
      exact ⟨ret_val (by rw [hno]; rfl), HB.out.trans (hb1.mono (by simp; omega))⟩
    · rw [hp] at cT
      have CT := Lib.hid cT
      clear cB cT
      go_enter Try.func63, Try.ntmps63
      go_wp2_with fail
      refine CB.out.mono ?_
      rintro e w1 ⟨rfl, hb1⟩
      have hcs := (hb1.cell (p := ⟨w.heap.size + 1, 0, Option.none⟩) (by simp)).trans HCS.out
      have hcb := (hb1.cell (p := ⟨w.heap.size, 0, Option.none⟩) (by simp; omega)).trans HCB.out
      have hs1 : w.heap.size + 2 ≤ w1.heap.size := by have := hb1.size; simpa using this
      have HA1 := Lib.hid (HA.out.below hb1 hsz1)
      have HB1 := Lib.hid (HB.out.trans (hb1.mono (by simp; omega)))
      have hpred : PredP 125 #[.pointer (some ⟨w.heap.size + 1, 0, Option.none⟩)] hi (fun p => p.1.toList == s.toList) w1 := by
        intro W x u hb hu _
        have hs := hb.size
        exact FindPhrase1_any x s u (w.heap.size + 1) hi W hu (by omega) ((hb.cell (p := ⟨w.heap.size + 1, 0, Option.none⟩) (by show w.heap.size + 1 < _; omega)).trans hcs)
      have HC := Lib.hid (indexP_any ps _ hi w1 _ _ _ HA1.out (by omega) hpred (enters_of Try.func125 (by kernel_rfl) rfl))
      clear hpred hb1
      go_wp2_with (go_at_call 123; refine (CT.out _).mono ?_; rintro e w' ⟨rfl, rfl⟩)
      refine HC.out.mono ?_
      rintro e w2 ⟨rfl, hb2⟩
      have HB2 := Lib.hid (HB1.out.trans (hb2.mono (by omega)))
      clear hb2
      show _
      cases ho : txtIx ps s with
      | none =>
        have ho' : ps.findIdx? (fun p => p.1.toList == s.toList) = Option.none := ho
        rw [ho']
        unfold ixI
        go_wp2_with fail
        go_ret2
        exact ⟨ret_val (by rw [ho]; rfl), HB2.out⟩
      | some i =>
        have hil : i < ps.length := txtIx_lt ho
        have ho' : ps.findIdx? (fun p => p.1.toList == s.toList) = some i := ho
        rw [ho']
        unfold ixI
        have HO := Lib.hid ho
        clear ho ho'
        go_wp2_with fail
        go_ret2
        exact ⟨ret_val (by rw [HO.out]; rfl), HB2.out⟩
end Go.Proofs.Ytjnkdjokbamibaa
/- Plain laws on good books: no two phrases have one text, nor the same signals; phrases that fit at one place have lengths of their own. Slices cut off at their head. -/
namespace Go.Proofs.Ytjnkdjokbamibaa
open Go.RowKit
theorem less_irrefl : ∀ a : List UInt8, Op.bytesLess a a = false
  | [] => by simp [Op.bytesLess]
  | x :: a => by simp [Op.bytesLess, less_irrefl a]
theorem less_trans : ∀ {a b c : List UInt8}, Op.bytesLess a b = true → Op.bytesLess b c = true → Op.bytesLess a c = true
  | a, [], c, h, _ => by cases a <;> simp [Op.bytesLess] at h
  | a, b :: bs, [], _, h => by simp [Op.bytesLess] at h
  | [], b :: bs, c :: cs, _, _ => by simp [Op.bytesLess]
  | a :: l, b :: bs, c :: cs, h, g => by
    simp only [Op.bytesLess, Bool.or_eq_true, Bool.and_eq_true, decide_eq_true_eq, beq_iff_eq] at h g ⊢
    rcases h with h | ⟨rfl, h⟩
    · rcases g with g | ⟨rfl, g⟩
      · exact .inl (UInt8.lt_trans h g)
      · exact .inl h
    · rcases g with g | ⟨rfl, g⟩
      · exact .inl g
      · exact .inr ⟨rfl, less_trans h g⟩
theorem bookB_at {ps : List Phr} (h : bookB ps = true) {j : Nat} (hj : j < ps.length) : goodAt ps j = true := by
  unfold bookB goodB at h
  rw [Bool.and_eq_true, List.all_eq_true] at h
  exact h.2 j (List.mem_range.2 hj)
theorem book_sig {ps : List Phr} (h : bookB ps = true) {j : Nat} {p : Phr} (hp : ps[j]? = some p) : sigIx ps p.2 = some j := by
  have hj := (List.getElem?_eq_some_iff.1 hp).1
  have := bookB_at h hj
  unfold goodAt at this
  rw [hp] at this
  simp only [Bool.and_eq_true, beq_iff_eq] at this
  exact this.2.2
theorem book_lt {ps : List Phr} (h : bookB ps = true) {j : Nat} {p q : Phr} (hp : ps[j]? = some p) (hq : ps[j + 1]? = some q) : ltT p.1 q.1 = true := by
  have hj := (List.getElem?_eq_some_iff.1 hq).1
  have := bookB_at h hj
  unfold goodAt at this
  rw [hq] at this
  simp only [hp, Bool.and_eq_true] at this
  exact this.2.1
theorem book_mono {ps : List Phr} (h : bookB ps = true) {i : Nat} {p : Phr} (hp : ps[i]? = some p) : ∀ (d : Nat) {q : Phr}, ps[i + 1 + d]? = some q → ltT p.1 q.1 = true
  | 0, q, hq => book_lt h hp hq
  | d + 1, q, hq => by
    have hl := (List.getElem?_eq_some_iff.1 hq).1
    have hr : ps[i + 1 + d]? = some ps[i + 1 + d] := List.getElem?_eq_getElem (by omega)
    have h1 := book_mono h hp d hr
    have h2 := book_lt h hr (by rw [show i + 1 + d + 1 = i + 1 + (d + 1) by omega]; exact hq)
    exact less_trans h1 h2
theorem book_txt {ps : List Phr} (h : bookB ps = true) {i j : Nat} {p q : Phr} (hp : ps[i]? = some p) (hq : ps[j]? = some q) (hij : i < j) : p.1 ≠ q.1 := by
  have := book_mono h hp (j - i - 1) (by rw [show i + 1 + (j - i - 1) = j by omega]; exact hq)
  intro e
  unfold ltT at this
  rw [e, less_irrefl] at this
  cases this
theorem book_sigs {ps : List Phr} (h : bookB ps = true) {i j : Nat} {p q : Phr} (hp : ps[i]? = some p) (hq : ps[j]? = some q) (hij : i < j) : p.2 ≠ q.2 := by
  intro e
  have h1 := book_sig h hp
  have h2 := book_sig h hq
  rw [e, h2] at h1
  injection h1 with h1
  omega
theorem phrOk_txt {p : Phr} (h : phrOk p = true) : 1 ≤ p.1.size ∧ p.1.size ≤ 12 ∧ smallB p.1.data.toList = true := by
  unfold phrOk phraseB at h
  simp only [Bool.and_eq_true, decide_eq_true_eq] at h
  obtain ⟨⟨⟨h1, h2⟩, h3⟩, _⟩ := h
  exact ⟨by simpa using h1, by simpa using h2, h3⟩
theorem phrOk_sig {p : Phr} (h : phrOk p = true) : 1 ≤ p.2.length ∧ p.2.length ≤ 3 ∧ allB p.2 1 60 = true := by
  unfold phrOk sigOk at h
  simp only [Bool.and_eq_true, inB_iff] at h
  obtain ⟨_, h1, h2⟩ := h
  exact ⟨by omega, by omega, h2⟩
/-- Does a phrase's signals lie at a place? -/
def fitS (sig : List Int) (m : Nat) (p : Phr) : Bool := begB p.2 (sig.drop m)
/-- Does a phrase's text lie at a place? -/
def fitT (s : ByteArray) (m : Nat) (p : Phr) : Bool := Lib.hasPrefix (s.extract m s.size).data.toList p.1.data.toList
theorem fitT_eq {s : ByteArray} {m : Nat} {p : Phr} : fitT s m p = true ↔ p.1.data.toList <+: s.data.toList.drop m := by
  unfold fitT Lib.hasPrefix
  rw [List.isPrefixOf_iff_prefix]
  have : (s.extract m s.size).data.toList = s.data.toList.drop m := by
    simp [List.take_of_length_le]
  rw [this]
theorem apart_sig {ps : List Phr} (h : bookB ps = true) (sig : List Int) (m : Nat) : Apart (fitS sig m) (fun p => p.2.length) (sig.length - m) ps := by
  refine ⟨?_, fun p hp hf => ?_⟩
  · rw [List.pairwise_iff_getElem]
    intro i j hi hj hij f1 f2 e
    unfold fitS at f1 f2
    rw [begB_iff, List.prefix_iff_eq_take] at f1 f2
    refine book_sigs h (List.getElem?_eq_getElem hi) (List.getElem?_eq_getElem hj) hij ?_
    have e' : ps[i].2.length = ps[j].2.length := e
    rw [f1, f2, e']
  · have h1 := phrOk_sig (bookB_phr h hp)
    unfold fitS at hf
    rw [begB_iff] at hf
    have := hf.length_le
    rw [List.length_drop] at this
    exact ⟨h1.1, this⟩
theorem apart_txt {ps : List Phr} (h : bookB ps = true) (s : ByteArray) (m : Nat) : Apart (fitT s m) (fun p => p.1.size) (s.size - m) ps := by
  refine ⟨?_, fun p hp hf => ?_⟩
  · rw [List.pairwise_iff_getElem]
    intro i j hi hj hij f1 f2 e
    rw [fitT_eq, List.prefix_iff_eq_take] at f1 f2
    refine book_txt h (List.getElem?_eq_getElem hi) (List.getElem?_eq_getElem hj) hij ?_
    have e' : ps[i].1.size = ps[j].1.size := e
    have e2 : ps[i].1.data.toList.length = ps[j].1.data.toList.length := by simpa using e'
    have : ps[i].1.data.toList = ps[j].1.data.toList := by rw [f1, f2, e2]
    exact ByteArray.ext (Array.toList_inj.1 this)
  · have h1 := phrOk_txt (bookB_phr h hp)
    rw [fitT_eq] at hf
    have := hf.length_le
    rw [List.length_drop] at this
    exact ⟨h1.1, by simpa using this⟩
/-- The table's cells: m places still empty, then the table. -/
def tblZ (m : Nat) (tb : List Nat) : List Value := List.replicate m (Value.int .i64 0) ++ nats tb
theorem tblZ_down {m : Nat} {tb : List Nat} : tblZ (m + 1) tb = tblC m 0 tb := by
  unfold tblZ tblC
  rw [List.replicate_succ']; simp
theorem tblC_Z {m a : Nat} {tb : List Nat} : tblC m a tb = tblZ m (a :: tb) := rfl
theorem tblZ_start (n : Nat) : ((zeros (n + 1)).setIfInBounds n (.int .i64 1)).toList = tblZ n [1] := by
  unfold tblZ zeros
  rw [Array.toList_setIfInBounds, List.replicate_succ']
  rw [List.set_append_right _ _ (by simp)]
  simp
theorem RdI.drop {w : World} {hi c : Nat} {b off : Nat} {xs : List Int} (h : RdI w hi (.slice (some ⟨b, off, Option.none⟩) xs.length c) xs) {k : Nat} (hk : k < xs.length) :
    RdI w hi (.slice (some ⟨b, off + k, Option.none⟩) (xs.length - k) (c - k)) (xs.drop k) := by
  obtain ⟨h0, A', c', hv, h1, h2, h3⟩ := h
  cases hv
  obtain ⟨b', off', hA, hb, hc⟩ := h3 (by omega)
  cases hA
  refine ⟨by simp, some ⟨b, off + k, Option.none⟩, c - k, by rw [List.length_drop], by rw [List.length_drop]; omega, by omega, fun _ => ⟨b, off + k, rfl, hb, fun j u hu => ?_⟩⟩
  have := hc (k + j) u (by
    rw [ints, List.getElem?_map, List.getElem?_drop] at hu
    rw [ints, List.getElem?_map]; exact hu)
  rwa [← Nat.add_assoc] at this
theorem wrap_in {x : Int} (h : -9223372036854775808 ≤ x ∧ x ≤ 9223372036854775807) : IntKind.i64.wrap x = x := IntWalk.i64_in _ h
end Go.Proofs.Ytjnkdjokbamibaa
/- Contracts of the tables of readings, of the program and of the reference. -/
namespace Go.Proofs.Ytjnkdjokbamibaa
open Go.RowKit
abbrev sigLen (p : Phr) : Nat := p.2.length
abbrev txtLen (p : Phr) : Nat := p.1.size
def waysI (l : List Nat) : List Int := l.map fun m : Nat => (m : Int)
theorem nats_ints (l : List Nat) : nats l = ints (waysI l) := by simp [waysI]
theorem dpW_sig {ps : List Phr} (h : bookB ps = true) (sig : List Int) : ∀ k, k ≤ sig.length → ∀ i m, (dpW (fitS sig) sigLen ps sig.length k)[i]? = some m → m ≤ 2 ^ (k - i) :=
  dpW_le fun k hk => by
    have := apart_sig h sig (sig.length - (k + 1))
    rwa [show sig.length - (sig.length - (k + 1)) = k + 1 by omega] at this
theorem dpW_txt {ps : List Phr} (h : bookB ps = true) (s : ByteArray) : ∀ k, k ≤ s.size → ∀ i m, (dpW (fitT s) txtLen ps s.size k)[i]? = some m → m ≤ 2 ^ (k - i) :=
  dpW_le fun k hk => by
    have := apart_txt h s (s.size - (k + 1))
    rwa [show s.size - (s.size - (k + 1)) = k + 1 by omega] at this
set_option maxRecDepth 100000 in
set_option maxHeartbeats 4000000 in
theorem spWays_any (ps : List Phr) (sig : List Int) (v u : Value) (hi hj : Nat) (w : World) (h : RdB w hi v ps) (g : RdI w hj u sig) (hh : hi ≤ w.heap.size) (hg : hj ≤ w.heap.size) (hbk : bookB ps = true) (hlen : sig.length ≤ 60) :
    Calls Try.prog 92 #[v, u] w (RetOwI (waysI (dpW (fitS sig) sigLen ps sig.length sig.length)) w) := by
  obtain ⟨A', c', rfl, hc', hm'⟩ := Rd.form g
  have G := Lib.hid g
  clear g
  obtain ⟨a, rfl, ha⟩ := h
  obtain ⟨A, c, rfl, hc, hm⟩ := ha.form
  have HA0 := Lib.hid ha
  have hba : Below w.heap.size w (w.alloc (.cells #[.slice A ps.length c] 28)) := (Below.refl _ _).alloc (Nat.le_refl _) _
  have HB := Lib.hid hba
  have HA := Lib.hid (ha.below hba hh)
  have HG : Hid (RdB (w.alloc (.cells #[.slice A ps.length c] 28)) hi (.agg #[.slice A ps.length c]) ps) := ⟨_, rfl, HA.out⟩
  have hcb0 : (w.alloc (.cells #[.slice A ps.length c] 28)).cell? ⟨w.heap.size, 0, Option.none⟩ = some (.slice A ps.length c) := (Blk.new w 28 #[.slice A ps.length c]).cell 0
  have HCB := Lib.hid hcb0
  have hsz1 : hi ≤ (w.alloc (.cells #[.slice A ps.length c] 28)).heap.size := by simp; omega
  clear ha hba hcb0
  have HBK := Lib.hid hbk
  clear hbk
  have hmk := make_ints (sig.length + 1) (by omega)
  rw [show ((sig.length + 1 : Nat) : Int) = (sig.length : Int) + 1 from rfl] at hmk
  have HBW : Hid (Below w.heap.size w ((w.alloc (.cells #[.slice A ps.length c] 28)).alloc (.cells ((zeros (sig.length + 1)).setIfInBounds sig.length (.int .i64 1)) 3))) := ((Below.refl _ _).alloc (Nat.le_refl _) _).alloc (by simp) _
  have HTB0 : Hid (Blk ((w.alloc (.cells #[.slice A ps.length c] 28)).alloc (.cells ((zeros (sig.length + 1)).setIfInBounds sig.length (.int .i64 1)) 3)) (w.heap.size + 1) 3 (tblZ sig.length (dpW (fitS sig) sigLen ps sig.length 0))) := by
    have := Blk.new (w.alloc (.cells #[.slice A ps.length c] 28)) 3 ((zeros (sig.length + 1)).setIfInBounds sig.length (.int .i64 1))
    rw [tblZ_start] at this
    simp at this
    exact this
  have HCBX : Hid (((w.alloc (.cells #[.slice A ps.length c] 28)).alloc (.cells ((zeros (sig.length + 1)).setIfInBounds sig.length (.int .i64 1)) 3)).cell? ⟨w.heap.size, 0, Option.none⟩ = some (.slice A ps.length c)) :=
    (((Below.refl (w.alloc (.cells #[.slice A ps.length c] 28)).heap.size (w.alloc (.cells #[.slice A ps.length c] 28))).alloc (Nat.le_refl _) (.cells ((zeros (sig.length + 1)).setIfInBounds sig.length (.int .i64 1)) 3)).cell (p := ⟨w.heap.size, 0, Option.none⟩) (by simp)).trans HCB.out
  have hz0 : ((w.alloc (.cells #[.slice A ps.length c] 28)).alloc (.cells (zeros (sig.length + 1)) 3)).cell? ⟨w.heap.size + 1, sig.length, Option.none⟩ = some (.int .i64 0) := by
    have := (Blk.new (w.alloc (.cells #[.slice A ps.length c] 28)) 3 (zeros (sig.length + 1))).cell sig.length
    rw [show (zeros (sig.length + 1)).toList[sig.length]? = some (.int .i64 0) by simp [zeros]] at this
    simpa using this
  go_enter Try.func92, Try.ntmps92
  go_wp2_with fail
  go_loopw [6] (fun i wr => ∃ (m k : Nat) (z : Int), Hid (m + k = sig.length) ∧ Hid (z = (m : Int) - 1) ∧ i = .int .i64 z ∧ Hid (Blk wr (w.heap.size + 1) 3 (tblZ m (dpW (fitS sig) sigLen ps sig.length k))) ∧ Hid (Below (w.heap.size + 1) ((w.alloc (.cells #[.slice A ps.length c] 28)).alloc (.cells ((zeros (sig.length + 1)).setIfInBounds sig.length (.int .i64 1)) 3)) wr)) (fun i _ => (intOf i + 1).toNat)
  case atStart => exact ⟨sig.length, 0, (sig.length : Int) - 1, rfl, rfl, rfl, HTB0.out, Below.refl _ _⟩
  case round =>
    obtain ⟨m, k, z, hmk1, hz, rfl, hblk, hbr⟩ := hrel
    have hs : (w.heap.size + 1) + 1 ≤ wr.heap.size := by have := hblk.out.lt; omega
    rcases m with _ | m
    · obtain rfl : z = -1 := by have := hz.out; omega
      have HK : Hid (k = sig.length) := by have := hmk1.out; show k = _; omega
      go_wp2_with fail
      go_ret
      have h1 := hblk.out
      rw [HK.out] at h1
      refine ⟨_, rfl, ?_, HBW.out.trans (hbr.out.mono (by omega))⟩
      have e : (waysI (dpW (fitS sig) sigLen ps sig.length sig.length)).length = sig.length + 1 := by simp [waysI, dpW_len]
      have h2 : Blk wr (w.heap.size + 1) 3 (ints (waysI (dpW (fitS sig) sigLen ps sig.length sig.length))) := by rw [← nats_ints]; simpa [tblZ] using h1
      have := own_of_blk (lo := w.heap.size) (hi := wr.heap.size) h2 (by omega) (by omega) (by rw [e]; unfold maxLen; omega)
      rw [e] at this
      exact this
    · obtain rfl : z = (m : Int) := by have := hz.out; omega
      have hm1 : m < sig.length := by have := hmk1.out; omega
      have hboxr := (hbr.out.cell (p := ⟨w.heap.size, 0, Option.none⟩) (by show w.heap.size < (w.heap.size + 1); omega)).trans HCBX.out
      obtain ⟨b3, o3, c3, y3, hv3, _, _, _⟩ := Rd.at_ G.out hm1
      injection hv3 with hv4 hv5 hv6
      subst hv4
      clear hv5 hv6
      rename World => wo
      go_wp2_with fail
      go_loopw [27] (fun i wr => ∃ j : Nat, j ≤ ps.length ∧ i = .int .i64 j ∧ Hid (Blk wr (w.heap.size + 1) 3 (tblC m (wayAt (fitS sig m) sigLen (ps.take j) (dpW (fitS sig) sigLen ps sig.length k)) (dpW (fitS sig) sigLen ps sig.length k))) ∧ Hid (Below (w.heap.size + 1) ((w.alloc (.cells #[.slice A ps.length c] 28)).alloc (.cells ((zeros (sig.length + 1)).setIfInBounds sig.length (.int .i64 1)) 3)) wr)) (fun i _ => ps.length - (intOf i).toNat)
      case atStart => exact ⟨0, Nat.zero_le _, rfl, by have := hblk.out; rw [tblZ_down] at this; exact this, hbr⟩
      case round =>
        obtain ⟨j, hjl, rfl, hblk2, hbr2⟩ := hrel
        have hs2 : (w.heap.size + 1) + 1 ≤ wr.heap.size := by have := hblk2.out.lt; omega
        have HBR := Lib.hid (HBW.out.trans (hbr2.out.mono (by omega)))
        by_cases hlt : j < ps.length
        · obtain ⟨b1, o1, c1, a, t, xs, hv, hb1, hx, hcell1, hcell2, hra, hta⟩ := (HA0.out.below HBR.out (by omega)).at_ hlt
          cases hv
          obtain ⟨A2, c2, rfl, hc2, hm2⟩ := Rd.form hra
          have HX := Lib.hid hx
          have HRA := Lib.hid hra
          clear hra
          have hfit : fitS sig m (t, xs) = begB xs (sig.drop m) := rfl
          have HF := Lib.hid hfit
          have HAP := Lib.hid (((apart_sig HBK.out sig m).2 (t, xs) (List.mem_of_getElem? HX.out)))
          have HBP := Lib.hid (hbr2.out.alloc (show (w.heap.size + 1) ≤ wr.heap.size by omega) (.cells #[.string t, .slice A2 xs.length c2] 40))
          have HBLP : Hid (Blk (wr.alloc (.cells #[.string t, .slice A2 xs.length c2] 40)) (w.heap.size + 1) 3 (tblC m (wayAt (fitS sig m) sigLen (ps.take j) (dpW (fitS sig) sigLen ps sig.length k)) (dpW (fitS sig) sigLen ps sig.length k))) := hblk2.out.alloc _
          clear hx hfit
          have HGD : Hid (RdI (wr.alloc (.cells #[.string t, .slice A2 xs.length c2] 40)) hj (.slice (some ⟨b3, o3 + m, Option.none⟩) (sig.length - m) (c' - m)) (sig.drop m)) := (RdI.below G.out (HBR.out.trans ((Below.refl wr.heap.size wr).alloc (Nat.le_refl _) _ |>.mono (by omega))) (by omega)).drop (by omega)
          have HRX : Hid (RdI (wr.alloc (.cells #[.string t, .slice A2 xs.length c2] 40)) hi (.slice A2 xs.length c2) xs) := HRA.out.below ((Below.refl wr.heap.size wr).alloc (Nat.le_refl _) _) (by omega)
          have cB := fun n => bkBegins_any xs (sig.drop m) (.slice A2 xs.length c2) (.slice (some ⟨b3, o3 + m, Option.none⟩) (sig.length - m) (c' - m)) hi hj ((wr.alloc (.cells #[.string t, .slice A2 xs.length c2] 40)).drewN n) (show RdI ((wr.alloc (.cells #[.string t, .slice A2 xs.length c2] 40)).drewN n) hi _ _ from HRX.out) (show RdI ((wr.alloc (.cells #[.string t, .slice A2 xs.length c2] 40)).drewN n) hj _ _ from HGD.out)
          cases hbg : begB xs (sig.drop m)
          · rw [hbg] at cB
            have CB := Lib.hid cB
            have HBG := Lib.hid hbg
            clear cB hbg
            go_wp2_with fail
            go_quiet ((go_at_call 117; exact Calls.quiet_of (CB.out _)))
            go_wp2_with fail
            go_roundw
            case rel => exact ⟨j + 1, by omega, by go_num, by rw [wayAt_snoc HX.out, HF.out, HBG.out]; exact HBLP.out, HBP.out.trans (bel_drewN _ _ _)⟩
            case measure => simp [intOf]; omega
          · rw [hbg] at cB
            have CB := Lib.hid cB
            have HBG := Lib.hid hbg
            have hl := HAP.out (by rw [HF.out, HBG.out])
            have hl1 : 1 ≤ xs.length := hl.1
            have hl2 : xs.length ≤ sig.length - m := hl.2
            have hmk2 := hmk1.out
            obtain ⟨va, hva⟩ : ∃ va, va = wayAt (fitS sig m) sigLen (ps.take j) (dpW (fitS sig) sigLen ps sig.length k) := ⟨_, rfl⟩
            obtain ⟨vb, hvb⟩ : ∃ vb, (dpW (fitS sig) sigLen ps sig.length k)[xs.length - 1]? = some vb := ⟨_, List.getElem?_eq_getElem (by rw [dpW_len]; omega)⟩
            have hsum : va + vb ≤ 2 ^ 61 := by
              have h1 : va < 2 ^ (sig.length - m) := by rw [hva]; exact wayAt_lt ((apart_sig HBK.out sig m).take j) (fun i q hq => by have := (dpW_sig HBK.out sig) k (by omega) i q hq; rwa [show sig.length - m - (i + 1) = k - i by omega])
              have h2 := (dpW_sig HBK.out sig) k (by omega) _ _ hvb
              have h3 : 2 ^ (sig.length - m) ≤ 2 ^ 60 := Nat.pow_le_pow_right (by decide) (by omega)
              have h4 : 2 ^ (k - (xs.length - 1)) ≤ 2 ^ 60 := Nat.pow_le_pow_right (by decide) (by omega)
              omega
            have HVA := Lib.hid hva
            have HVB := Lib.hid hvb
            have HS := Lib.hid hsum
            have HMK := Lib.hid hmk2
            rw [← HVA.out] at HBLP
            have c0 := HBLP.out.cell m
            rw [tblC_at] at c0
            have c1' := HBLP.out.cell (m + xs.length)
            rw [show m + xs.length = m + 1 + (xs.length - 1) by omega, tblC_on hvb, show m + 1 + (xs.length - 1) = m + xs.length by omega] at c1'
            have f0 := HBLP.out.frozen m
            have i1 : IntKind.i64.wrap ((m : Int) + (xs.length : Int)) = (m : Int) + (xs.length : Int) := wrap_in (by omega)
            have i2 : (0 : Int) ≤ (m : Int) + (xs.length : Int) := by omega
            have i3 : (m : Int) + (xs.length : Int) < (sig.length : Int) + 1 := by omega
            have i4 : ((m : Int) + (xs.length : Int)).toNat = m + xs.length := by omega
            have i6 : (m : Int) < (sig.length : Int) + 1 := by omega
            have i7 : (0 : Int) ≤ (m : Int) := by omega
            have i8 : ((m : Int)).toNat = m := by omega
            have i5 : IntKind.i64.wrap ((va : Int) + (vb : Int)) = (va : Int) + (vb : Int) := wrap_in (by omega)
            clear cB hbg hl hva hvb hsum hmk2
            go_wp2_with fail
            go_quiet ((go_at_call 117; exact Calls.quiet_of (CB.out _)))
            go_wp2_with fail
            have d0 : ((wr.alloc (.cells #[.string t, .slice A2 xs.length c2] 40)).drewN nq).cell? ⟨w.heap.size + 1, m, Option.none⟩ = some (.int .i64 (va : Int)) := c0
            have d1 : ((wr.alloc (.cells #[.string t, .slice A2 xs.length c2] 40)).drewN nq).cell? ⟨w.heap.size + 1, m + xs.length, Option.none⟩ = some (.int .i64 (vb : Int)) := c1'
            have d2 : ((wr.alloc (.cells #[.string t, .slice A2 xs.length c2] 40)).drewN nq).frozen? ⟨w.heap.size + 1, m, Option.none⟩ = false := f0
            have d3 : ((wr.alloc (.cells #[.string t, .slice A2 xs.length c2] 40)).drewN nq).cell? ⟨wr.heap.size, 1, Option.none⟩ = some (.slice A2 xs.length c2) := (Blk.new wr 40 #[.string t, .slice A2 xs.length c2]).cell 1
            have HBQ := Lib.hid (HBP.out.trans (bel_drewN (w.heap.size + 1) (wr.alloc (.cells #[.string t, .slice A2 xs.length c2] 40)) nq))
            have HBLQ : Hid (Blk ((wr.alloc (.cells #[.string t, .slice A2 xs.length c2] 40)).drewN nq) (w.heap.size + 1) 3 (tblC m va (dpW (fitS sig) sigLen ps sig.length k))) := HBLP.out
            clear c0 c1' f0
            generalize (wr.alloc (.cells #[.string t, .slice A2 xs.length c2] 40)).drewN nq = wq at d0 d1 d2 d3 HBQ HBLQ ⊢
            go_still_tail 14, (by kernel_rfl)
            change wpList _ _ _ _ _ wq.drew
            clear i1 i2 i3 i4 i5 i6 i7 i8 d1 d3
            have d4 : wq.drew.frozen? ⟨w.heap.size + 1, m, Option.none⟩ = false := d2
            have d5 : wq.drew.cell? ⟨w.heap.size + 1, m, Option.none⟩ = some (.int .i64 (va : Int)) := d0
            clear d2 d0
            go_wp2_with fail
            go_roundw
            case rel =>
              refine ⟨j + 1, by omega, by go_num, ?_, ?_⟩
              · rw [wayAt_snoc HX.out, HF.out, HBG.out]
                show Blk _ _ _ (tblC m (_ + List.getD _ (xs.length - 1) 0) _)
                rw [← HVA.out, List.getD_eq_getElem?_getD, HVB.out]
                have := Blk.set_ (show Blk wq.drew (w.heap.size + 1) 3 _ from HBLQ.out) m (.int .i64 ((va + vb : Nat) : Int))
                rw [tblC_set] at this
                exact this
              · exact (HBQ.out.drew).setCell (Nat.le_refl _) _
            case measure => simp [intOf]; omega
        · obtain rfl : j = ps.length := by omega
          go_wp2_with fail
          go_roundw
          case rel => exact ⟨m, k + 1, (m : Int) - 1, by have := hmk1.out; show m + (k + 1) = _; omega, rfl, rfl, by
            have h1 := hblk2.out
            rw [List.take_of_length_le (Nat.le_refl _), tblC_Z] at h1
            have h2 : sig.length - (k + 1) = m := by have := hmk1.out; omega
            show Blk _ _ _ (tblZ m (dpW _ _ _ _ (k + 1)))
            rw [dpW, h2]; exact h1, hbr2⟩
          case measure => (simp [intOf]; try omega)
set_option maxRecDepth 100000 in
set_option maxHeartbeats 4000000 in
theorem readings_any (ps : List Phr) (sig : List Int) (v u : Value) (hi hj : Nat) (w : World) (h : RdB w hi v ps) (g : RdI w hj u sig) (hh : hi ≤ w.heap.size) (hg : hj ≤ w.heap.size) (hbk : bookB ps = true) (hlen : sig.length ≤ 60) :
    Calls Try.prog 90 #[v, u] w (RetOwI (waysI (dpW (fitS sig) sigLen ps sig.length sig.length)) w) := by
  obtain ⟨A', c', rfl, hc', hm'⟩ := Rd.form g
  have G := Lib.hid g
  clear g
  obtain ⟨a, rfl, ha⟩ := h
  obtain ⟨A, c, rfl, hc, hm⟩ := ha.form
  have HA0 := Lib.hid ha
  have hba : Below w.heap.size w (w.alloc (.cells #[.slice A ps.length c] 28)) := (Below.refl _ _).alloc (Nat.le_refl _) _
  have HB := Lib.hid hba
  have HA := Lib.hid (ha.below hba hh)
  have HG : Hid (RdB (w.alloc (.cells #[.slice A ps.length c] 28)) hi (.agg #[.slice A ps.length c]) ps) := ⟨_, rfl, HA.out⟩
  have hcb0 : (w.alloc (.cells #[.slice A ps.length c] 28)).cell? ⟨w.heap.size, 0, Option.none⟩ = some (.slice A ps.length c) := (Blk.new w 28 #[.slice A ps.length c]).cell 0
  have HCB := Lib.hid hcb0
  have hsz1 : hi ≤ (w.alloc (.cells #[.slice A ps.length c] 28)).heap.size := by simp; omega
  clear ha hba hcb0
  have HBK := Lib.hid hbk
  clear hbk
  have hmk := make_ints (sig.length + 1) (by omega)
  rw [show ((sig.length + 1 : Nat) : Int) = (sig.length : Int) + 1 from rfl] at hmk
  have HBW : Hid (Below w.heap.size w ((w.alloc (.cells #[.slice A ps.length c] 28)).alloc (.cells ((zeros (sig.length + 1)).setIfInBounds sig.length (.int .i64 1)) 3))) := ((Below.refl _ _).alloc (Nat.le_refl _) _).alloc (by simp) _
  have HTB0 : Hid (Blk ((w.alloc (.cells #[.slice A ps.length c] 28)).alloc (.cells ((zeros (sig.length + 1)).setIfInBounds sig.length (.int .i64 1)) 3)) (w.heap.size + 1) 3 (tblZ sig.length (dpW (fitS sig) sigLen ps sig.length 0))) := by
    have := Blk.new (w.alloc (.cells #[.slice A ps.length c] 28)) 3 ((zeros (sig.length + 1)).setIfInBounds sig.length (.int .i64 1))
    rw [tblZ_start] at this
    simp at this
    exact this
  have HCBX : Hid (((w.alloc (.cells #[.slice A ps.length c] 28)).alloc (.cells ((zeros (sig.length + 1)).setIfInBounds sig.length (.int .i64 1)) 3)).cell? ⟨w.heap.size, 0, Option.none⟩ = some (.slice A ps.length c)) :=
    (((Below.refl (w.alloc (.cells #[.slice A ps.length c] 28)).heap.size (w.alloc (.cells #[.slice A ps.length c] 28))).alloc (Nat.le_refl _) (.cells ((zeros (sig.length + 1)).setIfInBounds sig.length (.int .i64 1)) 3)).cell (p := ⟨w.heap.size, 0, Option.none⟩) (by simp)).trans HCB.out
  have hz0 : ((w.alloc (.cells #[.slice A ps.length c] 28)).alloc (.cells (zeros (sig.length + 1)) 3)).cell? ⟨w.heap.size + 1, sig.length, Option.none⟩ = some (.int .i64 0) := by
    have := (Blk.new (w.alloc (.cells #[.slice A ps.length c] 28)) 3 (zeros (sig.length + 1))).cell sig.length
    rw [show (zeros (sig.length + 1)).toList[sig.length]? = some (.int .i64 0) by simp [zeros]] at this
    simpa using this
  go_enter Try.func90, Try.ntmps90
  go_wp2_with fail
  go_loopw [6] (fun i wr => ∃ (m k : Nat) (z : Int), Hid (m + k = sig.length) ∧ Hid (z = (m : Int) - 1) ∧ i = .int .i64 z ∧ Hid (Blk wr (w.heap.size + 1) 3 (tblZ m (dpW (fitS sig) sigLen ps sig.length k))) ∧ Hid (Below (w.heap.size + 1) ((w.alloc (.cells #[.slice A ps.length c] 28)).alloc (.cells ((zeros (sig.length + 1)).setIfInBounds sig.length (.int .i64 1)) 3)) wr)) (fun i _ => (intOf i + 1).toNat)
  case atStart => exact ⟨sig.length, 0, (sig.length : Int) - 1, rfl, rfl, rfl, HTB0.out, Below.refl _ _⟩
  case round =>
    obtain ⟨m, k, z, hmk1, hz, rfl, hblk, hbr⟩ := hrel
    have hs : (w.heap.size + 1) + 1 ≤ wr.heap.size := by have := hblk.out.lt; omega
    rcases m with _ | m
    · obtain rfl : z = -1 := by have := hz.out; omega
      have HK : Hid (k = sig.length) := by have := hmk1.out; show k = _; omega
      go_wp2_with fail
      go_ret
      have h1 := hblk.out
      rw [HK.out] at h1
      refine ⟨_, rfl, ?_, HBW.out.trans (hbr.out.mono (by omega))⟩
      have e : (waysI (dpW (fitS sig) sigLen ps sig.length sig.length)).length = sig.length + 1 := by simp [waysI, dpW_len]
      have h2 : Blk wr (w.heap.size + 1) 3 (ints (waysI (dpW (fitS sig) sigLen ps sig.length sig.length))) := by rw [← nats_ints]; simpa [tblZ] using h1
      have := own_of_blk (lo := w.heap.size) (hi := wr.heap.size) h2 (by omega) (by omega) (by rw [e]; unfold maxLen; omega)
      rw [e] at this
      exact this
    · obtain rfl : z = (m : Int) := by have := hz.out; omega
      have hm1 : m < sig.length := by have := hmk1.out; omega
      have hboxr := (hbr.out.cell (p := ⟨w.heap.size, 0, Option.none⟩) (by show w.heap.size < (w.heap.size + 1); omega)).trans HCBX.out
      obtain ⟨b3, o3, c3, y3, hv3, _, _, _⟩ := Rd.at_ G.out hm1
      injection hv3 with hv4 hv5 hv6
      subst hv4
      clear hv5 hv6
      rename World => wo
      go_wp2_with fail
      go_loopw [27] (fun i wr => ∃ j : Nat, j ≤ ps.length ∧ i = .int .i64 j ∧ Hid (Blk wr (w.heap.size + 1) 3 (tblC m (wayAt (fitS sig m) sigLen (ps.take j) (dpW (fitS sig) sigLen ps sig.length k)) (dpW (fitS sig) sigLen ps sig.length k))) ∧ Hid (Below (w.heap.size + 1) ((w.alloc (.cells #[.slice A ps.length c] 28)).alloc (.cells ((zeros (sig.length + 1)).setIfInBounds sig.length (.int .i64 1)) 3)) wr)) (fun i _ => ps.length - (intOf i).toNat)
      case atStart => exact ⟨0, Nat.zero_le _, rfl, by have := hblk.out; rw [tblZ_down] at this; exact this, hbr⟩
      case round =>
        obtain ⟨j, hjl, rfl, hblk2, hbr2⟩ := hrel
        have hs2 : (w.heap.size + 1) + 1 ≤ wr.heap.size := by have := hblk2.out.lt; omega
        have HBR := Lib.hid (HBW.out.trans (hbr2.out.mono (by omega)))
        by_cases hlt : j < ps.length
        · obtain ⟨b1, o1, c1, a, t, xs, hv, hb1, hx, hcell1, hcell2, hra, hta⟩ := (HA0.out.below HBR.out (by omega)).at_ hlt
          cases hv
          obtain ⟨A2, c2, rfl, hc2, hm2⟩ := Rd.form hra
          have HX := Lib.hid hx
          have HRA := Lib.hid hra
          clear hra
          have hfit : fitS sig m (t, xs) = begB xs (sig.drop m) := rfl
          have HF := Lib.hid hfit
          have HAP := Lib.hid (((apart_sig HBK.out sig m).2 (t, xs) (List.mem_of_getElem? HX.out)))
          have HBP := Lib.hid (hbr2.out.alloc (show (w.heap.size + 1) ≤ wr.heap.size by omega) (.cells #[.string t, .slice A2 xs.length c2] 40))
          have HBLP : Hid (Blk (wr.alloc (.cells #[.string t, .slice A2 xs.length c2] 40)) (w.heap.size + 1) 3 (tblC m (wayAt (fitS sig m) sigLen (ps.take j) (dpW (fitS sig) sigLen ps sig.length k)) (dpW (fitS sig) sigLen ps sig.length k))) := hblk2.out.alloc _
          clear hx hfit
          have HGD : Hid (RdI (wr.alloc (.cells #[.string t, .slice A2 xs.length c2] 40)) hj (.slice (some ⟨b3, o3 + m, Option.none⟩) (sig.length - m) (c' - m)) (sig.drop m)) := (RdI.below G.out (HBR.out.trans ((Below.refl wr.heap.size wr).alloc (Nat.le_refl _) _ |>.mono (by omega))) (by omega)).drop (by omega)
          have HRX : Hid (RdI (wr.alloc (.cells #[.string t, .slice A2 xs.length c2] 40)) hi (.slice A2 xs.length c2) xs) := HRA.out.below ((Below.refl wr.heap.size wr).alloc (Nat.le_refl _) _) (by omega)
          have cB := fun n => begins_any xs (sig.drop m) (.slice A2 xs.length c2) (.slice (some ⟨b3, o3 + m, Option.none⟩) (sig.length - m) (c' - m)) hi hj ((wr.alloc (.cells #[.string t, .slice A2 xs.length c2] 40)).drewN n) (show RdI ((wr.alloc (.cells #[.string t, .slice A2 xs.length c2] 40)).drewN n) hi _ _ from HRX.out) (show RdI ((wr.alloc (.cells #[.string t, .slice A2 xs.length c2] 40)).drewN n) hj _ _ from HGD.out)
          cases hbg : begB xs (sig.drop m)
          · rw [hbg] at cB
            have CB := Lib.hid cB
            have HBG := Lib.hid hbg
            clear cB hbg
            go_wp2_with fail
            go_quiet ((go_at_call 116; exact Calls.quiet_of (CB.out _)))
            go_wp2_with fail
            go_roundw
            case rel => exact ⟨j + 1, by omega, by go_num, by rw [wayAt_snoc HX.out, HF.out, HBG.out]; exact HBLP.out, HBP.out.trans (bel_drewN _ _ _)⟩
            case measure => simp [intOf]; omega
          · rw [hbg] at cB
            have CB := Lib.hid cB
            have HBG := Lib.hid hbg
            have hl := HAP.out (by rw [HF.out, HBG.out])
            have hl1 : 1 ≤ xs.length := hl.1
            have hl2 : xs.length ≤ sig.length - m := hl.2
            have hmk2 := hmk1.out
            obtain ⟨va, hva⟩ : ∃ va, va = wayAt (fitS sig m) sigLen (ps.take j) (dpW (fitS sig) sigLen ps sig.length k) := ⟨_, rfl⟩
            obtain ⟨vb, hvb⟩ : ∃ vb, (dpW (fitS sig) sigLen ps sig.length k)[xs.length - 1]? = some vb := ⟨_, List.getElem?_eq_getElem (by rw [dpW_len]; omega)⟩
            have hsum : va + vb ≤ 2 ^ 61 := by
              have h1 : va < 2 ^ (sig.length - m) := by rw [hva]; exact wayAt_lt ((apart_sig HBK.out sig m).take j) (fun i q hq => by have := (dpW_sig HBK.out sig) k (by omega) i q hq; rwa [show sig.length - m - (i + 1) = k - i by omega])
              have h2 := (dpW_sig HBK.out sig) k (by omega) _ _ hvb
              have h3 : 2 ^ (sig.length - m) ≤ 2 ^ 60 := Nat.pow_le_pow_right (by decide) (by omega)
              have h4 : 2 ^ (k - (xs.length - 1)) ≤ 2 ^ 60 := Nat.pow_le_pow_right (by decide) (by omega)
              omega
            have HVA := Lib.hid hva
            have HVB := Lib.hid hvb
            have HS := Lib.hid hsum
            have HMK := Lib.hid hmk2
            rw [← HVA.out] at HBLP
            have c0 := HBLP.out.cell m
            rw [tblC_at] at c0
            have c1' := HBLP.out.cell (m + xs.length)
            rw [show m + xs.length = m + 1 + (xs.length - 1) by omega, tblC_on hvb, show m + 1 + (xs.length - 1) = m + xs.length by omega] at c1'
            have f0 := HBLP.out.frozen m
            have i1 : IntKind.i64.wrap ((m : Int) + (xs.length : Int)) = (m : Int) + (xs.length : Int) := wrap_in (by omega)
            have i2 : (0 : Int) ≤ (m : Int) + (xs.length : Int) := by omega
            have i3 : (m : Int) + (xs.length : Int) < (sig.length : Int) + 1 := by omega
            have i4 : ((m : Int) + (xs.length : Int)).toNat = m + xs.length := by omega
            have i6 : (m : Int) < (sig.length : Int) + 1 := by omega
            have i7 : (0 : Int) ≤ (m : Int) := by omega
            have i8 : ((m : Int)).toNat = m := by omega
            have i5 : IntKind.i64.wrap ((va : Int) + (vb : Int)) = (va : Int) + (vb : Int) := wrap_in (by omega)
            clear cB hbg hl hva hvb hsum hmk2
            go_wp2_with fail
            go_quiet ((go_at_call 116; exact Calls.quiet_of (CB.out _)))
            go_wp2_with fail
            have d0 : ((wr.alloc (.cells #[.string t, .slice A2 xs.length c2] 40)).drewN nq).cell? ⟨w.heap.size + 1, m, Option.none⟩ = some (.int .i64 (va : Int)) := c0
            have d1 : ((wr.alloc (.cells #[.string t, .slice A2 xs.length c2] 40)).drewN nq).cell? ⟨w.heap.size + 1, m + xs.length, Option.none⟩ = some (.int .i64 (vb : Int)) := c1'
            have d2 : ((wr.alloc (.cells #[.string t, .slice A2 xs.length c2] 40)).drewN nq).frozen? ⟨w.heap.size + 1, m, Option.none⟩ = false := f0
            have d3 : ((wr.alloc (.cells #[.string t, .slice A2 xs.length c2] 40)).drewN nq).cell? ⟨wr.heap.size, 1, Option.none⟩ = some (.slice A2 xs.length c2) := (Blk.new wr 40 #[.string t, .slice A2 xs.length c2]).cell 1
            have HBQ := Lib.hid (HBP.out.trans (bel_drewN (w.heap.size + 1) (wr.alloc (.cells #[.string t, .slice A2 xs.length c2] 40)) nq))
            have HBLQ : Hid (Blk ((wr.alloc (.cells #[.string t, .slice A2 xs.length c2] 40)).drewN nq) (w.heap.size + 1) 3 (tblC m va (dpW (fitS sig) sigLen ps sig.length k))) := HBLP.out
            clear c0 c1' f0
            generalize (wr.alloc (.cells #[.string t, .slice A2 xs.length c2] 40)).drewN nq = wq at d0 d1 d2 d3 HBQ HBLQ ⊢
            go_still_tail 14, (by kernel_rfl)
            change wpList _ _ _ _ _ wq.drew
            clear i1 i2 i3 i4 i5 i6 i7 i8 d1 d3
            have d4 : wq.drew.frozen? ⟨w.heap.size + 1, m, Option.none⟩ = false := d2
            have d5 : wq.drew.cell? ⟨w.heap.size + 1, m, Option.none⟩ = some (.int .i64 (va : Int)) := d0
            clear d2 d0
            go_wp2_with fail
            go_roundw
            case rel =>
              refine ⟨j + 1, by omega, by go_num, ?_, ?_⟩
              · rw [wayAt_snoc HX.out, HF.out, HBG.out]
                show Blk _ _ _ (tblC m (_ + List.getD _ (xs.length - 1) 0) _)
                rw [← HVA.out, List.getD_eq_getElem?_getD, HVB.out]
                have := Blk.set_ (show Blk wq.drew (w.heap.size + 1) 3 _ from HBLQ.out) m (.int .i64 ((va + vb : Nat) : Int))
                rw [tblC_set] at this
                exact this
              · exact (HBQ.out.drew).setCell (Nat.le_refl _) _
            case measure => simp [intOf]; omega
        · obtain rfl : j = ps.length := by omega
          go_wp2_with fail
          go_roundw
          case rel => exact ⟨m, k + 1, (m : Int) - 1, by have := hmk1.out; show m + (k + 1) = _; omega, rfl, rfl, by
            have h1 := hblk2.out
            rw [List.take_of_length_le (Nat.le_refl _), tblC_Z] at h1
            have h2 : sig.length - (k + 1) = m := by have := hmk1.out; omega
            show Blk _ _ _ (tblZ m (dpW _ _ _ _ (k + 1)))
            rw [dpW, h2]; exact h1, hbr2⟩
          case measure => (simp [intOf]; try omega)
end Go.Proofs.Ytjnkdjokbamibaa
/- Contracts: how many readings signals have; of the program and of the reference. -/
namespace Go.Proofs.Ytjnkdjokbamibaa
open Go.RowKit
def readB (sig : List Int) : Bool := decide (sig.length ≤ 60) && allB sig 1 60
theorem areRead_any (sig : List Int) (v : Value) (hi : Nat) (w : World) (h : RdI w hi v sig) : Calls Try.prog 89 #[v] w fun e w' => e = .returned (.bool (readB sig)) ∧ w = w' := by
  obtain ⟨A, c, rfl, hc, hm⟩ := Rd.form h
  have H := Lib.hid h
  clear h
  unfold readB
  by_cases hl : sig.length ≤ 60
  · rw [decide_eq_true hl, Bool.true_and]
    have hl2 : (sig.length : Int) ≤ 60 := by omega
    go_enter Try.func89, Try.ntmps89
    go_wp2_with (go_at_call 87; refine (allWithin_any sig _ _ _ hi _ H.out).mono ?_; rintro e w' ⟨rfl, rfl⟩)
    go_ret
    exact ⟨rfl, rfl⟩
  · rw [decide_eq_false hl, Bool.false_and]
    have hl2 : ¬ (sig.length : Int) ≤ 60 := by omega
    go_enter Try.func89, Try.ntmps89
    go_wp2_with fail
    go_ret
    exact ⟨rfl, rfl⟩
set_option maxHeartbeats 800000 in
theorem spSignals_any (ps : List Phr) (sig : List Int) (v u : Value) (hi hj : Nat) (w : World) (h : RdB w hi v ps) (g : RdI w hj u sig) (hh : hi ≤ w.heap.size) (hg : hj ≤ w.heap.size) :
    Calls Try.prog 91 #[v, u] w fun e w' => e = .returned (.bool (bookB ps && readB sig)) ∧ Below w.heap.size w w' := by
  obtain ⟨A', c', rfl, hc', hm'⟩ := Rd.form g
  have G := Lib.hid g
  clear g
  obtain ⟨a, rfl, ha⟩ := h
  obtain ⟨A, c, rfl, hc, hm⟩ := ha.form
  have hba : Below w.heap.size w (w.alloc (.cells #[.slice A ps.length c] 28)) := (Below.refl _ _).alloc (Nat.le_refl _) _
  have HB := Lib.hid hba
  have HA := Lib.hid (ha.below hba hh)
  have HG : Hid (RdB (w.alloc (.cells #[.slice A ps.length c] 28)) hi (.agg #[.slice A ps.length c]) ps) := ⟨_, rfl, HA.out⟩
  have hcb0 : (w.alloc (.cells #[.slice A ps.length c] 28)).cell? ⟨w.heap.size, 0, Option.none⟩ = some (.slice A ps.length c) := (Blk.new w 28 #[.slice A ps.length c]).cell 0
  have HCB := Lib.hid hcb0
  have hsz1 : hi ≤ (w.alloc (.cells #[.slice A ps.length c] 28)).heap.size := by simp; omega
  clear ha hba hcb0
  have cB := bkGood_any ps (.agg #[.slice A ps.length c]) hi (w.alloc (.cells #[.slice A ps.length c] 28)) HG.out hsz1
  cases hbk : bookB ps
  · rw [hbk] at cB
    have CB := Lib.hid cB
    clear cB
    go_enter Try.func91, Try.ntmps91
    go_wp2_with (go_at_call 59; refine CB.out.mono ?_; rintro e w1 ⟨rfl, hb1⟩)
    go_ret
    exact ⟨rfl, HB.out.trans (hb1.mono (by simp))⟩
  · rw [hbk] at cB
    have CB := Lib.hid cB
    have HBK := Lib.hid hbk
    clear cB
    go_enter Try.func91, Try.ntmps91
    go_wp2_with fail
    refine CB.out.mono ?_
    rintro e w1 ⟨rfl, hb1⟩
    have hcb := (hb1.cell (p := ⟨w.heap.size, 0, Option.none⟩) (by simp)).trans HCB.out
    have hs1 : w.heap.size + 1 ≤ w1.heap.size := by have := hb1.size; simpa using this
    have HA1 := Lib.hid (HA.out.below hb1 hsz1)
    have HG1 : Hid (RdB w1 hi (.agg #[.slice A ps.length c]) ps) := ⟨_, rfl, HA1.out⟩
    have HB1 := Lib.hid (HB.out.trans (hb1.mono (by simp)))
    clear hb1
    have G1 := Lib.hid (RdI.below G.out (HB1.out) (by omega))
    have e : (true && readB sig) = readB sig := rfl
    by_cases hl : sig.length ≤ 60
    · have HL := Lib.hid hl
      have hl2 : (sig.length : Int) ≤ 60 := by omega
      go_wp2_with (go_at_call 113; refine (l1All_any sig _ _ _ hj _ G1.out).mono ?_; rintro e w' ⟨rfl, rfl⟩)
      go_ret
      exact ⟨ret_bool (by unfold readB; rw [decide_eq_true HL.out]; rfl), HB1.out⟩
    · have HL := Lib.hid hl
      have hl2 : ¬ (sig.length : Int) ≤ 60 := by omega
      go_wp2_with fail
      go_ret
      exact ⟨ret_bool (by unfold readB; rw [decide_eq_false HL.out]; rfl), HB1.out⟩
/-- How many readings. -/
def cntS (ps : List Phr) (sig : List Int) : Nat := (dpW (fitS sig) sigLen ps sig.length sig.length).getD 0 0
def cntV (b : Bool) (n : Nat) : Value := if b then .tuple #[.int .i64 (n : Int), .bool true] else .tuple #[.int .i64 0, .bool false]
theorem waysI_head {l : List Nat} {y : Int} (h : (waysI l)[0]? = some y) : y = (l.getD 0 0 : Nat) := by
  unfold waysI at h
  rw [List.getElem?_map] at h
  rw [List.getD_eq_getElem?_getD]
  cases e : l[0]? with
  | none => rw [e] at h; cases h
  | some m => rw [e] at h; cases h; rfl
/-- A table of ways that the call has made: its head. -/
theorem own_head {w : World} {lo hi : Nat} {v : Value} {fit : Nat → Phr → Bool} {len : Phr → Nat} {ps : List Phr} {n : Nat} (h : OwI w lo hi v (waysI (dpW fit len ps n n))) :
    ∃ b c, v = .slice (some ⟨b, 0, Option.none⟩) (n + 1) c ∧ w.cell? ⟨b, 0, Option.none⟩ = some (.int .i64 (((dpW fit len ps n n).getD 0 0 : Nat) : Int)) := by
  have hl : (waysI (dpW fit len ps n n)).length = n + 1 := by simp [waysI, dpW_len]
  obtain ⟨b, off, c, y, hv, _, hy, hc⟩ := Rd.at_ h.rd (k := 0) (by rw [hl]; omega)
  rcases h.1.2 with ⟨rfl, _⟩ | ⟨g, cap, cur, hv2, _⟩
  · cases hv
  · rw [hv] at hv2
    cases hv2
    rw [hl] at hv
    refine ⟨b, c, hv, ?_⟩
    rw [waysI_head hy] at hc
    simpa using hc
set_option maxHeartbeats 1600000 in
theorem sCountReadings_any (ps : List Phr) (sig : List Int) (v u : Value) (hi hj : Nat) (w : World) (h : RdB w hi v ps) (g : RdI w hj u sig) (hh : hi ≤ w.heap.size) (hg : hj ≤ w.heap.size) :
    Calls Try.prog 35 #[v, u] w fun e w' => e = .returned (cntV (bookB ps && readB sig) (cntS ps sig)) ∧ Below w.heap.size w w' := by
  obtain ⟨A', c', rfl, hc', hm'⟩ := Rd.form g
  have G := Lib.hid g
  clear g
  obtain ⟨a, rfl, ha⟩ := h
  obtain ⟨A, c, rfl, hc, hm⟩ := ha.form
  have hba : Below w.heap.size w (w.alloc (.cells #[.slice A ps.length c] 28)) := (Below.refl _ _).alloc (Nat.le_refl _) _
  have HB := Lib.hid hba
  have HA := Lib.hid (ha.below hba hh)
  have HG : Hid (RdB (w.alloc (.cells #[.slice A ps.length c] 28)) hi (.agg #[.slice A ps.length c]) ps) := ⟨_, rfl, HA.out⟩
  have hcb0 : (w.alloc (.cells #[.slice A ps.length c] 28)).cell? ⟨w.heap.size, 0, Option.none⟩ = some (.slice A ps.length c) := (Blk.new w 28 #[.slice A ps.length c]).cell 0
  have HCB := Lib.hid hcb0
  have hsz1 : hi ≤ (w.alloc (.cells #[.slice A ps.length c] 28)).heap.size := by simp; omega
  clear ha hba hcb0
  have G0 := Lib.hid (RdI.below G.out HB.out hg)
  have hsz2 : hj ≤ (w.alloc (.cells #[.slice A ps.length c] 28)).heap.size := by simp; omega
  have cB := spSignals_any ps sig (.agg #[.slice A ps.length c]) _ hi hj (w.alloc (.cells #[.slice A ps.length c] 28)) HG.out G0.out hsz1 hsz2
  cases hbr : (bookB ps && readB sig)
  · rw [hbr] at cB
    have CB := Lib.hid cB
    clear cB
    go_enter Try.func35, Try.ntmps35
    go_wp2_with (go_at_call 91; refine CB.out.mono ?_; rintro e w1 ⟨rfl, hb1⟩)
    go_ret2
    exact ⟨ret_val rfl, HB.out.trans (hb1.mono (by simp))⟩
  · rw [hbr] at cB
    have CB := Lib.hid cB
    have HRB := Lib.hid hbr
    rw [Bool.and_eq_true] at hbr
    have HBK := Lib.hid hbr.1
    have hl60 : sig.length ≤ 60 := by have := hbr.2; unfold readB at this; rw [Bool.and_eq_true, decide_eq_true_eq] at this; exact this.1
    clear cB hbr
    go_enter Try.func35, Try.ntmps35
    go_wp2_with fail
    refine CB.out.mono ?_
    rintro e w1 ⟨rfl, hb1⟩
    have hcb := (hb1.cell (p := ⟨w.heap.size, 0, Option.none⟩) (by simp)).trans HCB.out
    have hs1 : w.heap.size + 1 ≤ w1.heap.size := by have := hb1.size; simpa using this
    have HA1 := Lib.hid (HA.out.below hb1 hsz1)
    have HG1 : Hid (RdB w1 hi (.agg #[.slice A ps.length c]) ps) := ⟨_, rfl, HA1.out⟩
    have HB1 := Lib.hid (HB.out.trans (hb1.mono (by simp)))
    clear hb1
    have G1 := Lib.hid (RdI.below G.out (HB1.out) (by omega))
    have cW := spWays_any ps sig (.agg #[.slice A ps.length c]) _ hi hj w1 HG1.out G1.out (by omega) (by omega) HBK.out hl60
    have CW := Lib.hid cW
    clear cW
    go_wp2_with fail
    refine CW.out.mono ?_
    rintro e w2 ⟨q, rfl, hq, hb2⟩
    obtain ⟨bq, cq, rfl, hcq⟩ := own_head hq
    clear hq
    have HB2 := Lib.hid (HB1.out.trans (hb2.mono (by omega)))
    clear hb2
    go_wp2_with fail
    go_ret2
    exact ⟨ret_val (by first | rfl | (rw [HRB.out]; rfl)), HB2.out⟩
set_option maxHeartbeats 1600000 in
theorem CountReadings_any (ps : List Phr) (sig : List Int) (v u : Value) (hi hj : Nat) (w : World) (h : RdB w hi v ps) (g : RdI w hj u sig) (hh : hi ≤ w.heap.size) (hg : hj ≤ w.heap.size) :
    Calls Try.prog 34 #[v, u] w fun e w' => e = .returned (cntV (bookB ps && readB sig) (cntS ps sig)) ∧ Below w.heap.size w w' := by
  obtain ⟨A', c', rfl, hc', hm'⟩ := Rd.form g
  have G := Lib.hid g
  clear g
  obtain ⟨a, rfl, ha⟩ := h
  obtain ⟨A, c, rfl, hc, hm⟩ := ha.form
  have hba : Below w.heap.size w (w.alloc (.cells #[.slice A ps.length c] 28)) := (Below.refl _ _).alloc (Nat.le_refl _) _
  have HB := Lib.hid hba
  have HA := Lib.hid (ha.below hba hh)
  have HG : Hid (RdB (w.alloc (.cells #[.slice A ps.length c] 28)) hi (.agg #[.slice A ps.length c]) ps) := ⟨_, rfl, HA.out⟩
  have hcb0 : (w.alloc (.cells #[.slice A ps.length c] 28)).cell? ⟨w.heap.size, 0, Option.none⟩ = some (.slice A ps.length c) := (Blk.new w 28 #[.slice A ps.length c]).cell 0
  have HCB := Lib.hid hcb0
  have hsz1 : hi ≤ (w.alloc (.cells #[.slice A ps.length c] 28)).heap.size := by simp; omega
  clear ha hba hcb0
  have cB := IsBook_any ps (.agg #[.slice A ps.length c]) hi (w.alloc (.cells #[.slice A ps.length c] 28)) HG.out hsz1
  cases hbk : bookB ps
  · rw [hbk] at cB
    have CB := Lib.hid cB
    clear cB
    go_enter Try.func34, Try.ntmps34
    go_wp2_with (go_at_call 71; refine CB.out.mono ?_; rintro e w1 ⟨rfl, hb1⟩)
    go_ret2
    exact ⟨ret_val rfl, HB.out.trans (hb1.mono (by simp))⟩
  · rw [hbk] at cB
    have CB := Lib.hid cB
    have HBK := Lib.hid hbk
    clear cB
    go_enter Try.func34, Try.ntmps34
    go_wp2_with fail
    refine CB.out.mono ?_
    rintro e w1 ⟨rfl, hb1⟩
    have hcb := (hb1.cell (p := ⟨w.heap.size, 0, Option.none⟩) (by simp)).trans HCB.out
    have hs1 : w.heap.size + 1 ≤ w1.heap.size := by have := hb1.size; simpa using this
    have HA1 := Lib.hid (HA.out.below hb1 hsz1)
    have HG1 : Hid (RdB w1 hi (.agg #[.slice A ps.length c]) ps) := ⟨_, rfl, HA1.out⟩
    have HB1 := Lib.hid (HB.out.trans (hb1.mono (by simp)))
    clear hb1
    have G1r := Lib.hid (RdI.below G.out (HB1.out) (by omega))
    have cR := areRead_any sig _ hj w1 G1r.out
    cases hrd : readB sig
    · rw [hrd] at cR
      have CR := Lib.hid cR
      clear cR
      go_wp2_with (go_at_call 89; refine (CR.out).mono ?_; rintro e w' ⟨rfl, rfl⟩)
      go_ret2
      exact ⟨ret_val (by rw [hrd]; rfl), HB1.out⟩
    · rw [hrd] at cR
      have CR := Lib.hid cR
      have HRB : Hid ((true && readB sig) = true) := hrd
      have hl60 : sig.length ≤ 60 := by have := hrd; unfold readB at this; rw [Bool.and_eq_true, decide_eq_true_eq] at this; exact this.1
      clear cR hrd
      have G1 := Lib.hid (RdI.below G.out (HB1.out) (by omega))
      have cW := readings_any ps sig (.agg #[.slice A ps.length c]) _ hi hj w1 HG1.out G1.out (by omega) (by omega) HBK.out hl60
      have CW := Lib.hid cW
      clear cW
      go_wp2_with (go_at_call 89; refine (CR.out).mono ?_; rintro e w' ⟨rfl, rfl⟩)
      refine CW.out.mono ?_
      rintro e w2 ⟨q, rfl, hq, hb2⟩
      obtain ⟨bq, cq, rfl, hcq⟩ := own_head hq
      clear hq
      have HB2 := Lib.hid (HB1.out.trans (hb2.mono (by omega)))
      clear hb2
      go_wp2_with fail
      go_ret2
      exact ⟨ret_val (by first | rfl | (rw [HRB.out]; rfl)), HB2.out⟩
end Go.Proofs.Ytjnkdjokbamibaa
/- Contracts: how many spellings letters have; of the program and of the reference. -/
namespace Go.Proofs.Ytjnkdjokbamibaa
open Go.RowKit
def lettB (s : ByteArray) : Bool := smallB s.data.toList && decide (s.size ≤ 40)
theorem spLetters_any (s : ByteArray) (hs : s.size ≤ maxLen) (w : World) : Calls Try.prog 136 #[.string s] w fun e w' => e = .returned (.bool (lettB s)) ∧ w = w' := by
  unfold maxLen at hs
  unfold lettB
  go_enter Try.func136, Try.ntmps136
  go_wp2
  go_loop [3] (fun i => ∃ k : Nat, k ≤ s.size ∧ i = .int .i64 k ∧ Hid (smallB (s.data.toList.take k) = true)) (fun i => s.size - (intOf i).toNat)
  case atStart => exact ⟨0, Nat.zero_le _, rfl, rfl⟩
  case round =>
    obtain ⟨k, hk, rfl, hsm⟩ := hrel
    by_cases hlt : k < s.size
    · go_wp2
      · go_ret
        exact ⟨ret_bool (by rw [smallB_no s k hlt (by omega)]; rfl), rfl⟩
      · go_round
        case rel => exact ⟨k + 1, by omega, by go_num, smallB_step s k hlt hsm.out (by omega) (by omega)⟩
        case measure => simp [intOf]; omega
      · go_ret
        exact ⟨ret_bool (by rw [smallB_no s k hlt (by omega)]; rfl), rfl⟩
    · go_wp2
      go_ret
      exact ⟨ret_bool (by rw [smallB_all s k hlt hsm.out, Bool.true_and]; exact decide_eq_decide.2 (by omega)), rfl⟩
theorem isLetters_any (s : ByteArray) (hs : s.size ≤ maxLen) (w : World) : Calls Try.prog 79 #[.string s] w fun e w' => e = .returned (.bool (lettB s)) ∧ w = w' := by
  have cS := isSmall_any s hs
  unfold maxLen at hs
  have CS := Lib.hid cS
  clear cS
  by_cases hl : s.size ≤ 40
  · have HL := Lib.hid hl
    have hl2 : (s.size : Int) ≤ 40 := by omega
    go_enter Try.func79, Try.ntmps79
    go_wp2_with (go_at_call 135; refine (CS.out _).mono ?_; rintro e w' ⟨rfl, rfl⟩)
    go_ret
    exact ⟨ret_bool (by unfold lettB; rw [decide_eq_true HL.out, Bool.and_true]), rfl⟩
  · have HL := Lib.hid hl
    have hl2 : ¬ (s.size : Int) ≤ 40 := by omega
    go_enter Try.func79, Try.ntmps79
    go_wp2_with fail
    go_ret
    exact ⟨ret_bool (by unfold lettB; rw [decide_eq_false HL.out, Bool.and_false]), rfl⟩
theorem spBegins_any (s t : ByteArray) (_hs : s.size ≤ 9223372036854775807) (_ht : t.size ≤ 9223372036854775807) (w : World) :
    Calls Try.prog 86 #[.string s, .string t] w fun e w' => e = .returned (.bool (Lib.hasPrefix s.data.toList t.data.toList)) ∧ w = w' := by
  rw [← Lib.hasPrefix_raw]
  by_cases hl : t.size ≤ s.size
  · rw [decide_eq_true hl, Bool.true_and]
    have hl2 : (t.size : Int) ≤ (s.size : Int) := by omega
    go_enter Try.func86, Try.ntmps86
    go_wp2_with fail
    go_ret
    exact ⟨rfl, rfl⟩
  · rw [decide_eq_false hl, Bool.false_and]
    have hl2 : ¬ (t.size : Int) ≤ (s.size : Int) := by omega
    go_enter Try.func86, Try.ntmps86
    go_wp2_with fail
    go_ret
    exact ⟨rfl, rfl⟩
set_option maxHeartbeats 800000 in
theorem spAsked_any (ps : List Phr) (s : ByteArray) (v : Value) (hi : Nat) (w : World) (hs0 : s.size ≤ maxLen) (h : RdB w hi v ps) (hh : hi ≤ w.heap.size) :
    Calls Try.prog 81 #[v, .string s] w fun e w' => e = .returned (.bool (bookB ps && lettB s)) ∧ Below w.heap.size w w' := by
  obtain ⟨a, rfl, ha⟩ := h
  obtain ⟨A, c, rfl, hc, hm⟩ := ha.form
  have hba : Below w.heap.size w (w.alloc (.cells #[.slice A ps.length c] 28)) := (Below.refl _ _).alloc (Nat.le_refl _) _
  have HB := Lib.hid hba
  have HA := Lib.hid (ha.below hba hh)
  have HG : Hid (RdB (w.alloc (.cells #[.slice A ps.length c] 28)) hi (.agg #[.slice A ps.length c]) ps) := ⟨_, rfl, HA.out⟩
  have hcb0 : (w.alloc (.cells #[.slice A ps.length c] 28)).cell? ⟨w.heap.size, 0, Option.none⟩ = some (.slice A ps.length c) := (Blk.new w 28 #[.slice A ps.length c]).cell 0
  have HCB := Lib.hid hcb0
  have hsz1 : hi ≤ (w.alloc (.cells #[.slice A ps.length c] 28)).heap.size := by simp; omega
  clear ha hba hcb0
  have cB := bkGood_any ps (.agg #[.slice A ps.length c]) hi (w.alloc (.cells #[.slice A ps.length c] 28)) HG.out hsz1
  cases hbk : bookB ps
  · rw [hbk] at cB
    have CB := Lib.hid cB
    clear cB
    go_enter Try.func81, Try.ntmps81
    go_wp2_with (go_at_call 59; refine CB.out.mono ?_; rintro e w1 ⟨rfl, hb1⟩)
    go_ret
    exact ⟨rfl, HB.out.trans (hb1.mono (by simp))⟩
  · rw [hbk] at cB
    have CB := Lib.hid cB
    have HBK := Lib.hid hbk
    clear cB
    go_enter Try.func81, Try.ntmps81
    go_wp2_with fail
    refine CB.out.mono ?_
    rintro e w1 ⟨rfl, hb1⟩
    have hcb := (hb1.cell (p := ⟨w.heap.size, 0, Option.none⟩) (by simp)).trans HCB.out
    have hs1 : w.heap.size + 1 ≤ w1.heap.size := by have := hb1.size; simpa using this
    have HA1 := Lib.hid (HA.out.below hb1 hsz1)
    have HG1 : Hid (RdB w1 hi (.agg #[.slice A ps.length c]) ps) := ⟨_, rfl, HA1.out⟩
    have HB1 := Lib.hid (HB.out.trans (hb1.mono (by simp)))
    clear hb1
    have cL := spLetters_any s hs0 w1
    have CL := Lib.hid cL
    clear cL
    go_wp2_with (go_at_call 136; refine (CL.out).mono ?_; rintro e w' ⟨rfl, rfl⟩)
    go_ret
    exact ⟨rfl, HB1.out⟩
/-- How many spellings. -/
def cntT (ps : List Phr) (s : ByteArray) : Nat := (dpW (fitT s) txtLen ps s.size s.size).getD 0 0
theorem tblZ_head {fit : Nat → Phr → Bool} {len : Phr → Nat} {ps : List Phr} {n : Nat} : (tblZ 0 (dpW fit len ps n n))[0]? = some (.int .i64 (((dpW fit len ps n n).getD 0 0 : Nat) : Int)) := by
  have hl := dpW_len fit len ps n n
  cases e : dpW fit len ps n n with
  | nil => rw [e] at hl; simp at hl
  | cons a l => simp [tblZ]
set_option maxRecDepth 100000 in
set_option maxHeartbeats 4000000 in
theorem sCountSpellings_any (ps : List Phr) (s : ByteArray) (v : Value) (hi : Nat) (w : World) (hs0 : s.size ≤ maxLen) (h : RdB w hi v ps) (hh : hi ≤ w.heap.size) :
    Calls Try.prog 29 #[v, .string s] w fun e w' => e = .returned (cntV (bookB ps && lettB s) (cntT ps s)) ∧ Below w.heap.size w w' := by
  obtain ⟨a, rfl, ha⟩ := h
  obtain ⟨A, c, rfl, hc, hm⟩ := ha.form
  have HA0 := Lib.hid ha
  have hba : Below w.heap.size w (w.alloc (.cells #[.slice A ps.length c] 28)) := (Below.refl _ _).alloc (Nat.le_refl _) _
  have HB := Lib.hid hba
  have HA := Lib.hid (ha.below hba hh)
  have HG : Hid (RdB (w.alloc (.cells #[.slice A ps.length c] 28)) hi (.agg #[.slice A ps.length c]) ps) := ⟨_, rfl, HA.out⟩
  have hcb0 : (w.alloc (.cells #[.slice A ps.length c] 28)).cell? ⟨w.heap.size, 0, Option.none⟩ = some (.slice A ps.length c) := (Blk.new w 28 #[.slice A ps.length c]).cell 0
  have HCB := Lib.hid hcb0
  have hsz1 : hi ≤ (w.alloc (.cells #[.slice A ps.length c] 28)).heap.size := by simp; omega
  clear ha hba hcb0
  have cB := spAsked_any ps s (.agg #[.slice A ps.length c]) hi (w.alloc (.cells #[.slice A ps.length c] 28)) hs0 HG.out hsz1
  cases hbr : (bookB ps && lettB s)
  · rw [hbr] at cB
    have CB := Lib.hid cB
    clear cB
    go_enter Try.func29, Try.ntmps29
    go_wp2_with (go_at_call 81; refine CB.out.mono ?_; rintro e w1 ⟨rfl, hb1⟩)
    go_ret2
    exact ⟨ret_val rfl, HB.out.trans (hb1.mono (by simp))⟩
  · rw [hbr] at cB
    have CB := Lib.hid cB
    have HRB := Lib.hid hbr
    rw [Bool.and_eq_true] at hbr
    have HBK := Lib.hid hbr.1
    have hs40 : s.size ≤ 40 := by have := hbr.2; unfold lettB at this; rw [Bool.and_eq_true, decide_eq_true_eq] at this; exact this.2
    clear cB hbr
    go_enter Try.func29, Try.ntmps29
    go_wp2_with fail
    refine CB.out.mono ?_
    rintro e w1 ⟨rfl, hb1⟩
    have hcb := (hb1.cell (p := ⟨w.heap.size, 0, Option.none⟩) (by simp)).trans HCB.out
    have hs1 : w.heap.size + 1 ≤ w1.heap.size := by have := hb1.size; simpa using this
    have HB1 := Lib.hid (HB.out.trans (hb1.mono (by simp)))
    clear hb1
    have hmk := make_ints (s.size + 1) (by omega)
    rw [show ((s.size + 1 : Nat) : Int) = (s.size : Int) + 1 from rfl] at hmk
    have HBW : Hid (Below w.heap.size w (w1.alloc (.cells ((zeros (s.size + 1)).setIfInBounds s.size (.int .i64 1)) 3))) := HB1.out.trans ((Below.refl w.heap.size w1).alloc (by omega) _)
    have HTB0 : Hid (Blk (w1.alloc (.cells ((zeros (s.size + 1)).setIfInBounds s.size (.int .i64 1)) 3)) w1.heap.size 3 (tblZ s.size (dpW (fitT s) txtLen ps s.size 0))) := by
      have := Blk.new w1 3 ((zeros (s.size + 1)).setIfInBounds s.size (.int .i64 1))
      rw [tblZ_start] at this
      exact this
    have HCBX : Hid ((w1.alloc (.cells ((zeros (s.size + 1)).setIfInBounds s.size (.int .i64 1)) 3)).cell? ⟨w.heap.size, 0, Option.none⟩ = some (.slice A ps.length c)) :=
      (((Below.refl w1.heap.size w1).alloc (Nat.le_refl _) (.cells ((zeros (s.size + 1)).setIfInBounds s.size (.int .i64 1)) 3)).cell (p := ⟨w.heap.size, 0, Option.none⟩) (by show w.heap.size < w1.heap.size; omega)).trans hcb
    have hz0 : (w1.alloc (.cells (zeros (s.size + 1)) 3)).cell? ⟨w1.heap.size, s.size, Option.none⟩ = some (.int .i64 0) := by
      have := (Blk.new w1 3 (zeros (s.size + 1))).cell s.size
      rw [show (zeros (s.size + 1)).toList[s.size]? = some (.int .i64 0) by simp [zeros]] at this
      exact this
    clear hcb
    go_wp2_with fail
    go_loopw [7] (fun i wr => ∃ (m k : Nat) (z : Int), Hid (m + k = s.size) ∧ Hid (z = (m : Int) - 1) ∧ i = .int .i64 z ∧ Hid (Blk wr w1.heap.size 3 (tblZ m (dpW (fitT s) txtLen ps s.size k))) ∧ Hid (Below w1.heap.size (w1.alloc (.cells ((zeros (s.size + 1)).setIfInBounds s.size (.int .i64 1)) 3)) wr)) (fun i _ => (intOf i + 1).toNat)
    case atStart => exact ⟨s.size, 0, (s.size : Int) - 1, rfl, rfl, rfl, HTB0.out, Below.refl _ _⟩
    case round =>
      obtain ⟨m, k, z, hmk1, hz, rfl, hblk, hbr⟩ := hrel
      have hs : w1.heap.size + 1 ≤ wr.heap.size := by have := hblk.out.lt; omega
      rcases m with _ | m
      · obtain rfl : z = -1 := by have := hz.out; omega
        have HK : Hid (k = s.size) := by have := hmk1.out; show k = _; omega
        have h1 := hblk.out
        rw [HK.out] at h1
        have hc0 := h1.cell 0
        rw [tblZ_head] at hc0
        go_wp2_with fail
        go_ret2
        exact ⟨ret_val (by first | rfl | (rw [HRB.out]; rfl)), HBW.out.trans (hbr.out.mono (by omega))⟩
      · obtain rfl : z = (m : Int) := by have := hz.out; omega
        have hm1 : m < s.size := by have := hmk1.out; omega
        have hboxr := (hbr.out.cell (p := ⟨w.heap.size, 0, Option.none⟩) (by show w.heap.size < w1.heap.size; omega)).trans HCBX.out

        rename World => wo
        go_wp2_with fail
        go_loopw [32] (fun i wr => ∃ j : Nat, j ≤ ps.length ∧ i = .int .i64 j ∧ Hid (Blk wr w1.heap.size 3 (tblC m (wayAt (fitT s m) txtLen (ps.take j) (dpW (fitT s) txtLen ps s.size k)) (dpW (fitT s) txtLen ps s.size k))) ∧ Hid (Below w1.heap.size (w1.alloc (.cells ((zeros (s.size + 1)).setIfInBounds s.size (.int .i64 1)) 3)) wr)) (fun i _ => ps.length - (intOf i).toNat)
        case atStart => exact ⟨0, Nat.zero_le _, rfl, by have := hblk.out; rw [tblZ_down] at this; exact this, hbr⟩
        case round =>
          obtain ⟨j, hjl, rfl, hblk2, hbr2⟩ := hrel
          have hs2 : w1.heap.size + 1 ≤ wr.heap.size := by have := hblk2.out.lt; omega
          have HBR := Lib.hid (HBW.out.trans (hbr2.out.mono (by omega)))
          by_cases hlt : j < ps.length
          · obtain ⟨b1, o1, c1, a, t, xs, hv, hb1, hx, hcell1, hcell2, hra, hta⟩ := (HA0.out.below HBR.out (by omega)).at_ hlt
            cases hv
            obtain ⟨A2, c2, rfl, hc2, hm2⟩ := Rd.form hra
            have HX := Lib.hid hx
            have HRA := Lib.hid hra
            clear hra
            have hfit : fitT s m (t, xs) = Lib.hasPrefix (s.extract m s.size).data.toList t.data.toList := rfl
            have HF := Lib.hid hfit
            have HAP := Lib.hid (((apart_txt HBK.out s m).2 (t, xs) (List.mem_of_getElem? HX.out)))
            have HBP := Lib.hid (hbr2.out.alloc (show w1.heap.size ≤ wr.heap.size by omega) (.cells #[.string t, .slice A2 xs.length c2] 40))
            have HBLP : Hid (Blk (wr.alloc (.cells #[.string t, .slice A2 xs.length c2] 40)) w1.heap.size 3 (tblC m (wayAt (fitT s m) txtLen (ps.take j) (dpW (fitT s) txtLen ps s.size k)) (dpW (fitT s) txtLen ps s.size k))) := hblk2.out.alloc _
            clear hx hfit
            have cB := fun n => still_of (spBegins_any (s.extract m s.size) t (by simp; omega) hta ((wr.alloc (.cells #[.string t, .slice A2 xs.length c2] 40)).drewN n))
            cases hbg : Lib.hasPrefix (s.extract m s.size).data.toList t.data.toList
            · rw [hbg] at cB
              have CB := Lib.hid cB
              have HBG := Lib.hid hbg
              clear cB hbg
              go_wp2_with fail
              go_quiet ((go_at_call 86; exact Calls.quiet_of_same (CB.out _)))
              go_wp2_with fail
              go_roundw
              case rel => exact ⟨j + 1, by omega, by go_num, by rw [wayAt_snoc HX.out, HF.out, HBG.out]; exact HBLP.out, HBP.out.trans (bel_drewN _ _ _)⟩
              case measure => simp [intOf]; omega
            · rw [hbg] at cB
              have CB := Lib.hid cB
              have HBG := Lib.hid hbg
              have hl := HAP.out (by rw [HF.out, HBG.out])
              have hl1 : 1 ≤ t.size := hl.1
              have hl2 : t.size ≤ s.size - m := hl.2
              have hmk2 := hmk1.out
              obtain ⟨va, hva⟩ : ∃ va, va = wayAt (fitT s m) txtLen (ps.take j) (dpW (fitT s) txtLen ps s.size k) := ⟨_, rfl⟩
              obtain ⟨vb, hvb⟩ : ∃ vb, (dpW (fitT s) txtLen ps s.size k)[t.size - 1]? = some vb := ⟨_, List.getElem?_eq_getElem (by rw [dpW_len]; omega)⟩
              have hsum : va + vb ≤ 2 ^ 61 := by
                have h1 : va < 2 ^ (s.size - m) := by rw [hva]; exact wayAt_lt ((apart_txt HBK.out s m).take j) (fun i q hq => by have := (dpW_txt HBK.out s) k (by omega) i q hq; rwa [show s.size - m - (i + 1) = k - i by omega])
                have h2 := (dpW_txt HBK.out s) k (by omega) _ _ hvb
                have h3 : 2 ^ (s.size - m) ≤ 2 ^ 60 := Nat.pow_le_pow_right (by decide) (by omega)
                have h4 : 2 ^ (k - (t.size - 1)) ≤ 2 ^ 60 := Nat.pow_le_pow_right (by decide) (by omega)
                omega
              have HVA := Lib.hid hva
              have HVB := Lib.hid hvb
              have HS := Lib.hid hsum
              have HMK := Lib.hid hmk2
              rw [← HVA.out] at HBLP
              have c0 := HBLP.out.cell m
              rw [tblC_at] at c0
              have c1' := HBLP.out.cell (m + t.size)
              rw [show m + t.size = m + 1 + (t.size - 1) by omega, tblC_on hvb, show m + 1 + (t.size - 1) = m + t.size by omega] at c1'
              have f0 := HBLP.out.frozen m
              have i1 : IntKind.i64.wrap ((m : Int) + (t.size : Int)) = (m : Int) + (t.size : Int) := wrap_in (by omega)
              have i2 : (0 : Int) ≤ (m : Int) + (t.size : Int) := by omega
              have i3 : (m : Int) + (t.size : Int) < (s.size : Int) + 1 := by omega
              have i4 : ((m : Int) + (t.size : Int)).toNat = m + t.size := by omega
              have i6 : (m : Int) < (s.size : Int) + 1 := by omega
              have i7 : (0 : Int) ≤ (m : Int) := by omega
              have i8 : ((m : Int)).toNat = m := by omega
              have i5 : IntKind.i64.wrap ((va : Int) + (vb : Int)) = (va : Int) + (vb : Int) := wrap_in (by omega)
              clear cB hbg hl hva hvb hsum hmk2
              go_wp2_with fail
              go_quiet ((go_at_call 86; exact Calls.quiet_of_same (CB.out _)))
              go_wp2_with fail
              have d0 : ((wr.alloc (.cells #[.string t, .slice A2 xs.length c2] 40)).drewN nq).cell? ⟨w1.heap.size, m, Option.none⟩ = some (.int .i64 (va : Int)) := c0
              have d1 : ((wr.alloc (.cells #[.string t, .slice A2 xs.length c2] 40)).drewN nq).cell? ⟨w1.heap.size, m + t.size, Option.none⟩ = some (.int .i64 (vb : Int)) := c1'
              have d2 : ((wr.alloc (.cells #[.string t, .slice A2 xs.length c2] 40)).drewN nq).frozen? ⟨w1.heap.size, m, Option.none⟩ = false := f0
              have d3 : ((wr.alloc (.cells #[.string t, .slice A2 xs.length c2] 40)).drewN nq).cell? ⟨wr.heap.size, 0, Option.none⟩ = some (.string t) := (Blk.new wr 40 #[.string t, .slice A2 xs.length c2]).cell 0
              have HBQ := Lib.hid (HBP.out.trans (bel_drewN w1.heap.size (wr.alloc (.cells #[.string t, .slice A2 xs.length c2] 40)) nq))
              have HBLQ : Hid (Blk ((wr.alloc (.cells #[.string t, .slice A2 xs.length c2] 40)).drewN nq) w1.heap.size 3 (tblC m va (dpW (fitT s) txtLen ps s.size k))) := HBLP.out
              clear c0 c1' f0
              generalize (wr.alloc (.cells #[.string t, .slice A2 xs.length c2] 40)).drewN nq = wq at d0 d1 d2 d3 HBQ HBLQ ⊢
              go_still_tail 14, (by kernel_rfl)
              change wpList _ _ _ _ _ wq.drew
              clear i1 i2 i3 i4 i5 i6 i7 i8 d1 d3
              have d4 : wq.drew.frozen? ⟨w1.heap.size, m, Option.none⟩ = false := d2
              have d5 : wq.drew.cell? ⟨w1.heap.size, m, Option.none⟩ = some (.int .i64 (va : Int)) := d0
              clear d2 d0
              go_wp2_with fail
              go_roundw
              case rel =>
                refine ⟨j + 1, by omega, by go_num, ?_, ?_⟩
                · rw [wayAt_snoc HX.out, HF.out, HBG.out]
                  show Blk _ _ _ (tblC m (_ + List.getD _ (t.size - 1) 0) _)
                  rw [← HVA.out, List.getD_eq_getElem?_getD, HVB.out]
                  have := Blk.set_ (show Blk wq.drew w1.heap.size 3 _ from HBLQ.out) m (.int .i64 ((va + vb : Nat) : Int))
                  rw [tblC_set] at this
                  exact this
                · exact (HBQ.out.drew).setCell (Nat.le_refl _) _
              case measure => simp [intOf]; omega
          · obtain rfl : j = ps.length := by omega
            go_wp2_with fail
            go_roundw
            case rel => exact ⟨m, k + 1, (m : Int) - 1, by have := hmk1.out; show m + (k + 1) = _; omega, rfl, rfl, by
              have h1 := hblk2.out
              rw [List.take_of_length_le (Nat.le_refl _), tblC_Z] at h1
              have h2 : s.size - (k + 1) = m := by have := hmk1.out; omega
              show Blk _ _ _ (tblZ m (dpW _ _ _ _ (k + 1)))
              rw [dpW, h2]; exact h1, hbr2⟩
            case measure => (simp [intOf]; try omega)
set_option maxRecDepth 100000 in
set_option maxHeartbeats 4000000 in
theorem CountSpellings_any (ps : List Phr) (s : ByteArray) (v : Value) (hi : Nat) (w : World) (hs0 : s.size ≤ maxLen) (h : RdB w hi v ps) (hh : hi ≤ w.heap.size) :
    Calls Try.prog 28 #[v, .string s] w fun e w' => e = .returned (cntV (bookB ps && lettB s) (cntT ps s)) ∧ Below w.heap.size w w' := by
  obtain ⟨a, rfl, ha⟩ := h
  obtain ⟨A, c, rfl, hc, hm⟩ := ha.form
  have HA0 := Lib.hid ha
  have hba : Below w.heap.size w (w.alloc (.cells #[.slice A ps.length c] 28)) := (Below.refl _ _).alloc (Nat.le_refl _) _
  have HB := Lib.hid hba
  have HA := Lib.hid (ha.below hba hh)
  have HG : Hid (RdB (w.alloc (.cells #[.slice A ps.length c] 28)) hi (.agg #[.slice A ps.length c]) ps) := ⟨_, rfl, HA.out⟩
  have hcb0 : (w.alloc (.cells #[.slice A ps.length c] 28)).cell? ⟨w.heap.size, 0, Option.none⟩ = some (.slice A ps.length c) := (Blk.new w 28 #[.slice A ps.length c]).cell 0
  have HCB := Lib.hid hcb0
  have hsz1 : hi ≤ (w.alloc (.cells #[.slice A ps.length c] 28)).heap.size := by simp; omega
  clear ha hba hcb0
  have cB := IsBook_any ps (.agg #[.slice A ps.length c]) hi (w.alloc (.cells #[.slice A ps.length c] 28)) HG.out hsz1
  cases hbk : bookB ps
  · rw [hbk] at cB
    have CB := Lib.hid cB
    clear cB
    go_enter Try.func28, Try.ntmps28
    go_wp2_with (go_at_call 71; refine CB.out.mono ?_; rintro e w1 ⟨rfl, hb1⟩)
    go_ret2
    exact ⟨ret_val rfl, HB.out.trans (hb1.mono (by simp))⟩
  · rw [hbk] at cB
    have CB := Lib.hid cB
    have HBK := Lib.hid hbk
    clear cB
    go_enter Try.func28, Try.ntmps28
    go_wp2_with fail
    refine CB.out.mono ?_
    rintro e w1 ⟨rfl, hb1⟩
    have hcb := (hb1.cell (p := ⟨w.heap.size, 0, Option.none⟩) (by simp)).trans HCB.out
    have hs1 : w.heap.size + 1 ≤ w1.heap.size := by have := hb1.size; simpa using this
    have HA1 := Lib.hid (HA.out.below hb1 hsz1)
    have HG1 : Hid (RdB w1 hi (.agg #[.slice A ps.length c]) ps) := ⟨_, rfl, HA1.out⟩
    have HB1 := Lib.hid (HB.out.trans (hb1.mono (by simp)))
    clear hb1
    have cR := isLetters_any s hs0 w1
    cases hrd : lettB s
    · rw [hrd] at cR
      have CR := Lib.hid cR
      clear cR
      go_wp2_with (go_at_call 79; refine (CR.out).mono ?_; rintro e w' ⟨rfl, rfl⟩)
      go_ret2
      exact ⟨ret_val (by rw [hrd]; rfl), HB1.out⟩
    · rw [hrd] at cR
      have CR := Lib.hid cR
      have HRB : Hid ((true && lettB s) = true) := hrd
      have hs40 : s.size ≤ 40 := by have := hrd; unfold lettB at this; rw [Bool.and_eq_true, decide_eq_true_eq] at this; exact this.2
      clear cR hrd
      have hmk := make_ints (s.size + 1) (by omega)
      rw [show ((s.size + 1 : Nat) : Int) = (s.size : Int) + 1 from rfl] at hmk
      have HBW : Hid (Below w.heap.size w (w1.alloc (.cells ((zeros (s.size + 1)).setIfInBounds s.size (.int .i64 1)) 3))) := HB1.out.trans ((Below.refl w.heap.size w1).alloc (by omega) _)
      have HTB0 : Hid (Blk (w1.alloc (.cells ((zeros (s.size + 1)).setIfInBounds s.size (.int .i64 1)) 3)) w1.heap.size 3 (tblZ s.size (dpW (fitT s) txtLen ps s.size 0))) := by
        have := Blk.new w1 3 ((zeros (s.size + 1)).setIfInBounds s.size (.int .i64 1))
        rw [tblZ_start] at this
        exact this
      have HCBX : Hid ((w1.alloc (.cells ((zeros (s.size + 1)).setIfInBounds s.size (.int .i64 1)) 3)).cell? ⟨w.heap.size, 0, Option.none⟩ = some (.slice A ps.length c)) :=
        (((Below.refl w1.heap.size w1).alloc (Nat.le_refl _) (.cells ((zeros (s.size + 1)).setIfInBounds s.size (.int .i64 1)) 3)).cell (p := ⟨w.heap.size, 0, Option.none⟩) (by show w.heap.size < w1.heap.size; omega)).trans hcb
      have hz0 : (w1.alloc (.cells (zeros (s.size + 1)) 3)).cell? ⟨w1.heap.size, s.size, Option.none⟩ = some (.int .i64 0) := by
        have := (Blk.new w1 3 (zeros (s.size + 1))).cell s.size
        rw [show (zeros (s.size + 1)).toList[s.size]? = some (.int .i64 0) by simp [zeros]] at this
        exact this
      clear hcb
      go_wp2_with (go_at_call 79; refine (CR.out).mono ?_; rintro e w' ⟨rfl, rfl⟩)
      go_loopw [7] (fun i wr => ∃ (m k : Nat) (z : Int), Hid (m + k = s.size) ∧ Hid (z = (m : Int) - 1) ∧ i = .int .i64 z ∧ Hid (Blk wr w1.heap.size 3 (tblZ m (dpW (fitT s) txtLen ps s.size k))) ∧ Hid (Below w1.heap.size (w1.alloc (.cells ((zeros (s.size + 1)).setIfInBounds s.size (.int .i64 1)) 3)) wr)) (fun i _ => (intOf i + 1).toNat)
      case atStart => exact ⟨s.size, 0, (s.size : Int) - 1, rfl, rfl, rfl, HTB0.out, Below.refl _ _⟩
      case round =>
        obtain ⟨m, k, z, hmk1, hz, rfl, hblk, hbr⟩ := hrel
        have hs : w1.heap.size + 1 ≤ wr.heap.size := by have := hblk.out.lt; omega
        rcases m with _ | m
        · obtain rfl : z = -1 := by have := hz.out; omega
          have HK : Hid (k = s.size) := by have := hmk1.out; show k = _; omega
          have h1 := hblk.out
          rw [HK.out] at h1
          have hc0 := h1.cell 0
          rw [tblZ_head] at hc0
          go_wp2_with fail
          go_ret2
          exact ⟨ret_val (by first | rfl | (rw [HRB.out]; rfl)), HBW.out.trans (hbr.out.mono (by omega))⟩
        · obtain rfl : z = (m : Int) := by have := hz.out; omega
          have hm1 : m < s.size := by have := hmk1.out; omega
          have hboxr := (hbr.out.cell (p := ⟨w.heap.size, 0, Option.none⟩) (by show w.heap.size < w1.heap.size; omega)).trans HCBX.out

          rename World => wo
          go_wp2_with fail
          go_loopw [36] (fun i wr => ∃ j : Nat, j ≤ ps.length ∧ i = .int .i64 j ∧ Hid (Blk wr w1.heap.size 3 (tblC m (wayAt (fitT s m) txtLen (ps.take j) (dpW (fitT s) txtLen ps s.size k)) (dpW (fitT s) txtLen ps s.size k))) ∧ Hid (Below w1.heap.size (w1.alloc (.cells ((zeros (s.size + 1)).setIfInBounds s.size (.int .i64 1)) 3)) wr)) (fun i _ => ps.length - (intOf i).toNat)
          case atStart => exact ⟨0, Nat.zero_le _, rfl, by have := hblk.out; rw [tblZ_down] at this; exact this, hbr⟩
          case round =>
            obtain ⟨j, hjl, rfl, hblk2, hbr2⟩ := hrel
            have hs2 : w1.heap.size + 1 ≤ wr.heap.size := by have := hblk2.out.lt; omega
            have HBR := Lib.hid (HBW.out.trans (hbr2.out.mono (by omega)))
            by_cases hlt : j < ps.length
            · obtain ⟨b1, o1, c1, a, t, xs, hv, hb1, hx, hcell1, hcell2, hra, hta⟩ := (HA0.out.below HBR.out (by omega)).at_ hlt
              cases hv
              obtain ⟨A2, c2, rfl, hc2, hm2⟩ := Rd.form hra
              have HX := Lib.hid hx
              have HRA := Lib.hid hra
              clear hra
              have hfit : fitT s m (t, xs) = Lib.hasPrefix (s.extract m s.size).data.toList t.data.toList := rfl
              have HF := Lib.hid hfit
              have HAP := Lib.hid (((apart_txt HBK.out s m).2 (t, xs) (List.mem_of_getElem? HX.out)))
              have HBP := Lib.hid (hbr2.out.alloc (show w1.heap.size ≤ wr.heap.size by omega) (.cells #[.string t, .slice A2 xs.length c2] 40))
              have HBLP : Hid (Blk (wr.alloc (.cells #[.string t, .slice A2 xs.length c2] 40)) w1.heap.size 3 (tblC m (wayAt (fitT s m) txtLen (ps.take j) (dpW (fitT s) txtLen ps s.size k)) (dpW (fitT s) txtLen ps s.size k))) := hblk2.out.alloc _
              clear hx hfit
              have cB := fun n => Try.strings_HasPrefix (s.extract m s.size) t ((wr.alloc (.cells #[.string t, .slice A2 xs.length c2] 40)).drewN n)
              cases hbg : Lib.hasPrefix (s.extract m s.size).data.toList t.data.toList
              · rw [hbg] at cB
                have CB := Lib.hid cB
                have HBG := Lib.hid hbg
                clear cB hbg
                go_wp2_with fail
                go_quiet ((go_at_call 85; exact Calls.quiet_of_same (CB.out _)))
                go_wp2_with fail
                go_roundw
                case rel => exact ⟨j + 1, by omega, by go_num, by rw [wayAt_snoc HX.out, HF.out, HBG.out]; exact HBLP.out, HBP.out.trans (bel_drewN _ _ _)⟩
                case measure => simp [intOf]; omega
              · rw [hbg] at cB
                have CB := Lib.hid cB
                have HBG := Lib.hid hbg
                have hl := HAP.out (by rw [HF.out, HBG.out])
                have hl1 : 1 ≤ t.size := hl.1
                have hl2 : t.size ≤ s.size - m := hl.2
                have hmk2 := hmk1.out
                obtain ⟨va, hva⟩ : ∃ va, va = wayAt (fitT s m) txtLen (ps.take j) (dpW (fitT s) txtLen ps s.size k) := ⟨_, rfl⟩
                obtain ⟨vb, hvb⟩ : ∃ vb, (dpW (fitT s) txtLen ps s.size k)[t.size - 1]? = some vb := ⟨_, List.getElem?_eq_getElem (by rw [dpW_len]; omega)⟩
                have hsum : va + vb ≤ 2 ^ 61 := by
                  have h1 : va < 2 ^ (s.size - m) := by rw [hva]; exact wayAt_lt ((apart_txt HBK.out s m).take j) (fun i q hq => by have := (dpW_txt HBK.out s) k (by omega) i q hq; rwa [show s.size - m - (i + 1) = k - i by omega])
                  have h2 := (dpW_txt HBK.out s) k (by omega) _ _ hvb
                  have h3 : 2 ^ (s.size - m) ≤ 2 ^ 60 := Nat.pow_le_pow_right (by decide) (by omega)
                  have h4 : 2 ^ (k - (t.size - 1)) ≤ 2 ^ 60 := Nat.pow_le_pow_right (by decide) (by omega)
                  omega
                have HVA := Lib.hid hva
                have HVB := Lib.hid hvb
                have HS := Lib.hid hsum
                have HMK := Lib.hid hmk2
                rw [← HVA.out] at HBLP
                have c0 := HBLP.out.cell m
                rw [tblC_at] at c0
                have c1' := HBLP.out.cell (m + t.size)
                rw [show m + t.size = m + 1 + (t.size - 1) by omega, tblC_on hvb, show m + 1 + (t.size - 1) = m + t.size by omega] at c1'
                have f0 := HBLP.out.frozen m
                have i1 : IntKind.i64.wrap ((m : Int) + (t.size : Int)) = (m : Int) + (t.size : Int) := wrap_in (by omega)
                have i2 : (0 : Int) ≤ (m : Int) + (t.size : Int) := by omega
                have i3 : (m : Int) + (t.size : Int) < (s.size : Int) + 1 := by omega
                have i4 : ((m : Int) + (t.size : Int)).toNat = m + t.size := by omega
                have i6 : (m : Int) < (s.size : Int) + 1 := by omega
                have i7 : (0 : Int) ≤ (m : Int) := by omega
                have i8 : ((m : Int)).toNat = m := by omega
                have i5 : IntKind.i64.wrap ((va : Int) + (vb : Int)) = (va : Int) + (vb : Int) := wrap_in (by omega)
                clear cB hbg hl hva hvb hsum hmk2
                go_wp2_with fail
                go_quiet ((go_at_call 85; exact Calls.quiet_of_same (CB.out _)))
                go_wp2_with fail
                have d0 : ((wr.alloc (.cells #[.string t, .slice A2 xs.length c2] 40)).drewN nq).cell? ⟨w1.heap.size, m, Option.none⟩ = some (.int .i64 (va : Int)) := c0
                have d1 : ((wr.alloc (.cells #[.string t, .slice A2 xs.length c2] 40)).drewN nq).cell? ⟨w1.heap.size, m + t.size, Option.none⟩ = some (.int .i64 (vb : Int)) := c1'
                have d2 : ((wr.alloc (.cells #[.string t, .slice A2 xs.length c2] 40)).drewN nq).frozen? ⟨w1.heap.size, m, Option.none⟩ = false := f0
                have d3 : ((wr.alloc (.cells #[.string t, .slice A2 xs.length c2] 40)).drewN nq).cell? ⟨wr.heap.size, 0, Option.none⟩ = some (.string t) := (Blk.new wr 40 #[.string t, .slice A2 xs.length c2]).cell 0
                have HBQ := Lib.hid (HBP.out.trans (bel_drewN w1.heap.size (wr.alloc (.cells #[.string t, .slice A2 xs.length c2] 40)) nq))
                have HBLQ : Hid (Blk ((wr.alloc (.cells #[.string t, .slice A2 xs.length c2] 40)).drewN nq) w1.heap.size 3 (tblC m va (dpW (fitT s) txtLen ps s.size k))) := HBLP.out
                clear c0 c1' f0
                generalize (wr.alloc (.cells #[.string t, .slice A2 xs.length c2] 40)).drewN nq = wq at d0 d1 d2 d3 HBQ HBLQ ⊢
                go_still_tail 14, (by kernel_rfl)
                change wpList _ _ _ _ _ wq.drew
                clear i1 i2 i3 i4 i5 i6 i7 i8 d1 d3
                have d4 : wq.drew.frozen? ⟨w1.heap.size, m, Option.none⟩ = false := d2
                have d5 : wq.drew.cell? ⟨w1.heap.size, m, Option.none⟩ = some (.int .i64 (va : Int)) := d0
                clear d2 d0
                go_wp2_with fail
                go_roundw
                case rel =>
                  refine ⟨j + 1, by omega, by go_num, ?_, ?_⟩
                  · rw [wayAt_snoc HX.out, HF.out, HBG.out]
                    show Blk _ _ _ (tblC m (_ + List.getD _ (t.size - 1) 0) _)
                    rw [← HVA.out, List.getD_eq_getElem?_getD, HVB.out]
                    have := Blk.set_ (show Blk wq.drew w1.heap.size 3 _ from HBLQ.out) m (.int .i64 ((va + vb : Nat) : Int))
                    rw [tblC_set] at this
                    exact this
                  · exact (HBQ.out.drew).setCell (Nat.le_refl _) _
                case measure => simp [intOf]; omega
            · obtain rfl : j = ps.length := by omega
              go_wp2_with fail
              go_roundw
              case rel => exact ⟨m, k + 1, (m : Int) - 1, by have := hmk1.out; show m + (k + 1) = _; omega, rfl, rfl, by
                have h1 := hblk2.out
                rw [List.take_of_length_le (Nat.le_refl _), tblC_Z] at h1
                have h2 : s.size - (k + 1) = m := by have := hmk1.out; omega
                show Blk _ _ _ (tblZ m (dpW _ _ _ _ (k + 1)))
                rw [dpW, h2]; exact h1, hbr2⟩
              case measure => (simp [intOf]; try omega)
end Go.Proofs.Ytjnkdjokbamibaa
/- Plain laws: the tables of the least lengths from each place on; what can be spelled. -/
namespace Go.Proofs.Ytjnkdjokbamibaa
def lsUpd : Option Nat → Nat → Option Nat
  | Option.none, n => some n
  | some m, n => if n < m then some n else some m
/-- One phrase more at a place. -/
def lsStep (fit : Phr → Bool) (len cost : Phr → Nat) (tb : List (Option Nat)) (cur : Option Nat) (p : Phr) : Option Nat :=
  if fit p then match tb.getD (len p - 1) Option.none with
    | Option.none => cur
    | some m => lsUpd cur (cost p + m)
  else cur
def lsAt (fit : Phr → Bool) (len cost : Phr → Nat) (ps : List Phr) (tb : List (Option Nat)) : Option Nat := ps.foldl (lsStep fit len cost tb) Option.none
/-- The least lengths from the last k places on. -/
def dpL (fit : Nat → Phr → Bool) (len cost : Phr → Nat) (ps : List Phr) (n : Nat) : Nat → List (Option Nat)
  | 0 => [some 0]
  | k + 1 => lsAt (fit (n - (k + 1))) len cost ps (dpL fit len cost ps n k) :: dpL fit len cost ps n k
theorem dpL_len (fit : Nat → Phr → Bool) (len cost : Phr → Nat) (ps : List Phr) (n k : Nat) : (dpL fit len cost ps n k).length = k + 1 := by
  induction k with
  | zero => rfl
  | succ k ih => simp [dpL, ih]
theorem lsAt_snoc {fit : Phr → Bool} {len cost : Phr → Nat} {ps : List Phr} {tb : List (Option Nat)} {j : Nat} {p : Phr} (h : ps[j]? = some p) : lsAt fit len cost (ps.take (j + 1)) tb = lsStep fit len cost tb (lsAt fit len cost (ps.take j) tb) p := by
  unfold lsAt; rw [take_snocN h, List.foldl_append]; rfl
/-- A bound: each phrase costs at most 3 and is at least one place long. -/
theorem lsAt_le {fit : Phr → Bool} {len cost : Phr → Nat} {tb : List (Option Nat)} {r : Nat} : ∀ {ps : List Phr}, (∀ p ∈ ps, fit p = true → 1 ≤ len p ∧ len p ≤ r ∧ cost p ≤ 3) → (∀ i m, tb[i]? = some (some m) → m ≤ 3 * (r - (i + 1))) → ∀ (cur : Option Nat), (∀ m, cur = some m → m ≤ 3 * r) → ∀ m, ps.foldl (lsStep fit len cost tb) cur = some m → m ≤ 3 * r
  | [], _, _, cur, hc, m, h => hc m h
  | p :: ps, hp, ht, cur, hc, m, h => by
    refine lsAt_le (ps := ps) (fun q hq => hp q (List.mem_cons_of_mem _ hq)) ht _ ?_ m h
    intro q hq
    unfold lsStep at hq
    split at hq
    · rename_i hf
      have := hp p (by simp) hf
      split at hq
      · exact hc q hq
      · rename_i a ha
        have hb : a ≤ 3 * (r - len p) := by
          rw [List.getD_eq_getElem?_getD] at ha
          cases e : tb[len p - 1]? with
          | none => rw [e] at ha; cases ha
          | some b =>
            rw [e] at ha
            simp at ha
            subst ha
            have := ht _ _ e
            rwa [show len p - 1 + 1 = len p by omega] at this
        have hn : cost p + a ≤ 3 * r := by omega
        cases cur with
        | none => simp only [lsUpd, Option.some.injEq] at hq; omega
        | some c =>
          simp only [lsUpd] at hq
          split at hq
          · simp at hq; omega
          · exact hc q hq
    · exact hc q hq
theorem dpL_le {fit : Nat → Phr → Bool} {len cost : Phr → Nat} {ps : List Phr} {n : Nat} (h : ∀ k, k < n → ∀ p ∈ ps, fit (n - (k + 1)) p = true → 1 ≤ len p ∧ len p ≤ k + 1 ∧ cost p ≤ 3) :
    ∀ k, k ≤ n → ∀ i m, (dpL fit len cost ps n k)[i]? = some (some m) → m ≤ 3 * (k - i)
  | 0, _, i, m, hi => by
    cases i with
    | zero => simp [dpL] at hi; omega
    | succ i => simp [dpL] at hi
  | k + 1, hk, i, m, hi => by
    have ih := dpL_le h k (by omega)
    cases i with
    | zero =>
      simp only [dpL, List.getElem?_cons_zero, Option.some.injEq] at hi
      exact lsAt_le (h k (by omega)) (fun i m hm => by have := ih i m hm; rwa [show k + 1 - (i + 1) = k - i by omega]) Option.none (fun m hm => by cases hm) m hi
    | succ i =>
      simp only [dpL, List.getElem?_cons_succ] at hi
      have := ih i m hi
      rwa [show k + 1 - (i + 1) = k - i by omega]
def optI : Option Nat → Int
  | some m => (m : Int)
  | Option.none => -1
abbrev opts (l : List (Option Nat)) : List Value := l.map fun m => Value.int .i64 (optI m)
def optZ (m : Nat) (tb : List (Option Nat)) : List Value := List.replicate m (Value.int .i64 0) ++ opts tb
theorem optZ_at {m : Nat} {a : Option Nat} {tb : List (Option Nat)} : (optZ m (a :: tb))[m]? = some (.int .i64 (optI a)) := by
  unfold optZ; rw [List.getElem?_append_right (by simp)]; simp
theorem optZ_on {m d : Nat} {a b : Option Nat} {tb : List (Option Nat)} (h : tb[d]? = some b) : (optZ m (a :: tb))[m + 1 + d]? = some (.int .i64 (optI b)) := by
  unfold optZ; rw [List.getElem?_append_right (by simp; omega)]; simp [show m + 1 + d - m = d + 1 by omega, h]
theorem optZ_set {m : Nat} {a b : Option Nat} {tb : List (Option Nat)} : (optZ m (a :: tb)).set m (.int .i64 (optI b)) = optZ m (b :: tb) := by
  unfold optZ
  rw [List.set_append_right _ _ (by simp)]; simp
theorem optZ_down {m : Nat} {tb : List (Option Nat)} : (optZ (m + 1) tb).set m (.int .i64 (-1)) = optZ m (Option.none :: tb) := by
  unfold optZ
  rw [List.replicate_succ', List.append_assoc, List.set_append_right _ _ (by simp)]; simp [optI]
theorem optZ_below {m : Nat} {tb : List (Option Nat)} : (optZ (m + 1) tb)[m]? = some (.int .i64 0) := by
  unfold optZ; rw [List.getElem?_append_left (by simp)]; simp
theorem optZ_start (n : Nat) : (zeros (n + 1)).toList = optZ n [some 0] := by
  unfold optZ zeros
  simp [optI, List.replicate_succ']
abbrev sigCost (p : Phr) : Nat := p.2.length
/-- The table of letters. -/
def tblT (ps : List Phr) (s : ByteArray) : List (Option Nat) := dpL (fitT s) txtLen sigCost ps s.size s.size
theorem tblT_hyp {ps : List Phr} (h : bookB ps = true) (s : ByteArray) : ∀ k, k < s.size → ∀ p ∈ ps, fitT s (s.size - (k + 1)) p = true → 1 ≤ txtLen p ∧ txtLen p ≤ k + 1 ∧ sigCost p ≤ 3 := by
  intro k hk p hp hf
  have h1 := (apart_txt h s (s.size - (k + 1))).2 p hp hf
  have h2 := phrOk_sig (bookB_phr h hp)
  rw [show s.size - (s.size - (k + 1)) = k + 1 by omega] at h1
  exact ⟨h1.1, h1.2, h2.2.1⟩
theorem dpL_txt {ps : List Phr} (h : bookB ps = true) (s : ByteArray) : ∀ k, k ≤ s.size → ∀ i m, (dpL (fitT s) txtLen sigCost ps s.size k)[i]? = some (some m) → m ≤ 3 * (k - i) := dpL_le (tblT_hyp h s)
end Go.Proofs.Ytjnkdjokbamibaa
