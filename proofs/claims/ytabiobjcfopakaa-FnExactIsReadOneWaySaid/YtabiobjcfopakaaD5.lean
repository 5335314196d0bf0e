/- Contracts of the tests whether a book is valid, of the program; of the search for a phrase by a predicate. -/
import Derived.Test.YtabiobjcfopakaaD4
import Derived.Shelf.GgClosure.Gives
namespace Go.Proofs.Ytabiobjcfopakaa
open Go.RowKit
theorem zipC_take : ∀ (ts : List ByteArray) (us : List Value) (k : Nat), (zipC ts us).take (k * 2) = zipC (ts.take k) (us.take k)
  | [], us, k => by simp [zipC]
  | t :: ts, [], k => by simp [zipC]
  | t :: ts, u :: us, 0 => by simp [zipC]
  | t :: ts, u :: us, k + 1 => by simp only [zipC, List.take_succ_cons, show (k + 1) * 2 = k * 2 + 1 + 1 by omega, zipC_take ts us k]
theorem RowsR.take {w : World} {hi : Nat} {us : List Value} {xss : List (List Int)} (h : RowsR w hi us xss) (k : Nat) : RowsR w hi (us.take k) (xss.take k) := by
  refine ⟨by simp [h.1], fun i u xs hu hx => ?_⟩
  rw [List.getElem?_take] at hu hx
  split at hu
  · rename_i hlt; rw [if_pos hlt] at hx; exact h.2 i u xs hu hx
  · cases hu
theorem RdPS.cut {w : World} {hi n c : Nat} {A : Option Addr} {ps : List Phr} (h : RdPS w hi (.slice A n c) ps) {k : Nat} (hk : k ≤ ps.length) : RdPS w hi (.slice A k c) (ps.take k) := by
  obtain ⟨us, h1, ⟨h0, A', c', hv, h2, h3, h4⟩, ht⟩ := h
  cases hv
  refine ⟨us.take k, ?_, ⟨?_, A, c, ?_, ?_, h3, fun hp => ?_⟩, fun p hp => ht p (List.mem_of_mem_take hp)⟩
  · have := h1.take k; unfold sigs at *; rwa [← List.map_take] at this
  · have e := zipC_take (txts ps) us k
    unfold txts at *
    rw [← List.map_take] at e
    rw [← e, List.length_take, h0, List.length_take]; omega
  · rw [List.length_take]; congr 1; omega
  · rw [List.length_take]; omega
  · obtain ⟨b, off, hA, hb, hc⟩ := h4 (by rw [List.length_take] at hp; omega)
    refine ⟨b, off, hA, hb, fun j u hu => hc j u ?_⟩
    have e := zipC_take (txts ps) us k
    unfold txts at *
    rw [← List.map_take] at e
    rw [← e, List.getElem?_take] at hu
    split at hu
    · exact hu
    · cases hu
/-- What is asked of a predicate on phrases. -/
def PredP (g : Nat) (lb : Array Value) (hi : Nat) (p : Phr → Bool) (w : World) : Prop :=
  ∀ (W : World) (x : Phr) (u : Value), Below w.heap.size w W → RdI W hi u x.2 → x.1.size ≤ 9223372036854775807 → Calls Try.prog g (#[.agg #[.string x.1, u]] ++ lb) W fun e w' => e = .returned (.bool (p x)) ∧ Below W.heap.size W w'
set_option maxHeartbeats 800000 in
theorem indexP_any (ps : List Phr) (v : Value) (hi : Nat) (w : World) (g : Nat) (lb : Array Value) (p : Phr → Bool) (h : RdPS w hi v ps) (hh : hi ≤ w.heap.size) (hp : PredP g lb hi p w)
    (eg : ∀ args w, (callFunc g args).run Try.prog w = .ok (.enter g args) w) :
    Calls Try.prog 224 #[v, .func (.func g) #[] lb] w fun e w' => e = .returned (.int .i64 (ixI (ps.findIdx? p))) ∧ Below w.heap.size w w' := by
  obtain ⟨A, c, rfl, hc, hm⟩ := h.form
  have H := Lib.hid h
  have HP := Lib.hid hp
  clear h hp
  go_enter Try.func224, Try.ntmps224
  go_wp2
  go_loopw [8] (fun i wr => ∃ k : Nat, k ≤ ps.length ∧ i = .int .i64 k ∧ Hid (∀ j, j < k → ∀ x, ps[j]? = some x → p x = false) ∧ Below w.heap.size w wr) (fun i _ => ps.length - (intOf i).toNat)
  case atStart => exact ⟨0, Nat.zero_le _, rfl, fun j hj => by omega, Below.refl _ _⟩
  case round =>
    obtain ⟨k, hk, rfl, hno, hbr⟩ := hrel
    by_cases hlt : k < ps.length
    · obtain ⟨b1, o1, c1, a, t, xs, hv, _, hx, hcell1, hcell2, hra, hts⟩ := (H.out.below hbr hh).at_ hlt
      cases hv
      obtain ⟨A2, c2, rfl, hc2, hm2⟩ := Rd.form hra
      have hcall := HP.out wr (t, xs) _ hbr hra hts
      have HX := Lib.hid hx
      have hs := hbr.size
      have HBR := Lib.hid hbr
      clear hra hx hbr
      cases hq : p (t, xs)
      · have HQ := Lib.hid hq
        rw [hq] at hcall
        clear hq
        have HC := Lib.hid hcall
        clear hcall
        go_wp2_with (go_at_fn g; refine HC.out.mono ?_; rintro e w' ⟨rfl, hb'⟩)
        go_roundw
        case rel => exact ⟨k + 1, by omega, by go_num, fun j hj x hx => by
          by_cases e : j = k
          · subst e; rw [HX.out] at hx; cases hx; exact HQ.out
          · exact hno.out j (by omega) x hx, HBR.out.trans (hb'.mono hs)⟩
        case measure => simp [intOf]; omega
      · have HQ := Lib.hid hq
        rw [hq] at hcall
        clear hq
        have HC := Lib.hid hcall
        clear hcall
        go_wp2_with (go_at_fn g; refine HC.out.mono ?_; rintro e w' ⟨rfl, hb'⟩)
        go_ret
        refine ⟨ret_int ?_, HBR.out.trans (hb'.mono hs)⟩
        rw [findIdx_take (fun j hj x hx => hno.out j hj x hx) HX.out HQ.out]
        rfl
    · obtain rfl : k = ps.length := by omega
      go_wp2_with fail
      go_ret
      refine ⟨ret_int ?_, hbr⟩
      rw [findIdx_none (fun j x hx => hno.out j (List.getElem?_eq_some_iff.1 hx).1 x hx)]
      rfl
theorem phraseIndex1_any (x : Phr) (ys : List Int) (u s : Value) (B hi hj : Nat) (w : World) (h : RdI w hi u x.2) (g : RdI w hj s ys) (hh : hi ≤ w.heap.size) (hg : hj ≤ w.heap.size) (hB : B < w.heap.size) (hc : w.cell? ⟨B, 0, Option.none⟩ = some s) :
    Calls Try.prog 251 #[.agg #[.string x.1, u], .pointer (some ⟨B, 0, Option.none⟩)] w fun e w' => e = .returned (.bool (decide (x.2 = ys))) ∧ Below w.heap.size w w' := by
  obtain ⟨A, c, rfl, hc1, hm⟩ := Rd.form h
  obtain ⟨A', c', rfl, hc2, hm'⟩ := Rd.form g
  have hba : Below w.heap.size w (w.alloc (.cells #[.string x.1, .slice A x.2.length c] 60)) := (Below.refl _ _).alloc (Nat.le_refl _) _
  have H := Lib.hid (RdI.below h hba hh)
  have G := Lib.hid (RdI.below g hba hg)
  clear h g
  go_enter Try.func251, Try.ntmps251
  go_wp2_with fail
  refine (slicesEqual_any x.2 ys _ _ hi hj _ H.out G.out).mono ?_
  rintro e w' ⟨rfl, n, rfl⟩
  go_wp2_with fail
  go_ret
  exact ⟨rfl, hba.trans (bel_drewN _ _ _)⟩
theorem phraseIndex_any (ps : List Phr) (xs : List Int) (v u : Value) (hi hj : Nat) (w : World) (h : RdB w hi v ps) (g : RdI w hj u xs) (hh : hi ≤ w.heap.size) (hg : hj ≤ w.heap.size) :
    Calls Try.prog 217 #[v, u] w fun e w' => e = .returned (.int .i64 (ixI (sigIx ps xs))) ∧ Below w.heap.size w w' := by
  obtain ⟨a, rfl, ha⟩ := h
  obtain ⟨A, c, rfl, hc, hm⟩ := ha.form
  obtain ⟨A', c', rfl, hc', hm'⟩ := Rd.form g
  have hba : Below w.heap.size w ((w.alloc (.cells #[.slice A ps.length c] 48)).alloc (.cells #[.slice A' xs.length c'] 29)) := ((Below.refl _ _).alloc (Nat.le_refl _) _).alloc (by simp) _
  have H := Lib.hid (ha.below hba hh)
  have G := Lib.hid (RdI.below g hba hg)
  clear ha g
  have HB := Lib.hid hba
  clear hba
  have hcap : ((w.alloc (.cells #[.slice A ps.length c] 48)).alloc (.cells #[.slice A' xs.length c'] 29)).cell? ⟨w.heap.size + 1, 0, Option.none⟩ = some (.slice A' xs.length c') := by
    have := (Blk.new (w.alloc (.cells #[.slice A ps.length c] 48)) 29 #[.slice A' xs.length c']).cell 0
    simp at this ⊢
  have hpred : PredP 251 #[.pointer (some ⟨w.heap.size + 1, 0, Option.none⟩)] hi (fun p => decide (p.2 = xs)) ((w.alloc (.cells #[.slice A ps.length c] 48)).alloc (.cells #[.slice A' xs.length c'] 29)) := by
    intro W x u hb hu _
    have hs := hb.size
    have h2 : ((w.alloc (.cells #[.slice A ps.length c] 48)).alloc (.cells #[.slice A' xs.length c'] 29)).heap.size = w.heap.size + 1 + 1 := by simp
    refine phraseIndex1_any x xs u (.slice A' xs.length c') (w.heap.size + 1) hi hj W hu (RdI.below G.out hb (by omega)) (by omega) (by omega) (by omega) ?_
    exact (hb.cell (p := ⟨w.heap.size + 1, 0, Option.none⟩) (by show w.heap.size + 1 < _; omega)).trans hcap
  have HPR := Lib.hid hpred
  have HC := Lib.hid (indexP_any ps _ hi _ _ _ _ H.out (by simp; omega) HPR.out (enters_of Try.func251 (by kernel_rfl) rfl))
  clear hpred hcap
  go_enter Try.func217, Try.ntmps217
  go_wp2_with fail
  refine HC.out.mono ?_
  rintro e w' ⟨rfl, hb'⟩
  go_wp2_with fail
  go_ret
  exact ⟨rfl, HB.out.trans (hb'.mono (by simp; omega))⟩
set_option maxHeartbeats 400000 in
theorem isPhrase_any (p : Phr) (v : Value) (hi : Nat) (w : World) (h : RdP w hi v p) (hh : hi ≤ w.heap.size) : Calls Try.prog 169 #[v] w fun e w' => e = .returned (.bool (phrOk p)) ∧ Below w.heap.size w w' := by
  obtain ⟨u, rfl, hu, ht⟩ := h
  obtain ⟨A, c, rfl, hc, hm⟩ := Rd.form hu
  have hba : Below w.heap.size w (w.alloc (.cells #[.string p.1, .slice A p.2.length c] 60)) := (Below.refl _ _).alloc (Nat.le_refl _) _
  have H := Lib.hid (RdI.below hu hba hh)
  clear hu
  have cT := IsPhraseText_any p.1 (by unfold maxLen; omega)
  have cA := allWithin_any p.2 1 60 (.slice A p.2.length c) hi _ H.out
  unfold phrOk sigOk
  cases h1 : phraseB p.1.data.toList
  · rw [h1] at cT
    have CT := Lib.hid cT
    clear cT cA
    go_enter Try.func169, Try.ntmps169
    go_wp2_with (go_at_call 223; refine (CT.out _).mono ?_; rintro e w' ⟨rfl, rfl⟩)
    go_ret
    exact ⟨rfl, hba⟩
  · rw [h1] at cT
    cases h2 : inB p.2.length 1 3
    · have CT := Lib.hid cT
      clear cT cA
      go_enter Try.func169, Try.ntmps169
      go_wp2_with (first | (go_at_call 223; refine (CT.out _).mono ?_; rintro e w' ⟨rfl, rfl⟩) | (go_at_call 125; refine (within_any _ _ _ _).mono ?_; rintro e w' ⟨rfl, rfl⟩))
      go_ret
      exact ⟨rfl, hba⟩
    · have CT := Lib.hid cT
      have CA := Lib.hid cA
      clear cT cA
      go_enter Try.func169, Try.ntmps169
      go_wp2_with (first | (go_at_call 223; refine (CT.out _).mono ?_; rintro e w' ⟨rfl, rfl⟩) | (go_at_call 125; refine (within_any _ _ _ _).mono ?_; rintro e w' ⟨rfl, rfl⟩) | (go_at_call 181; refine (CA.out).mono ?_; rintro e w' ⟨rfl, rfl⟩))
      go_ret
      exact ⟨rfl, hba⟩
theorem sigIx_take {ps : List Phr} {k : Nat} {p : Phr} (hp : ps[k]? = some p) : sigIx ps p.2 = some k ↔ sigIx (ps.take k) p.2 = Option.none := by
  unfold sigIx
  have hk := (List.getElem?_eq_some_iff.1 hp).1
  constructor
  · intro h
    rw [List.findIdx?_eq_none_iff]
    intro x hx
    rw [List.findIdx?_eq_some_iff_getElem] at h
    obtain ⟨_, _, h3⟩ := h
    obtain ⟨j, hj⟩ := List.getElem?_of_mem hx
    rw [List.getElem?_take] at hj
    split at hj
    · rename_i hlt
      have := h3 j hlt
      have e := (List.getElem?_eq_some_iff.1 hj).2
      rw [← e]; simpa using this
    · cases hj
  · intro h
    rw [List.findIdx?_eq_none_iff] at h
    refine findIdx_take (fun j hj x hx => h x ?_) hp (by simp)
    exact List.mem_of_getElem? (by rw [List.getElem?_take, if_pos hj]; exact hx)
theorem ixI_nonneg {o : Option Nat} : (0 ≤ ixI o) ↔ o ≠ Option.none := by cases o <;> simp [ixI]
end Go.Proofs.Ytabiobjcfopakaa
