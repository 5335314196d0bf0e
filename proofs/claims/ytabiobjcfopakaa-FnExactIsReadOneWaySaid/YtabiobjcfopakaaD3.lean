/- Contracts of the tests whether a book is valid, of the reference. -/
import Derived.Test.YtabiobjcfopakaaD2
import Derived.Test.YtabiobjcfopakaaC1
import Derived.Test.YtabiobjcfopakaaK
namespace Go.Proofs.Ytabiobjcfopakaa
open Go.RowKit
def sigOk (xs : List Int) : Bool := inB xs.length 1 3 && allB xs 1 60
theorem bkSignals_any (xs : List Int) (v : Value) (hi : Nat) (w : World) (h : RdI w hi v xs) : Calls Try.prog 214 #[v] w fun e w' => e = .returned (.bool (sigOk xs)) ∧ w = w' := by
  obtain ⟨A, c, hv, hc, hm⟩ := Rd.form h
  have H := Lib.hid h
  clear h
  unfold sigOk
  cases hl : inB xs.length 1 3
  · rw [Bool.false_and]
    subst hv
    go_enter Try.func214, Try.ntmps214
    go_wp2_with (first | (go_at_call 191; refine (l1In_any _ _ _ _).mono ?_; rintro e w' ⟨rfl, rfl⟩) | (go_at_call 184; refine (l1All_any xs _ _ _ hi _ H.out).mono ?_; rintro e w' ⟨rfl, rfl⟩))
    go_ret
    exact ⟨rfl, rfl⟩
  · rw [Bool.true_and]
    subst hv
    go_enter Try.func214, Try.ntmps214
    go_wp2_with (first | (go_at_call 191; refine (l1In_any _ _ _ _).mono ?_; rintro e w' ⟨rfl, rfl⟩) | (go_at_call 184; refine (l1All_any xs _ _ _ hi _ H.out).mono ?_; rintro e w' ⟨rfl, rfl⟩))
    go_ret
    exact ⟨rfl, rfl⟩
/-- The place of the phrase with some signals. -/
def sigIx (ps : List Phr) (xs : List Int) : Option Nat := ps.findIdx? fun p => decide (p.2 = xs)
def ixI : Option Nat → Int
  | some i => (i : Int)
  | Option.none => -1
theorem findIdx_take {α : Type} {f : α → Bool} {l : List α} {k : Nat} (h : ∀ j, j < k → ∀ x, l[j]? = some x → f x = false) {x : α} (hx : l[k]? = some x) (hf : f x = true) : l.findIdx? f = some k := by
  induction l generalizing k with
  | nil => simp at hx
  | cons a r ih =>
    rw [List.findIdx?_cons]
    cases k with
    | zero => simp at hx; subst hx; rw [hf]; rfl
    | succ k =>
      have ha : f a = false := h 0 (by omega) a rfl
      rw [ha]
      have := ih (k := k) (fun j hj x hx => h (j + 1) (by omega) x (by simpa using hx)) (by simpa using hx)
      rw [this]; rfl
theorem findIdx_none {α : Type} {f : α → Bool} {l : List α} (h : ∀ (j : Nat) (x : α), l[j]? = some x → f x = false) : l.findIdx? f = Option.none := by
  rw [List.findIdx?_eq_none_iff]
  intro x hx
  obtain ⟨j, hj⟩ := List.getElem?_of_mem hx
  exact h j x hj
set_option maxHeartbeats 800000 in
theorem bkOf_any (ps : List Phr) (xs : List Int) (v u : Value) (hi hj : Nat) (w : World) (h : RdB w hi v ps) (g : RdI w hj u xs) (hh : hi ≤ w.heap.size) (hg : hj ≤ w.heap.size) :
    Calls Try.prog 215 #[v, u] w fun e w' => e = .returned (.int .i64 (ixI (sigIx ps xs))) ∧ Below w.heap.size w w' := by
  obtain ⟨a, rfl, ha⟩ := h
  obtain ⟨A, c, rfl, hc, hm⟩ := ha.form
  have hba : Below w.heap.size w (w.alloc (.cells #[.slice A ps.length c] 48)) := (Below.refl _ _).alloc (Nat.le_refl _) _
  have H := Lib.hid ha
  have G := Lib.hid g
  clear ha g
  go_enter Try.func215, Try.ntmps215
  go_wp2_with fail
  go_loopw [10] (fun i wr => ∃ k : Nat, k ≤ ps.length ∧ i = .int .i64 k ∧ Hid (∀ j, j < k → ∀ x, ps[j]? = some x → decide (x.2 = xs) = false) ∧ Below w.heap.size w wr) (fun i _ => ps.length - (intOf i).toNat)
  case atStart => exact ⟨0, Nat.zero_le _, rfl, fun j hj => by omega, hba⟩
  case round =>
    obtain ⟨k, hk, rfl, hno, hbr⟩ := hrel
    by_cases hlt : k < ps.length
    · obtain ⟨b1, o1, c1, a, t, ys, hv, hb1, hx, hcell1, hcell2, hra, hta⟩ := (H.out.below hbr hh).at_ hlt
      cases hv
      obtain ⟨A2, c2, rfl, hc2, hm2⟩ := Rd.form hra
      have hs := hbr.size
      have hb2 : Below w.heap.size w (wr.alloc (.cells #[.string t, .slice A2 ys.length c2] 60)) := hbr.alloc hs _
      have HA := Lib.hid (hra.below ((Below.refl wr.heap.size wr).alloc (Nat.le_refl _) (.cells #[.string t, .slice A2 ys.length c2] 60)) (by omega))
      have HX := Lib.hid hx
      clear hra hx
      by_cases hys : ys = xs
      · have HYS := Lib.hid hys
        clear hys
        go_wp2_with fail
        refine (l1Same_any ys xs _ _ hi hj _ HA.out (Rd.below G.out hb2 hg)).mono ?_
        rw [decide_eq_true HYS.out]
        rintro e w' ⟨rfl, n, rfl⟩
        go_wp2_with fail
        go_ret
        refine ⟨ret_int ?_, hb2.trans (bel_drewN _ _ _)⟩
        unfold sigIx
        rw [findIdx_take (fun j hj x hx => hno.out j hj x hx) HX.out (decide_eq_true HYS.out)]
        rfl
      · have HYS : Hid (decide (ys = xs) = false) := decide_eq_false hys
        clear hys
        go_wp2_with fail
        refine (l1Same_any ys xs _ _ hi hj _ HA.out (Rd.below G.out hb2 hg)).mono ?_
        rw [HYS.out]
        rintro e w' ⟨rfl, n, rfl⟩
        go_wp2_with fail
        go_roundw
        case rel => exact ⟨k + 1, by omega, by go_num, fun j hj x hx => by
          by_cases e : j = k
          · subst e; rw [HX.out] at hx; cases hx; exact HYS.out
          · exact hno.out j (by omega) x hx, hb2.trans (bel_drewN _ _ _)⟩
        case measure => simp [intOf]; omega
    · obtain rfl : k = ps.length := by omega
      go_wp2_with fail
      go_ret
      refine ⟨ret_int ?_, hbr⟩
      unfold sigIx
      rw [findIdx_none (fun j x hx => hno.out j (List.getElem?_eq_some_iff.1 hx).1 x hx)]
      rfl
theorem still_of {P : Program} {f : FuncId} {args : Array Value} {w : World} {v : Value} (h : Calls P f args w fun e w' => e = .returned v ∧ w = w') : Calls P f args w fun e w' => e = .returned v ∧ w' = w :=
  h.mono fun _ _ ⟨he, hw⟩ => ⟨he, hw.symm⟩
def ltT (a b : ByteArray) : Bool := Op.bytesLess a.toList b.toList
def phrOk (p : Phr) : Bool := phraseB p.1.data.toList && sigOk p.2
/-- Is the phrase at j fine, and fine behind those before it? -/
def goodAt (ps : List Phr) (j : Nat) : Bool := match ps[j]? with
  | some p => phrOk p && ((match j with | 0 => true | i + 1 => match ps[i]? with | some q => ltT q.1 p.1 | Option.none => true) && (sigIx ps p.2 == some j))
  | Option.none => true
def goodB (ps : List Phr) : Bool := (List.range ps.length).all fun j => goodAt ps j
def bookB (ps : List Phr) : Bool := inB ps.length 1 40 && goodB ps
theorem goodB_no {ps : List Phr} {k : Nat} (hk : k < ps.length) (h : goodAt ps k = false) : goodB ps = false := by
  unfold goodB; rw [List.all_eq_false]; exact ⟨k, List.mem_range.2 hk, by simp [h]⟩
theorem goodB_yes {ps : List Phr} (h : ∀ j, j < ps.length → goodAt ps j = true) : goodB ps = true := by
  unfold goodB; rw [List.all_eq_true]; intro j hj; exact h j (List.mem_range.1 hj)
theorem goodAt_phr {ps : List Phr} {k : Nat} {p : Phr} (hp : ps[k]? = some p) (h : phrOk p = false) : goodAt ps k = false := by unfold goodAt; rw [hp]; simp [h]
theorem goodAt_lt {ps : List Phr} {k : Nat} {p q : Phr} (hp : ps[k + 1]? = some p) (hq : ps[k]? = some q) (h : ltT q.1 p.1 = false) : goodAt ps (k + 1) = false := by unfold goodAt; rw [hp]; simp [hq, h]
theorem goodAt_ix {ps : List Phr} {k : Nat} {p : Phr} (hp : ps[k]? = some p) (h : sigIx ps p.2 ≠ some k) : goodAt ps k = false := by unfold goodAt; rw [hp]; simp [h]
theorem goodAt_0 {ps : List Phr} {p : Phr} (hp : ps[0]? = some p) (h : phrOk p = true) (h2 : sigIx ps p.2 = some 0) : goodAt ps 0 = true := by unfold goodAt; rw [hp]; simp [h, h2]
theorem goodAt_s {ps : List Phr} {k : Nat} {p q : Phr} (hp : ps[k + 1]? = some p) (hq : ps[k]? = some q) (h : phrOk p = true) (h1 : ltT q.1 p.1 = true) (h2 : sigIx ps p.2 = some (k + 1)) : goodAt ps (k + 1) = true := by unfold goodAt; rw [hp]; simp [h, h1, h2, hq]
theorem ixI_ne {o : Option Nat} {k : Nat} (h : o ≠ some k) : (ixI o != (k : Int)) = true := by
  rw [bne_iff_ne]; intro e; apply h
  cases o with
  | none => simp only [ixI] at e; omega
  | some i => simp only [ixI] at e; congr 1; omega
theorem ixI_eq {o : Option Nat} {k : Nat} (h : o = some k) : (ixI o != (k : Int)) = false := by subst h; simp [ixI]
end Go.Proofs.Ytabiobjcfopakaa
