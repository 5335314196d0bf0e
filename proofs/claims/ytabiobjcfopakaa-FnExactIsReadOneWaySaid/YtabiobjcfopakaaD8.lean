/- Contracts of the searches in a book by a text, by signals, and for texts of one letter; of the program and of the reference. -/
import Derived.Test.YtabiobjcfopakaaD6
import Derived.Test.YtabiobjcfopakaaShelf
namespace Go.Proofs.Ytabiobjcfopakaa
open Go.RowKit
theorem str_inj {a b : ByteArray} (h : (a.toList == b.toList) = true) : a = b := by
  rw [ByteArray.toList_eq, ByteArray.toList_eq, beq_iff_eq] at h
  exact ByteArray.ext (Array.toList_inj.1 h)
/-- The place of the phrase with a text. -/
def txtIx (ps : List Phr) (s : ByteArray) : Option Nat := ps.findIdx? fun p => p.1.toList == s.toList
/-- A place, if the book is good and there is one. -/
def findV (b : Bool) (o : Option Nat) : Value := match b, o with
  | true, some i => .tuple #[.int .i64 (i : Int), .bool true]
  | _, _ => .tuple #[.int .i64 0, .bool false]
theorem findV_form (b : Bool) (o : Option Nat) : ∃ p q, findV b o = .tuple #[.int .i64 p, .bool q] := by
  cases b <;> cases o <;> exact ⟨_, _, rfl⟩
theorem txtIx_lt {ps : List Phr} {s : ByteArray} {i : Nat} (h : txtIx ps s = some i) : i < ps.length := by
  unfold txtIx at h; rw [List.findIdx?_eq_some_iff_getElem] at h; exact h.1
theorem sigIx_lt {ps : List Phr} {s : List Int} {i : Nat} (h : sigIx ps s = some i) : i < ps.length := by
  unfold sigIx at h; rw [List.findIdx?_eq_some_iff_getElem] at h; exact h.1
theorem bookB_phr {ps : List Phr} {p : Phr} (h : bookB ps = true) (hp : p ∈ ps) : phrOk p = true := by
  obtain ⟨j, hj⟩ := List.getElem?_of_mem hp
  have hl := (List.getElem?_eq_some_iff.1 hj).1
  unfold bookB goodB at h
  rw [Bool.and_eq_true, List.all_eq_true] at h
  have := h.2 j (List.mem_range.2 hl)
  unfold goodAt at this
  rw [hj] at this
  simp only [Bool.and_eq_true] at this
  exact this.1
theorem txtIx_no {ps : List Phr} {s : ByteArray} (h : bookB ps = true) (hp : phraseB s.data.toList = false) : txtIx ps s = Option.none := by
  unfold txtIx
  rw [List.findIdx?_eq_none_iff]
  intro x hx
  rcases he : (x.1.toList == s.toList)
  · rfl
  · have := bookB_phr h hx
    unfold phrOk at this
    rw [str_inj he, hp] at this
    cases this
theorem bookB_len {ps : List Phr} (h : bookB ps = true) : 1 ≤ ps.length ∧ ps.length ≤ 40 := by
  unfold bookB at h
  rw [Bool.and_eq_true, inB_iff] at h
  omega
set_option maxHeartbeats 800000 in
theorem bkFind_any (ps : List Phr) (s : ByteArray) (v : Value) (hi : Nat) (w : World) (h : RdB w hi v ps) (hh : hi ≤ w.heap.size) :
    Calls Try.prog 140 #[v, .string s] w fun e w' => e = .returned (.int .i64 (ixI (txtIx ps s))) ∧ Below w.heap.size w w' := by
  obtain ⟨a, rfl, ha⟩ := h
  obtain ⟨A, c, rfl, hc, hm⟩ := ha.form
  have hba : Below w.heap.size w (w.alloc (.cells #[.slice A ps.length c] 48)) := (Below.refl _ _).alloc (Nat.le_refl _) _
  have HB := Lib.hid hba
  have HA := Lib.hid (ha.below hba hh)
  have HG : Hid (RdB (w.alloc (.cells #[.slice A ps.length c] 48)) hi (.agg #[.slice A ps.length c]) ps) := ⟨_, rfl, HA.out⟩
  have hcb0 : (w.alloc (.cells #[.slice A ps.length c] 48)).cell? ⟨w.heap.size, 0, Option.none⟩ = some (.slice A ps.length c) := (Blk.new w 48 #[.slice A ps.length c]).cell 0
  have HCB := Lib.hid hcb0
  have hsz1 : hi ≤ (w.alloc (.cells #[.slice A ps.length c] 48)).heap.size := by simp; omega
  clear ha hba hcb0
  go_enter Try.func140, Try.ntmps140
  go_wp2_with fail
  go_loopw [10] (fun i wr => ∃ k : Nat, k ≤ ps.length ∧ i = .int .i64 k ∧ Hid (∀ j, j < k → ∀ x, ps[j]? = some x → (x.1.toList == s.toList) = false) ∧ Below (w.heap.size + 1) (w.alloc (.cells #[.slice A ps.length c] 48)) wr) (fun i _ => ps.length - (intOf i).toNat)
  case atStart => exact ⟨0, Nat.zero_le _, rfl, fun j hj => by omega, Below.refl _ _⟩
  case round =>
    obtain ⟨k, hk, rfl, hno, hbr⟩ := hrel
    have hs : w.heap.size + 1 ≤ wr.heap.size := by have := hbr.size; simpa using this
    by_cases hlt : k < ps.length
    · obtain ⟨b1, o1, c1, a, t, xs, hv, hb1, hx, hcell1, hcell2, hra, hta⟩ := (HA.out.below hbr (by omega)).at_ hlt
      cases hv
      obtain ⟨A2, c2, rfl, hc2, hm2⟩ := Rd.form hra
      have HX := Lib.hid hx
      have HRA := Lib.hid hra
      clear hx hra
      cases hts : (t.toList == s.toList)
      · have HTS := Lib.hid hts
        go_wp2_with fail
        go_roundw
        case rel => exact ⟨k + 1, by omega, by go_num, fun j hj x hx => by
          by_cases e : j = k
          · subst e; rw [HX.out] at hx; cases hx; exact HTS.out
          · exact hno.out j (by omega) x hx, hbr.alloc hs _⟩
        case measure => simp [intOf]; omega
      · have HTS := Lib.hid hts
        go_wp2_with fail
        go_ret
        refine ⟨ret_int ?_, HB.out.trans ((hbr.alloc hs _).mono (by omega))⟩
        unfold txtIx
        rw [findIdx_take (fun j hj x hx => hno.out j hj x hx) HX.out HTS.out]
        rfl
    · obtain rfl : k = ps.length := by omega
      go_wp2_with fail
      go_ret
      refine ⟨ret_int ?_, HB.out.trans (hbr.mono (by omega))⟩
      unfold txtIx
      rw [findIdx_none (fun j x hx => hno.out j (List.getElem?_eq_some_iff.1 hx).1 x hx)]
      rfl
theorem FindPhrase1_any (x : Phr) (s : ByteArray) (u : Value) (B hi : Nat) (w : World) (h : RdI w hi u x.2) (hB : B < w.heap.size) (hc : w.cell? ⟨B, 0, Option.none⟩ = some (.string s)) :
    Calls Try.prog 225 #[.agg #[.string x.1, u], .pointer (some ⟨B, 0, Option.none⟩)] w fun e w' => e = .returned (.bool (x.1.toList == s.toList)) ∧ Below w.heap.size w w' := by
  obtain ⟨A, c, rfl, hc1, hm⟩ := Rd.form h
  have hba : Below w.heap.size w (w.alloc (.cells #[.string x.1, .slice A x.2.length c] 60)) := (Below.refl _ _).alloc (Nat.le_refl _) _
  clear h
  go_enter Try.func225, Try.ntmps225
  go_wp2_with fail
  go_ret
  exact ⟨rfl, hba⟩
set_option maxHeartbeats 1600000 in
theorem FindPhrase_any (ps : List Phr) (s : ByteArray) (v : Value) (hi : Nat) (w : World) (hs0 : s.size ≤ maxLen) (h : RdB w hi v ps) (hh : hi ≤ w.heap.size) :
    Calls Try.prog 143 #[v, .string s] w fun e w' => e = .returned (findV (bookB ps) (txtIx ps s)) ∧ Below w.heap.size w w' := by
  obtain ⟨a, rfl, ha⟩ := h
  obtain ⟨A, c, rfl, hc, hm⟩ := ha.form
  have hba : Below w.heap.size w ((w.alloc (.cells #[.slice A ps.length c] 48)).alloc (.cells #[.string s] 9)) := ((Below.refl _ _).alloc (Nat.le_refl _) _).alloc (by simp) _
  have HB := Lib.hid hba
  have HA := Lib.hid (ha.below hba hh)
  have HG : Hid (RdB ((w.alloc (.cells #[.slice A ps.length c] 48)).alloc (.cells #[.string s] 9)) hi (.agg #[.slice A ps.length c]) ps) := ⟨_, rfl, HA.out⟩
  have hcb0 : ((w.alloc (.cells #[.slice A ps.length c] 48)).alloc (.cells #[.string s] 9)).cell? ⟨w.heap.size, 0, Option.none⟩ = some (.slice A ps.length c) := ((Blk.new w 48 #[.slice A ps.length c]).alloc _).cell 0
  have hcs0 : ((w.alloc (.cells #[.slice A ps.length c] 48)).alloc (.cells #[.string s] 9)).cell? ⟨w.heap.size + 1, 0, Option.none⟩ = some (.string s) := by
    have := (Blk.new (w.alloc (.cells #[.slice A ps.length c] 48)) 9 #[.string s]).cell 0
    simp at this ⊢
  have HCB := Lib.hid hcb0
  have HCS := Lib.hid hcs0
  have hsz1 : hi ≤ ((w.alloc (.cells #[.slice A ps.length c] 48)).alloc (.cells #[.string s] 9)).heap.size := by simp; omega
  clear ha hba hcb0 hcs0
  have cB := IsBook_any ps (.agg #[.slice A ps.length c]) hi ((w.alloc (.cells #[.slice A ps.length c] 48)).alloc (.cells #[.string s] 9)) HG.out hsz1
  cases hbk : bookB ps
  · rw [hbk] at cB
    have CB := Lib.hid cB
    clear cB
    go_enter Try.func143, Try.ntmps143
    go_wp2_with (go_at_call 137; refine CB.out.mono ?_; rintro e w1 ⟨rfl, hb1⟩)
    go_ret2
    exact ⟨ret_val rfl, HB.out.trans (hb1.mono (by simp; omega))⟩
  · rw [hbk] at cB
    have CB := Lib.hid cB
    have cT := IsPhraseText_any s hs0
    cases hp : phraseB s.data.toList
    · have hno : txtIx ps s = Option.none := txtIx_no hbk hp
      rw [hp] at cT
      have CT := Lib.hid cT
      clear cB cT
      go_enter Try.func143, Try.ntmps143
      go_wp2_with fail
      refine CB.out.mono ?_
      rintro e w1 ⟨rfl, hb1⟩
      have hcs := (hb1.cell (p := ⟨w.heap.size + 1, 0, Option.none⟩) (by simp)).trans HCS.out
      go_wp2_with (go_at_call 223; refine (CT.out _).mono ?_; rintro e w' ⟨rfl, rfl⟩)
      go_ret2
      exact ⟨ret_val (by rw [hno]; rfl), HB.out.trans (hb1.mono (by simp; omega))⟩
    · rw [hp] at cT
      have CT := Lib.hid cT
      clear cB cT
      go_enter Try.func143, Try.ntmps143
      go_wp2_with fail
      refine CB.out.mono ?_
      rintro e w1 ⟨rfl, hb1⟩
      have hcs := (hb1.cell (p := ⟨w.heap.size + 1, 0, Option.none⟩) (by simp)).trans HCS.out
      have hcb := (hb1.cell (p := ⟨w.heap.size, 0, Option.none⟩) (by simp; omega)).trans HCB.out
      have hs1 : w.heap.size + 2 ≤ w1.heap.size := by have := hb1.size; simpa using this
      have HA1 := Lib.hid (HA.out.below hb1 hsz1)
      have HB1 := Lib.hid (HB.out.trans (hb1.mono (by simp; omega)))
      have hpred : PredP 225 #[.pointer (some ⟨w.heap.size + 1, 0, Option.none⟩)] hi (fun p => p.1.toList == s.toList) w1 := by
        intro W x u hb hu _
        have hs := hb.size
        exact FindPhrase1_any x s u (w.heap.size + 1) hi W hu (by omega) ((hb.cell (p := ⟨w.heap.size + 1, 0, Option.none⟩) (by show w.heap.size + 1 < _; omega)).trans hcs)
      have HC := Lib.hid (indexP_any ps _ hi w1 _ _ _ HA1.out (by omega) hpred (enters_of Try.func225 (by kernel_rfl) rfl))
      clear hpred hb1
      go_wp2_with (go_at_call 223; refine (CT.out _).mono ?_; rintro e w' ⟨rfl, rfl⟩)
      refine HC.out.mono ?_
      rintro e w2 ⟨rfl, hb2⟩
      have HB2 := Lib.hid (HB1.out.trans (hb2.mono (by omega)))
      clear hb2
      show _
      cases ho : txtIx ps s with
      | none =>
        have ho' : ps.findIdx? (fun p => p.1.toList == s.toList) = Option.none := ho
        rw [ho']
        unfold ixI
        go_wp2_with fail
        go_ret2
        exact ⟨ret_val (by rw [ho]; rfl), HB2.out⟩
      | some i =>
        have hil : i < ps.length := txtIx_lt ho
        have ho' : ps.findIdx? (fun p => p.1.toList == s.toList) = some i := ho
        rw [ho']
        unfold ixI
        have HO := Lib.hid ho
        clear ho ho'
        go_wp2_with fail
        go_ret2
        exact ⟨ret_val (by rw [HO.out]; rfl), HB2.out⟩
end Go.Proofs.Ytabiobjcfopakaa
