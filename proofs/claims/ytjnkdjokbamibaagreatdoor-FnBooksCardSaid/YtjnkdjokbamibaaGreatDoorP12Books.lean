/- Texts of one claim, joined: D6, D8, E2, W1. -/
import Derived.Test.YtjnkdjokbamibaaGreatDoorShelf
import Derived.Test.YtjnkdjokbamibaaGreatDoorP11Books
/- Contracts of the tests whether a book is valid, of the program. -/
namespace Go.Proofs.YtjnkdjokbamibaaGreatDoor
open Go.RowKit
set_option maxRecDepth 100000 in
set_option maxHeartbeats 4000000 in
theorem IsBook_any (ps : List Phr) (v : Value) (hi : Nat) (w : World) (h : RdB w hi v ps) (hh : hi ≤ w.heap.size) :
    Calls Tryz.prog 47 #[v] w fun e w' => e = .returned (.bool (bookB ps)) ∧ Below w.heap.size w w' := by
  obtain ⟨a, rfl, ha⟩ := h
  obtain ⟨A, c, rfl, hc, hm⟩ := ha.form
  have hba : Below w.heap.size w (w.alloc (.cells #[.slice A ps.length c] 41)) := (Below.refl _ _).alloc (Nat.le_refl _) _
  have HBA := Lib.hid hba
  have H := Lib.hid (ha.below hba hh)
  have hbox : (w.alloc (.cells #[.slice A ps.length c] 41)).cell? ⟨w.heap.size, 0, Option.none⟩ = some (.slice A ps.length c) := (Blk.new w 41 #[.slice A ps.length c]).cell 0
  have HBOX := Lib.hid hbox
  clear ha hba hbox
  cases hl40 : inB ps.length 1 40
  · go_enter Tryz.func47, Tryz.ntmps47
    go_wp2_with (go_at_call 87; refine (within_any _ _ _ _).mono ?_; rintro e w' ⟨rfl, rfl⟩)
    go_ret
    exact ⟨ret_bool (by unfold bookB; rw [hl40]; rfl), HBA.out⟩
  go_enter Tryz.func47, Tryz.ntmps47
  go_wp2_with (go_at_call 87; refine (within_any _ _ _ _).mono ?_; rintro e w' ⟨rfl, rfl⟩)
  go_loopw [13] (fun i wr => ∃ k : Nat, k ≤ ps.length ∧ i = .int .i64 k ∧ Hid (∀ j, j < k → goodAt ps j = true) ∧ Below (w.heap.size + 1) (w.alloc (.cells #[.slice A ps.length c] 41)) wr) (fun i _ => ps.length - (intOf i).toNat)
  case atStart => exact ⟨0, Nat.zero_le _, rfl, fun j hj => by omega, Below.refl _ _⟩
  case round =>
    obtain ⟨k, hk, rfl, hup, hbr⟩ := hrel
    have hs : w.heap.size + 1 ≤ wr.heap.size := by have := hbr.size; simpa using this
    have hboxr : wr.cell? ⟨w.heap.size, 0, Option.none⟩ = some (.slice A ps.length c) := (hbr.cell (p := ⟨w.heap.size, 0, Option.none⟩) (by show w.heap.size < _; omega)).trans HBOX.out
    by_cases hlt : k < ps.length
    · obtain ⟨b1, o1, c1, a, t, xs, hv, hb1, hx, hcell1, hcell2, hra, hta⟩ := (H.out.below hbr (by omega)).at_ hlt
      cases hv
      obtain ⟨A2, c2, rfl, hc2, hm2⟩ := Rd.form hra
      have HX := Lib.hid hx
      have HBR := Lib.hid (HBA.out.trans (hbr.mono (by omega)))
      have hbw1 : Below (w.heap.size + 1) (w.alloc (.cells #[.slice (some ⟨b1, o1, Option.none⟩) ps.length c] 41)) (wr.alloc (.cells #[.string t, .slice A2 xs.length c2] 45)) := hbr.alloc hs _
      have HBR2 := Lib.hid hbw1
      have hra2 := hra.below ((Below.refl wr.heap.size wr).alloc (Nat.le_refl _) (.cells #[.string t, .slice A2 xs.length c2] 45)) (by omega)
      have HRA := Lib.hid hra2
      have HPS : Hid (RdB (wr.alloc (.cells #[.string t, .slice A2 xs.length c2] 45)) hi (.agg #[.slice (some ⟨b1, o1, Option.none⟩) ps.length c]) ps) := ⟨_, rfl, H.out.below hbw1 (by omega)⟩
      have HPQ : Hid (RdPS (wr.alloc (.cells #[.string t, .slice A2 xs.length c2] 45)) hi (.slice (some ⟨b1, o1, Option.none⟩) ps.length c) ps) := H.out.below hbw1 (by omega)
      have hlat := fun {b o : Nat} {u : Value} (hq : (wr.alloc (.cells #[.string t, .slice A2 xs.length c2] 45)).cell? ⟨b, o, Option.none⟩ = some u) (hb : b < wr.heap.size + 1) => later_cell (B := wr.heap.size + 1) hq hb
      have l0 := hlat ((Blk.new wr 45 #[.string t, .slice A2 xs.length c2]).cell 0) (by omega)
      have l1 := hlat ((Blk.new wr 45 #[.string t, .slice A2 xs.length c2]).cell 1) (by omega)
      have lb := hlat ((hbw1.cell (p := ⟨w.heap.size, 0, Option.none⟩) (by show w.heap.size < _; omega)).trans HBOX.out) (by omega)
      clear hlat hra hra2 hx hbw1 hbr hboxr
      have hxs : wr.heap.size + 1 ≤ (wr.alloc (.cells #[.string t, .slice A2 xs.length c2] 45)).heap.size := by simp
      have HXS := Lib.hid hxs
      clear hxs
      have hcut : RdB (wr.alloc (.cells #[.string t, .slice A2 xs.length c2] 45)) hi (.agg #[.slice (some ⟨b1, o1, Option.none⟩) k c]) (ps.take k) := ⟨_, rfl, HPQ.out.cut hk⟩
      have HCUT := Lib.hid hcut
      clear hcut
      have cT := fun x : LaterW (wr.heap.size + 1) (wr.alloc (.cells #[.string t, .slice A2 xs.length c2] 45)) => isPhrase_any (t, xs) (.agg #[.string t, .slice A2 xs.length c2]) hi x.val ⟨_, rfl, HRA.out.below x.bel (by omega), hta⟩ (by have := x.bel.size; have := HXS.out; omega)
      have cO := fun x : LaterW (wr.heap.size + 1) (wr.alloc (.cells #[.string t, .slice A2 xs.length c2] 45)) => phraseIndex_any (ps.take k) xs (.agg #[.slice (some ⟨b1, o1, Option.none⟩) k c]) (.slice A2 xs.length c2) hi hi x.val (HCUT.out.below x.bel (by omega)) (HRA.out.below x.bel (by omega)) (by have := x.bel.size; have := HXS.out; omega) (by have := x.bel.size; have := HXS.out; omega)
      have hkc : (k : Int) ≤ (c : Int) := by omega
      have hk0' : (0 : Int) ≤ (k : Int) := by omega
      cases hp1 : phrOk (t, xs)
      · rw [hp1] at cT
        have CT := Lib.hid cT
        have CO := Lib.hid cO
        clear cT cO
        go_wp2_with fail
        refine wp_region_later (wr.heap.size + 1) (by kernel_rfl) (by kernel_rfl) ?_; (repeat (go_big_quiet_step ((first | (go_at_call 75; exact later_of HXS.out (CT.out _)) | (go_at_call 89; exact later_of HXS.out (CO.out _)))))); refine later_nil ?_; intro w2 hb2
        go_wp2_with fail
        go_ret
        exact ⟨ret_bool (bookB_no hlt (goodAt_phr HX.out hp1)).symm, (HBA.out.trans (HBR2.out.mono (by omega))).trans (hb2.mono (by omega))⟩
      · have HP := Lib.hid hp1
        rw [hp1] at cT
        have CT := Lib.hid cT
        have CO := Lib.hid cO
        clear cT cO
        rcases Nat.eq_zero_or_pos k with h0 | hpos
        · have hk0 : decide (0 < k) = false := by rw [decide_eq_false_iff_not]; omega
          have H0 := Lib.hid h0
          clear h0
          by_cases hix : sigIx (ps.take k) xs = Option.none
          · have hne : decide (0 ≤ ixI (sigIx (ps.take k) xs)) = false := by rw [decide_eq_false_iff_not, ixI_nonneg]; exact fun h => h hix
            have HIX := Lib.hid hix
            clear hix
            go_wp2_with fail
            refine wp_region_later (wr.heap.size + 1) (by kernel_rfl) (by kernel_rfl) ?_; (repeat (go_big_quiet_step ((first | (go_at_call 75; exact later_of HXS.out (CT.out _)) | (go_at_call 89; exact later_of HXS.out (CO.out _)))))); refine later_nil ?_; intro w2 hb2
            go_wp2_with fail
            go_roundw
            case rel => exact ⟨k + 1, by omega, by go_num, fun j hj => by
              obtain rfl : k = 0 := H0.out
              obtain rfl : j = 0 := by omega
              exact goodAt_0 HX.out HP.out ((sigIx_take HX.out).2 HIX.out), HBR2.out.trans (hb2.mono (by omega))⟩
            case measure => simp [intOf]; omega
          · have hne : decide (0 ≤ ixI (sigIx (ps.take k) xs)) = true := by rw [decide_eq_true_eq, ixI_nonneg]; exact hix
            have HIX := Lib.hid hix
            clear hix
            go_wp2_with fail
            refine wp_region_later (wr.heap.size + 1) (by kernel_rfl) (by kernel_rfl) ?_; (repeat (go_big_quiet_step ((first | (go_at_call 75; exact later_of HXS.out (CT.out _)) | (go_at_call 89; exact later_of HXS.out (CO.out _)))))); refine later_nil ?_; intro w2 hb2
            go_wp2_with fail
            go_ret
            exact ⟨ret_bool (bookB_no hlt (goodAt_ix HX.out (fun h => HIX.out ((sigIx_take HX.out).1 h)))).symm, (HBA.out.trans (HBR2.out.mono (by omega))).trans (hb2.mono (by omega))⟩
        · have hk0 : decide (0 < k) = true := by rw [decide_eq_true_eq]; omega
          obtain ⟨b3, o3, c3, a3, q, ys, hv, hb3, hq, hcq, _, _, hqs⟩ := (HPQ.out).at_ (show k - 1 < ps.length by omega)
          cases hv
          have lq := later_cell (B := wr.heap.size + 1) hcq (by omega)
          have hi1 : (0 : Int) ≤ (k : Int) - 1 := by omega
          have hi2 : (k : Int) - 1 < (ps.length : Int) := by omega
          have hi3 : ((k : Int) - 1).toNat = k - 1 := by omega
          have HQ : Hid (ps[k - 1]? = some (q, ys)) := hq
          clear hq hcq
          have HK : Hid (∃ m, k = m + 1) := ⟨k - 1, by omega⟩
          cases hlt2 : ltT q t
          · have hl1 : Op.bytesLess q.toList t.toList = false := hlt2
            go_wp2_with fail
            refine wp_region_later (wr.heap.size + 1) (by kernel_rfl) (by kernel_rfl) ?_; (repeat (go_big_quiet_step ((first | (go_at_call 75; exact later_of HXS.out (CT.out _)) | (go_at_call 89; exact later_of HXS.out (CO.out _)))))); refine later_nil ?_; intro w2 hb2
            go_wp2_with fail
            go_ret
            refine ⟨ret_bool ?_, (HBA.out.trans (HBR2.out.mono (by omega))).trans (hb2.mono (by omega))⟩
            obtain ⟨m, rfl⟩ := HK.out
            exact (bookB_no hlt (goodAt_lt HX.out HQ.out hlt2)).symm
          · have hl1 : Op.bytesLess q.toList t.toList = true := hlt2
            by_cases hix : sigIx (ps.take k) xs = Option.none
            · have hne : decide (0 ≤ ixI (sigIx (ps.take k) xs)) = false := by rw [decide_eq_false_iff_not, ixI_nonneg]; exact fun h => h hix
              have HIX := Lib.hid hix
              clear hix
              go_wp2_with fail
              refine wp_region_later (wr.heap.size + 1) (by kernel_rfl) (by kernel_rfl) ?_; (repeat (go_big_quiet_step ((first | (go_at_call 75; exact later_of HXS.out (CT.out _)) | (go_at_call 89; exact later_of HXS.out (CO.out _)))))); refine later_nil ?_; intro w2 hb2
              go_wp2_with fail
              go_roundw
              case rel => exact ⟨k + 1, by omega, by go_num, fun j hj => by
                by_cases e : j = k
                · subst e
                  have h5 := (sigIx_take HX.out).2 HIX.out
                  obtain ⟨m, rfl⟩ := HK.out
                  exact goodAt_s HX.out HQ.out HP.out hlt2 h5
                · exact hup.out j (by omega), HBR2.out.trans (hb2.mono (by omega))⟩
              case measure => simp [intOf]; omega
            · have hne : decide (0 ≤ ixI (sigIx (ps.take k) xs)) = true := by rw [decide_eq_true_eq, ixI_nonneg]; exact hix
              have HIX := Lib.hid hix
              clear hix
              go_wp2_with fail
              refine wp_region_later (wr.heap.size + 1) (by kernel_rfl) (by kernel_rfl) ?_; (repeat (go_big_quiet_step ((first | (go_at_call 75; exact later_of HXS.out (CT.out _)) | (go_at_call 89; exact later_of HXS.out (CO.out _)))))); refine later_nil ?_; intro w2 hb2
              go_wp2_with fail
              go_ret
              exact ⟨ret_bool (bookB_no hlt (goodAt_ix HX.out (fun h => HIX.out ((sigIx_take HX.out).1 h)))).symm, (HBA.out.trans (HBR2.out.mono (by omega))).trans (hb2.mono (by omega))⟩
    · obtain rfl : k = ps.length := by omega
      go_wp2_with fail
      go_ret
      refine ⟨ret_bool ?_, HBA.out.trans (hbr.mono (by omega))⟩
      unfold bookB
      rw [goodB_yes hup.out, hl40, Bool.and_true]
end Go.Proofs.YtjnkdjokbamibaaGreatDoor
/- Contracts of the searches in a book by a text, by signals, and for texts of one letter; of the program and of the reference. -/
namespace Go.Proofs.YtjnkdjokbamibaaGreatDoor
open Go.RowKit
theorem str_inj {a b : ByteArray} (h : (a.toList == b.toList) = true) : a = b := by
  rw [ByteArray.toList_eq, ByteArray.toList_eq, beq_iff_eq] at h
  exact ByteArray.ext (Array.toList_inj.1 h)
/-- The place of the phrase with a text. -/
def txtIx (ps : List Phr) (s : ByteArray) : Option Nat := ps.findIdx? fun p => p.1.toList == s.toList
/-- A place, if the book is good and there is one. -/
def findV (b : Bool) (o : Option Nat) : Value := match b, o with
  | true, some i => .tuple #[.int .i64 (i : Int), .bool true]
  | _, _ => .tuple #[.int .i64 0, .bool false]
theorem txtIx_lt {ps : List Phr} {s : ByteArray} {i : Nat} (h : txtIx ps s = some i) : i < ps.length := by
  unfold txtIx at h; rw [List.findIdx?_eq_some_iff_getElem] at h; exact h.1
theorem sigIx_lt {ps : List Phr} {s : List Int} {i : Nat} (h : sigIx ps s = some i) : i < ps.length := by
  unfold sigIx at h; rw [List.findIdx?_eq_some_iff_getElem] at h; exact h.1
theorem bookB_phr {ps : List Phr} {p : Phr} (h : bookB ps = true) (hp : p ∈ ps) : phrOk p = true := by
  obtain ⟨j, hj⟩ := List.getElem?_of_mem hp
  have hl := (List.getElem?_eq_some_iff.1 hj).1
  unfold bookB goodB at h
  rw [Bool.and_eq_true, List.all_eq_true] at h
  have := h.2 j (List.mem_range.2 hl)
  unfold goodAt at this
  rw [hj] at this
  simp only [Bool.and_eq_true] at this
  exact this.1
theorem txtIx_no {ps : List Phr} {s : ByteArray} (h : bookB ps = true) (hp : phraseB s.data.toList = false) : txtIx ps s = Option.none := by
  unfold txtIx
  rw [List.findIdx?_eq_none_iff]
  intro x hx
  rcases he : (x.1.toList == s.toList)
  · rfl
  · have := bookB_phr h hx
    unfold phrOk at this
    rw [str_inj he, hp] at this
    cases this
theorem bookB_len {ps : List Phr} (h : bookB ps = true) : 1 ≤ ps.length ∧ ps.length ≤ 40 := by
  unfold bookB at h
  rw [Bool.and_eq_true, inB_iff] at h
  omega
set_option maxHeartbeats 800000 in
theorem bkFind_any (ps : List Phr) (s : ByteArray) (v : Value) (hi : Nat) (w : World) (h : RdB w hi v ps) (hh : hi ≤ w.heap.size) :
    Calls Tryz.prog 83 #[v, .string s] w fun e w' => e = .returned (.int .i64 (ixI (txtIx ps s))) ∧ Below w.heap.size w w' := by
  obtain ⟨a, rfl, ha⟩ := h
  obtain ⟨A, c, rfl, hc, hm⟩ := ha.form
  have hba : Below w.heap.size w (w.alloc (.cells #[.slice A ps.length c] 41)) := (Below.refl _ _).alloc (Nat.le_refl _) _
  have HB := Lib.hid hba
  have HA := Lib.hid (ha.below hba hh)
  have HG : Hid (RdB (w.alloc (.cells #[.slice A ps.length c] 41)) hi (.agg #[.slice A ps.length c]) ps) := ⟨_, rfl, HA.out⟩
  have hcb0 : (w.alloc (.cells #[.slice A ps.length c] 41)).cell? ⟨w.heap.size, 0, Option.none⟩ = some (.slice A ps.length c) := (Blk.new w 41 #[.slice A ps.length c]).cell 0
  have HCB := Lib.hid hcb0
  have hsz1 : hi ≤ (w.alloc (.cells #[.slice A ps.length c] 41)).heap.size := by simp; omega
  clear ha hba hcb0
  go_enter Tryz.func83, Tryz.ntmps83
  go_wp2_with fail
  go_loopw [10] (fun i wr => ∃ k : Nat, k ≤ ps.length ∧ i = .int .i64 k ∧ Hid (∀ j, j < k → ∀ x, ps[j]? = some x → (x.1.toList == s.toList) = false) ∧ Below (w.heap.size + 1) (w.alloc (.cells #[.slice A ps.length c] 41)) wr) (fun i _ => ps.length - (intOf i).toNat)
  case atStart => exact ⟨0, Nat.zero_le _, rfl, fun j hj => by omega, Below.refl _ _⟩
  case round =>
    obtain ⟨k, hk, rfl, hno, hbr⟩ := hrel
    have hs : w.heap.size + 1 ≤ wr.heap.size := by have := hbr.size; simpa using this
    by_cases hlt : k < ps.length
    · obtain ⟨b1, o1, c1, a, t, xs, hv, hb1, hx, hcell1, hcell2, hra, hta⟩ := (HA.out.below hbr (by omega)).at_ hlt
      cases hv
      obtain ⟨A2, c2, rfl, hc2, hm2⟩ := Rd.form hra
      have HX := Lib.hid hx
      have HRA := Lib.hid hra
      clear hx hra
      cases hts : (t.toList == s.toList)
      · have HTS := Lib.hid hts
        go_wp2_with fail
        go_roundw
        case rel => exact ⟨k + 1, by omega, by go_num, fun j hj x hx => by
          by_cases e : j = k
          · subst e; rw [HX.out] at hx; cases hx; exact HTS.out
          · exact hno.out j (by omega) x hx, hbr.alloc hs _⟩
        case measure => simp [intOf]; omega
      · have HTS := Lib.hid hts
        go_wp2_with fail
        go_ret
        refine ⟨ret_int ?_, HB.out.trans ((hbr.alloc hs _).mono (by omega))⟩
        unfold txtIx
        rw [findIdx_take (fun j hj x hx => hno.out j hj x hx) HX.out HTS.out]
        rfl
    · obtain rfl : k = ps.length := by omega
      go_wp2_with fail
      go_ret
      refine ⟨ret_int ?_, HB.out.trans (hbr.mono (by omega))⟩
      unfold txtIx
      rw [findIdx_none (fun j x hx => hno.out j (List.getElem?_eq_some_iff.1 hx).1 x hx)]
      rfl
set_option maxHeartbeats 800000 in
theorem sFindPhrase_any (ps : List Phr) (s : ByteArray) (v : Value) (hi : Nat) (w : World) (h : RdB w hi v ps) (hh : hi ≤ w.heap.size) :
    Calls Tryz.prog 32 #[v, .string s] w fun e w' => e = .returned (findV (bookB ps) (txtIx ps s)) ∧ Below w.heap.size w w' := by
  obtain ⟨a, rfl, ha⟩ := h
  obtain ⟨A, c, rfl, hc, hm⟩ := ha.form
  have hba : Below w.heap.size w (w.alloc (.cells #[.slice A ps.length c] 41)) := (Below.refl _ _).alloc (Nat.le_refl _) _
  have HB := Lib.hid hba
  have HA := Lib.hid (ha.below hba hh)
  have HG : Hid (RdB (w.alloc (.cells #[.slice A ps.length c] 41)) hi (.agg #[.slice A ps.length c]) ps) := ⟨_, rfl, HA.out⟩
  have hcb0 : (w.alloc (.cells #[.slice A ps.length c] 41)).cell? ⟨w.heap.size, 0, Option.none⟩ = some (.slice A ps.length c) := (Blk.new w 41 #[.slice A ps.length c]).cell 0
  have HCB := Lib.hid hcb0
  have hsz1 : hi ≤ (w.alloc (.cells #[.slice A ps.length c] 41)).heap.size := by simp; omega
  clear ha hba hcb0
  have cB := bkGood_any ps (.agg #[.slice A ps.length c]) hi (w.alloc (.cells #[.slice A ps.length c] 41)) HG.out hsz1
  cases hbk : bookB ps
  · rw [hbk] at cB
    have CB := Lib.hid cB
    clear cB
    go_enter Tryz.func32, Tryz.ntmps32
    go_wp2_with (go_at_call 69; refine CB.out.mono ?_; rintro e w1 ⟨rfl, hb1⟩)
    go_ret2
    exact ⟨ret_val rfl, HB.out.trans (hb1.mono (by simp))⟩
  · rw [hbk] at cB
    have CB := Lib.hid cB
    have HBK := Lib.hid hbk
    clear cB
    go_enter Tryz.func32, Tryz.ntmps32
    go_wp2_with fail
    refine CB.out.mono ?_
    rintro e w1 ⟨rfl, hb1⟩
    have hcb := (hb1.cell (p := ⟨w.heap.size, 0, Option.none⟩) (by simp)).trans HCB.out
    have hs1 : w.heap.size + 1 ≤ w1.heap.size := by have := hb1.size; simpa using this
    have HA1 := Lib.hid (HA.out.below hb1 hsz1)
    have HG1 : Hid (RdB w1 hi (.agg #[.slice A ps.length c]) ps) := ⟨_, rfl, HA1.out⟩
    have HB1 := Lib.hid (HB.out.trans (hb1.mono (by simp)))
    clear hb1
    have cF := bkFind_any ps s (.agg #[.slice A ps.length c]) hi w1 HG1.out (by omega)
    cases ho : txtIx ps s with
    | none =>
      rw [ho] at cF
      have CF := Lib.hid cF
      clear cF
      go_wp2_with (go_at_call 83; refine CF.out.mono ?_; rintro e w2 ⟨rfl, hb2⟩)
      go_ret2
      exact ⟨ret_val (by rw [ho]; rfl), HB1.out.trans (hb2.mono (by omega))⟩
    | some i =>
      have hil : i < ps.length := txtIx_lt ho
      have HO := Lib.hid ho
      rw [ho] at cF
      have CF := Lib.hid cF
      clear cF ho
      go_wp2_with fail
      refine CF.out.mono ?_
      rintro e w2 ⟨rfl, hb2⟩
      have hcb2 := (hb2.cell (p := ⟨w.heap.size, 0, Option.none⟩) (by show w.heap.size < _; omega)).trans hcb
      have cF2 := bkFind_any ps s (.agg #[.slice A ps.length c]) hi w2 ⟨_, rfl, HA1.out.below hb2 (by omega)⟩ (by have := hb2.size; omega)
      rw [HO.out] at cF2
      have CF2 := Lib.hid cF2
      have HB2 := Lib.hid (HB1.out.trans (hb2.mono (by omega)))
      have hs2 : w1.heap.size ≤ w2.heap.size := hb2.size
      clear cF2 hb2
      unfold ixI
      go_wp2_with (go_at_call 83; refine CF2.out.mono ?_; rintro e w3 ⟨rfl, hb3⟩)
      go_ret2
      exact ⟨ret_val (by rw [HO.out]; rfl), HB2.out.trans (hb3.mono (by omega))⟩
theorem FindPhrase1_any (x : Phr) (s : ByteArray) (u : Value) (B hi : Nat) (w : World) (h : RdI w hi u x.2) (hB : B < w.heap.size) (hc : w.cell? ⟨B, 0, Option.none⟩ = some (.string s)) :
    Calls Tryz.prog 85 #[.agg #[.string x.1, u], .pointer (some ⟨B, 0, Option.none⟩)] w fun e w' => e = .returned (.bool (x.1.toList == s.toList)) ∧ Below w.heap.size w w' := by
  obtain ⟨A, c, rfl, hc1, hm⟩ := Rd.form h
  have hba : Below w.heap.size w (w.alloc (.cells #[.string x.1, .slice A x.2.length c] 45)) := (Below.refl _ _).alloc (Nat.le_refl _) _
  clear h
  go_enter Tryz.func85, Tryz.ntmps85
  go_wp2_with fail
  go_ret
  exact ⟨rfl, hba⟩
set_option maxHeartbeats 1600000 in
theorem FindPhrase_any (ps : List Phr) (s : ByteArray) (v : Value) (hi : Nat) (w : World) (hs0 : s.size ≤ maxLen) (h : RdB w hi v ps) (hh : hi ≤ w.heap.size) :
    Calls Tryz.prog 31 #[v, .string s] w fun e w' => e = .returned (findV (bookB ps) (txtIx ps s)) ∧ Below w.heap.size w w' := by
  obtain ⟨a, rfl, ha⟩ := h
  obtain ⟨A, c, rfl, hc, hm⟩ := ha.form
  have hba : Below w.heap.size w ((w.alloc (.cells #[.slice A ps.length c] 41)).alloc (.cells #[.string s] 9)) := ((Below.refl _ _).alloc (Nat.le_refl _) _).alloc (by simp) _
  have HB := Lib.hid hba
  have HA := Lib.hid (ha.below hba hh)
  have HG : Hid (RdB ((w.alloc (.cells #[.slice A ps.length c] 41)).alloc (.cells #[.string s] 9)) hi (.agg #[.slice A ps.length c]) ps) := ⟨_, rfl, HA.out⟩
  have hcb0 : ((w.alloc (.cells #[.slice A ps.length c] 41)).alloc (.cells #[.string s] 9)).cell? ⟨w.heap.size, 0, Option.none⟩ = some (.slice A ps.length c) := ((Blk.new w 41 #[.slice A ps.length c]).alloc _).cell 0
  have hcs0 : ((w.alloc (.cells #[.slice A ps.length c] 41)).alloc (.cells #[.string s] 9)).cell? ⟨w.heap.size + 1, 0, Option.none⟩ = some (.string s) := by
    have := (Blk.new (w.alloc (.cells #[.slice A ps.length c] 41)) 9 #[.string s]).cell 0
    simp at this ⊢
  have HCB := Lib.hid hcb0
  have HCS := Lib.hid hcs0
  have hsz1 : hi ≤ ((w.alloc (.cells #[.slice A ps.length c] 41)).alloc (.cells #[.string s] 9)).heap.size := by simp; omega
  clear ha hba hcb0 hcs0
  have cB := IsBook_any ps (.agg #[.slice A ps.length c]) hi ((w.alloc (.cells #[.slice A ps.length c] 41)).alloc (.cells #[.string s] 9)) HG.out hsz1
  cases hbk : bookB ps
  · rw [hbk] at cB
    have CB := Lib.hid cB
    clear cB
    go_enter Tryz.func31, Tryz.ntmps31
    go_wp2_with (go_at_call 47; refine CB.out.mono ?_; rintro e w1 ⟨rfl, hb1⟩)
    go_ret2
    exact ⟨ret_val rfl, HB.out.trans (hb1.mono (by simp; omega))⟩
  · rw [hbk] at cB
    have CB := Lib.hid cB
    have cT := IsPhraseText_any s hs0
    cases hp : phraseB s.data.toList
    · have hno : txtIx ps s = Option.none := txtIx_no hbk hp
      rw [hp] at cT
      have CT := Lib.hid cT
      clear cB cT
      go_enter Tryz.func31, Tryz.ntmps31
      go_wp2_with fail
      refine CB.out.mono ?_
      rintro e w1 ⟨rfl, hb1⟩
      have hcs := (hb1.cell (p := ⟨w.heap.size + 1, 0, Option.none⟩) (by simp)).trans HCS.out
      go_wp2_with (go_at_call 45; refine (CT.out _).mono ?_; rintro e w' ⟨rfl, rfl⟩)
      go_ret2
      exact ⟨ret_val (by rw [hno]; rfl), HB.out.trans (hb1.mono (by simp; omega))⟩
    · rw [hp] at cT
      have CT := Lib.hid cT
      clear cB cT
      go_enter Tryz.func31, Tryz.ntmps31
      go_wp2_with fail
      refine CB.out.mono ?_
      rintro e w1 ⟨rfl, hb1⟩
      have hcs := (hb1.cell (p := ⟨w.heap.size + 1, 0, Option.none⟩) (by simp)).trans HCS.out
      have hcb := (hb1.cell (p := ⟨w.heap.size, 0, Option.none⟩) (by simp; omega)).trans HCB.out
      have hs1 : w.heap.size + 2 ≤ w1.heap.size := by have := hb1.size; simpa using this
      have HA1 := Lib.hid (HA.out.below hb1 hsz1)
      have HB1 := Lib.hid (HB.out.trans (hb1.mono (by simp; omega)))
      have hpred : PredP 85 #[.pointer (some ⟨w.heap.size + 1, 0, Option.none⟩)] hi (fun p => p.1.toList == s.toList) w1 := by
        intro W x u hb hu _
        have hs := hb.size
        exact FindPhrase1_any x s u (w.heap.size + 1) hi W hu (by omega) ((hb.cell (p := ⟨w.heap.size + 1, 0, Option.none⟩) (by show w.heap.size + 1 < _; omega)).trans hcs)
      have HC := Lib.hid (indexP_any ps _ hi w1 _ _ _ HA1.out (by omega) hpred (enters_of Tryz.func85 (by kernel_rfl) rfl))
      clear hpred hb1
      go_wp2_with (go_at_call 45; refine (CT.out _).mono ?_; rintro e w' ⟨rfl, rfl⟩)
      refine HC.out.mono ?_
      rintro e w2 ⟨rfl, hb2⟩
      have HB2 := Lib.hid (HB1.out.trans (hb2.mono (by omega)))
      clear hb2
      show _
      cases ho : txtIx ps s with
      | none =>
        have ho' : ps.findIdx? (fun p => p.1.toList == s.toList) = Option.none := ho
        rw [ho']
        unfold ixI
        go_wp2_with fail
        go_ret2
        exact ⟨ret_val (by rw [ho]; rfl), HB2.out⟩
      | some i =>
        have hil : i < ps.length := txtIx_lt ho
        have ho' : ps.findIdx? (fun p => p.1.toList == s.toList) = some i := ho
        rw [ho']
        unfold ixI
        have HO := Lib.hid ho
        clear ho ho'
        go_wp2_with fail
        go_ret2
        exact ⟨ret_val (by rw [HO.out]; rfl), HB2.out⟩
set_option maxHeartbeats 1600000 in
theorem sPhraseOf_any (ps : List Phr) (ys : List Int) (v u : Value) (hi hj : Nat) (w : World) (h : RdB w hi v ps) (g : RdI w hj u ys) (hh : hi ≤ w.heap.size) (hg : hj ≤ w.heap.size) :
    Calls Tryz.prog 35 #[v, u] w fun e w' => e = .returned (findV (bookB ps && sigOk ys) (sigIx ps ys)) ∧ Below w.heap.size w w' := by
  obtain ⟨A', c', rfl, hc', hm'⟩ := Rd.form g
  have G := Lib.hid g
  clear g
  obtain ⟨a, rfl, ha⟩ := h
  obtain ⟨A, c, rfl, hc, hm⟩ := ha.form
  have hba : Below w.heap.size w (w.alloc (.cells #[.slice A ps.length c] 41)) := (Below.refl _ _).alloc (Nat.le_refl _) _
  have HB := Lib.hid hba
  have HA := Lib.hid (ha.below hba hh)
  have HG : Hid (RdB (w.alloc (.cells #[.slice A ps.length c] 41)) hi (.agg #[.slice A ps.length c]) ps) := ⟨_, rfl, HA.out⟩
  have hcb0 : (w.alloc (.cells #[.slice A ps.length c] 41)).cell? ⟨w.heap.size, 0, Option.none⟩ = some (.slice A ps.length c) := (Blk.new w 41 #[.slice A ps.length c]).cell 0
  have HCB := Lib.hid hcb0
  have hsz1 : hi ≤ (w.alloc (.cells #[.slice A ps.length c] 41)).heap.size := by simp; omega
  clear ha hba hcb0
  have cB := bkGood_any ps (.agg #[.slice A ps.length c]) hi (w.alloc (.cells #[.slice A ps.length c] 41)) HG.out hsz1
  cases hbk : bookB ps
  · rw [hbk] at cB
    have CB := Lib.hid cB
    clear cB
    go_enter Tryz.func35, Tryz.ntmps35
    go_wp2_with (go_at_call 69; refine CB.out.mono ?_; rintro e w1 ⟨rfl, hb1⟩)
    go_ret2
    exact ⟨ret_val rfl, HB.out.trans (hb1.mono (by simp))⟩
  · rw [hbk] at cB
    have CB := Lib.hid cB
    have HBK := Lib.hid hbk
    clear cB
    go_enter Tryz.func35, Tryz.ntmps35
    go_wp2_with fail
    refine CB.out.mono ?_
    rintro e w1 ⟨rfl, hb1⟩
    have hcb := (hb1.cell (p := ⟨w.heap.size, 0, Option.none⟩) (by simp)).trans HCB.out
    have hs1 : w.heap.size + 1 ≤ w1.heap.size := by have := hb1.size; simpa using this
    have HA1 := Lib.hid (HA.out.below hb1 hsz1)
    have HG1 : Hid (RdB w1 hi (.agg #[.slice A ps.length c]) ps) := ⟨_, rfl, HA1.out⟩
    have HB1 := Lib.hid (HB.out.trans (hb1.mono (by simp)))
    clear hb1
    have G1 := Lib.hid (RdI.below G.out (HB1.out) (by omega))
    have cS := bkSignals_any ys _ hj w1 G1.out
    cases hsg : sigOk ys
    · rw [hsg] at cS
      have CS := Lib.hid cS
      clear cS
      go_wp2_with (go_at_call 90; refine (CS.out).mono ?_; rintro e w' ⟨rfl, rfl⟩)
      go_ret2
      exact ⟨ret_val (by rw [hsg]; rfl), HB1.out⟩
    · rw [hsg] at cS
      have CS := Lib.hid cS
      clear cS
      have cF := bkOf_any ps ys (.agg #[.slice A ps.length c]) _ hi hj w1 HG1.out G1.out (by omega) (by omega)
      cases ho : sigIx ps ys with
      | none =>
        rw [ho] at cF
        have CF := Lib.hid cF
        clear cF
        go_wp2_with (first | (go_at_call 90; refine (CS.out).mono ?_; rintro e w' ⟨rfl, rfl⟩) | (go_at_call 91; refine CF.out.mono ?_; rintro e w2 ⟨rfl, hb2⟩))
        go_ret2
        exact ⟨ret_val (by rw [ho, hsg]; rfl), HB1.out.trans (hb2.mono (by omega))⟩
      | some i =>
        have hil : i < ps.length := sigIx_lt ho
        have HO := Lib.hid ho
        rw [ho] at cF
        have CF := Lib.hid cF
        clear cF ho
        go_wp2_with (go_at_call 90; refine (CS.out).mono ?_; rintro e w' ⟨rfl, rfl⟩)
        refine CF.out.mono ?_
        rintro e w2 ⟨rfl, hb2⟩
        have hcb2 := (hb2.cell (p := ⟨w.heap.size, 0, Option.none⟩) (by show w.heap.size < _; omega)).trans hcb
        have cF2 := bkOf_any ps ys (.agg #[.slice A ps.length c]) _ hi hj w2 ⟨_, rfl, HA1.out.below hb2 (by omega)⟩ (RdI.below G1.out hb2 (by omega)) (by have := hb2.size; omega) (by have := hb2.size; omega)
        rw [HO.out] at cF2
        have CF2 := Lib.hid cF2
        have HB2 := Lib.hid (HB1.out.trans (hb2.mono (by omega)))
        have hs2 : w1.heap.size ≤ w2.heap.size := hb2.size
        clear cF2 hb2
        unfold ixI
        go_wp2_with (go_at_call 91; refine CF2.out.mono ?_; rintro e w3 ⟨rfl, hb3⟩)
        go_ret2
        exact ⟨ret_val (by rw [HO.out, hsg]; rfl), HB2.out.trans (hb3.mono (by omega))⟩
set_option maxHeartbeats 1600000 in
theorem PhraseOf_any (ps : List Phr) (ys : List Int) (v u : Value) (hi hj : Nat) (w : World) (h : RdB w hi v ps) (g : RdI w hj u ys) (hh : hi ≤ w.heap.size) (hg : hj ≤ w.heap.size) :
    Calls Tryz.prog 34 #[v, u] w fun e w' => e = .returned (findV (bookB ps && sigOk ys) (sigIx ps ys)) ∧ Below w.heap.size w w' := by
  obtain ⟨A', c', rfl, hc', hm'⟩ := Rd.form g
  have G := Lib.hid g
  clear g
  obtain ⟨a, rfl, ha⟩ := h
  obtain ⟨A, c, rfl, hc, hm⟩ := ha.form
  have hba : Below w.heap.size w (w.alloc (.cells #[.slice A ps.length c] 41)) := (Below.refl _ _).alloc (Nat.le_refl _) _
  have HB := Lib.hid hba
  have HA := Lib.hid (ha.below hba hh)
  have HG : Hid (RdB (w.alloc (.cells #[.slice A ps.length c] 41)) hi (.agg #[.slice A ps.length c]) ps) := ⟨_, rfl, HA.out⟩
  have hcb0 : (w.alloc (.cells #[.slice A ps.length c] 41)).cell? ⟨w.heap.size, 0, Option.none⟩ = some (.slice A ps.length c) := (Blk.new w 41 #[.slice A ps.length c]).cell 0
  have HCB := Lib.hid hcb0
  have hsz1 : hi ≤ (w.alloc (.cells #[.slice A ps.length c] 41)).heap.size := by simp; omega
  clear ha hba hcb0
  have cB := IsBook_any ps (.agg #[.slice A ps.length c]) hi (w.alloc (.cells #[.slice A ps.length c] 41)) HG.out hsz1
  cases hbk : bookB ps
  · rw [hbk] at cB
    have CB := Lib.hid cB
    clear cB
    go_enter Tryz.func34, Tryz.ntmps34
    go_wp2_with (go_at_call 47; refine CB.out.mono ?_; rintro e w1 ⟨rfl, hb1⟩)
    go_ret2
    exact ⟨ret_val rfl, HB.out.trans (hb1.mono (by simp))⟩
  · rw [hbk] at cB
    have CB := Lib.hid cB
    have HBK := Lib.hid hbk
    clear cB
    go_enter Tryz.func34, Tryz.ntmps34
    go_wp2_with fail
    refine CB.out.mono ?_
    rintro e w1 ⟨rfl, hb1⟩
    have hcb := (hb1.cell (p := ⟨w.heap.size, 0, Option.none⟩) (by simp)).trans HCB.out
    have hs1 : w.heap.size + 1 ≤ w1.heap.size := by have := hb1.size; simpa using this
    have HA1 := Lib.hid (HA.out.below hb1 hsz1)
    have HG1 : Hid (RdB w1 hi (.agg #[.slice A ps.length c]) ps) := ⟨_, rfl, HA1.out⟩
    have HB1 := Lib.hid (HB.out.trans (hb1.mono (by simp)))
    clear hb1
    have G1 := Lib.hid (RdI.below G.out (HB1.out) (by omega))
    cases hl : inB ys.length 1 3
    · go_wp2_with (go_at_call 87; refine (within_any _ _ _ _).mono ?_; rintro e w' ⟨rfl, rfl⟩)
      go_ret2
      exact ⟨ret_val (by unfold sigOk; rw [hl]; rfl), HB1.out⟩
    have cS := allWithin_any ys 1 60 _ hj w1 G1.out
    cases hsg : allB ys 1 60
    · rw [hsg] at cS
      have CS := Lib.hid cS
      clear cS
      go_wp2_with (first | (go_at_call 87; refine (within_any _ _ _ _).mono ?_; rintro e w' ⟨rfl, rfl⟩) | (go_at_call 88; refine (CS.out).mono ?_; rintro e w' ⟨rfl, rfl⟩))
      go_ret2
      exact ⟨ret_val (by unfold sigOk; rw [hl, hsg]; rfl), HB1.out⟩
    · rw [hsg] at cS
      have CS := Lib.hid cS
      clear cS
      have cF := phraseIndex_any ps ys (.agg #[.slice A ps.length c]) _ hi hj w1 HG1.out G1.out (by omega) (by omega)
      cases ho : sigIx ps ys with
      | none =>
        rw [ho] at cF
        have CF := Lib.hid cF
        clear cF
        go_wp2_with (first | (go_at_call 87; refine (within_any _ _ _ _).mono ?_; rintro e w' ⟨rfl, rfl⟩) | (go_at_call 88; refine (CS.out).mono ?_; rintro e w' ⟨rfl, rfl⟩) | (go_at_call 89; refine CF.out.mono ?_; rintro e w2 ⟨rfl, hb2⟩))
        go_ret2
        exact ⟨ret_val (by unfold sigOk; rw [ho, hl, hsg]; rfl), HB1.out.trans (hb2.mono (by omega))⟩
      | some i =>
        have hil : i < ps.length := sigIx_lt ho
        have HO := Lib.hid ho
        rw [ho] at cF
        have CF := Lib.hid cF
        clear cF ho
        unfold ixI at CF
        go_wp2_with (first | (go_at_call 87; refine (within_any _ _ _ _).mono ?_; rintro e w' ⟨rfl, rfl⟩) | (go_at_call 88; refine (CS.out).mono ?_; rintro e w' ⟨rfl, rfl⟩) | (go_at_call 89; refine CF.out.mono ?_; rintro e w2 ⟨rfl, hb2⟩))
        go_ret2
        exact ⟨ret_val (by unfold sigOk; rw [HO.out, hl, hsg]; rfl), HB1.out.trans (hb2.mono (by omega))⟩
end Go.Proofs.YtjnkdjokbamibaaGreatDoor
/- Plain laws on good books: no two phrases have one text, nor the same signals; phrases that fit at one place have lengths of their own. Slices cut off at their head. -/
namespace Go.Proofs.YtjnkdjokbamibaaGreatDoor
open Go.RowKit
theorem less_irrefl : ∀ a : List UInt8, Op.bytesLess a a = false
  | [] => by simp [Op.bytesLess]
  | x :: a => by simp [Op.bytesLess, less_irrefl a]
theorem less_trans : ∀ {a b c : List UInt8}, Op.bytesLess a b = true → Op.bytesLess b c = true → Op.bytesLess a c = true
  | a, [], c, h, _ => by cases a <;> simp [Op.bytesLess] at h
  | a, b :: bs, [], _, h => by simp [Op.bytesLess] at h
  | [], b :: bs, c :: cs, _, _ => by simp [Op.bytesLess]
  | a :: l, b :: bs, c :: cs, h, g => by
    simp only [Op.bytesLess, Bool.or_eq_true, Bool.and_eq_true, decide_eq_true_eq, beq_iff_eq] at h g ⊢
    rcases h with h | ⟨rfl, h⟩
    · rcases g with g | ⟨rfl, g⟩
      · exact .inl (UInt8.lt_trans h g)
      · exact .inl h
    · rcases g with g | ⟨rfl, g⟩
      · exact .inl g
      · exact .inr ⟨rfl, less_trans h g⟩
theorem bookB_at {ps : List Phr} (h : bookB ps = true) {j : Nat} (hj : j < ps.length) : goodAt ps j = true := by
  unfold bookB goodB at h
  rw [Bool.and_eq_true, List.all_eq_true] at h
  exact h.2 j (List.mem_range.2 hj)
theorem book_sig {ps : List Phr} (h : bookB ps = true) {j : Nat} {p : Phr} (hp : ps[j]? = some p) : sigIx ps p.2 = some j := by
  have hj := (List.getElem?_eq_some_iff.1 hp).1
  have := bookB_at h hj
  unfold goodAt at this
  rw [hp] at this
  simp only [Bool.and_eq_true, beq_iff_eq] at this
  exact this.2.2
theorem book_lt {ps : List Phr} (h : bookB ps = true) {j : Nat} {p q : Phr} (hp : ps[j]? = some p) (hq : ps[j + 1]? = some q) : ltT p.1 q.1 = true := by
  have hj := (List.getElem?_eq_some_iff.1 hq).1
  have := bookB_at h hj
  unfold goodAt at this
  rw [hq] at this
  simp only [hp, Bool.and_eq_true] at this
  exact this.2.1
theorem book_mono {ps : List Phr} (h : bookB ps = true) {i : Nat} {p : Phr} (hp : ps[i]? = some p) : ∀ (d : Nat) {q : Phr}, ps[i + 1 + d]? = some q → ltT p.1 q.1 = true
  | 0, q, hq => book_lt h hp hq
  | d + 1, q, hq => by
    have hl := (List.getElem?_eq_some_iff.1 hq).1
    have hr : ps[i + 1 + d]? = some ps[i + 1 + d] := List.getElem?_eq_getElem (by omega)
    have h1 := book_mono h hp d hr
    have h2 := book_lt h hr (by rw [show i + 1 + d + 1 = i + 1 + (d + 1) by omega]; exact hq)
    exact less_trans h1 h2
theorem book_txt {ps : List Phr} (h : bookB ps = true) {i j : Nat} {p q : Phr} (hp : ps[i]? = some p) (hq : ps[j]? = some q) (hij : i < j) : p.1 ≠ q.1 := by
  have := book_mono h hp (j - i - 1) (by rw [show i + 1 + (j - i - 1) = j by omega]; exact hq)
  intro e
  unfold ltT at this
  rw [e, less_irrefl] at this
  cases this
theorem book_sigs {ps : List Phr} (h : bookB ps = true) {i j : Nat} {p q : Phr} (hp : ps[i]? = some p) (hq : ps[j]? = some q) (hij : i < j) : p.2 ≠ q.2 := by
  intro e
  have h1 := book_sig h hp
  have h2 := book_sig h hq
  rw [e, h2] at h1
  injection h1 with h1
  omega
theorem phrOk_sig {p : Phr} (h : phrOk p = true) : 1 ≤ p.2.length ∧ p.2.length ≤ 3 ∧ allB p.2 1 60 = true := by
  unfold phrOk sigOk at h
  simp only [Bool.and_eq_true, inB_iff] at h
  obtain ⟨_, h1, h2⟩ := h
  exact ⟨by omega, by omega, h2⟩
theorem RdI.drop {w : World} {hi c : Nat} {b off : Nat} {xs : List Int} (h : RdI w hi (.slice (some ⟨b, off, Option.none⟩) xs.length c) xs) {k : Nat} (hk : k < xs.length) :
    RdI w hi (.slice (some ⟨b, off + k, Option.none⟩) (xs.length - k) (c - k)) (xs.drop k) := by
  obtain ⟨h0, A', c', hv, h1, h2, h3⟩ := h
  cases hv
  obtain ⟨b', off', hA, hb, hc⟩ := h3 (by omega)
  cases hA
  refine ⟨by simp, some ⟨b, off + k, Option.none⟩, c - k, by rw [List.length_drop], by rw [List.length_drop]; omega, by omega, fun _ => ⟨b, off + k, rfl, hb, fun j u hu => ?_⟩⟩
  have := hc (k + j) u (by
    rw [ints, List.getElem?_map, List.getElem?_drop] at hu
    rw [ints, List.getElem?_map]; exact hu)
  rwa [← Nat.add_assoc] at this
end Go.Proofs.YtjnkdjokbamibaaGreatDoor
/- Plain laws on books: which lists of phrases are books; one phrase more in its place, one fewer. -/
namespace Go.Proofs.YtjnkdjokbamibaaGreatDoor
open Go.RowKit
theorem book_pw_lt {ps : List Phr} (h : bookB ps = true) : ps.Pairwise fun p q => ltT p.1 q.1 = true := by
  rw [List.pairwise_iff_getElem]
  intro i j hi hj hij
  exact book_mono h (i := i) (p := ps[i]) (List.getElem?_eq_getElem hi) (j - (i + 1)) (q := ps[j]) (by rw [show i + 1 + (j - (i + 1)) = j by omega]; exact List.getElem?_eq_getElem hj)
theorem book_pw_ne {ps : List Phr} (h : bookB ps = true) : ps.Pairwise fun p q => p.2 ≠ q.2 := by
  rw [List.pairwise_iff_getElem]
  intro i j hi hj hij
  exact book_sigs h (List.getElem?_eq_getElem hi) (List.getElem?_eq_getElem hj) hij
theorem bookB_of {ps : List Phr} (h1 : 1 ≤ ps.length) (h2 : ps.length ≤ 40) (h3 : ∀ p ∈ ps, phrOk p = true) (h4 : ps.Pairwise fun p q => ltT p.1 q.1 = true) (h5 : ps.Pairwise fun p q => p.2 ≠ q.2) : bookB ps = true := by
  unfold bookB
  rw [show inB (ps.length : Int) 1 40 = true from inB_iff.2 (by omega), Bool.true_and]
  refine goodB_yes fun j hj => ?_
  have hp : ps[j]? = some ps[j] := List.getElem?_eq_getElem hj
  have hs : sigIx ps ps[j].2 = some j := by
    unfold sigIx
    refine findIdx_take (fun i hi x hx => ?_) hp (by simp)
    obtain ⟨hil, rfl⟩ := List.getElem?_eq_some_iff.1 hx
    have := (List.pairwise_iff_getElem.1 h5) i j hil hj hi
    simpa using this
  cases j with
  | zero => exact goodAt_0 hp (h3 _ (List.getElem_mem hj)) hs
  | succ k =>
    have hk : k < ps.length := by omega
    exact goodAt_s hp (List.getElem?_eq_getElem hk) (h3 _ (List.getElem_mem hj)) ((List.pairwise_iff_getElem.1 h4) k (k + 1) hk hj (by omega)) hs
theorem book_erase {ps : List Phr} (h : bookB ps = true) {i : Nat} (hi : i < ps.length) : bookB (ps.eraseIdx i) = decide (ps.length ≠ 1) := by
  have hl : (ps.eraseIdx i).length = ps.length - 1 := List.length_eraseIdx_of_lt hi
  have hb := bookB_len h
  by_cases h1 : ps.length = 1
  · rw [decide_eq_false (by omega)]
    unfold bookB
    rw [hl, h1]; rfl
  · rw [decide_eq_true h1]
    have hsub : (ps.eraseIdx i).Sublist ps := List.eraseIdx_sublist ps i
    exact bookB_of (by omega) (by omega) (fun p hp => bookB_phr h (hsub.subset hp)) ((book_pw_lt h).sublist hsub) ((book_pw_ne h).sublist hsub)
/-- The place of a text in a book. -/
def posA (ps : List Phr) (t : ByteArray) : Nat := (ps.takeWhile fun p => ltT p.1 t).length
theorem posA_le (ps : List Phr) (t : ByteArray) : posA ps t ≤ ps.length := (List.takeWhile_sublist _).length_le
theorem posA_take (ps : List Phr) (t : ByteArray) : ps.take (posA ps t) = ps.takeWhile fun p => ltT p.1 t := by
  unfold posA
  conv => lhs; arg 2; rw [← List.takeWhile_append_dropWhile (p := fun p : Phr => ltT p.1 t) (l := ps)]
  rw [List.take_left]
theorem posA_lt {ps : List Phr} {t : ByteArray} {k : Nat} {p : Phr} (hp : ps[k]? = some p) (hk : k < posA ps t) : ltT p.1 t = true := by
  have h1 : (ps.takeWhile fun p => ltT p.1 t)[k]? = some p := by rw [← posA_take, List.getElem?_take, if_pos hk]; exact hp
  exact (List.all_eq_true.1 (List.all_takeWhile (p := fun p : Phr => ltT p.1 t) (l := ps))) p (List.mem_of_getElem? h1)
theorem posA_end {ps : List Phr} {t : ByteArray} {p : Phr} (hp : ps[posA ps t]? = some p) : ltT p.1 t = false := by
  have h0 := List.takeWhile_append_dropWhile (p := fun p : Phr => ltT p.1 t) (l := ps)
  have h1 : (ps.dropWhile fun p => ltT p.1 t)[0]? = some p := by
    rw [← h0, List.getElem?_append_right (by unfold posA; rw [h0]; exact Nat.le_refl _)] at hp
    rw [← hp]; congr 1
    unfold posA; rw [h0]; omega
  cases hd : ps.dropWhile fun p => ltT p.1 t with
  | nil => rw [hd] at h1; simp at h1
  | cons a r =>
    rw [hd] at h1; simp at h1; subst h1
    have := List.head_dropWhile_not (p := fun p : Phr => ltT p.1 t) (l := ps) (by rw [hd]; simp)
    simpa [hd] using this
/-- The first place whose text is not less. -/
theorem posA_is {ps : List Phr} {t : ByteArray} {k : Nat} (hk : k ≤ ps.length) (h1 : ∀ j, j < k → ∀ p, ps[j]? = some p → ltT p.1 t = true) (h2 : ∀ p, ps[k]? = some p → ltT p.1 t = false) : posA ps t = k := by
  rcases Nat.lt_trichotomy (posA ps t) k with h | h | h
  · obtain ⟨p, hp⟩ : ∃ p, ps[posA ps t]? = some p := ⟨_, List.getElem?_eq_getElem (by omega)⟩
    have a := h1 _ h p hp
    rw [posA_end hp] at a; cases a
  · exact h
  · have := posA_le ps t
    obtain ⟨p, hp⟩ : ∃ p, ps[k]? = some p := ⟨_, List.getElem?_eq_getElem (by omega)⟩
    have a := posA_lt hp h
    rw [h2 p hp] at a; cases a
/-- A phrase more, in its place. -/
def addL (ps : List Phr) (x : Phr) : List Phr := ps.take (posA ps x.1) ++ x :: ps.drop (posA ps x.1)
theorem addL_len (ps : List Phr) (x : Phr) : (addL ps x).length = ps.length + 1 := by
  have := posA_le ps x.1
  unfold addL; simp; omega
theorem addL_mem (ps : List Phr) (x : Phr) : x ∈ addL ps x := by unfold addL; simp
def addO (ps : List Phr) (x : Phr) : Option (List Phr) := if bookB ps && bookB (addL ps x) then some (addL ps x) else Option.none
theorem addO_no {ps : List Phr} (x : Phr) (h : bookB ps = false) : addO ps x = Option.none := by unfold addO; rw [h]; rfl
theorem addO_yes {ps : List Phr} {x : Phr} (h : bookB ps = true) (h2 : bookB (addL ps x) = true) : addO ps x = some (addL ps x) := by unfold addO; rw [h, h2]; rfl
theorem addO_bad {ps : List Phr} {x : Phr} (h2 : bookB (addL ps x) = false) : addO ps x = Option.none := by unfold addO; rw [h2, Bool.and_false]; rfl
theorem addO_phr {ps : List Phr} {x : Phr} (h2 : phrOk x = false) : addO ps x = Option.none := by
  refine addO_bad ?_
  cases h : bookB (addL ps x) with
  | false => rfl
  | true => rw [bookB_phr h (addL_mem ps x)] at h2; cases h2
/-- A phrase fewer. -/
def dropO (ps : List Phr) (t : ByteArray) : Option (List Phr) := if bookB ps then match txtIx ps t with
  | some i => if ps.length = 1 then Option.none else some (ps.eraseIdx i)
  | Option.none => Option.none else Option.none
theorem dropO_no {ps : List Phr} (t : ByteArray) (h : bookB ps = false) : dropO ps t = Option.none := by unfold dropO; rw [h]; rfl
theorem dropO_none {ps : List Phr} {t : ByteArray} (h : txtIx ps t = Option.none) : dropO ps t = Option.none := by unfold dropO; rw [h]; split <;> rfl
theorem dropO_one {ps : List Phr} {t : ByteArray} (h1 : ps.length = 1) : dropO ps t = Option.none := by
  unfold dropO
  split
  · split <;> simp_all
  · rfl
theorem dropO_yes {ps : List Phr} {t : ByteArray} {i : Nat} (h : bookB ps = true) (hi : txtIx ps t = some i) (h1 : ps.length ≠ 1) : dropO ps t = some (ps.eraseIdx i) := by
  unfold dropO; rw [h, hi]; simp only [if_true, if_neg h1]
theorem txtIx_at {ps : List Phr} {t : ByteArray} {i : Nat} (h : txtIx ps t = some i) : ∃ p, ps[i]? = some p ∧ p.1 = t := by
  unfold txtIx at h
  rw [List.findIdx?_eq_some_iff_getElem] at h
  obtain ⟨hi, h1, _⟩ := h
  exact ⟨_, List.getElem?_eq_getElem hi, str_inj h1⟩
theorem txtIx_of {ps : List Phr} (h : bookB ps = true) {i : Nat} {p : Phr} (hp : ps[i]? = some p) : txtIx ps p.1 = some i := by
  unfold txtIx
  refine findIdx_take (fun j hj q hq => ?_) hp (by simp)
  have := book_txt h hq hp hj
  cases hc : (q.1.toList == p.1.toList) with
  | false => rfl
  | true => exact absurd (str_inj hc) this
/-- What was added is dropped again. -/
theorem add_drop {ps : List Phr} {x : Phr} (h : bookB ps = true) (h2 : bookB (addL ps x) = true) : txtIx (addL ps x) x.1 = some (posA ps x.1) ∧ (addL ps x)[posA ps x.1]? = some x ∧ dropO (addL ps x) x.1 = some ps := by
  have hle := posA_le ps x.1
  have hl : (ps.take (posA ps x.1)).length = posA ps x.1 := by rw [List.length_take]; omega
  have h3 : (addL ps x)[posA ps x.1]? = some x := by
    unfold addL
    rw [List.getElem?_append_right (by omega), hl, Nat.sub_self]; rfl
  have h4 := txtIx_of h2 h3
  refine ⟨h4, h3, ?_⟩
  have hb := bookB_len h
  rw [dropO_yes h2 h4 (by rw [addL_len]; omega)]
  congr 1
  unfold addL
  rw [List.eraseIdx_append_of_length_le (by omega), hl, Nat.sub_self, List.eraseIdx_cons_zero, List.take_append_drop]
end Go.Proofs.YtjnkdjokbamibaaGreatDoor
