/- Contracts: is a book free of prefixes, its first prefix, its texts of one letter, its texts with a beginning; of the program and of the reference. -/
import Derived.Test.YtabiobjcfopakaaD9
namespace Go.Proofs.Ytabiobjcfopakaa
open Go.RowKit
def freeV (b : Bool) (o : Option (Nat × Nat)) : Value := .tuple #[.bool (b && o.isNone), .bool b]
def prefV : Bool → Option (Nat × Nat) → Value
  | true, o => preI o
  | false, _ => .tuple #[.int .i64 0, .int .i64 0, .bool false]
theorem prefV_form (b : Bool) (o : Option (Nat × Nat)) : ∃ p q r, prefV b o = .tuple #[.int .i64 p, .int .i64 q, .bool r] := by
  rcases b with _ | _
  · exact ⟨_, _, _, rfl⟩
  · rcases o with _ | ⟨i, k⟩ <;> exact ⟨_, _, _, rfl⟩
set_option maxHeartbeats 800000 in
theorem sIsPrefixFree_any (ps : List Phr) (v : Value) (hi : Nat) (w : World) (h : RdB w hi v ps) (hh : hi ≤ w.heap.size) :
    Calls Try.prog 47 #[v] w fun e w' => e = .returned (freeV (bookB ps) (firstPre ps)) ∧ Below w.heap.size w w' := by
  obtain ⟨a, rfl, ha⟩ := h
  obtain ⟨A, c, rfl, hc, hm⟩ := ha.form
  have hba : Below w.heap.size w (w.alloc (.cells #[.slice A ps.length c] 48)) := (Below.refl _ _).alloc (Nat.le_refl _) _
  have HB := Lib.hid hba
  have HA := Lib.hid (ha.below hba hh)
  have HG : Hid (RdB (w.alloc (.cells #[.slice A ps.length c] 48)) hi (.agg #[.slice A ps.length c]) ps) := ⟨_, rfl, HA.out⟩
  have hcb0 : (w.alloc (.cells #[.slice A ps.length c] 48)).cell? ⟨w.heap.size, 0, Option.none⟩ = some (.slice A ps.length c) := (Blk.new w 48 #[.slice A ps.length c]).cell 0
  have HCB := Lib.hid hcb0
  have hsz1 : hi ≤ (w.alloc (.cells #[.slice A ps.length c] 48)).heap.size := by simp; omega
  clear ha hba hcb0
  have cB := bkGood_any ps (.agg #[.slice A ps.length c]) hi (w.alloc (.cells #[.slice A ps.length c] 48)) HG.out hsz1
  cases hbk : bookB ps
  · rw [hbk] at cB
    have CB := Lib.hid cB
    clear cB
    go_enter Try.func47, Try.ntmps47
    go_wp2_with (go_at_call 134; refine CB.out.mono ?_; rintro e w1 ⟨rfl, hb1⟩)
    go_ret2
    exact ⟨ret_val rfl, HB.out.trans (hb1.mono (by simp))⟩
  · rw [hbk] at cB
    have CB := Lib.hid cB
    have HBK := Lib.hid hbk
    clear cB
    go_enter Try.func47, Try.ntmps47
    go_wp2_with fail
    refine CB.out.mono ?_
    rintro e w1 ⟨rfl, hb1⟩
    have hcb := (hb1.cell (p := ⟨w.heap.size, 0, Option.none⟩) (by simp)).trans HCB.out
    have hs1 : w.heap.size + 1 ≤ w1.heap.size := by have := hb1.size; simpa using this
    have HA1 := Lib.hid (HA.out.below hb1 hsz1)
    have HG1 : Hid (RdB w1 hi (.agg #[.slice A ps.length c]) ps) := ⟨_, rfl, HA1.out⟩
    have HB1 := Lib.hid (HB.out.trans (hb1.mono (by simp)))
    clear hb1
    have cF := bkPrefix_any ps (.agg #[.slice A ps.length c]) hi w1 HG1.out (by omega)
    rcases ho : firstPre ps with _ | ⟨i, k⟩
    · rw [ho] at cF
      have CF := Lib.hid cF
      clear cF
      unfold preS at CF
      go_wp2_with (go_at_call 150; refine CF.out.mono ?_; rintro e w2 ⟨rfl, hb2⟩)
      go_ret2
      exact ⟨ret_val (by rw [ho]; rfl), HB1.out.trans (hb2.mono (by omega))⟩
    · rw [ho] at cF
      have hl := firstPre_lt ho
      have h1 := hl.1
      have CF := Lib.hid cF
      have HO := Lib.hid ho
      clear cF ho hl
      unfold preS at CF
      go_wp2_with (go_at_call 150; refine CF.out.mono ?_; rintro e w2 ⟨rfl, hb2⟩)
      go_ret2
      exact ⟨ret_val (by rw [HO.out]; rfl), HB1.out.trans (hb2.mono (by omega))⟩
set_option maxHeartbeats 800000 in
theorem IsPrefixFree_any (ps : List Phr) (v : Value) (hi : Nat) (w : World) (h : RdB w hi v ps) (hh : hi ≤ w.heap.size) :
    Calls Try.prog 46 #[v] w fun e w' => e = .returned (freeV (bookB ps) (firstPre ps)) ∧ Below w.heap.size w w' := by
  obtain ⟨a, rfl, ha⟩ := h
  obtain ⟨A, c, rfl, hc, hm⟩ := ha.form
  have hba : Below w.heap.size w (w.alloc (.cells #[.slice A ps.length c] 48)) := (Below.refl _ _).alloc (Nat.le_refl _) _
  have HB := Lib.hid hba
  have HA := Lib.hid (ha.below hba hh)
  have HG : Hid (RdB (w.alloc (.cells #[.slice A ps.length c] 48)) hi (.agg #[.slice A ps.length c]) ps) := ⟨_, rfl, HA.out⟩
  have hcb0 : (w.alloc (.cells #[.slice A ps.length c] 48)).cell? ⟨w.heap.size, 0, Option.none⟩ = some (.slice A ps.length c) := (Blk.new w 48 #[.slice A ps.length c]).cell 0
  have HCB := Lib.hid hcb0
  have hsz1 : hi ≤ (w.alloc (.cells #[.slice A ps.length c] 48)).heap.size := by simp; omega
  clear ha hba hcb0
  have cB := IsBook_any ps (.agg #[.slice A ps.length c]) hi (w.alloc (.cells #[.slice A ps.length c] 48)) HG.out hsz1
  cases hbk : bookB ps
  · rw [hbk] at cB
    have CB := Lib.hid cB
    clear cB
    go_enter Try.func46, Try.ntmps46
    go_wp2_with (go_at_call 137; refine CB.out.mono ?_; rintro e w1 ⟨rfl, hb1⟩)
    go_ret2
    exact ⟨ret_val rfl, HB.out.trans (hb1.mono (by simp))⟩
  · rw [hbk] at cB
    have CB := Lib.hid cB
    have HBK := Lib.hid hbk
    clear cB
    go_enter Try.func46, Try.ntmps46
    go_wp2_with fail
    refine CB.out.mono ?_
    rintro e w1 ⟨rfl, hb1⟩
    have hcb := (hb1.cell (p := ⟨w.heap.size, 0, Option.none⟩) (by simp)).trans HCB.out
    have hs1 : w.heap.size + 1 ≤ w1.heap.size := by have := hb1.size; simpa using this
    have HA1 := Lib.hid (HA.out.below hb1 hsz1)
    have HG1 : Hid (RdB w1 hi (.agg #[.slice A ps.length c]) ps) := ⟨_, rfl, HA1.out⟩
    have HB1 := Lib.hid (HB.out.trans (hb1.mono (by simp)))
    clear hb1
    have cF := firstPrefix_any ps (.agg #[.slice A ps.length c]) hi w1 HG1.out (by omega)
    rcases ho : firstPre ps with _ | ⟨i, k⟩
    · rw [ho] at cF
      have CF := Lib.hid cF
      clear cF
      unfold preI at CF
      go_wp2_with (go_at_call 149; refine CF.out.mono ?_; rintro e w2 ⟨rfl, hb2⟩)
      go_ret2
      exact ⟨ret_val (by rw [ho]; rfl), HB1.out.trans (hb2.mono (by omega))⟩
    · rw [ho] at cF
      have hl := firstPre_lt ho
      have h1 := hl.1
      have CF := Lib.hid cF
      have HO := Lib.hid ho
      clear cF ho hl
      unfold preI at CF
      go_wp2_with (go_at_call 149; refine CF.out.mono ?_; rintro e w2 ⟨rfl, hb2⟩)
      go_ret2
      exact ⟨ret_val (by rw [HO.out]; rfl), HB1.out.trans (hb2.mono (by omega))⟩
set_option maxHeartbeats 800000 in
theorem sFirstPrefix_any (ps : List Phr) (v : Value) (hi : Nat) (w : World) (h : RdB w hi v ps) (hh : hi ≤ w.heap.size) :
    Calls Try.prog 49 #[v] w fun e w' => e = .returned (prefV (bookB ps) (firstPre ps)) ∧ Below w.heap.size w w' := by
  obtain ⟨a, rfl, ha⟩ := h
  obtain ⟨A, c, rfl, hc, hm⟩ := ha.form
  have hba : Below w.heap.size w (w.alloc (.cells #[.slice A ps.length c] 48)) := (Below.refl _ _).alloc (Nat.le_refl _) _
  have HB := Lib.hid hba
  have HA := Lib.hid (ha.below hba hh)
  have HG : Hid (RdB (w.alloc (.cells #[.slice A ps.length c] 48)) hi (.agg #[.slice A ps.length c]) ps) := ⟨_, rfl, HA.out⟩
  have hcb0 : (w.alloc (.cells #[.slice A ps.length c] 48)).cell? ⟨w.heap.size, 0, Option.none⟩ = some (.slice A ps.length c) := (Blk.new w 48 #[.slice A ps.length c]).cell 0
  have HCB := Lib.hid hcb0
  have hsz1 : hi ≤ (w.alloc (.cells #[.slice A ps.length c] 48)).heap.size := by simp; omega
  clear ha hba hcb0
  have cB := bkGood_any ps (.agg #[.slice A ps.length c]) hi (w.alloc (.cells #[.slice A ps.length c] 48)) HG.out hsz1
  cases hbk : bookB ps
  · rw [hbk] at cB
    have CB := Lib.hid cB
    clear cB
    go_enter Try.func49, Try.ntmps49
    go_wp2_with (go_at_call 134; refine CB.out.mono ?_; rintro e w1 ⟨rfl, hb1⟩)
    go_ret3
    exact ⟨ret_val rfl, HB.out.trans (hb1.mono (by simp))⟩
  · rw [hbk] at cB
    have CB := Lib.hid cB
    have HBK := Lib.hid hbk
    clear cB
    go_enter Try.func49, Try.ntmps49
    go_wp2_with fail
    refine CB.out.mono ?_
    rintro e w1 ⟨rfl, hb1⟩
    have hcb := (hb1.cell (p := ⟨w.heap.size, 0, Option.none⟩) (by simp)).trans HCB.out
    have hs1 : w.heap.size + 1 ≤ w1.heap.size := by have := hb1.size; simpa using this
    have HA1 := Lib.hid (HA.out.below hb1 hsz1)
    have HG1 : Hid (RdB w1 hi (.agg #[.slice A ps.length c]) ps) := ⟨_, rfl, HA1.out⟩
    have HB1 := Lib.hid (HB.out.trans (hb1.mono (by simp)))
    clear hb1
    have cF := bkPrefix_any ps (.agg #[.slice A ps.length c]) hi w1 HG1.out (by omega)
    rcases ho : firstPre ps with _ | ⟨i, k⟩
    · rw [ho] at cF
      have CF := Lib.hid cF
      clear cF
      unfold preS at CF
      go_wp2_with (go_at_call 150; refine CF.out.mono ?_; rintro e w2 ⟨rfl, hb2⟩)
      go_ret3
      exact ⟨ret_val (by rw [ho]; rfl), HB1.out.trans (hb2.mono (by omega))⟩
    · rw [ho] at cF
      have hl := firstPre_lt ho
      have h1 := hl.1
      have CF := Lib.hid cF
      have HO := Lib.hid ho
      clear cF ho hl
      unfold preS at CF
      go_wp2_with (go_at_call 150; refine CF.out.mono ?_; rintro e w2 ⟨rfl, hb2⟩)
      go_ret3
      exact ⟨ret_val (by rw [HO.out]; rfl), HB1.out.trans (hb2.mono (by omega))⟩
set_option maxHeartbeats 800000 in
theorem FirstPrefix_any (ps : List Phr) (v : Value) (hi : Nat) (w : World) (h : RdB w hi v ps) (hh : hi ≤ w.heap.size) :
    Calls Try.prog 48 #[v] w fun e w' => e = .returned (prefV (bookB ps) (firstPre ps)) ∧ Below w.heap.size w w' := by
  obtain ⟨a, rfl, ha⟩ := h
  obtain ⟨A, c, rfl, hc, hm⟩ := ha.form
  have hba : Below w.heap.size w (w.alloc (.cells #[.slice A ps.length c] 48)) := (Below.refl _ _).alloc (Nat.le_refl _) _
  have HB := Lib.hid hba
  have HA := Lib.hid (ha.below hba hh)
  have HG : Hid (RdB (w.alloc (.cells #[.slice A ps.length c] 48)) hi (.agg #[.slice A ps.length c]) ps) := ⟨_, rfl, HA.out⟩
  have hcb0 : (w.alloc (.cells #[.slice A ps.length c] 48)).cell? ⟨w.heap.size, 0, Option.none⟩ = some (.slice A ps.length c) := (Blk.new w 48 #[.slice A ps.length c]).cell 0
  have HCB := Lib.hid hcb0
  have hsz1 : hi ≤ (w.alloc (.cells #[.slice A ps.length c] 48)).heap.size := by simp; omega
  clear ha hba hcb0
  have cB := IsBook_any ps (.agg #[.slice A ps.length c]) hi (w.alloc (.cells #[.slice A ps.length c] 48)) HG.out hsz1
  cases hbk : bookB ps
  · rw [hbk] at cB
    have CB := Lib.hid cB
    clear cB
    go_enter Try.func48, Try.ntmps48
    go_wp2_with (go_at_call 137; refine CB.out.mono ?_; rintro e w1 ⟨rfl, hb1⟩)
    go_ret3
    exact ⟨ret_val rfl, HB.out.trans (hb1.mono (by simp))⟩
  · rw [hbk] at cB
    have CB := Lib.hid cB
    have HBK := Lib.hid hbk
    clear cB
    go_enter Try.func48, Try.ntmps48
    go_wp2_with fail
    refine CB.out.mono ?_
    rintro e w1 ⟨rfl, hb1⟩
    have hcb := (hb1.cell (p := ⟨w.heap.size, 0, Option.none⟩) (by simp)).trans HCB.out
    have hs1 : w.heap.size + 1 ≤ w1.heap.size := by have := hb1.size; simpa using this
    have HA1 := Lib.hid (HA.out.below hb1 hsz1)
    have HG1 : Hid (RdB w1 hi (.agg #[.slice A ps.length c]) ps) := ⟨_, rfl, HA1.out⟩
    have HB1 := Lib.hid (HB.out.trans (hb1.mono (by simp)))
    clear hb1
    have cF := firstPrefix_any ps (.agg #[.slice A ps.length c]) hi w1 HG1.out (by omega)
    rcases ho : firstPre ps with _ | ⟨i, k⟩
    · rw [ho] at cF
      have CF := Lib.hid cF
      clear cF
      unfold preI at CF
      go_wp2_with (go_at_call 149; refine CF.out.mono ?_; rintro e w2 ⟨rfl, hb2⟩)
      go_ret3
      exact ⟨ret_val (by rw [ho]; rfl), HB1.out.trans (hb2.mono (by omega))⟩
    · rw [ho] at cF
      have hl := firstPre_lt ho
      have h1 := hl.1
      have CF := Lib.hid cF
      have HO := Lib.hid ho
      clear cF ho hl
      unfold preI at CF
      go_wp2_with (go_at_call 149; refine CF.out.mono ?_; rintro e w2 ⟨rfl, hb2⟩)
      go_ret3
      exact ⟨ret_val (by rw [HO.out]; rfl), HB1.out.trans (hb2.mono (by omega))⟩
/-- The texts of one letter, put together. -/
def loneL (ps : List Phr) : List UInt8 := ps.flatMap fun p => if (p.1.size : Int) == 1 then p.1.data.toList else []
theorem loneL_snoc {ps : List Phr} {k : Nat} {p : Phr} (h : ps[k]? = some p) : loneL (ps.take (k + 1)) = loneL (ps.take k) ++ if (p.1.size : Int) == 1 then p.1.data.toList else [] := by
  unfold loneL; rw [take_snocN h, List.flatMap_append]; simp
theorem loneL_len (ps : List Phr) : (loneL ps).length ≤ ps.length := by
  unfold loneL
  induction ps with
  | nil => simp
  | cons p r ih =>
    rw [List.flatMap_cons, List.length_append, List.length_cons]
    have : (if (p.1.size : Int) == 1 then p.1.data.toList else []).length ≤ 1 := by
      split
      · rename_i h; rw [beq_iff_eq] at h; simp; omega
      · simp
    omega
def loneV (ps : List Phr) : Value := if bookB ps then .tuple #[.string ⟨(loneL ps).toArray⟩, .bool true] else .tuple #[.string ⟨#[]⟩, .bool false]
theorem loneV_form (ps : List Phr) : ∃ p q, loneV ps = .tuple #[.string p, .bool q] := by unfold loneV; split <;> exact ⟨_, _, rfl⟩
theorem arr_app (l : List UInt8) (t : ByteArray) : (⟨l.toArray⟩ : ByteArray) ++ t = ⟨(l ++ t.data.toList).toArray⟩ := by
  rw [ByteArray.ext_iff]; simp
set_option maxHeartbeats 800000 in
theorem sLone_any (ps : List Phr) (v : Value) (hi : Nat) (w : World) (h : RdB w hi v ps) (hh : hi ≤ w.heap.size) :
    Calls Try.prog 107 #[v] w fun e w' => e = .returned (loneV ps) ∧ Below w.heap.size w w' := by
  have HA0 : Hid (∃ a, v = .agg #[a] ∧ RdPS w hi a ps) := h
  clear HA0
  obtain ⟨a, rfl, ha⟩ := h
  obtain ⟨A, c, rfl, hc, hm⟩ := ha.form
  have HA0 := Lib.hid ha
  have hba : Below w.heap.size w (w.alloc (.cells #[.slice A ps.length c] 48)) := (Below.refl _ _).alloc (Nat.le_refl _) _
  have HB := Lib.hid hba
  have HA := Lib.hid (ha.below hba hh)
  have HG : Hid (RdB (w.alloc (.cells #[.slice A ps.length c] 48)) hi (.agg #[.slice A ps.length c]) ps) := ⟨_, rfl, HA.out⟩
  have hcb0 : (w.alloc (.cells #[.slice A ps.length c] 48)).cell? ⟨w.heap.size, 0, Option.none⟩ = some (.slice A ps.length c) := (Blk.new w 48 #[.slice A ps.length c]).cell 0
  have HCB := Lib.hid hcb0
  have hsz1 : hi ≤ (w.alloc (.cells #[.slice A ps.length c] 48)).heap.size := by simp; omega
  clear ha hba hcb0
  have cB := bkGood_any ps (.agg #[.slice A ps.length c]) hi (w.alloc (.cells #[.slice A ps.length c] 48)) HG.out hsz1
  cases hbk : bookB ps
  · rw [hbk] at cB
    have CB := Lib.hid cB
    clear cB
    go_enter Try.func107, Try.ntmps107
    go_wp2_with (go_at_call 134; refine CB.out.mono ?_; rintro e w1 ⟨rfl, hb1⟩)
    go_ret2
    exact ⟨ret_val (by unfold loneV; rw [hbk]; rfl), HB.out.trans (hb1.mono (by simp))⟩
  · rw [hbk] at cB
    have CB := Lib.hid cB
    have HBK := Lib.hid hbk
    clear cB
    have hlen := bookB_len hbk
    have hlen1 := hlen.2
    clear hlen hbk
    go_enter Try.func107, Try.ntmps107
    go_wp2_with fail
    refine CB.out.mono ?_
    rintro e w1 ⟨rfl, hb1⟩
    have hcb := (hb1.cell (p := ⟨w.heap.size, 0, Option.none⟩) (by simp)).trans HCB.out
    have hs1 : w.heap.size + 1 ≤ w1.heap.size := by have := hb1.size; simpa using this
    have HA1 := Lib.hid (HA.out.below hb1 hsz1)
    have HG1 : Hid (RdB w1 hi (.agg #[.slice A ps.length c]) ps) := ⟨_, rfl, HA1.out⟩
    have HB1 := Lib.hid (HB.out.trans (hb1.mono (by simp)))
    clear hb1
    go_wp2_with fail
    go_loopw [4, 13] (fun s i wr => ∃ k : Nat, k ≤ ps.length ∧ i = .int .i64 k ∧ s = .string ⟨(loneL (ps.take k)).toArray⟩ ∧ Below w.heap.size w wr) (fun _ i _ => ps.length - (intOf i).toNat)
    case atStart => exact ⟨0, Nat.zero_le _, rfl, rfl, HB1.out⟩
    case round =>
      obtain ⟨k, hk, rfl, rfl, hbr⟩ := hrel
      have hs := hbr.size
      by_cases hlt : k < ps.length
      · obtain ⟨b1, o1, c1, a, t, xs, hv, hb1, hx, hcell1, hcell2, hra, hta⟩ := (HA0.out.below hbr (by omega)).at_ hlt
        cases hv
        obtain ⟨A2, c2, rfl, hc2, hm2⟩ := Rd.form hra
        have HX := Lib.hid hx
        clear hra hx
        have hll := loneL_len (ps.take k)
        have hl2 : (loneL (ps.take k)).length ≤ 40 := by rw [List.length_take] at hll; omega
        clear hll
        cases ht : ((t.size : Int) == 1)
        · have HT := Lib.hid ht
          go_wp2_with fail
          go_roundw
          case rel => exact ⟨k + 1, by omega, by go_num, by rw [loneL_snoc HX.out, HT.out]; simp, hbr.alloc hs _⟩
          case measure => simp [intOf]; omega
        · have HT := Lib.hid ht
          have ht1 : t.size = 1 := by rw [beq_iff_eq] at ht; omega
          have HT1 := Lib.hid ht1
          have ht2 : t.size ≤ 1 := by omega
          clear ht1
          go_wp2_with fail
          go_roundw
          case rel => exact ⟨k + 1, by omega, by go_num, by rw [loneL_snoc HX.out, HT.out, arr_app]; rfl, hbr.alloc hs _⟩
          case measure => simp [intOf]; omega
      · obtain rfl : k = ps.length := by omega
        go_wp2_with fail
        go_ret2
        exact ⟨ret_val (by unfold loneV; rw [HBK.out, List.take_of_length_le (Nat.le_refl _)]; rfl), hbr⟩
set_option maxHeartbeats 800000 in
theorem Lone_any (ps : List Phr) (v : Value) (hi : Nat) (w : World) (h : RdB w hi v ps) (hh : hi ≤ w.heap.size) :
    Calls Try.prog 106 #[v] w fun e w' => e = .returned (loneV ps) ∧ Below w.heap.size w w' := by
  have HA0 : Hid (∃ a, v = .agg #[a] ∧ RdPS w hi a ps) := h
  clear HA0
  obtain ⟨a, rfl, ha⟩ := h
  obtain ⟨A, c, rfl, hc, hm⟩ := ha.form
  have HA0 := Lib.hid ha
  have hba : Below w.heap.size w (w.alloc (.cells #[.slice A ps.length c] 48)) := (Below.refl _ _).alloc (Nat.le_refl _) _
  have HB := Lib.hid hba
  have HA := Lib.hid (ha.below hba hh)
  have HG : Hid (RdB (w.alloc (.cells #[.slice A ps.length c] 48)) hi (.agg #[.slice A ps.length c]) ps) := ⟨_, rfl, HA.out⟩
  have hcb0 : (w.alloc (.cells #[.slice A ps.length c] 48)).cell? ⟨w.heap.size, 0, Option.none⟩ = some (.slice A ps.length c) := (Blk.new w 48 #[.slice A ps.length c]).cell 0
  have HCB := Lib.hid hcb0
  have hsz1 : hi ≤ (w.alloc (.cells #[.slice A ps.length c] 48)).heap.size := by simp; omega
  clear ha hba hcb0
  have cB := IsBook_any ps (.agg #[.slice A ps.length c]) hi (w.alloc (.cells #[.slice A ps.length c] 48)) HG.out hsz1
  cases hbk : bookB ps
  · rw [hbk] at cB
    have CB := Lib.hid cB
    clear cB
    go_enter Try.func106, Try.ntmps106
    go_wp2_with (go_at_call 137; refine CB.out.mono ?_; rintro e w1 ⟨rfl, hb1⟩)
    go_ret2
    exact ⟨ret_val (by unfold loneV; rw [hbk]; rfl), HB.out.trans (hb1.mono (by simp))⟩
  · rw [hbk] at cB
    have CB := Lib.hid cB
    have HBK := Lib.hid hbk
    clear cB
    have hlen := bookB_len hbk
    have hlen1 := hlen.2
    clear hlen hbk
    go_enter Try.func106, Try.ntmps106
    go_wp2_with fail
    refine CB.out.mono ?_
    rintro e w1 ⟨rfl, hb1⟩
    have hcb := (hb1.cell (p := ⟨w.heap.size, 0, Option.none⟩) (by simp)).trans HCB.out
    have hs1 : w.heap.size + 1 ≤ w1.heap.size := by have := hb1.size; simpa using this
    have HA1 := Lib.hid (HA.out.below hb1 hsz1)
    have HG1 : Hid (RdB w1 hi (.agg #[.slice A ps.length c]) ps) := ⟨_, rfl, HA1.out⟩
    have HB1 := Lib.hid (HB.out.trans (hb1.mono (by simp)))
    clear hb1
    go_wp2_with fail
    go_loopw [4, 13] (fun s i wr => ∃ k : Nat, k ≤ ps.length ∧ i = .int .i64 k ∧ s = .string ⟨(loneL (ps.take k)).toArray⟩ ∧ Below w.heap.size w wr) (fun _ i _ => ps.length - (intOf i).toNat)
    case atStart => exact ⟨0, Nat.zero_le _, rfl, rfl, HB1.out⟩
    case round =>
      obtain ⟨k, hk, rfl, rfl, hbr⟩ := hrel
      have hs := hbr.size
      by_cases hlt : k < ps.length
      · obtain ⟨b1, o1, c1, a, t, xs, hv, hb1, hx, hcell1, hcell2, hra, hta⟩ := (HA0.out.below hbr (by omega)).at_ hlt
        cases hv
        obtain ⟨A2, c2, rfl, hc2, hm2⟩ := Rd.form hra
        have HX := Lib.hid hx
        clear hra hx
        have hll := loneL_len (ps.take k)
        have hl2 : (loneL (ps.take k)).length ≤ 40 := by rw [List.length_take] at hll; omega
        clear hll
        cases ht : ((t.size : Int) == 1)
        · have HT := Lib.hid ht
          go_wp2_with fail
          go_roundw
          case rel => exact ⟨k + 1, by omega, by go_num, by rw [loneL_snoc HX.out, HT.out]; simp, hbr.alloc hs _⟩
          case measure => simp [intOf]; omega
        · have HT := Lib.hid ht
          have ht1 : t.size = 1 := by rw [beq_iff_eq] at ht; omega
          have HT1 := Lib.hid ht1
          have ht2 : t.size ≤ 1 := by omega
          clear ht1
          go_wp2_with fail
          go_roundw
          case rel => exact ⟨k + 1, by omega, by go_num, by rw [loneL_snoc HX.out, HT.out, arr_app]; rfl, hbr.alloc hs _⟩
          case measure => simp [intOf]; omega
      · obtain rfl : k = ps.length := by omega
        go_wp2_with fail
        go_ret2
        exact ⟨ret_val (by unfold loneV; rw [HBK.out, List.take_of_length_le (Nat.le_refl _)]; rfl), hbr⟩
end Go.Proofs.Ytabiobjcfopakaa
