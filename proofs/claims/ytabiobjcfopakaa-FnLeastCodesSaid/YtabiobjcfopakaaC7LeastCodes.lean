/- Texts of one claim, joined: D10, E6, E9, H2, R12, R13. -/
import Derived.StillTailTactics
import Derived.Deep.RegionLaw
import Derived.Test.YtabiobjcfopakaaC6LeastCodes
/- Contracts: is a book free of prefixes, its first prefix, its texts of one letter, its texts with a beginning; of the program and of the reference. -/
namespace Go.Proofs.Ytabiobjcfopakaa
open Go.RowKit
def freeV (b : Bool) (o : Option (Nat × Nat)) : Value := .tuple #[.bool (b && o.isNone), .bool b]
def prefV : Bool → Option (Nat × Nat) → Value
  | true, o => preI o
  | false, _ => .tuple #[.int .i64 0, .int .i64 0, .bool false]
theorem prefV_form (b : Bool) (o : Option (Nat × Nat)) : ∃ p q r, prefV b o = .tuple #[.int .i64 p, .int .i64 q, .bool r] := by
  rcases b with _ | _
  · exact ⟨_, _, _, rfl⟩
  · rcases o with _ | ⟨i, k⟩ <;> exact ⟨_, _, _, rfl⟩
set_option maxHeartbeats 800000 in
theorem sIsPrefixFree_any (ps : List Phr) (v : Value) (hi : Nat) (w : World) (h : RdB w hi v ps) (hh : hi ≤ w.heap.size) :
    Calls Try.prog 47 #[v] w fun e w' => e = .returned (freeV (bookB ps) (firstPre ps)) ∧ Below w.heap.size w w' := by
  obtain ⟨a, rfl, ha⟩ := h
  obtain ⟨A, c, rfl, hc, hm⟩ := ha.form
  have hba : Below w.heap.size w (w.alloc (.cells #[.slice A ps.length c] 48)) := (Below.refl _ _).alloc (Nat.le_refl _) _
  have HB := Lib.hid hba
  have HA := Lib.hid (ha.below hba hh)
  have HG : Hid (RdB (w.alloc (.cells #[.slice A ps.length c] 48)) hi (.agg #[.slice A ps.length c]) ps) := ⟨_, rfl, HA.out⟩
  have hcb0 : (w.alloc (.cells #[.slice A ps.length c] 48)).cell? ⟨w.heap.size, 0, Option.none⟩ = some (.slice A ps.length c) := (Blk.new w 48 #[.slice A ps.length c]).cell 0
  have HCB := Lib.hid hcb0
  have hsz1 : hi ≤ (w.alloc (.cells #[.slice A ps.length c] 48)).heap.size := by simp; omega
  clear ha hba hcb0
  have cB := bkGood_any ps (.agg #[.slice A ps.length c]) hi (w.alloc (.cells #[.slice A ps.length c] 48)) HG.out hsz1
  cases hbk : bookB ps
  · rw [hbk] at cB
    have CB := Lib.hid cB
    clear cB
    go_enter Try.func47, Try.ntmps47
    go_wp2_with (go_at_call 134; refine CB.out.mono ?_; rintro e w1 ⟨rfl, hb1⟩)
    go_ret2
    exact ⟨ret_val rfl, HB.out.trans (hb1.mono (by simp))⟩
  · rw [hbk] at cB
    have CB := Lib.hid cB
    have HBK := Lib.hid hbk
    clear cB
    go_enter Try.func47, Try.ntmps47
    go_wp2_with fail
    refine CB.out.mono ?_
    rintro e w1 ⟨rfl, hb1⟩
    have hcb := (hb1.cell (p := ⟨w.heap.size, 0, Option.none⟩) (by simp)).trans HCB.out
    have hs1 : w.heap.size + 1 ≤ w1.heap.size := by have := hb1.size; simpa using this
    have HA1 := Lib.hid (HA.out.below hb1 hsz1)
    have HG1 : Hid (RdB w1 hi (.agg #[.slice A ps.length c]) ps) := ⟨_, rfl, HA1.out⟩
    have HB1 := Lib.hid (HB.out.trans (hb1.mono (by simp)))
    clear hb1
    have cF := bkPrefix_any ps (.agg #[.slice A ps.length c]) hi w1 HG1.out (by omega)
    rcases ho : firstPre ps with _ | ⟨i, k⟩
    · rw [ho] at cF
      have CF := Lib.hid cF
      clear cF
      unfold preS at CF
      go_wp2_with (go_at_call 150; refine CF.out.mono ?_; rintro e w2 ⟨rfl, hb2⟩)
      go_ret2
      exact ⟨ret_val (by rw [ho]; rfl), HB1.out.trans (hb2.mono (by omega))⟩
    · rw [ho] at cF
      have hl := firstPre_lt ho
      have h1 := hl.1
      have CF := Lib.hid cF
      have HO := Lib.hid ho
      clear cF ho hl
      unfold preS at CF
      go_wp2_with (go_at_call 150; refine CF.out.mono ?_; rintro e w2 ⟨rfl, hb2⟩)
      go_ret2
      exact ⟨ret_val (by rw [HO.out]; rfl), HB1.out.trans (hb2.mono (by omega))⟩
set_option maxHeartbeats 800000 in
theorem IsPrefixFree_any (ps : List Phr) (v : Value) (hi : Nat) (w : World) (h : RdB w hi v ps) (hh : hi ≤ w.heap.size) :
    Calls Try.prog 46 #[v] w fun e w' => e = .returned (freeV (bookB ps) (firstPre ps)) ∧ Below w.heap.size w w' := by
  obtain ⟨a, rfl, ha⟩ := h
  obtain ⟨A, c, rfl, hc, hm⟩ := ha.form
  have hba : Below w.heap.size w (w.alloc (.cells #[.slice A ps.length c] 48)) := (Below.refl _ _).alloc (Nat.le_refl _) _
  have HB := Lib.hid hba
  have HA := Lib.hid (ha.below hba hh)
  have HG : Hid (RdB (w.alloc (.cells #[.slice A ps.length c] 48)) hi (.agg #[.slice A ps.length c]) ps) := ⟨_, rfl, HA.out⟩
  have hcb0 : (w.alloc (.cells #[.slice A ps.length c] 48)).cell? ⟨w.heap.size, 0, Option.none⟩ = some (.slice A ps.length c) := (Blk.new w 48 #[.slice A ps.length c]).cell 0
  have HCB := Lib.hid hcb0
  have hsz1 : hi ≤ (w.alloc (.cells #[.slice A ps.length c] 48)).heap.size := by simp; omega
  clear ha hba hcb0
  have cB := IsBook_any ps (.agg #[.slice A ps.length c]) hi (w.alloc (.cells #[.slice A ps.length c] 48)) HG.out hsz1
  cases hbk : bookB ps
  · rw [hbk] at cB
    have CB := Lib.hid cB
    clear cB
    go_enter Try.func46, Try.ntmps46
    go_wp2_with (go_at_call 137; refine CB.out.mono ?_; rintro e w1 ⟨rfl, hb1⟩)
    go_ret2
    exact ⟨ret_val rfl, HB.out.trans (hb1.mono (by simp))⟩
  · rw [hbk] at cB
    have CB := Lib.hid cB
    have HBK := Lib.hid hbk
    clear cB
    go_enter Try.func46, Try.ntmps46
    go_wp2_with fail
    refine CB.out.mono ?_
    rintro e w1 ⟨rfl, hb1⟩
    have hcb := (hb1.cell (p := ⟨w.heap.size, 0, Option.none⟩) (by simp)).trans HCB.out
    have hs1 : w.heap.size + 1 ≤ w1.heap.size := by have := hb1.size; simpa using this
    have HA1 := Lib.hid (HA.out.below hb1 hsz1)
    have HG1 : Hid (RdB w1 hi (.agg #[.slice A ps.length c]) ps) := ⟨_, rfl, HA1.out⟩
    have HB1 := Lib.hid (HB.out.trans (hb1.mono (by simp)))
    clear hb1
    have cF := firstPrefix_any ps (.agg #[.slice A ps.length c]) hi w1 HG1.out (by omega)
    rcases ho : firstPre ps with _ | ⟨i, k⟩
    · rw [ho] at cF
      have CF := Lib.hid cF
      clear cF
      unfold preI at CF
      go_wp2_with (go_at_call 149; refine CF.out.mono ?_; rintro e w2 ⟨rfl, hb2⟩)
      go_ret2
      exact ⟨ret_val (by rw [ho]; rfl), HB1.out.trans (hb2.mono (by omega))⟩
    · rw [ho] at cF
      have hl := firstPre_lt ho
      have h1 := hl.1
      have CF := Lib.hid cF
      have HO := Lib.hid ho
      clear cF ho hl
      unfold preI at CF
      go_wp2_with (go_at_call 149; refine CF.out.mono ?_; rintro e w2 ⟨rfl, hb2⟩)
      go_ret2
      exact ⟨ret_val (by rw [HO.out]; rfl), HB1.out.trans (hb2.mono (by omega))⟩
set_option maxHeartbeats 800000 in
theorem sFirstPrefix_any (ps : List Phr) (v : Value) (hi : Nat) (w : World) (h : RdB w hi v ps) (hh : hi ≤ w.heap.size) :
    Calls Try.prog 49 #[v] w fun e w' => e = .returned (prefV (bookB ps) (firstPre ps)) ∧ Below w.heap.size w w' := by
  obtain ⟨a, rfl, ha⟩ := h
  obtain ⟨A, c, rfl, hc, hm⟩ := ha.form
  have hba : Below w.heap.size w (w.alloc (.cells #[.slice A ps.length c] 48)) := (Below.refl _ _).alloc (Nat.le_refl _) _
  have HB := Lib.hid hba
  have HA := Lib.hid (ha.below hba hh)
  have HG : Hid (RdB (w.alloc (.cells #[.slice A ps.length c] 48)) hi (.agg #[.slice A ps.length c]) ps) := ⟨_, rfl, HA.out⟩
  have hcb0 : (w.alloc (.cells #[.slice A ps.length c] 48)).cell? ⟨w.heap.size, 0, Option.none⟩ = some (.slice A ps.length c) := (Blk.new w 48 #[.slice A ps.length c]).cell 0
  have HCB := Lib.hid hcb0
  have hsz1 : hi ≤ (w.alloc (.cells #[.slice A ps.length c] 48)).heap.size := by simp; omega
  clear ha hba hcb0
  have cB := bkGood_any ps (.agg #[.slice A ps.length c]) hi (w.alloc (.cells #[.slice A ps.length c] 48)) HG.out hsz1
  cases hbk : bookB ps
  · rw [hbk] at cB
    have CB := Lib.hid cB
    clear cB
    go_enter Try.func49, Try.ntmps49
    go_wp2_with (go_at_call 134; refine CB.out.mono ?_; rintro e w1 ⟨rfl, hb1⟩)
    go_ret3
    exact ⟨ret_val rfl, HB.out.trans (hb1.mono (by simp))⟩
  · rw [hbk] at cB
    have CB := Lib.hid cB
    have HBK := Lib.hid hbk
    clear cB
    go_enter Try.func49, Try.ntmps49
    go_wp2_with fail
    refine CB.out.mono ?_
    rintro e w1 ⟨rfl, hb1⟩
    have hcb := (hb1.cell (p := ⟨w.heap.size, 0, Option.none⟩) (by simp)).trans HCB.out
    have hs1 : w.heap.size + 1 ≤ w1.heap.size := by have := hb1.size; simpa using this
    have HA1 := Lib.hid (HA.out.below hb1 hsz1)
    have HG1 : Hid (RdB w1 hi (.agg #[.slice A ps.length c]) ps) := ⟨_, rfl, HA1.out⟩
    have HB1 := Lib.hid (HB.out.trans (hb1.mono (by simp)))
    clear hb1
    have cF := bkPrefix_any ps (.agg #[.slice A ps.length c]) hi w1 HG1.out (by omega)
    rcases ho : firstPre ps with _ | ⟨i, k⟩
    · rw [ho] at cF
      have CF := Lib.hid cF
      clear cF
      unfold preS at CF
      go_wp2_with (go_at_call 150; refine CF.out.mono ?_; rintro e w2 ⟨rfl, hb2⟩)
      go_ret3
      exact ⟨ret_val (by rw [ho]; rfl), HB1.out.trans (hb2.mono (by omega))⟩
    · rw [ho] at cF
      have hl := firstPre_lt ho
      have h1 := hl.1
      have CF := Lib.hid cF
      have HO := Lib.hid ho
      clear cF ho hl
      unfold preS at CF
      go_wp2_with (go_at_call 150; refine CF.out.mono ?_; rintro e w2 ⟨rfl, hb2⟩)
      go_ret3
      exact ⟨ret_val (by rw [HO.out]; rfl), HB1.out.trans (hb2.mono (by omega))⟩
set_option maxHeartbeats 800000 in
theorem FirstPrefix_any (ps : List Phr) (v : Value) (hi : Nat) (w : World) (h : RdB w hi v ps) (hh : hi ≤ w.heap.size) :
    Calls Try.prog 48 #[v] w fun e w' => e = .returned (prefV (bookB ps) (firstPre ps)) ∧ Below w.heap.size w w' := by
  obtain ⟨a, rfl, ha⟩ := h
  obtain ⟨A, c, rfl, hc, hm⟩ := ha.form
  have hba : Below w.heap.size w (w.alloc (.cells #[.slice A ps.length c] 48)) := (Below.refl _ _).alloc (Nat.le_refl _) _
  have HB := Lib.hid hba
  have HA := Lib.hid (ha.below hba hh)
  have HG : Hid (RdB (w.alloc (.cells #[.slice A ps.length c] 48)) hi (.agg #[.slice A ps.length c]) ps) := ⟨_, rfl, HA.out⟩
  have hcb0 : (w.alloc (.cells #[.slice A ps.length c] 48)).cell? ⟨w.heap.size, 0, Option.none⟩ = some (.slice A ps.length c) := (Blk.new w 48 #[.slice A ps.length c]).cell 0
  have HCB := Lib.hid hcb0
  have hsz1 : hi ≤ (w.alloc (.cells #[.slice A ps.length c] 48)).heap.size := by simp; omega
  clear ha hba hcb0
  have cB := IsBook_any ps (.agg #[.slice A ps.length c]) hi (w.alloc (.cells #[.slice A ps.length c] 48)) HG.out hsz1
  cases hbk : bookB ps
  · rw [hbk] at cB
    have CB := Lib.hid cB
    clear cB
    go_enter Try.func48, Try.ntmps48
    go_wp2_with (go_at_call 137; refine CB.out.mono ?_; rintro e w1 ⟨rfl, hb1⟩)
    go_ret3
    exact ⟨ret_val rfl, HB.out.trans (hb1.mono (by simp))⟩
  · rw [hbk] at cB
    have CB := Lib.hid cB
    have HBK := Lib.hid hbk
    clear cB
    go_enter Try.func48, Try.ntmps48
    go_wp2_with fail
    refine CB.out.mono ?_
    rintro e w1 ⟨rfl, hb1⟩
    have hcb := (hb1.cell (p := ⟨w.heap.size, 0, Option.none⟩) (by simp)).trans HCB.out
    have hs1 : w.heap.size + 1 ≤ w1.heap.size := by have := hb1.size; simpa using this
    have HA1 := Lib.hid (HA.out.below hb1 hsz1)
    have HG1 : Hid (RdB w1 hi (.agg #[.slice A ps.length c]) ps) := ⟨_, rfl, HA1.out⟩
    have HB1 := Lib.hid (HB.out.trans (hb1.mono (by simp)))
    clear hb1
    have cF := firstPrefix_any ps (.agg #[.slice A ps.length c]) hi w1 HG1.out (by omega)
    rcases ho : firstPre ps with _ | ⟨i, k⟩
    · rw [ho] at cF
      have CF := Lib.hid cF
      clear cF
      unfold preI at CF
      go_wp2_with (go_at_call 149; refine CF.out.mono ?_; rintro e w2 ⟨rfl, hb2⟩)
      go_ret3
      exact ⟨ret_val (by rw [ho]; rfl), HB1.out.trans (hb2.mono (by omega))⟩
    · rw [ho] at cF
      have hl := firstPre_lt ho
      have h1 := hl.1
      have CF := Lib.hid cF
      have HO := Lib.hid ho
      clear cF ho hl
      unfold preI at CF
      go_wp2_with (go_at_call 149; refine CF.out.mono ?_; rintro e w2 ⟨rfl, hb2⟩)
      go_ret3
      exact ⟨ret_val (by rw [HO.out]; rfl), HB1.out.trans (hb2.mono (by omega))⟩
/-- The texts of one letter, put together. -/
def loneL (ps : List Phr) : List UInt8 := ps.flatMap fun p => if (p.1.size : Int) == 1 then p.1.data.toList else []
theorem loneL_snoc {ps : List Phr} {k : Nat} {p : Phr} (h : ps[k]? = some p) : loneL (ps.take (k + 1)) = loneL (ps.take k) ++ if (p.1.size : Int) == 1 then p.1.data.toList else [] := by
  unfold loneL; rw [take_snocN h, List.flatMap_append]; simp
theorem loneL_len (ps : List Phr) : (loneL ps).length ≤ ps.length := by
  unfold loneL
  induction ps with
  | nil => simp
  | cons p r ih =>
    rw [List.flatMap_cons, List.length_append, List.length_cons]
    have : (if (p.1.size : Int) == 1 then p.1.data.toList else []).length ≤ 1 := by
      split
      · rename_i h; rw [beq_iff_eq] at h; simp; omega
      · simp
    omega
def loneV (ps : List Phr) : Value := if bookB ps then .tuple #[.string ⟨(loneL ps).toArray⟩, .bool true] else .tuple #[.string ⟨#[]⟩, .bool false]
theorem loneV_form (ps : List Phr) : ∃ p q, loneV ps = .tuple #[.string p, .bool q] := by unfold loneV; split <;> exact ⟨_, _, rfl⟩
theorem arr_app (l : List UInt8) (t : ByteArray) : (⟨l.toArray⟩ : ByteArray) ++ t = ⟨(l ++ t.data.toList).toArray⟩ := by
  rw [ByteArray.ext_iff]; simp
set_option maxHeartbeats 800000 in
theorem sLone_any (ps : List Phr) (v : Value) (hi : Nat) (w : World) (h : RdB w hi v ps) (hh : hi ≤ w.heap.size) :
    Calls Try.prog 107 #[v] w fun e w' => e = .returned (loneV ps) ∧ Below w.heap.size w w' := by
  have HA0 : Hid (∃ a, v = .agg #[a] ∧ RdPS w hi a ps) := h
  clear HA0
  obtain ⟨a, rfl, ha⟩ := h
  obtain ⟨A, c, rfl, hc, hm⟩ := ha.form
  have HA0 := Lib.hid ha
  have hba : Below w.heap.size w (w.alloc (.cells #[.slice A ps.length c] 48)) := (Below.refl _ _).alloc (Nat.le_refl _) _
  have HB := Lib.hid hba
  have HA := Lib.hid (ha.below hba hh)
  have HG : Hid (RdB (w.alloc (.cells #[.slice A ps.length c] 48)) hi (.agg #[.slice A ps.length c]) ps) := ⟨_, rfl, HA.out⟩
  have hcb0 : (w.alloc (.cells #[.slice A ps.length c] 48)).cell? ⟨w.heap.size, 0, Option.none⟩ = some (.slice A ps.length c) := (Blk.new w 48 #[.slice A ps.length c]).cell 0
  have HCB := Lib.hid hcb0
  have hsz1 : hi ≤ (w.alloc (.cells #[.slice A ps.length c] 48)).heap.size := by simp; omega
  clear ha hba hcb0
  have cB := bkGood_any ps (.agg #[.slice A ps.length c]) hi (w.alloc (.cells #[.slice A ps.length c] 48)) HG.out hsz1
  cases hbk : bookB ps
  · rw [hbk] at cB
    have CB := Lib.hid cB
    clear cB
    go_enter Try.func107, Try.ntmps107
    go_wp2_with (go_at_call 134; refine CB.out.mono ?_; rintro e w1 ⟨rfl, hb1⟩)
    go_ret2
    exact ⟨ret_val (by unfold loneV; rw [hbk]; rfl), HB.out.trans (hb1.mono (by simp))⟩
  · rw [hbk] at cB
    have CB := Lib.hid cB
    have HBK := Lib.hid hbk
    clear cB
    have hlen := bookB_len hbk
    have hlen1 := hlen.2
    clear hlen hbk
    go_enter Try.func107, Try.ntmps107
    go_wp2_with fail
    refine CB.out.mono ?_
    rintro e w1 ⟨rfl, hb1⟩
    have hcb := (hb1.cell (p := ⟨w.heap.size, 0, Option.none⟩) (by simp)).trans HCB.out
    have hs1 : w.heap.size + 1 ≤ w1.heap.size := by have := hb1.size; simpa using this
    have HA1 := Lib.hid (HA.out.below hb1 hsz1)
    have HG1 : Hid (RdB w1 hi (.agg #[.slice A ps.length c]) ps) := ⟨_, rfl, HA1.out⟩
    have HB1 := Lib.hid (HB.out.trans (hb1.mono (by simp)))
    clear hb1
    go_wp2_with fail
    go_loopw [4, 13] (fun s i wr => ∃ k : Nat, k ≤ ps.length ∧ i = .int .i64 k ∧ s = .string ⟨(loneL (ps.take k)).toArray⟩ ∧ Below w.heap.size w wr) (fun _ i _ => ps.length - (intOf i).toNat)
    case atStart => exact ⟨0, Nat.zero_le _, rfl, rfl, HB1.out⟩
    case round =>
      obtain ⟨k, hk, rfl, rfl, hbr⟩ := hrel
      have hs := hbr.size
      by_cases hlt : k < ps.length
      · obtain ⟨b1, o1, c1, a, t, xs, hv, hb1, hx, hcell1, hcell2, hra, hta⟩ := (HA0.out.below hbr (by omega)).at_ hlt
        cases hv
        obtain ⟨A2, c2, rfl, hc2, hm2⟩ := Rd.form hra
        have HX := Lib.hid hx
        clear hra hx
        have hll := loneL_len (ps.take k)
        have hl2 : (loneL (ps.take k)).length ≤ 40 := by rw [List.length_take] at hll; omega
        clear hll
        cases ht : ((t.size : Int) == 1)
        · have HT := Lib.hid ht
          go_wp2_with fail
          go_roundw
          case rel => exact ⟨k + 1, by omega, by go_num, by rw [loneL_snoc HX.out, HT.out]; simp, hbr.alloc hs _⟩
          case measure => simp [intOf]; omega
        · have HT := Lib.hid ht
          have ht1 : t.size = 1 := by rw [beq_iff_eq] at ht; omega
          have HT1 := Lib.hid ht1
          have ht2 : t.size ≤ 1 := by omega
          clear ht1
          go_wp2_with fail
          go_roundw
          case rel => exact ⟨k + 1, by omega, by go_num, by rw [loneL_snoc HX.out, HT.out, arr_app]; rfl, hbr.alloc hs _⟩
          case measure => simp [intOf]; omega
      · obtain rfl : k = ps.length := by omega
        go_wp2_with fail
        go_ret2
        exact ⟨ret_val (by unfold loneV; rw [HBK.out, List.take_of_length_le (Nat.le_refl _)]; rfl), hbr⟩
set_option maxHeartbeats 800000 in
theorem Lone_any (ps : List Phr) (v : Value) (hi : Nat) (w : World) (h : RdB w hi v ps) (hh : hi ≤ w.heap.size) :
    Calls Try.prog 106 #[v] w fun e w' => e = .returned (loneV ps) ∧ Below w.heap.size w w' := by
  have HA0 : Hid (∃ a, v = .agg #[a] ∧ RdPS w hi a ps) := h
  clear HA0
  obtain ⟨a, rfl, ha⟩ := h
  obtain ⟨A, c, rfl, hc, hm⟩ := ha.form
  have HA0 := Lib.hid ha
  have hba : Below w.heap.size w (w.alloc (.cells #[.slice A ps.length c] 48)) := (Below.refl _ _).alloc (Nat.le_refl _) _
  have HB := Lib.hid hba
  have HA := Lib.hid (ha.below hba hh)
  have HG : Hid (RdB (w.alloc (.cells #[.slice A ps.length c] 48)) hi (.agg #[.slice A ps.length c]) ps) := ⟨_, rfl, HA.out⟩
  have hcb0 : (w.alloc (.cells #[.slice A ps.length c] 48)).cell? ⟨w.heap.size, 0, Option.none⟩ = some (.slice A ps.length c) := (Blk.new w 48 #[.slice A ps.length c]).cell 0
  have HCB := Lib.hid hcb0
  have hsz1 : hi ≤ (w.alloc (.cells #[.slice A ps.length c] 48)).heap.size := by simp; omega
  clear ha hba hcb0
  have cB := IsBook_any ps (.agg #[.slice A ps.length c]) hi (w.alloc (.cells #[.slice A ps.length c] 48)) HG.out hsz1
  cases hbk : bookB ps
  · rw [hbk] at cB
    have CB := Lib.hid cB
    clear cB
    go_enter Try.func106, Try.ntmps106
    go_wp2_with (go_at_call 137; refine CB.out.mono ?_; rintro e w1 ⟨rfl, hb1⟩)
    go_ret2
    exact ⟨ret_val (by unfold loneV; rw [hbk]; rfl), HB.out.trans (hb1.mono (by simp))⟩
  · rw [hbk] at cB
    have CB := Lib.hid cB
    have HBK := Lib.hid hbk
    clear cB
    have hlen := bookB_len hbk
    have hlen1 := hlen.2
    clear hlen hbk
    go_enter Try.func106, Try.ntmps106
    go_wp2_with fail
    refine CB.out.mono ?_
    rintro e w1 ⟨rfl, hb1⟩
    have hcb := (hb1.cell (p := ⟨w.heap.size, 0, Option.none⟩) (by simp)).trans HCB.out
    have hs1 : w.heap.size + 1 ≤ w1.heap.size := by have := hb1.size; simpa using this
    have HA1 := Lib.hid (HA.out.below hb1 hsz1)
    have HG1 : Hid (RdB w1 hi (.agg #[.slice A ps.length c]) ps) := ⟨_, rfl, HA1.out⟩
    have HB1 := Lib.hid (HB.out.trans (hb1.mono (by simp)))
    clear hb1
    go_wp2_with fail
    go_loopw [4, 13] (fun s i wr => ∃ k : Nat, k ≤ ps.length ∧ i = .int .i64 k ∧ s = .string ⟨(loneL (ps.take k)).toArray⟩ ∧ Below w.heap.size w wr) (fun _ i _ => ps.length - (intOf i).toNat)
    case atStart => exact ⟨0, Nat.zero_le _, rfl, rfl, HB1.out⟩
    case round =>
      obtain ⟨k, hk, rfl, rfl, hbr⟩ := hrel
      have hs := hbr.size
      by_cases hlt : k < ps.length
      · obtain ⟨b1, o1, c1, a, t, xs, hv, hb1, hx, hcell1, hcell2, hra, hta⟩ := (HA0.out.below hbr (by omega)).at_ hlt
        cases hv
        obtain ⟨A2, c2, rfl, hc2, hm2⟩ := Rd.form hra
        have HX := Lib.hid hx
        clear hra hx
        have hll := loneL_len (ps.take k)
        have hl2 : (loneL (ps.take k)).length ≤ 40 := by rw [List.length_take] at hll; omega
        clear hll
        cases ht : ((t.size : Int) == 1)
        · have HT := Lib.hid ht
          go_wp2_with fail
          go_roundw
          case rel => exact ⟨k + 1, by omega, by go_num, by rw [loneL_snoc HX.out, HT.out]; simp, hbr.alloc hs _⟩
          case measure => simp [intOf]; omega
        · have HT := Lib.hid ht
          have ht1 : t.size = 1 := by rw [beq_iff_eq] at ht; omega
          have HT1 := Lib.hid ht1
          have ht2 : t.size ≤ 1 := by omega
          clear ht1
          go_wp2_with fail
          go_roundw
          case rel => exact ⟨k + 1, by omega, by go_num, by rw [loneL_snoc HX.out, HT.out, arr_app]; rfl, hbr.alloc hs _⟩
          case measure => simp [intOf]; omega
      · obtain rfl : k = ps.length := by omega
        go_wp2_with fail
        go_ret2
        exact ⟨ret_val (by unfold loneV; rw [HBK.out, List.take_of_length_le (Nat.le_refl _)]; rfl), hbr⟩
end Go.Proofs.Ytabiobjcfopakaa
/- Contracts: the phrases whose texts begin with a string; of the program and of the reference. -/
namespace Go.Proofs.Ytabiobjcfopakaa
open Go.RowKit
def lettS (s : ByteArray) : Bool := smallB s.data.toList && decide (s.size ≤ 12)
def begAt (ps : List Phr) (s : ByteArray) (i : Nat) : Bool := match ps[i]? with
  | some p => Lib.hasPrefix p.1.data.toList s.data.toList
  | Option.none => false
/-- Of the first k phrases those whose texts begin so. -/
def begK (ps : List Phr) (s : ByteArray) (k : Nat) : List Int := ((List.range k).filter fun i => begAt ps s i).map fun i : Nat => (i : Int)
theorem begK_len (ps : List Phr) (s : ByteArray) (k : Nat) : (begK ps s k).length ≤ k := by
  unfold begK; rw [List.length_map]; have := List.length_filter_le (fun i => begAt ps s i) (List.range k); simpa using this
theorem begK_yes {ps : List Phr} {s : ByteArray} {k : Nat} {p : Phr} (hp : ps[k]? = some p) (h : Lib.hasPrefix p.1.data.toList s.data.toList = true) : begK ps s (k + 1) = begK ps s k ++ [(k : Int)] := by
  have : begAt ps s k = true := by unfold begAt; rw [hp]; exact h
  simp [begK, List.range_succ, this]
theorem begK_no {ps : List Phr} {s : ByteArray} {k : Nat} {p : Phr} (hp : ps[k]? = some p) (h : Lib.hasPrefix p.1.data.toList s.data.toList = false) : begK ps s (k + 1) = begK ps s k := by
  have : begAt ps s k = false := by unfold begAt; rw [hp]; exact h
  simp [begK, List.range_succ, this]
/-- The phrases whose texts begin so, if all is asked rightly. -/
def begL (ps : List Phr) (s : ByteArray) : List Int := if bookB ps && lettS s then begK ps s ps.length else []
theorem begL_len (ps : List Phr) (s : ByteArray) : (begL ps s).length ≤ 40 := by
  unfold begL
  split
  · rename_i h
    rw [Bool.and_eq_true] at h
    have := bookB_len h.1
    have := begK_len ps s ps.length
    omega
  · simp
theorem pre_no {s t : ByteArray} (h : ¬ s.size ≤ t.size) : Lib.hasPrefix t.data.toList s.data.toList = false := by rw [← Lib.hasPrefix_raw, decide_eq_false h]; rfl
theorem pre_eq {s t : ByteArray} {b : Bool} (h : s.size ≤ t.size) (hb : ((t.extract 0 s.size).toList == s.toList) = b) : Lib.hasPrefix t.data.toList s.data.toList = b := by rw [← Lib.hasPrefix_raw, decide_eq_true h, hb]; rfl
theorem GrowI.appH {w wr : World} {B : Nat} {v : Value} {xs : List Int} {ops : Array Oper} {rest : List Oper} {o : Oper} {a : Act} {Q : Exit → Act → World → Prop} {y : Int} (H : Nat) (hH : wr.heap.size = H) (hgd : o.guard = Option.none) (s x : Operand)
    (ho : o.op = .call { callee := .builtin .append, args := #[s, x], argTypes := #[29, 29] }) (hG : GrowI w B wr v xs) (hlen : xs.length < 1099511627776)
    (hs : a.eval s = v) (hx : a.eval x = .slice (some ⟨H, 0, Option.none⟩) 1 1)
    (h : ∀ v' w', GrowI w B w' v' (xs ++ [y]) → wpList Try.prog ops Q rest (a.put o.dst v') w') : wpList Try.prog ops Q (o :: rest) a (wr.alloc (.cells #[.int .i64 y] 3)) := by
  subst hH
  exact GrowI.app hgd s x ho hG hlen hs hx h
theorem still_flip {P : Program} {f : FuncId} {args : Array Value} {w : World} {v : Value} (h : Calls P f args w fun e w' => e = .returned v ∧ w' = w) : Calls P f args w fun e w' => e = .returned v ∧ w = w' :=
  h.mono fun _ _ ⟨he, hw⟩ => ⟨he, hw.symm⟩
end Go.Proofs.Ytabiobjcfopakaa
/- Contracts: digits read as words; of the program and of the reference. -/
namespace Go.Proofs.Ytabiobjcfopakaa
open Go.RowKit
set_option maxRecDepth 100000 in
set_option maxHeartbeats 4000000 in
theorem sReadWords_any (code : List (List Int)) (ds : List Int) (v u : Value) (hi hj : Nat) (w : World) (h : RdII w hi v code) (g : RdI w hj u ds) (hh : hi ≤ w.heap.size) (hg : hj ≤ w.heap.size) :
    Calls Try.prog 116 #[v, u] w (RetOwT (readRes code ds).1 (readRes code ds).2 w) := by
  obtain ⟨A, c, rfl, hm⟩ := h.form
  obtain ⟨A', c', rfl, hc', hm'⟩ := Rd.form g
  have H := Lib.hid h
  have G := Lib.hid g
  clear h g
  have cC := cmCode_any code _ hi w H.out
  cases hcb : codeB code
  · rw [hcb] at cC
    have CC := Lib.hid cC
    have HX : Hid ((codeB code && digB ds) = false) := by show (_ && _) = false; rw [hcb]; rfl
    clear cC hcb
    rw [readRes_bad HX.out]
    go_enter Try.func116, Try.ntmps116
    go_wp2_with (go_at_call 205; refine CC.out.mono ?_; rintro e w1 ⟨rfl, n1, rfl⟩)
    go_ret2
    exact retOwT _ (GrowI.nil (bel_drewN _ _ _))
  · rw [hcb] at cC
    have CC := Lib.hid cC
    have HCB := Lib.hid hcb
    clear cC
    by_cases h180 : ds.length ≤ 180
    · have H180 := Lib.hid h180
      have h180i : ¬ (180 : Int) < (ds.length : Int) := by omega
      have cA := fun n => l1All_any ds 0 59 _ hj (w.drewN n) (show RdI (w.drewN n) hj _ _ from G.out)
      cases hal : allB ds 0 59
      · rw [hal] at cA
        have CA := Lib.hid cA
        have HX : Hid ((codeB code && digB ds) = false) := by show (_ && _) = false; unfold digB; rw [hal, Bool.and_false, Bool.and_false]
        clear cA hal hcb
        rw [readRes_bad HX.out]
        go_enter Try.func116, Try.ntmps116
        go_wp2_with fail
        refine CC.out.mono ?_
        rintro e w1 ⟨rfl, n1, rfl⟩
        go_wp2_with (go_at_call 184; refine (CA.out _).mono ?_; rintro e w' ⟨rfl, rfl⟩)
        go_ret2
        exact retOwT _ (GrowI.nil (bel_drewN _ _ _))
      · rw [hal] at cA
        have CA := Lib.hid cA
        have HX : Hid ((codeB code && digB ds) = true) := by show (_ && _) = true; unfold digB; rw [hcb, hal, decide_eq_true h180]; rfl
        have hcl := (code_len hcb).2
        clear cA hal hcb
        go_enter Try.func116, Try.ntmps116
        go_wp2_with fail
        refine CC.out.mono ?_
        rintro e w1 ⟨rfl, n1, rfl⟩
        go_wp2_with (go_at_call 184; refine (CA.out _).mono ?_; rintro e w' ⟨rfl, rfl⟩)
        go_loopw [1, 6] (fun dv q wr => ∃ (rest L : List Int) (D : Option Addr) (n cc : Nat), dv = .slice D n cc ∧ Hid (n = rest.length) ∧ n ≤ cc ∧ n + L.length ≤ 180 ∧ Hid (RdI w hj (.slice D n cc) rest) ∧ Hid (ReadTo code ds L rest) ∧ GrowI w w.heap.size wr q L) (fun dv _ _ => lenV dv)
        case atStart => exact ⟨ds, [], A', ds.length, c', rfl, rfl, hc', by simpa using h180, G.out, ReadTo.start _ _, GrowI.nil (bel_drewN _ _ _)⟩
        case round =>
          obtain ⟨rest, L, D, n, cc, rfl, hn, hncc, hlen, hrd, hto, hG⟩ := hrel
          rcases Nat.eq_zero_or_pos n with hn0 | hpos
          · have hR : Hid (rest = []) := List.eq_nil_of_length_eq_zero (by rw [← hn.out]; exact hn0)
            have hi0 : ¬ (0 : Int) < (n : Int) := by omega
            have hn1 : ¬ 0 < n := by omega
            have HN0 := Lib.hid hn0
            clear hn0
            go_wp2_with fail
            go_ret2
            have := hto.out
            rw [hR.out] at this
            rw [this.done HX.out]
            exact retOwT _ hG
          · have hpi : (0 : Int) < (n : Int) := by omega
            have HRP : Hid (0 < rest.length) := by show 0 < _; rw [← hn.out]; exact hpos
            have hncl : cc ≤ 9223372036854775807 := by
              have := hrd.out; obtain ⟨_, _, _, hv, _, h2, _⟩ := this; cases hv; unfold maxLen at h2; omega
            obtain ⟨b0, o0, rfl⟩ : ∃ b0 o0, D = some ⟨b0, o0, Option.none⟩ := by
              have := hrd.out; obtain ⟨_, _, _, hv, _, _, h3⟩ := this; cases hv
              obtain ⟨b, o, e, _⟩ := h3 HRP.out; exact ⟨b, o, e⟩
            rename World => wo
            have hGs := hG.2.1
            go_wp2_with fail
            go_loopw [7, 28] (fun f i wr => ∃ k : Nat, k ≤ code.length ∧ i = .int .i64 k ∧ f = .int .i64 (ixI (ixUp code rest k)) ∧ ∃ m, wr = wo.drewN m) (fun _ i _ => code.length - (intOf i).toNat)
            case atStart => exact ⟨0, Nat.zero_le _, rfl, by simp [ixUp, ixC, ixI], 0, rfl⟩
            case round =>
              obtain ⟨k, hk, rfl, rfl, m, rfl⟩ := hrel
              by_cases hlt : k < code.length
              · obtain ⟨b1, o1, c1, a, xs, hv, _, hx, hcell1, hra⟩ := (H.out.below hGs hh).at_ hlt
                cases hv
                obtain ⟨A2, c2, rfl, hc2, hm2⟩ := Rd.form hra
                have HX2 := Lib.hid hx
                have HRA := Lib.hid hra
                have HRR := Lib.hid (RdI.below hrd.out hGs hg)
                have cB := fun q => bkBegins_any xs rest _ _ hi hj (wo.drewN q) (show RdI (wo.drewN q) hi _ _ from HRA.out) (show RdI (wo.drewN q) hj _ _ from HRR.out)
                clear hx hra
                cases hbg : begB xs rest
                · rw [hbg] at cB
                  have CB := Lib.hid cB
                  have HBG := Lib.hid hbg
                  clear cB hbg
                  go_wp2_with (go_at_call 209; refine (CB.out _).mono ?_; rintro e w' ⟨rfl, m2, rfl⟩)
                  go_roundw
                  case rel => exact ⟨k + 1, by omega, by go_num, by rw [ixUp_no HX2.out HBG.out], m + m2, by first | rfl | rw [World.drewN_drewN]⟩
                  case measure => (simp [intOf]; try omega)
                · rw [hbg] at cB
                  have CB := Lib.hid cB
                  have HBG := Lib.hid hbg
                  clear cB hbg
                  go_wp2_with (go_at_call 209; refine (CB.out _).mono ?_; rintro e w' ⟨rfl, m2, rfl⟩)
                  go_roundw
                  case rel => exact ⟨k + 1, by omega, by go_num, by rw [ixUp_yes HCB.out HX2.out HBG.out]; rfl, m + m2, by first | rfl | rw [World.drewN_drewN]⟩
                  case measure => (simp [intOf]; try omega)
              · obtain rfl : k = code.length := by omega
                have hGd : GrowI w w.heap.size (wo.drewN m) _ L := hG.belowR (bel_drewN _ _ _)
                rcases hix : ixUp code rest code.length with _ | i
                · rw [ixUp_full] at hix
                  have HIX := Lib.hid hix
                  clear hix
                  unfold ixI
                  go_wp2_with fail
                  go_ret2
                  rw [hto.out.stuck HX.out HIX.out HRP.out]
                  exact retOwT _ (GrowI.nil (hGd.2.1))
                · rw [ixUp_full] at hix
                  obtain ⟨x, hx, hbx, hil⟩ := ixC_some hix
                  have HIX := Lib.hid hix
                  have hxl := code_pos HCB.out (List.mem_of_getElem? hx)
                  have hxn : x.length ≤ n := by rw [begB_iff] at hbx; have := hbx.length_le; rw [hn.out]; exact this
                  obtain ⟨b1, o1, c1, a, xs, hv, hb1, hx2, hcell1, hra⟩ := (H.out).at_ hil
                  cases hv
                  rw [hx] at hx2
                  cases hx2
                  obtain ⟨A2, c2, rfl, hc2, hm2⟩ := Rd.form hra
                  have HXX := Lib.hid hx
                  have hx1 := hxl.1
                  have hLl : L.length < 180 := by omega
                  have HHC := Lib.hid hcell1
                  clear hix hx hbx hxl hra hcell1
                  unfold ixI
                  have hcell5 := fun (w5 : World) (hb5 : Below w.heap.size w w5) => (hb5.cell (p := ⟨b1, o1 + i, Option.none⟩) (by show b1 < _; omega)).trans HHC.out
                  have HC5 := Lib.hid hcell5
                  clear hcell5
                  by_cases hck : cc = x.length
                  · have HCK := Lib.hid hck
                    have hxi : (x.length : Int) ≤ (n : Int) := by omega
                    go_wp2_with (at_builtin; refine GrowI.app rfl (.tmp 40) (.tmp 42) rfl hGd (by omega) rfl rfl ?_; intro v' w5 hG'; have hc5 := HC5.out w5 hG'.2.1)
                    go_roundw
                    case rel => exact ⟨rest.drop x.length, L ++ [(i : Int)], some ⟨b0, o0, Option.none⟩, n - x.length, 0, rfl, by show n - x.length = _; rw [List.length_drop, ← hn.out], by have := HCK.out; omega, by rw [List.length_append]; simp; omega,
                      by have h1 := (RdI.dropAll hrd.out hn.out hncc hxn).2 (by have := HCK.out; omega); rwa [show cc - x.length = 0 by have := HCK.out; omega] at h1, hto.out.next HCB.out HIX.out HXX.out HRP.out, hG'⟩
                    case measure => show n - x.length < n; omega
                  · have hxi : (x.length : Int) ≤ (n : Int) := by omega
                    go_wp2_with (at_builtin; refine GrowI.app rfl (.tmp 40) (.tmp 42) rfl hGd (by omega) rfl rfl ?_; intro v' w5 hG'; have hc5 := HC5.out w5 hG'.2.1)
                    go_roundw
                    case rel => exact ⟨rest.drop x.length, L ++ [(i : Int)], some ⟨b0, o0 + x.length, Option.none⟩, n - x.length, cc - x.length, rfl, by show n - x.length = _; rw [List.length_drop, ← hn.out], by omega, by rw [List.length_append]; simp; omega,
                      (RdI.dropAll hrd.out hn.out hncc hxn).1, hto.out.next HCB.out HIX.out HXX.out HRP.out, hG'⟩
                    case measure => show n - x.length < n; omega
    · have h180i : (180 : Int) < (ds.length : Int) := by omega
      have HX : Hid ((codeB code && digB ds) = false) := by show (_ && _) = false; unfold digB; rw [decide_eq_false h180, Bool.false_and, Bool.and_false]
      rw [readRes_bad HX.out]
      go_enter Try.func116, Try.ntmps116
      go_wp2_with (go_at_call 205; refine CC.out.mono ?_; rintro e w1 ⟨rfl, n1, rfl⟩)
      go_ret2
      exact retOwT _ (GrowI.nil (bel_drewN _ _ _))
/-- What is asked of a predicate on lists. -/
def PredI (g : Nat) (lb : Array Value) (hi : Nat) (p : List Int → Bool) (w : World) : Prop :=
  ∀ (n : Nat) (x : List Int) (u : Value), RdI (w.drewN n) hi u x → Calls Try.prog g (#[u] ++ lb) (w.drewN n) fun e w' => e = .returned (.bool (p x)) ∧ ∃ m, w' = (w.drewN n).drewN m
set_option maxHeartbeats 800000 in
theorem indexII_any (xss : List (List Int)) (v : Value) (hi : Nat) (w : World) (g : Nat) (lb : Array Value) (p : List Int → Bool) (h : RdII w hi v xss) (hp : PredI g lb hi p w)
    (eg : ∀ args w, (callFunc g args).run Try.prog w = .ok (.enter g args) w) :
    Calls Try.prog 206 #[v, .func (.func g) #[] lb] w fun e w' => e = .returned (.int .i64 (ixI (xss.findIdx? p))) ∧ ∃ n, w' = w.drewN n := by
  obtain ⟨A, c, rfl, hm⟩ := h.form
  have H := Lib.hid h
  have HP := Lib.hid hp
  clear h hp
  go_enter Try.func206, Try.ntmps206
  go_wp2
  go_loopw [8] (fun i wr => ∃ k : Nat, k ≤ xss.length ∧ i = .int .i64 k ∧ Hid (∀ j, j < k → ∀ x, xss[j]? = some x → p x = false) ∧ ∃ n, wr = w.drewN n) (fun i _ => xss.length - (intOf i).toNat)
  case atStart => exact ⟨0, Nat.zero_le _, rfl, fun j hj => by omega, 0, rfl⟩
  case round =>
    obtain ⟨k, hk, rfl, hno, n, rfl⟩ := hrel
    by_cases hlt : k < xss.length
    · obtain ⟨b1, o1, c1, a, xs, hv, _, hx, hcell1, hra⟩ := H.out.at_ hlt
      cases hv
      obtain ⟨A2, c2, rfl, hc2, hm2⟩ := Rd.form hra
      have hcall := HP.out n xs _ (show RdI (w.drewN n) hi _ _ from hra)
      have HX := Lib.hid hx
      clear hra hx
      cases hq : p xs
      · have HQ := Lib.hid hq
        rw [hq] at hcall
        clear hq
        have HC := Lib.hid hcall
        clear hcall
        go_wp2_with (go_at_fn g; refine HC.out.mono ?_; rintro e w' ⟨rfl, m, rfl⟩)
        go_roundw
        case rel => exact ⟨k + 1, by omega, by go_num, fun j hj x hx => by
          by_cases e : j = k
          · subst e; rw [HX.out] at hx; cases hx; exact HQ.out
          · exact hno.out j (by omega) x hx, n + m, by first | rfl | rw [World.drewN_drewN]⟩
        case measure => (simp [intOf]; try omega)
      · have HQ := Lib.hid hq
        rw [hq] at hcall
        clear hq
        have HC := Lib.hid hcall
        clear hcall
        go_wp2_with (go_at_fn g; refine HC.out.mono ?_; rintro e w' ⟨rfl, m, rfl⟩)
        go_ret
        refine ⟨ret_int ?_, n + m, by first | rfl | rw [World.drewN_drewN]⟩
        rw [findIdx_take (fun j hj x hx => hno.out j hj x hx) HX.out HQ.out]
        rfl
    · obtain rfl : k = xss.length := by omega
      go_wp2_with fail
      go_ret
      refine ⟨ret_int ?_, n, rfl⟩
      rw [findIdx_none (fun j x hx => hno.out j (List.getElem?_eq_some_iff.1 hx).1 x hx)]
      rfl
theorem ReadWords1_any (xs ys : List Int) (u s : Value) (B hi hj : Nat) (w : World) (h : RdI w hi u xs) (g : RdI w hj s ys) (hc : w.cell? ⟨B, 0, Option.none⟩ = some s) :
    Calls Try.prog 207 #[u, .pointer (some ⟨B, 0, Option.none⟩)] w fun e w' => e = .returned (.bool (begB xs ys)) ∧ ∃ n, w' = w.drewN n := by
  obtain ⟨A, c, rfl, hc1, hm⟩ := Rd.form h
  obtain ⟨A', c', rfl, hc2, hm'⟩ := Rd.form g
  have H := Lib.hid h
  have G := Lib.hid g
  clear h g
  go_enter Try.func207, Try.ntmps207
  go_wp2_with fail
  refine (begins_any xs ys _ _ hi hj _ H.out G.out).mono ?_
  rintro e w' ⟨rfl, n, rfl⟩
  go_wp2_with fail
  go_ret
  exact ⟨rfl, n, rfl⟩
theorem own_down {w : World} {lo : Nat} {v : Value} {xs : List Int} (h : w.ownsRow (lo + 1) 3 1 v xs.length (ints xs)) : OwI w lo w.heap.size v xs := by
  refine ⟨⟨h.1, ?_⟩, fun k hk => (h.lt k hk).2⟩
  rcases h.2 with hn | ⟨g, cap, cur, rfl, hl, rest⟩
  · exact .inl hn
  · exact .inr ⟨g, cap, cur, rfl, by omega, rest⟩
set_option maxRecDepth 100000 in
set_option maxHeartbeats 4000000 in
theorem ReadWords_any (code : List (List Int)) (ds : List Int) (v u : Value) (hi hj : Nat) (w : World) (h : RdII w hi v code) (g : RdI w hj u ds) (hh : hi ≤ w.heap.size) (hg : hj ≤ w.heap.size) :
    Calls Try.prog 115 #[v, u] w (RetOwT (readRes code ds).1 (readRes code ds).2 w) := by
  obtain ⟨A, c, rfl, hm⟩ := h.form
  obtain ⟨A', c', rfl, hc', hm'⟩ := Rd.form g
  have hba : Below w.heap.size w (w.alloc (.cells #[.slice A' ds.length c'] 29)) := (Below.refl _ _).alloc (Nat.le_refl _) _
  have HBA := Lib.hid hba
  have H := Lib.hid (h.below hba hh)
  have G := Lib.hid (RdI.below g hba hg)
  have HBL := Lib.hid (Blk.new w 29 #[.slice A' ds.length c'])
  have hcell0 := HBL.out.cell 0
  simp only [List.getElem?_cons_zero] at hcell0
  have HG0 := Lib.hid g
  have HC0 := Lib.hid h
  clear h g hba
  have cC := isCode_any code _ hi (w.alloc (.cells #[.slice A' ds.length c'] 29)) H.out
  cases hcb : codeB code
  · rw [hcb] at cC
    have CC := Lib.hid cC
    have HX : Hid ((codeB code && digB ds) = false) := by show (_ && _) = false; rw [hcb]; rfl
    clear cC hcb
    rw [readRes_bad HX.out]
    go_enter Try.func115, Try.ntmps115
    go_wp2_with (go_at_call 204; refine CC.out.mono ?_; rintro e w1 ⟨rfl, n1, rfl⟩)
    go_ret2
    exact retOwT _ (GrowI.nil (HBA.out.trans (bel_drewN _ _ _)))
  · rw [hcb] at cC
    have CC := Lib.hid cC
    have HCB := Lib.hid hcb
    clear cC
    by_cases h180 : ds.length ≤ 180
    · have H180 := Lib.hid h180
      have h180i : ¬ (180 : Int) < (ds.length : Int) := by omega
      have cA := fun n => allWithin_any ds 0 59 _ hj ((w.alloc (.cells #[.slice A' ds.length c'] 29)).drewN n) (show RdI ((w.alloc (.cells #[.slice A' ds.length c'] 29)).drewN n) hj _ _ from G.out)
      cases hal : allB ds 0 59
      · rw [hal] at cA
        have CA := Lib.hid cA
        have HX : Hid ((codeB code && digB ds) = false) := by show (_ && _) = false; unfold digB; rw [hal, Bool.and_false, Bool.and_false]
        clear cA hal hcb
        rw [readRes_bad HX.out]
        go_enter Try.func115, Try.ntmps115
        go_wp2_with fail
        refine CC.out.mono ?_
        rintro e w1 ⟨rfl, n1, rfl⟩
        go_wp2_with (go_at_call 181; refine (CA.out _).mono ?_; rintro e w' ⟨rfl, rfl⟩)
        go_ret2
        exact retOwT _ (GrowI.nil (HBA.out.trans (bel_drewN _ _ _)))
      · rw [hal] at cA
        have CA := Lib.hid cA
        have HX : Hid ((codeB code && digB ds) = true) := by show (_ && _) = true; unfold digB; rw [hcb, hal, decide_eq_true h180]; rfl
        clear cA hal hcb
        go_enter Try.func115, Try.ntmps115
        go_wp2_with fail
        refine CC.out.mono ?_
        rintro e w1 ⟨rfl, n1, rfl⟩
        go_wp2_with (go_at_call 181; refine (CA.out _).mono ?_; rintro e w' ⟨rfl, rfl⟩)
        clear hcell0
        go_loopw [6] (fun q wr => ∃ (rest L : List Int) (D : Option Addr) (n cc : Nat), Hid (Blk wr w.heap.size 29 [.slice D n cc]) ∧ Hid (n = rest.length) ∧ n ≤ cc ∧ n + L.length ≤ 180 ∧ Hid (RdI w hj (.slice D n cc) rest) ∧ Hid (ReadTo code ds L rest) ∧ Hid (wr.ownsRow (w.heap.size + 1) 3 1 q L.length (ints L)) ∧ Hid (Below w.heap.size w wr)) (fun _ wr => lenV ((wr.cell? ⟨w.heap.size, 0, Option.none⟩).getD undef))
        case atStart => exact ⟨ds, [], A', ds.length, c', HBL.out, rfl, hc', by simpa using h180, HG0.out, ReadTo.start _ _, World.ownsRow_nil _ _ _ _, HBA.out.trans (bel_drewN _ _ _)⟩
        case round =>
          obtain ⟨rest, L, D, n, cc, hblk, hn, hncc, hlen, hrd, hto, hown, hbr⟩ := hrel
          have hcl := hblk.out.cell 0
          simp only [List.getElem?_cons_zero] at hcl
          have hszr : w.heap.size + 1 ≤ wr.heap.size := by have := hblk.out.lt; omega
          rcases Nat.eq_zero_or_pos n with hn0 | hpos
          · have hR : Hid (rest = []) := List.eq_nil_of_length_eq_zero (by rw [← hn.out]; exact hn0)
            have hi0 : ¬ (0 : Int) < (n : Int) := by omega
            have hn1 : ¬ 0 < n := by omega
            have HN0 := Lib.hid hn0
            clear hn0
            go_wp2_with fail
            go_ret2
            have := hto.out
            rw [hR.out] at this
            rw [this.done HX.out]
            exact ⟨_, rfl, own_down hown.out, hbr.out⟩
          · have hpi : (0 : Int) < (n : Int) := by omega
            have HRP : Hid (0 < rest.length) := by show 0 < _; rw [← hn.out]; exact hpos
            have hncl : cc ≤ 9223372036854775807 := by
              have := hrd.out; obtain ⟨_, _, _, hv, _, h2, _⟩ := this; cases hv; unfold maxLen at h2; omega
            obtain ⟨b0, o0, rfl⟩ : ∃ b0 o0, D = some ⟨b0, o0, Option.none⟩ := by
              have := hrd.out; obtain ⟨_, _, _, hv, _, _, h3⟩ := this; cases hv
              obtain ⟨b, o, e, _⟩ := h3 HRP.out; exact ⟨b, o, e⟩
            have hpred : PredI 207 #[.pointer (some ⟨w.heap.size, 0, Option.none⟩)] hi (fun x => begB x rest) wr := fun q x u hu =>
              ReadWords1_any x rest u (.slice (some ⟨b0, o0, Option.none⟩) n cc) w.heap.size hi hj _ hu (show RdI (wr.drewN q) hj _ _ from (RdI.below hrd.out hbr.out hg : RdI wr hj _ _)) hcl
            have HIC := Lib.hid (indexII_any code _ hi wr _ _ _ (HC0.out.below hbr.out hh) hpred (enters_of Try.func207 (by kernel_rfl) rfl))
            clear hpred
            rcases hix : ixC code rest with _ | i
            · have HIX := Lib.hid hix
              go_wp2_with fail
              refine HIC.out.mono ?_
              rintro e w2 ⟨rfl, m2, rfl⟩
              rw [show code.findIdx? (fun x => begB x rest) = Option.none from HIX.out]
              unfold ixI
              go_wp2_with fail
              go_ret2
              rw [hto.out.stuck HX.out HIX.out HRP.out]
              exact retOwT _ (GrowI.nil (hbr.out.trans (bel_drewN _ _ _)))
            · obtain ⟨x, hx, hbx, hil⟩ := ixC_some hix
              have HIX := Lib.hid hix
              have hxl := code_pos HCB.out (List.mem_of_getElem? hx)
              have hxn : x.length ≤ n := by rw [begB_iff] at hbx; have := hbx.length_le; rw [hn.out]; exact this
              have hcl2 := (code_len HCB.out).2
              obtain ⟨b1, o1, c1, a, xs, hv, hb1, hx2, hcell1, hra⟩ := (HC0.out).at_ hil
              cases hv
              rw [hx] at hx2
              cases hx2
              obtain ⟨A2, c2, rfl, hc2, hm2⟩ := Rd.form hra
              have HXX := Lib.hid hx
              have hx1 := hxl.1
              have hLl : L.length < 180 := by omega
              have hcl5 := fun (w5 : World) (hb5 : Below (w.heap.size + 1) wr w5) => ((hb5.mono (show w.heap.size ≤ w.heap.size + 1 by omega)).cell (p := ⟨b1, o1 + i, Option.none⟩) (by show b1 < _; omega)).trans ((hbr.out.cell (p := ⟨b1, o1 + i, Option.none⟩) (by show b1 < _; omega)).trans hcell1)
              have HC5 := Lib.hid hcl5
              have hg5 := fun m => (show GrowI wr (w.heap.size + 1) (wr.drewN m) _ L from ⟨hown.out, bel_drewN _ _ _, hszr⟩)
              have HG5 := Lib.hid hg5
              clear hg5
              clear hix hx hbx hxl hra hcell1 hcl5
              go_wp2_with fail
              refine HIC.out.mono ?_
              rintro e w2 ⟨rfl, m2, rfl⟩
              rw [show code.findIdx? (fun x => begB x rest) = some i from HIX.out]
              unfold ixI
              have hxi : (x.length : Int) ≤ (n : Int) := by omega
              by_cases hck : cc = x.length
              · have HCK := Lib.hid hck
                go_wp2_with (at_builtin; refine GrowI.app rfl (.tmp 29) (.tmp 31) rfl (HG5.out m2) (by omega) rfl rfl ?_; intro v' w5 hG')
                have d0 := (hG'.2.1.cell (p := ⟨w.heap.size, 0, Option.none⟩) (by show w.heap.size < _; omega)).trans hcl
                have d1 := HC5.out w5 hG'.2.1
                have d2 := (hG'.2.1.frozen (p := ⟨w.heap.size, 0, Option.none⟩) (by show w.heap.size < _; omega)).trans (hblk.out.frozen 0)
                have hbl5 := hblk.out.below hG'.2.1 (by omega)
                have HBL5 := Lib.hid hbl5
                have HG6 := Lib.hid hG'
                clear hG' hbl5 hcl
                go_still_tail 7, (by kernel_rfl)
                change wpList _ _ _ _ _ w5.drew
                have e0 : w5.drew.cell? ⟨w.heap.size, 0, Option.none⟩ = some (.slice (some ⟨b0, o0, Option.none⟩) n cc) := d0
                have e2 : w5.drew.frozen? ⟨w.heap.size, 0, Option.none⟩ = false := d2
                clear d0 d1 d2
                go_wp2_with fail
                go_roundw
                case rel =>
                  refine ⟨rest.drop x.length, L ++ [(i : Int)], some ⟨b0, o0, Option.none⟩, n - x.length, 0, (Blk.set_ (show Blk w5.drew w.heap.size 29 _ from HBL5.out) 0 _), by show n - x.length = _; rw [List.length_drop, ← hn.out], by have := HCK.out; omega, by rw [List.length_append]; simp; omega, by have h1 := (RdI.dropAll hrd.out hn.out hncc hxn).2 (by have := HCK.out; omega); rwa [show cc - x.length = 0 by have := HCK.out; omega] at h1, hto.out.next HCB.out HIX.out HXX.out HRP.out, ?_, ?_⟩
                  · exact ownsRow_setCell_below (show w5.drew.ownsRow _ _ _ _ _ _ from HG6.out.1) (by show w.heap.size < _; omega) _
                  · exact ((hbr.out.trans (HG6.out.2.1.mono (by omega))).drew).setCell (Nat.le_refl _) _
                case measure =>
                  have h1 := (Blk.set_ HBL5.out 0 (.slice (some ⟨b0, o0, Option.none⟩) (n - x.length) (0))).cell 0
                  have h2 := hblk.out.cell 0
                  simp only [List.set_cons_zero, List.getElem?_cons_zero] at h1 h2
                  have h3 : ((w5.setCell ⟨w.heap.size, 0, Option.none⟩ _).drew).cell? ⟨w.heap.size, 0, Option.none⟩ = _ := h1
                  rw [h3, h2]
                  show n - x.length < n
                  omega
              · skip
                go_wp2_with (at_builtin; refine GrowI.app rfl (.tmp 29) (.tmp 31) rfl (HG5.out m2) (by omega) rfl rfl ?_; intro v' w5 hG')
                have d0 := (hG'.2.1.cell (p := ⟨w.heap.size, 0, Option.none⟩) (by show w.heap.size < _; omega)).trans hcl
                have d1 := HC5.out w5 hG'.2.1
                have d2 := (hG'.2.1.frozen (p := ⟨w.heap.size, 0, Option.none⟩) (by show w.heap.size < _; omega)).trans (hblk.out.frozen 0)
                have hbl5 := hblk.out.below hG'.2.1 (by omega)
                have HBL5 := Lib.hid hbl5
                have HG6 := Lib.hid hG'
                clear hG' hbl5 hcl
                go_still_tail 7, (by kernel_rfl)
                change wpList _ _ _ _ _ w5.drew
                have e0 : w5.drew.cell? ⟨w.heap.size, 0, Option.none⟩ = some (.slice (some ⟨b0, o0, Option.none⟩) n cc) := d0
                have e2 : w5.drew.frozen? ⟨w.heap.size, 0, Option.none⟩ = false := d2
                clear d0 d1 d2
                go_wp2_with fail
                go_roundw
                case rel =>
                  refine ⟨rest.drop x.length, L ++ [(i : Int)], some ⟨b0, o0 + x.length, Option.none⟩, n - x.length, cc - x.length, (Blk.set_ (show Blk w5.drew w.heap.size 29 _ from HBL5.out) 0 _), by show n - x.length = _; rw [List.length_drop, ← hn.out], by omega, by rw [List.length_append]; simp; omega, (RdI.dropAll hrd.out hn.out hncc hxn).1, hto.out.next HCB.out HIX.out HXX.out HRP.out, ?_, ?_⟩
                  · exact ownsRow_setCell_below (show w5.drew.ownsRow _ _ _ _ _ _ from HG6.out.1) (by show w.heap.size < _; omega) _
                  · exact ((hbr.out.trans (HG6.out.2.1.mono (by omega))).drew).setCell (Nat.le_refl _) _
                case measure =>
                  have h1 := (Blk.set_ HBL5.out 0 (.slice (some ⟨b0, o0 + x.length, Option.none⟩) (n - x.length) (cc - x.length))).cell 0
                  have h2 := hblk.out.cell 0
                  simp only [List.set_cons_zero, List.getElem?_cons_zero] at h1 h2
                  have h3 : ((w5.setCell ⟨w.heap.size, 0, Option.none⟩ _).drew).cell? ⟨w.heap.size, 0, Option.none⟩ = _ := h1
                  rw [h3, h2]
                  show n - x.length < n
                  omega
    · have h180i : (180 : Int) < (ds.length : Int) := by omega
      have HX : Hid ((codeB code && digB ds) = false) := by show (_ && _) = false; unfold digB; rw [decide_eq_false h180, Bool.false_and, Bool.and_false]
      rw [readRes_bad HX.out]
      go_enter Try.func115, Try.ntmps115
      go_wp2_with (go_at_call 204; refine CC.out.mono ?_; rintro e w1 ⟨rfl, n1, rfl⟩)
      go_ret2
      exact retOwT _ (GrowI.nil (HBA.out.trans (bel_drewN _ _ _)))
end Go.Proofs.Ytabiobjcfopakaa
/- A list of rests in memory: each lies in old memory or is a row of the call's own; one more is put to the others; of the program and of the reference. -/
namespace Go.Proofs.Ytabiobjcfopakaa
open Go.RowKit
/-- The slice value u reads as xs, in memory below B, or in a block of ints. -/
def El (w : World) (B : Nat) (u : Value) (xs : List Int) : Prop :=
  RdI w w.heap.size u xs ∧ ∀ (b off n c : Nat), u = .slice (some ⟨b, off, Option.none⟩) n c → 0 < n → b < B ∨ ∃ cur fz, w.heap[b]? = some (.cells cur 3 fz)
theorem El.rd {w : World} {B : Nat} {u : Value} {xs : List Int} (h : El w B u xs) (_ : B ≤ w.heap.size) : RdI w w.heap.size u xs := h.1
theorem el_old {w : World} {B : Nat} {u : Value} {xs : List Int} (h : RdI w B u xs) (hB : B ≤ w.heap.size) : El w B u xs := by
  refine ⟨h.mono hB, fun b off n c hu hn => .inl ?_⟩
  obtain ⟨_, A, c', h1, _, _, h4⟩ := h
  rw [hu] at h1
  injection h1 with e1 e2 e3
  obtain ⟨b', off', hA, hb, _⟩ := h4 (by omega)
  rw [← e1] at hA
  cases hA
  exact hb
theorem el_own {w : World} {B lo : Nat} {u : Value} {xs : List Int} (h : OwI w lo w.heap.size u xs) : El w B u xs := by
  refine ⟨h.rd, fun b off n c hu _ => .inr ?_⟩
  rcases h.1.2 with ⟨rfl, _⟩ | ⟨g, cap, cur, rfl, _, hg, _⟩
  · cases hu
  · cases hu
    exact ⟨_, _, hg⟩
theorem El.below {w w' : World} {B : Nat} {u : Value} {xs : List Int} (h : El w B u xs) (_ : B ≤ w.heap.size) (hb : Below w.heap.size w w') : El w' B u xs := by
  refine ⟨(RdI.below h.1 hb (Nat.le_refl _)).mono hb.size, fun b off n c hu hn => ?_⟩
  rcases h.2 b off n c hu hn with h2 | ⟨cur, fz, h2⟩
  · exact .inl h2
  · exact .inr ⟨cur, fz, (hb.block b (Array.getElem?_eq_some_iff.1 h2).1).trans h2⟩
/-- Blocks other than rows of slices, and boxes of such, stand. -/
def Fr (w w' : World) : Prop := ∀ (k : Nat) (c : Array Value) (e : TypeId) (fz : Nat × Nat), w.heap[k]? = some (.cells c e fz) → e ≠ 29 → e ≠ 61 → w'.heap[k]? = some (.cells c e fz)
theorem Fr.refl (w : World) : Fr w w := fun _ _ _ _ h _ _ => h
theorem Fr.trans {a b c : World} (h : Fr a b) (g : Fr b c) : Fr a c := fun k x e fz hk h1 h2 => g k x e fz (h k x e fz hk h1 h2) h1 h2
theorem fr_below {w w' : World} (h : Below w.heap.size w w') : Fr w w' := fun k _ _ _ hk _ _ => (h.block k (Array.getElem?_eq_some_iff.1 hk).1).trans hk
theorem fr_drewN (w : World) (n : Nat) : Fr w (w.drewN n) := fun _ _ _ _ h _ _ => h
theorem Blk.fr {w w' : World} {g : Nat} {t : TypeId} {cs : List Value} (h : Blk w g t cs) (hf : Fr w w') (h1 : t ≠ 29) (h2 : t ≠ 61) : Blk w' g t cs := hf _ _ _ _ h h1 h2
theorem El.fr {a w w' : World} {B : Nat} {u : Value} {xs : List Int} (h : El w B u xs) (hb : Below B a w) (hb' : Below B a w') (hs : w.heap.size ≤ w'.heap.size) (hf : Fr w w') : El w' B u xs := by
  obtain ⟨⟨h0, A, c, h1, h2, h3, h4⟩, h5⟩ := h
  refine ⟨⟨h0, A, c, h1, h2, h3, fun hn => ?_⟩, fun b off n c hu hn => ?_⟩
  · obtain ⟨b, off, hA, hbl, hc⟩ := h4 hn
    refine ⟨b, off, hA, by omega, fun j u hu => ?_⟩
    rcases h5 b off _ _ (by rw [h1, hA]) hn with h6 | ⟨cur, fz, h6⟩
    · rw [hb'.cell (p := ⟨b, off + j, Option.none⟩) h6, ← hb.cell (p := ⟨b, off + j, Option.none⟩) h6]
      exact hc j u hu
    · have h7 := hf _ _ _ _ h6 (by decide) (by decide)
      rw [← hc j u hu, cell_of_row w b (off + j) cur _ fz h6, cell_of_row w' b (off + j) cur _ fz h7]
  · rcases h5 b off n c hu hn with h6 | ⟨cur, fz, h6⟩
    · exact .inl h6
    · exact .inr ⟨cur, fz, hf _ _ _ _ h6 (by decide) (by decide)⟩
/-- v is a row of rests, appended to since the world w; below block number B nothing has turned. -/
def GrowL (w : World) (B : Nat) (wr : World) (v : Value) (xss : List (List Int)) : Prop :=
  (∃ us : List Value, us.length = xss.length ∧ (∀ (i : Nat) (u : Value) (xs : List Int), us[i]? = some u → xss[i]? = some xs → El wr B u xs) ∧ wr.ownsRow B 29 1 v xss.length us) ∧ Below B w wr ∧ B ≤ wr.heap.size
theorem GrowL.start (w : World) {B : Nat} (hB : B = w.heap.size) : GrowL w B w (.slice Option.none 0 0) [] := by
  subst hB
  exact ⟨⟨[], rfl, fun i u xs hu _ => by simp at hu, World.ownsRow_nil _ _ _ _⟩, Below.refl _ _, Nat.le_refl _⟩
theorem GrowL.belowR {w wr wr' : World} {B : Nat} {v : Value} {xss : List (List Int)} (h : GrowL w B wr v xss) (hb : Below wr.heap.size wr wr') : GrowL w B wr' v xss := by
  obtain ⟨⟨us, h1, h2, h3⟩, h4, h5⟩ := h
  exact ⟨⟨us, h1, fun i u xs hu hx => (h2 i u xs hu hx).below h5 hb, owns_below h3 (fun k hk => (h3.lt k hk).2) hb (Nat.le_refl _)⟩, h4.trans (hb.mono h5), Nat.le_trans h5 hb.size⟩
theorem GrowL.form {w wr : World} {B : Nat} {v : Value} {xss : List (List Int)} (h : GrowL w B wr v xss) : ∃ A c, v = .slice A xss.length c ∧ xss.length ≤ 9223372036854775807 := by
  obtain ⟨⟨us, h1, h2, h3⟩, h4, h5⟩ := h
  obtain ⟨A, c, hv, _, hm⟩ := Rd.form (rd_of_owns h3 (fun k hk => (h3.lt k hk).2))
  exact ⟨A, c, hv, hm⟩
theorem GrowL.rd {w wr : World} {B : Nat} {v : Value} {xss : List (List Int)} (h : GrowL w B wr v xss) : RdII wr wr.heap.size v xss := by
  obtain ⟨⟨us, h1, h2, h3⟩, h4, h5⟩ := h
  exact ⟨us, ⟨h1, fun i u xs hu hx => (h2 i u xs hu hx).rd h5⟩, rd_of_owns h3 (fun k hk => (h3.lt k hk).2)⟩
theorem GrowL.at_ {w wr : World} {B : Nat} {v : Value} {xss : List (List Int)} (h : GrowL w B wr v xss) {k : Nat} (hk : k < xss.length) :
    ∃ b off c u xs, v = .slice (some ⟨b, off, Option.none⟩) xss.length c ∧ xss[k]? = some xs ∧ wr.cell? ⟨b, off + k, Option.none⟩ = some u ∧ El wr B u xs := by
  obtain ⟨⟨us, h1, h2, h3⟩, h4, h5⟩ := h
  obtain ⟨_, A, c, hv, _, _, h6⟩ := rd_of_owns h3 (fun k hk => (h3.lt k hk).2)
  obtain ⟨b, off, rfl, hb, hc⟩ := h6 (by omega)
  have hu : us[k]? = some us[k] := by simp [show k < us.length by omega]
  exact ⟨b, off, c, us[k], xss[k], hv, by simp [hk], hc k _ hu, h2 k _ _ hu (by simp [hk])⟩
theorem one_cellV (w : World) (u : Value) (t : TypeId) (j : Nat) (x : Value) (h : [u][j]? = some x) : (w.alloc (.cells #[u] t)).cell? ((⟨w.heap.size, 0, Option.none⟩ : Addr).add j) = some x := one_cell w u t j x h
/-- One rest more behind the row. -/
theorem GrowL.app {w wr : World} {B : Nat} {v : Value} {xss : List (List Int)} {ops : Array Oper} {rest : List Oper} {o : Oper} {a : Act} {Q : Exit → Act → World → Prop} {A : Option Addr} {n c : Nat} {xs : List Int} (hgd : o.guard = Option.none) (s x : Operand)
    (ho : o.op = .call { callee := .builtin .append, args := #[s, x], argTypes := #[61, 61] }) (hG : GrowL w B wr v xss) (hu : El wr B (.slice A n c) xs) (hlen : xss.length < 1048576)
    (hs : a.eval s = v) (hx : a.eval x = .slice (some ⟨wr.heap.size, 0, Option.none⟩) 1 1)
    (h : ∀ v' w', GrowL w B w' v' (xss ++ [xs]) → Fr wr w' → wr.heap.size ≤ w'.heap.size → (∀ g, g < wr.heap.size → v.ownBlock ≠ some g → w'.heap[g]? = wr.heap[g]?) → wpList Try.prog ops Q rest (a.put o.dst v') w') : wpList Try.prog ops Q (o :: rest) a (wr.alloc (.cells #[.slice A n c] 29)) := by
  obtain ⟨i, hi, hz0, hz1, hz2⟩ := info_parts info_ints
  obtain ⟨⟨us, h1, h2, h3⟩, h4, h5⟩ := hG
  refine wpList_append_own _ hgd s x 61 ho B 29 i (.slice Option.none 0 0) 1 24 Try.underlying61 hi hz0 hz1 hz2 rfl (by decide) v xss.length us hs (h3.alloc _) ⟨wr.heap.size, 0, Option.none⟩ 1 1 [.slice A n c] hx rfl
    (one_cell _ _ _) (by intro u hu; simp at hu; subst hu; rfl) (by unfold maxLen; omega) (by omega) (by simp; omega) ?_
  intro v' w' hown hgr _
  have hsz := hgr.size
  have hsz2 : wr.heap.size + 1 ≤ w'.heap.size := by simpa using hsz
  have hfar : ∀ g, g < wr.heap.size → v.ownBlock ≠ some g → w'.heap[g]? = wr.heap[g]? := fun g hg hne => (hgr.block g (by simp; omega) (fun e => hne e.symm)).trans (Below.heap_alloc wr _ g hg)
  have hfr : Fr wr w' := by
    intro k cs e fz hk e1 e2
    have hlt := (Array.getElem?_eq_some_iff.1 hk).1
    rw [hfar k hlt (fun hv => ?_)]
    · exact hk
    · rcases h3.2 with ⟨rfl, _⟩ | ⟨g, cap, cur, rfl, _, hg, _⟩
      · cases hv
      · cases hv
        rw [hk] at hg
        cases hg
        exact e1 rfl
  have hb' : Below B w w' := (h4.alloc h5 _).grown hgr (by simp; omega) (fun k hk => ((h3.alloc (.cells #[.slice A n c] 29)).lt k hk).1)
  refine h v' w' ⟨⟨us ++ [.slice A n c], by simp [h1], fun j u ys hju hjy => ?_, by simpa using hown⟩, hb', by omega⟩ hfr (by omega) hfar
  rcases Nat.lt_or_ge j us.length with hj | hj
  · rw [List.getElem?_append_left hj] at hju
    rw [List.getElem?_append_left (by omega)] at hjy
    exact (h2 j u ys hju hjy).fr h4 hb' (by omega) hfr
  · rw [List.getElem?_append_right hj] at hju
    rw [List.getElem?_append_right (by omega)] at hjy
    have hj0 : j - us.length = 0 := by
      rcases Nat.eq_zero_or_pos (j - us.length) with e | e
      · exact e
      · rw [List.getElem?_eq_none (by simp; omega)] at hju; cases hju
    rw [hj0] at hju
    rw [show j - xss.length = 0 by omega] at hjy
    simp at hju hjy
    subst hju hjy
    exact hu.fr h4 hb' (by omega) hfr
theorem RdI.dropLe {w : World} {hi c : Nat} {b off : Nat} {xs : List Int} (h : RdI w hi (.slice (some ⟨b, off, Option.none⟩) xs.length c) xs) {k : Nat} (hk : k ≤ xs.length) :
    RdI w hi (.slice (some ⟨b, off + k, Option.none⟩) (xs.length - k) (c - k)) (xs.drop k) := by
  rcases Nat.lt_or_ge k xs.length with hlt | hge
  · exact h.drop hlt
  · obtain rfl : k = xs.length := by omega
    obtain ⟨h0, A', c', hv, h1, h2, _⟩ := h
    cases hv
    refine ⟨by simp, some ⟨b, off + xs.length, Option.none⟩, c - xs.length, by rw [List.length_drop], by rw [List.length_drop]; omega, by omega, fun h => ?_⟩
    rw [List.length_drop] at h
    omega
theorem El.drop {w : World} {B : Nat} {c : Nat} {b off : Nat} {xs : List Int} (h : El w B (.slice (some ⟨b, off, Option.none⟩) xs.length c) xs) {k : Nat} (hk : k ≤ xs.length) :
    El w B (.slice (some ⟨b, off + k, Option.none⟩) (xs.length - k) (c - k)) (xs.drop k) := by
  refine ⟨h.1.dropLe hk, fun b' off' n' c' hu hn => ?_⟩
  cases hu
  exact h.2 b off xs.length c rfl (by omega)
theorem notIn_full {xss : List (List Int)} {r : List Int} (h : ∀ j, j < xss.length → xss[j]? ≠ some r) : r ∉ xss := by
  intro hm
  obtain ⟨j, hj⟩ := List.getElem?_of_mem hm
  exact h j (List.getElem?_eq_some_iff.1 hj).1 hj
set_option maxRecDepth 100000 in
set_option maxHeartbeats 1600000 in
theorem bkPut_any (a : World) (B : Nat) (xss : List (List Int)) (r : List Int) (v u : Value) (hi : Nat) (w : World) (h : GrowL a B w v xss) (g : RdI w hi u r) (hg : hi ≤ w.heap.size) (hlen : xss.length ≤ 160) (hr : r.length ≤ 1000) :
    Calls Try.prog 216 #[v, u] w fun e w' => ∃ v', e = .returned v' ∧ GrowL a B w' v' (putR xss r) ∧ Fr w w' ∧ w.heap.size ≤ w'.heap.size := by
  obtain ⟨A, c, rfl, hm⟩ := h.form
  obtain ⟨A', c', rfl, hc', hm'⟩ := Rd.form g
  have H := Lib.hid h
  have G := Lib.hid g
  clear h g
  go_enter Try.func216, Try.ntmps216
  go_wp2_with fail
  go_loopw [9] (fun i wr => ∃ k : Nat, k ≤ xss.length ∧ i = .int .i64 k ∧ Hid (∀ j, j < k → xss[j]? ≠ some r) ∧ ∃ n, wr = w.drewN n) (fun i _ => xss.length - (intOf i).toNat)
  case atStart => exact ⟨0, Nat.zero_le _, rfl, fun j hj => by omega, 0, rfl⟩
  case round =>
    obtain ⟨k, hk, rfl, hno, n, rfl⟩ := hrel
    by_cases hlt : k < xss.length
    · obtain ⟨b1, o1, c1, u1, xs, hv, hx, hcell1, hel⟩ := H.out.at_ hlt
      injection hv with hv1 hv2 hv3
      subst hv1
      obtain ⟨A2, c2, rfl, hc2, hm2⟩ := Rd.form (hel.rd H.out.2.2)
      have HX := Lib.hid hx
      have HE := Lib.hid (hel.rd H.out.2.2)
      clear hv2 hv3 hx hel
      have cS := l1Same_any xs r (.slice A2 xs.length c2) (.slice A' r.length c') w.heap.size hi (w.drewN n) (show RdI (w.drewN n) _ _ _ from HE.out) (show RdI (w.drewN n) _ _ _ from G.out)
      by_cases he : xs = r
      · rw [decide_eq_true he] at cS
        have CS := Lib.hid cS
        have HM : Hid (r ∈ xss) := by show r ∈ xss; rw [← he]; exact List.mem_of_getElem? HX.out
        clear cS he
        go_wp2_with fail
        refine CS.out.mono ?_
        rintro e w2 ⟨rfl, m, rfl⟩
        go_wp2_with fail
        go_ret
        refine ⟨_, rfl, ?_, fr_drewN _ _, Nat.le_refl _⟩
        rw [putR_old HM.out]
        exact H.out.belowR (bel_drewN _ _ _)
      · rw [decide_eq_false he] at cS
        have CS := Lib.hid cS
        have HN : Hid (xss[k]? ≠ some r) := by show _ ≠ _; rw [HX.out]; intro e; exact he (Option.some.inj e)
        clear cS he
        go_wp2_with fail
        refine CS.out.mono ?_
        rintro e w2 ⟨rfl, m, rfl⟩
        go_wp2_with fail
        go_roundw
        case rel => exact ⟨k + 1, by omega, by go_num, fun j hj => by
          by_cases e : j = k
          · subst e; exact HN.out
          · exact hno.out j (by omega), n + m, by first | rfl | rw [World.drewN_drewN]⟩
        case measure => (simp [intOf]; try omega)
    · obtain rfl : k = xss.length := by omega
      have HNI := Lib.hid (notIn_full hno.out)
      have cO := l1Own_any r (.slice A' r.length c') hi (w.drewN n) (show RdI (w.drewN n) _ _ _ from G.out) hg (by omega)
      have CO := Lib.hid cO
      clear cO
      go_wp2_with fail
      refine CO.out.mono ?_
      rintro e w2 ⟨q, rfl, hq, hb2⟩
      obtain ⟨Aq, cq, rfl, hqm⟩ := hq.form
      have HG2 := Lib.hid (H.out.belowR ((bel_drewN _ w n).trans hb2))
      have HE2 : Hid (El w2 B (.slice Aq r.length cq) r) := el_own hq
      have HF2 := Lib.hid ((fr_drewN w n).trans (fr_below hb2))
      have hs2 : w.heap.size ≤ w2.heap.size := hb2.size
      clear hq hb2
      go_wp2_with (at_builtin; refine GrowL.app rfl (.tmp 18) (.tmp 21) rfl HG2.out HE2.out (by omega) rfl rfl ?_; intro v' w3 hG' hF' hs' _)
      go_ret
      refine ⟨_, rfl, ?_, HF2.out.trans hF', by omega⟩
      rw [putR_new HNI.out]
      exact hG'
theorem readOneWay11_any (xs ys : List Int) (u s : Value) (B hi hj : Nat) (w : World) (h : RdI w hi u xs) (g : RdI w hj s ys) (hc : w.cell? ⟨B, 0, Option.none⟩ = some s) :
    Calls Try.prog 220 #[u, .pointer (some ⟨B, 0, Option.none⟩)] w fun e w' => e = .returned (.bool (decide (xs = ys))) ∧ ∃ n, w' = w.drewN n := by
  obtain ⟨A, c, rfl, hc1, hm⟩ := Rd.form h
  obtain ⟨A', c', rfl, hc2, hm'⟩ := Rd.form g
  have H := Lib.hid h
  have G := Lib.hid g
  clear h g
  go_enter Try.func220, Try.ntmps220
  go_wp2_with fail
  refine (slicesEqual_any xs ys _ _ hi hj _ H.out G.out).mono ?_
  rintro e w' ⟨rfl, n, rfl⟩
  go_wp2_with fail
  go_ret
  exact ⟨rfl, n, rfl⟩
theorem containsII_any (xss : List (List Int)) (v : Value) (hi : Nat) (w : World) (g : Nat) (lb : Array Value) (p : List Int → Bool) (h : RdII w hi v xss) (hp : PredI g lb hi p w)
    (eg : ∀ args w, (callFunc g args).run Try.prog w = .ok (.enter g args) w) :
    Calls Try.prog 219 #[v, .func (.func g) #[] lb] w fun e w' => e = .returned (.bool (xss.any p)) ∧ ∃ n, w' = w.drewN n := by
  have cI := indexII_any xss v hi w g lb p h hp eg
  cases hf : xss.findIdx? p with
  | none =>
    rw [hf] at cI
    simp only [ixI] at cI
    have hno : xss.any p = false := by
      rw [List.any_eq_false]
      intro x hx
      rw [List.findIdx?_eq_none_iff] at hf
      simpa using hf x hx
    rw [hno]
    have CI := Lib.hid cI
    clear cI hf hno
    go_enter Try.func219, Try.ntmps219
    go_wp2_with fail
    refine CI.out.mono ?_
    rintro e w' ⟨rfl, n, rfl⟩
    go_wp2_with fail
    go_ret
    exact ⟨rfl, n, rfl⟩
  | some i =>
    rw [hf] at cI
    simp only [ixI] at cI
    have hyes : xss.any p = true := by
      rw [List.any_eq_true]
      rw [List.findIdx?_eq_some_iff_getElem] at hf
      obtain ⟨hl, h1, _⟩ := hf
      exact ⟨xss[i], List.getElem_mem hl, h1⟩
    rw [hyes]
    have hi0 : (0 : Int) ≤ (i : Int) := by omega
    have CI := Lib.hid cI
    clear cI hf hyes
    go_enter Try.func219, Try.ntmps219
    go_wp2_with fail
    refine CI.out.mono ?_
    rintro e w' ⟨rfl, n, rfl⟩
    go_wp2_with fail
    go_ret
    exact ⟨rfl, n, rfl⟩
/-- The box of the rests. -/
def BoxL (a : World) (B : Nat) (w : World) (L : Nat) (xss : List (List Int)) : Prop := ∃ v, Blk w L 61 [v] ∧ GrowL a B w v xss ∧ B ≤ L
theorem BoxL.belowR {a w w' : World} {B L : Nat} {xss : List (List Int)} (h : BoxL a B w L xss) (hb : Below w.heap.size w w') : BoxL a B w' L xss := by
  obtain ⟨v, h1, h2, h3⟩ := h
  exact ⟨v, h1.below hb h1.lt, h2.belowR hb, h3⟩
set_option maxRecDepth 100000 in
set_option maxHeartbeats 1600000 in
theorem readOneWay1_any (a : World) (B L : Nat) (xss : List (List Int)) (r : List Int) (u : Value) (w : World) (h : BoxL a B w L xss) (g : El w B u r) (hlen : xss.length ≤ 160) (hr : r.length ≤ 1000) :
    Calls Try.prog 218 #[u, .pointer (some ⟨L, 0, Option.none⟩)] w fun e w' => (∃ z, e = .returned z) ∧ BoxL a B w' L (putR xss r) ∧ Fr w w' ∧ w.heap.size ≤ w'.heap.size := by
  obtain ⟨v, hbx, hG, hBL⟩ := h
  obtain ⟨A, c, rfl, hm⟩ := hG.form
  obtain ⟨A', c', rfl, hc', hm'⟩ := Rd.form g.1
  have hba : Below w.heap.size w (w.alloc (.cells #[.slice A' r.length c'] 29)) := (Below.refl _ _).alloc (Nat.le_refl _) _
  have hLlt := hbx.lt
  have hBw := hG.2.2
  have HBX : Hid (Blk (w.alloc (.cells #[.slice A' r.length c'] 29)) L 61 [.slice A xss.length c]) := hbx.alloc _
  have HG1 : Hid (GrowL a B (w.alloc (.cells #[.slice A' r.length c'] 29)) (.slice A xss.length c) xss) := hG.belowR hba
  have HR1 : Hid (El (w.alloc (.cells #[.slice A' r.length c'] 29)) B (.slice A' r.length c') r) := g.below hBw hba
  have HF1 := Lib.hid (fr_below hba)
  have hcr : (w.alloc (.cells #[.slice A' r.length c'] 29)).cell? ⟨w.heap.size, 0, Option.none⟩ = some (.slice A' r.length c') := (Blk.new w 29 #[.slice A' r.length c']).cell 0
  have HCR := Lib.hid hcr
  have hpred : PredI 220 #[.pointer (some ⟨w.heap.size, 0, Option.none⟩)] (w.alloc (.cells #[.slice A' r.length c'] 29)).heap.size (fun x => decide (x = r)) (w.alloc (.cells #[.slice A' r.length c'] 29)) := by
    intro n x u hu
    exact readOneWay11_any x r u (.slice A' r.length c') w.heap.size _ (w.alloc (.cells #[.slice A' r.length c'] 29)).heap.size _ hu (show RdI ((w.alloc (.cells #[.slice A' r.length c'] 29)).drewN n) _ _ _ from HR1.out.1) hcr
  have cC := containsII_any xss (.slice A xss.length c) _ _ _ _ _ HG1.out.rd hpred (enters_of Try.func220 (by kernel_rfl) rfl)
  have hcb := HBX.out.cell 0
  clear hbx hG g hba hpred hcr
  by_cases hmem : r ∈ xss
  · rw [show xss.any (fun x => decide (x = r)) = true by rw [List.any_eq_true]; exact ⟨r, hmem, by simp⟩] at cC
    have CC := Lib.hid cC
    have HM := Lib.hid hmem
    clear cC hmem
    go_enter Try.func218, Try.ntmps218
    go_wp2_with fail
    refine CC.out.mono ?_
    rintro e w2 ⟨rfl, n, rfl⟩
    go_wp2_with fail
    refine bodyPost_end (results_none Try.results218 _ _ _) rfl ?_
    refine ⟨⟨_, rfl⟩, ⟨.slice A xss.length c, HBX.out, ?_, hBL⟩, HF1.out.trans (fr_drewN _ _), by simp⟩
    rw [putR_old HM.out]
    exact HG1.out.belowR (bel_drewN _ _ _)
  · rw [show xss.any (fun x => decide (x = r)) = false by rw [List.any_eq_false]; intro x hx; simp only [decide_eq_true_eq]; rintro rfl; exact hmem hx] at cC
    have CC := Lib.hid cC
    have HM := Lib.hid hmem
    clear cC hmem
    go_enter Try.func218, Try.ntmps218
    go_wp2_with fail
    refine CC.out.mono ?_
    rintro e w2 ⟨rfl, n, rfl⟩
    have hcb2 : ((w.alloc (.cells #[.slice A' r.length c'] 29)).drewN n).cell? ⟨L, 0, Option.none⟩ = some (.slice A xss.length c) := hcb
    have hcr2 : ((w.alloc (.cells #[.slice A' r.length c'] 29)).drewN n).cell? ⟨w.heap.size, 0, Option.none⟩ = some (.slice A' r.length c') := HCR.out
    have HG2 : Hid (GrowL a B ((w.alloc (.cells #[.slice A' r.length c'] 29)).drewN n) (.slice A xss.length c) xss) := HG1.out.belowR (bel_drewN _ _ _)
    have HE2 : Hid (El ((w.alloc (.cells #[.slice A' r.length c'] 29)).drewN n) B (.slice A' r.length c') r) := HR1.out.below (by simp; omega) (bel_drewN _ _ _)
    have HBX2 : Hid (Blk ((w.alloc (.cells #[.slice A' r.length c'] 29)).drewN n) L 61 [.slice A xss.length c]) := HBX.out
    have HF2 := Lib.hid (HF1.out.trans (fr_drewN _ n))
    have hs2 : w.heap.size + 1 ≤ ((w.alloc (.cells #[.slice A' r.length c'] 29)).drewN n).heap.size := by show _ ≤ (w.alloc _).heap.size; simp
    clear hcb HCR HBX HG1 HR1 HF1
    generalize ((w.alloc (.cells #[.slice A' r.length c'] 29)).drewN n) = wq at hcb2 hcr2 HG2 HE2 HBX2 HF2 hs2 ⊢
    have hne : (Value.slice A xss.length c).ownBlock ≠ some L := by
      intro e
      obtain ⟨⟨us, _, _, h3⟩, _, _⟩ := HG2.out
      rcases h3.2 with ⟨hn, _⟩ | ⟨g, cap, cur, hv, _, hg, _⟩
      · rw [hn] at e; cases e
      · rw [hv] at e
        cases e
        have := HBX2.out
        unfold Blk at this
        rw [hg] at this
        simp at this
    have HNE := Lib.hid hne
    clear hne
    go_wp2_with (at_builtin; refine GrowL.app rfl (.tmp 7) (.tmp 9) rfl HG2.out HE2.out (by omega) rfl rfl ?_; intro v' w3 hG' hF' hs' hfar; obtain ⟨Av, cv, hv', _⟩ := hG'.form; rw [List.length_append, List.length_singleton] at hv'; subst hv'; have hk3 : Blk w3 L 61 [.slice A xss.length c] := (hfar L (by omega) HNE.out).trans HBX2.out; have hc3 := hk3.cell 0; have hf3 := hk3.frozen 0; have HG3 := Lib.hid hG'; have HK3 := Lib.hid hk3; have HF3 := Lib.hid hF'; clear hG' hk3 hF' hfar)
    refine bodyPost_end (results_none Try.results218 _ _ _) rfl ?_
    have hset : Fr w3 (w3.setCell ⟨L, 0, Option.none⟩ (.slice Av (xss.length + 1) cv)) := by
      intro k cs e fz hk e1 e2
      rw [Below.heap_setCell _ _ _ _ (fun he => ?_)]
      · exact hk
      · have := HK3.out
        unfold Blk at this
        rw [show L = k from he.symm] at this
        rw [hk] at this
        cases this
        exact e2 rfl
    refine ⟨⟨_, rfl⟩, ⟨_, HK3.out.set_ 0 (.slice Av (xss.length + 1) cv), ?_, hBL⟩, (HF2.out.trans HF3.out).trans hset, by show w.heap.size ≤ (w3.setCell _ _).heap.size; simp [World.setCell]; omega⟩
    rw [putR_new HM.out]
    obtain ⟨⟨us, h1, h2, h3⟩, h4, h5⟩ := HG3.out
    have hb' := h4.setCell (p := ⟨L, 0, Option.none⟩) hBL (.slice Av (xss.length + 1) cv)
    have hsz' : (w3.setCell ⟨L, 0, Option.none⟩ (.slice Av (xss.length + 1) cv)).heap.size = w3.heap.size := by simp [World.setCell]
    refine ⟨⟨us, h1, fun i u ys hu hy => (h2 i u ys hu hy).fr h4 hb' (by omega) hset, ⟨h3.1, ?_⟩⟩, hb', by omega⟩
    rcases h3.2 with hn | ⟨g, cap, cur, hvv, hl, hg, rest⟩
    · exact .inl hn
    · refine .inr ⟨g, cap, cur, hvv, hl, (Below.heap_setCell _ _ _ _ (fun he => ?_)).trans hg, rest⟩
      have := HK3.out
      unfold Blk at this
      rw [show L = g from he.symm] at this
      rw [hg] at this
      simp at this
end Go.Proofs.Ytabiobjcfopakaa
/- Contracts: the order of the weights, by the reference. -/
namespace Go.Proofs.Ytabiobjcfopakaa
open Go.RowKit
/-- A slice of numbers is appended to a row of the call's own: the run. -/
theorem run_appR {w : World} {B hi : Nat} {v u : Value} {xs ys : List Int} (ty : TypeId) (hown : w.ownsRow B 3 1 v xs.length (ints xs)) (hB : B ≤ w.heap.size) (hR : RdI w hi u ys) (hlen : xs.length + ys.length ≤ 1048576) :
    ∃ v' w', (Builtin.append_ #[29, 29] ty #[v, u]).run Try.prog w = .ok v' w' ∧ w'.ownsRow B 3 1 v' (xs ++ ys).length (ints (xs ++ ys)) ∧ w.grownBy w' v.ownBlock := by
  obtain ⟨i, hi0, hz0, hz1, hz2⟩ := info_parts info_int
  obtain ⟨hl, A, c, rfl, hc1, hc2, hcell⟩ := hR
  rcases A with _ | ad
  · have h0 : ys = [] := by
      rcases Nat.eq_zero_or_pos ys.length with h | h
      · exact List.eq_nil_of_length_eq_zero h
      · obtain ⟨b, off, e, _⟩ := hcell h; cases e
    subst h0
    exact ⟨v, w, run_append_nil B 29 ty 3 i 1 Try.underlying29 hi0 v xs.length (ints xs) hown c, by simpa using hown, World.grownBy.refl _ _⟩
  · have hnews : ∀ j u, (ints ys)[j]? = some u → w.cell? (ad.add j) = some u := by
      intro j u hj
      rcases Nat.eq_zero_or_pos ys.length with h | h
      · rw [List.eq_nil_of_length_eq_zero h] at hj; simp at hj
      · obtain ⟨b, off, e, _, hcc⟩ := hcell h
        cases e
        rw [Go.WideShapes.add_plain]; exact hcc j u hj
    obtain ⟨v', w', hr, ho, hg, _⟩ := run_append_own (P := Try.prog) w B 29 ty 3 i (.int .i64 0) 1 8 Try.underlying29 hi0 hz0 hz1 hz2 rfl (by decide) v xs.length (ints xs) hown ad ys.length c (ints ys) (by simp) hnews
      (by intro u hu; simp at hu; obtain ⟨z, _, rfl⟩ := hu; rfl) (by unfold maxLen; omega) (by omega) hB
    exact ⟨v', w', hr, by simpa [ints] using ho, hg⟩
/-- The same at a step of a region that draws its order. -/
theorem step_appR {w0 w : World} {B hi : Nat} {v u : Value} {xs ys : List Int} {ops : Array Oper} {o : Oper} {a : Act} {K : Act → World → Prop} {Q : Exit → Act → World → Prop} {E : Prop} (hgd : o.guard = Option.none) (s x : Operand)
    (ho : o.op = .call { callee := .builtin .append, args := #[s, x], argTypes := #[29, 29] }) (hG : GrowI w0 B w v xs) (hR : RdI w hi u ys) (hlen : xs.length + ys.length ≤ 1048576) (hs : a.eval s = v) (hx : a.eval x = u)
    (h : ∀ v' w', GrowI w0 B w' v' (xs ++ ys) → K (a.put o.dst v') w') : if Region.wanted o (yielded ops a.tmps) = true then Oper.wp Try.prog o a w K Q else E := by
  have hw : Region.wanted o (yielded ops a.tmps) = true := by simp [Region.wanted, hgd]
  rw [if_pos hw]
  obtain ⟨v', w', hr, h1, h2⟩ := run_appR o.type hG.1 hG.2.2 hR hlen
  unfold Oper.wp execOp
  simp only [ho, resolve, invoke, builtin, Sem.run_bind, Sem.run_pure, Result.andThen_ok, List.map_toArray, List.map_cons, List.map_nil, hs, hx, hr]
  exact h v' w' ⟨h1, hG.2.1.grown h2 hG.2.2 (fun k hk => (hG.1.lt k hk).1), Nat.le_trans hG.2.2 h2.size⟩
theorem growI_own {w w1 w2 : World} {v : Value} {xs : List Int} (hb1 : Below w.heap.size w w1) (ho : OwI w2 w1.heap.size w2.heap.size v xs) (hb : Below w1.heap.size w1 w2) : GrowI w w.heap.size w2 v xs := by
  have hs := hb1.size
  have hs2 := hb.size
  refine ⟨⟨ho.1.1, ?_⟩, hb1.trans (hb.mono hs), by omega⟩
  rcases ho.1.2 with hn | ⟨g, cap, cur, e, hl, rest⟩
  · exact .inl hn
  · exact .inr ⟨g, cap, cur, e, by omega, rest⟩
theorem one_rd (w : World) (x : Int) : RdI (w.alloc (.cells #[.int .i64 x] 3)) (w.heap.size + 1) (.slice (some ⟨w.heap.size, 0, Option.none⟩) 1 1) [x] := by
  refine ⟨rfl, _, 1, rfl, Nat.le_refl _, by decide, fun _ => ⟨w.heap.size, 0, rfl, by omega, fun j u hj => ?_⟩⟩
  match j, hj with
  | 0, hj =>
    simp at hj; subst hj
    exact (Blk.new w 3 #[.int .i64 x]).cell 0
theorem waysI_len (L : List Nat) : (waysI L).length = L.length := by unfold waysI; simp
theorem RdI.takeLe {w : World} {hi c : Nat} {A : Option Addr} {xs : List Int} (h : RdI w hi (.slice A xs.length c) xs) {m : Nat} (hm : m ≤ xs.length) : RdI w hi (.slice A m c) (xs.take m) := by
  obtain ⟨_, A', c', hv, h1, h2, h3⟩ := h
  cases hv
  have hl : (xs.take m).length = m := by rw [List.length_take]; omega
  refine ⟨by simp, A, c, by rw [hl], by rw [hl]; omega, h2, fun hp => ?_⟩
  rw [hl] at hp
  obtain ⟨b, off, e, hb, hc⟩ := h3 (by omega)
  refine ⟨b, off, e, hb, fun j u hj => hc j u ?_⟩
  unfold ints at hj ⊢
  rw [List.map_take, List.getElem?_take] at hj
  split at hj
  · exact hj
  · cases hj
theorem order_next {ls : List Int} {L : List Nat} {k m : Nat} (hL : L = orderBy (pWei ls) k) (hm : m ≤ k) (hB : ∀ y ∈ L.drop m, pWei ls k y = true) (hA : ¬ (0 < m ∧ ∃ y, L[m - 1]? = some y ∧ pWei ls k y = true)) : (waysI (L.take m) ++ [(k : Int)]) ++ waysI (L.drop m) = waysI (orderBy (pWei ls) (k + 1)) := by
  subst hL
  have hl := orderBy_len (pWei ls) k
  rw [orderBy_succ, insBy_at (j := m) (by omega) hB]
  · unfold waysI; simp
  · rcases Nat.eq_zero_or_pos m with h | h
    · exact .inl h
    · right
      have hy : (orderBy (pWei ls) k)[m - 1]? = some (orderBy (pWei ls) k)[m - 1] := List.getElem?_eq_getElem (by omega)
      refine ⟨_, hy, ?_⟩
      cases e : pWei ls k (orderBy (pWei ls) k)[m - 1]
      · rfl
      · exact absurd ⟨h, _, hy, e⟩ hA
set_option maxRecDepth 100000 in
set_option maxHeartbeats 8000000 in
theorem cmOrder_any (ls : List Int) (v : Value) (hi : Nat) (w : World) (h : RdI w hi v ls) (hh : hi ≤ w.heap.size) (hn : ls.length ≤ 20) : Calls Try.prog 230 #[v] w fun e w' => ∃ u, e = .returned u ∧ RdI w' w'.heap.size u (waysI (orderBy (pWei ls) ls.length)) ∧ Below w.heap.size w w' := by
  obtain ⟨A, c, rfl, hc, hm⟩ := Rd.form h
  have H := Lib.hid h
  clear h
  go_enter Try.func230, Try.ntmps230
  go_wp2
  go_loopw [3, 9] (fun o i wr => ∃ (k : Nat) (A2 : Option Addr) (c2 : Nat), k ≤ ls.length ∧ o = .slice A2 k c2 ∧ i = .int .i64 (k : Int) ∧ k ≤ c2 ∧ (k = 0 → A2 = Option.none ∧ c2 = 0) ∧ Hid (RdI wr wr.heap.size (.slice A2 k c2) (waysI (orderBy (pWei ls) k))) ∧ Hid (Below w.heap.size w wr)) (fun _ i _ => ls.length - (intOf i).toNat)
  case atStart => exact ⟨0, Option.none, 0, Nat.zero_le _, rfl, rfl, Nat.le_refl _, fun _ => ⟨rfl, rfl⟩, (owI_nil w 0 w.heap.size).rd, Below.refl _ _⟩
  case round =>
    obtain ⟨k, A2, c2, hk, rfl, rfl, hkc, hz0, hrd, hbl⟩ := hrel
    by_cases hlt : k < ls.length
    · obtain ⟨b1, o1, c1, hv, hb1h, hcl⟩ := RdI.getD (RdI.below H.out hbl.out hh) hlt
      cases hv
      obtain ⟨x, hx⟩ : ∃ x, x = ls.getD k 0 := ⟨_, rfl⟩
      rw [← hx] at hcl
      have HX := Lib.hid hx
      obtain ⟨L, hL⟩ : ∃ L, L = orderBy (pWei ls) k := ⟨_, rfl⟩
      have hLl : L.length = k := by rw [hL, orderBy_len]
      rw [← hL] at hrd
      have HLM : Hid (∀ i ∈ L, i < k) := by show ∀ i ∈ L, i < k; rw [hL]; exact fun i hi => orderBy_lt hi
      have HL := Lib.hid hL
      have HLL := Lib.hid hLl
      have HWL : Hid ((waysI L).length = k) := by show _ = _; rw [waysI_len, hLl]
      clear hx hL hLl
      rename World => wo
      go_wp2_with fail
      go_loopw [6] (fun q wr => ∃ m : Nat, m ≤ k ∧ q = .int .i64 (m : Int) ∧ Hid (∀ y ∈ L.drop m, pWei ls k y = true) ∧ wo = wr) (fun q _ => (intOf q).toNat)
      case atStart => exact ⟨k, Nat.le_refl _, rfl, by show ∀ y ∈ L.drop k, pWei ls k y = true; intro y hy; rw [List.drop_of_length_le (by rw [HLL.out]; exact Nat.le_refl _)] at hy; simp at hy, rfl⟩
      case round =>
        obtain ⟨m, hmk, rfl, hall, rfl⟩ := hrel
        have hmi : (m : Int) ≤ (c2 : Int) := by omega
        have hmki : (m : Int) ≤ (k : Int) := by omega
        have HTL : Hid ((waysI L).take m = waysI (L.take m) ∧ (waysI L).drop m = waysI (L.drop m)) := by show _ ∧ _; unfold waysI; rw [List.map_take, List.map_drop]; exact ⟨rfl, rfl⟩
        rcases Nat.eq_zero_or_pos k with hk0 | hk0
        · obtain ⟨rfl, rfl⟩ := hz0 hk0
          obtain rfl : m = 0 := by omega
          subst hk0
          have HNIL : Hid (∀ w' : World, RdI w' wo.heap.size (.slice Option.none 0 0) []) := fun w' => (owI_nil w' 0 wo.heap.size).rd
          have hb1 : Below wo.heap.size wo wo.drew := (Below.refl _ _).drew
          have hb2 : Below wo.heap.size wo (wo.drew.alloc (.cells #[.int .i64 0] 3)) := hb1.alloc (Nat.le_refl _) _
          have HON := one_rd wo.drew 0
          have HN : Hid (([] ++ [(0 : Int)]) ++ [] = waysI (orderBy (pWei ls) (0 + 1))) := rfl
          clear hz0
          go_wp2_with fail
          go_region_law (first
            | ((refine step_appR (by rfl) (.tmp 35) (.tmp 37) (by rfl) ((growI_own hb1 hu5 hb5).belowR ((Below.refl _ _).alloc (Nat.le_refl _) _)) (one_rd w5 0) (by simp) (by rfl) (by rfl) ?_; intro v6 w6 hg6))
            | ((refine step_appR (by rfl) (.tmp 35) (.tmp 37) (by rfl) (growI_own hb2 hu5 hb5) (RdI.below HON hb5 (by simp)) (by simp) (by rfl) (by rfl) ?_; intro v6 w6 hg6))
            | ((refine step_appR (by rfl) (.tmp 38) (.tmp 41) (by rfl) hg6 (HNIL.out _) (by simp) (by rfl) (by rfl) ?_; intro v7 w7 hg7))
            | ((go_simp; go_at_call 222; refine (l1Own_any [] _ wo.heap.size _ (HNIL.out _) (by simp) (by simp)).mono ?_; rintro e w5 ⟨v5, rfl, hu5, hb5⟩)))
          all_goals
            have HG7 : Hid (GrowI wo wo.heap.size w7 v7 (waysI (orderBy (pWei ls) (0 + 1)))) := by show GrowI _ _ _ _ _; rw [← HN.out]; exact hg7
            obtain ⟨A7, c7, rfl, hc7, _⟩ := Rd.form HG7.out.own.rd
            have hl7 : (waysI (orderBy (pWei ls) (0 + 1))).length = 0 + 1 := by rw [waysI_len, orderBy_len]
            rw [hl7] at hc7 HG7 ⊢
            clear hg7 hl7
            go_wp2_with fail
            go_roundw
            case rel => exact ⟨0 + 1, A7, c7, by omega, rfl, by go_num, hc7, fun e => by omega, HG7.out.own.rd, hbl.out.trans (HG7.out.2.1.mono (by have := hbl.out.size; omega))⟩
            case measure => (simp [intOf]; try omega)
        · obtain ⟨b2, o2, rfl⟩ : ∃ b2 o2, A2 = some ⟨b2, o2, Option.none⟩ := by
            obtain ⟨_, A', c', hv, _, _, h3⟩ := hrd.out
            cases hv
            obtain ⟨b, off, e, _⟩ := h3 (by rw [HWL.out]; exact hk0)
            exact ⟨b, off, e⟩
          by_cases hgo : 0 < m ∧ ∃ y, L[m - 1]? = some y ∧ pWei ls k y = true
          · obtain ⟨h0, y, hy, hp⟩ := hgo
            obtain ⟨s, rfl⟩ : ∃ s, m = s + 1 := ⟨m - 1, by omega⟩
            rw [Nat.add_sub_cancel] at hy
            have hyk := HLM.out y (List.mem_of_getElem? hy)
            obtain ⟨_, _, _, hv, _, hcy⟩ := RdI.getD (by have := hrd.out; rw [← HWL.out] at this; exact this) (k := s) (by rw [HWL.out]; omega)
            cases hv
            rw [show (waysI L).getD s 0 = (y : Int) by unfold waysI; rw [List.getD_eq_getElem?_getD, List.getElem?_map, hy]; rfl] at hcy
            obtain ⟨_, _, _, hv, _, hcw⟩ := RdI.getD (RdI.below H.out hbl.out hh) (k := y) (by omega)
            cases hv
            obtain ⟨z, hz⟩ : ∃ z, z = ls.getD y 0 := ⟨_, rfl⟩
            rw [← hz] at hcw
            have hzx : decide (z < x) = true := by
              unfold pWei at hp
              rw [← HX.out, ← hz] at hp
              exact hp
            have hyl : y < ls.length := by omega
            have HNX := Lib.hid (insL_next (p := pWei ls) hy hp hall.out)
            have hsk : (s : Int) < (k : Int) := by omega
            clear hz hy hp h0
            go_wp2_with fail
            go_roundw
            case rel => exact ⟨s, by omega, by go_num, HNX.out, by trivial⟩
            case measure => (simp [intOf]; try omega)
          · rcases Nat.eq_zero_or_pos m with hm0 | hm0
            · have hgd : decide (0 < m) = false := decide_eq_false (by omega)
              clear hm0

              have HTK : Hid (∀ w', Below wo.heap.size wo w' → RdI w' wo.heap.size (.slice (some ⟨b2, o2, Option.none⟩) m c2) (waysI (L.take m))) := by
                intro w' hb
                have h1 := RdI.takeLe (m := m) (by have := hrd.out; rw [← HWL.out] at this; exact this) (by rw [HWL.out]; exact hmk)
                rw [HTL.out.1] at h1
                exact RdI.below h1 hb (Nat.le_refl _)
              have HDR : Hid (∀ w', Below wo.heap.size wo w' → RdI w' wo.heap.size (.slice (if c2 = m then some ⟨b2, o2, Option.none⟩ else some ⟨b2, o2 + m, Option.none⟩) (k - m) (c2 - m)) (waysI (L.drop m))) := by
                intro w' hb
                have h1 := RdI.dropLe (k := m) (by have := hrd.out; rw [← HWL.out] at this; exact this) (by rw [HWL.out]; exact hmk)
                rw [HTL.out.2, HWL.out] at h1
                have h2 := RdI.below h1 hb (Nat.le_refl _)
                split
                · rename_i e
                  have hz : (waysI (L.drop m)).length = 0 := by rw [waysI_len, List.length_drop, HLL.out]; omega
                  obtain ⟨_, A', c', hv, h3, h4, _⟩ := h2
                  injection hv with _ _ e2
                  rw [← e2] at h3 h4
                  rw [show k - m = (waysI (L.drop m)).length by omega]
                  exact ⟨by simp, _, _, rfl, by omega, h4, fun hp => by omega⟩
                · exact h2
              have hll : (waysI (L.take m)).length = m := by rw [waysI_len, List.length_take, HLL.out]; omega
              have HLT := Lib.hid hll
              have hb1 : Below wo.heap.size wo wo.drew := (Below.refl _ _).drew
              have hb2 : Below wo.heap.size wo (wo.drew.alloc (.cells #[.int .i64 (k : Int)] 3)) := hb1.alloc (Nat.le_refl _) _
              have HN := Lib.hid (order_next HL.out hmk hall.out hgo)
              have HON := one_rd wo.drew (k : Int)
              clear hgo hll
              go_wp2_with fail
              go_region_law (first
                | ((refine step_appR (by rfl) (.tmp 35) (.tmp 37) (by rfl) ((growI_own hb1 hu5 hb5).belowR ((Below.refl _ _).alloc (Nat.le_refl _) _)) (one_rd w5 (k : Int)) (by rw [HLT.out]; simp; omega) (by rfl) (by rfl) ?_; intro v6 w6 hg6))
                | ((refine step_appR (by rfl) (.tmp 35) (.tmp 37) (by rfl) (growI_own hb2 hu5 hb5) (RdI.below HON hb5 (by simp)) (by rw [HLT.out]; simp; omega) (by rfl) (by rfl) ?_; intro v6 w6 hg6))
                | ((refine step_appR (by rfl) (.tmp 38) (.tmp 41) (by rfl) hg6 (HDR.out _ hg6.2.1) (by rw [List.length_append, HLT.out, waysI_len, List.length_drop, HLL.out]; simp; omega) (by rfl) (by rfl) ?_; intro v7 w7 hg7))
                | ((go_simp; go_at_call 222; refine (l1Own_any (waysI (L.take m)) _ wo.heap.size _ (HTK.out _ (by first | exact hb1 | exact hb2)) (by simp) (by rw [HLT.out]; omega)).mono ?_; rintro e w5 ⟨v5, rfl, hu5, hb5⟩)))
              all_goals
                have HG7 : Hid (GrowI wo wo.heap.size w7 v7 (waysI (orderBy (pWei ls) (k + 1)))) := by show GrowI _ _ _ _ _; rw [← HN.out]; exact hg7
                obtain ⟨A7, c7, rfl, hc7, _⟩ := Rd.form HG7.out.own.rd
                have hl7 : (waysI (orderBy (pWei ls) (k + 1))).length = k + 1 := by rw [waysI_len, orderBy_len]
                rw [hl7] at hc7 HG7 ⊢
                have HL7 := Lib.hid hl7
                clear hg7 hl7
                go_wp2_with fail
                go_roundw
                case rel => exact ⟨k + 1, A7, c7, by omega, rfl, by go_num, hc7, fun e => by omega, HG7.out.own.rd, hbl.out.trans (HG7.out.2.1.mono (by have := hbl.out.size; omega))⟩
                case measure => (simp [intOf]; try omega)
            · obtain ⟨s, rfl⟩ : ∃ s, m = s + 1 := ⟨m - 1, by omega⟩
              obtain ⟨y, hy⟩ : ∃ y, L[s]? = some y := ⟨_, List.getElem?_eq_getElem (by rw [HLL.out]; omega)⟩
              have hp : pWei ls k y = false := by
                cases e : pWei ls k y
                · rfl
                · exact absurd ⟨hm0, y, by rw [Nat.add_sub_cancel]; exact hy, e⟩ hgo
              have hyk := HLM.out y (List.mem_of_getElem? hy)
              obtain ⟨_, _, _, hv, _, hcy⟩ := RdI.getD (by have := hrd.out; rw [← HWL.out] at this; exact this) (k := s) (by rw [HWL.out]; omega)
              cases hv
              rw [show (waysI L).getD s 0 = (y : Int) by unfold waysI; rw [List.getD_eq_getElem?_getD, List.getElem?_map, hy]; rfl] at hcy
              obtain ⟨_, _, _, hv, _, hcw⟩ := RdI.getD (RdI.below H.out hbl.out hh) (k := y) (by omega)
              cases hv
              obtain ⟨z, hz⟩ : ∃ z, z = ls.getD y 0 := ⟨_, rfl⟩
              rw [← hz] at hcw
              have hzx : decide (z < x) = false := by
                unfold pWei at hp
                rw [← HX.out, ← hz] at hp
                exact hp
              have hyl : y < ls.length := by omega
              have hs3 : (s : Int) + 1 ≤ (c2 : Int) := by omega
              have hs4 : (s : Int) + 1 ≤ (k : Int) := by omega
              have hs5 : (0 : Int) ≤ (s : Int) + 1 := by omega
              have hsk : (s : Int) < (k : Int) := by omega
              clear hz hy hp hm0
              have HTK : Hid (∀ w', Below wo.heap.size wo w' → RdI w' wo.heap.size (.slice (some ⟨b2, o2, Option.none⟩) (s + 1) c2) (waysI (L.take (s + 1)))) := by
                intro w' hb
                have h1 := RdI.takeLe (m := (s + 1)) (by have := hrd.out; rw [← HWL.out] at this; exact this) (by rw [HWL.out]; exact hmk)
                rw [HTL.out.1] at h1
                exact RdI.below h1 hb (Nat.le_refl _)
              have HDR : Hid (∀ w', Below wo.heap.size wo w' → RdI w' wo.heap.size (.slice (if c2 = (s + 1) then some ⟨b2, o2, Option.none⟩ else some ⟨b2, o2 + (s + 1), Option.none⟩) (k - (s + 1)) (c2 - (s + 1))) (waysI (L.drop (s + 1)))) := by
                intro w' hb
                have h1 := RdI.dropLe (k := (s + 1)) (by have := hrd.out; rw [← HWL.out] at this; exact this) (by rw [HWL.out]; exact hmk)
                rw [HTL.out.2, HWL.out] at h1
                have h2 := RdI.below h1 hb (Nat.le_refl _)
                split
                · rename_i e
                  have hz : (waysI (L.drop (s + 1))).length = 0 := by rw [waysI_len, List.length_drop, HLL.out]; omega
                  obtain ⟨_, A', c', hv, h3, h4, _⟩ := h2
                  injection hv with _ _ e2
                  rw [← e2] at h3 h4
                  rw [show k - (s + 1) = (waysI (L.drop (s + 1))).length by omega]
                  exact ⟨by simp, _, _, rfl, by omega, h4, fun hp => by omega⟩
                · exact h2
              have hll : (waysI (L.take (s + 1))).length = s + 1 := by rw [waysI_len, List.length_take, HLL.out]; omega
              have HLT := Lib.hid hll
              have hb1 : Below wo.heap.size wo wo.drew := (Below.refl _ _).drew
              have hb2 : Below wo.heap.size wo (wo.drew.alloc (.cells #[.int .i64 (k : Int)] 3)) := hb1.alloc (Nat.le_refl _) _
              have HN := Lib.hid (order_next HL.out hmk hall.out hgo)
              have HON := one_rd wo.drew (k : Int)
              clear hgo hll
              go_wp2_with fail
              go_region_law (first
                | ((refine step_appR (by rfl) (.tmp 35) (.tmp 37) (by rfl) ((growI_own hb1 hu5 hb5).belowR ((Below.refl _ _).alloc (Nat.le_refl _) _)) (one_rd w5 (k : Int)) (by rw [HLT.out]; simp; omega) (by rfl) (by rfl) ?_; intro v6 w6 hg6))
                | ((refine step_appR (by rfl) (.tmp 35) (.tmp 37) (by rfl) (growI_own hb2 hu5 hb5) (RdI.below HON hb5 (by simp)) (by rw [HLT.out]; simp; omega) (by rfl) (by rfl) ?_; intro v6 w6 hg6))
                | ((refine step_appR (by rfl) (.tmp 38) (.tmp 41) (by rfl) hg6 (HDR.out _ hg6.2.1) (by rw [List.length_append, HLT.out, waysI_len, List.length_drop, HLL.out]; simp; omega) (by rfl) (by rfl) ?_; intro v7 w7 hg7))
                | ((go_simp; go_at_call 222; refine (l1Own_any (waysI (L.take (s + 1))) _ wo.heap.size _ (HTK.out _ (by first | exact hb1 | exact hb2)) (by simp) (by rw [HLT.out]; omega)).mono ?_; rintro e w5 ⟨v5, rfl, hu5, hb5⟩)))
              all_goals
                have HG7 : Hid (GrowI wo wo.heap.size w7 v7 (waysI (orderBy (pWei ls) (k + 1)))) := by show GrowI _ _ _ _ _; rw [← HN.out]; exact hg7
                obtain ⟨A7, c7, rfl, hc7, _⟩ := Rd.form HG7.out.own.rd
                have hl7 : (waysI (orderBy (pWei ls) (k + 1))).length = k + 1 := by rw [waysI_len, orderBy_len]
                rw [hl7] at hc7 HG7 ⊢
                have HL7 := Lib.hid hl7
                clear hg7 hl7
                go_wp2_with fail
                go_roundw
                case rel => exact ⟨k + 1, A7, c7, by omega, rfl, by go_num, hc7, fun e => by omega, HG7.out.own.rd, hbl.out.trans (HG7.out.2.1.mono (by have := hbl.out.size; omega))⟩
                case measure => (simp [intOf]; try omega)
    · obtain rfl : k = ls.length := by omega
      go_wp2_with fail
      go_ret
      exact ⟨.slice A2 ls.length c2, rfl, hrd.out, hbl.out⟩
end Go.Proofs.Ytabiobjcfopakaa
/- Contracts: the table of the reference, newly made. -/
namespace Go.Proofs.Ytabiobjcfopakaa
open Go.RowKit
abbrev slN (g n : Nat) : Value := .slice (some ⟨g, 0, Option.none⟩) n n
/-- What is left of the weights from each index on. -/
def restL (Z : List Int) : List Int := (List.range (Z.length + 1)).map fun j => sumW (Z.drop j)
theorem restL_len (Z : List Int) : (restL Z).length = Z.length + 1 := by simp [restL]
theorem restL_at {Z : List Int} {j : Nat} (h : j ≤ Z.length) : (restL Z)[j]? = some (sumW (Z.drop j)) := by unfold restL; rw [List.getElem?_map, List.getElem?_range (by omega)]; rfl
/-- Blocks of other types than some have not turned. -/
structure Frs (ts : List TypeId) (w w' : World) : Prop where
  os : w'.os = w.os
  tape : w'.tape = w.tape
  output : w'.output = w.output
  size : w.heap.size ≤ w'.heap.size
  block : ∀ (k : Nat) (c : Array Value) (e : TypeId) (fz : Nat × Nat), w.heap[k]? = some (.cells c e fz) → e ∉ ts → w'.heap[k]? = some (.cells c e fz)
theorem Frs.refl (ts : List TypeId) (w : World) : Frs ts w w := ⟨rfl, rfl, rfl, Nat.le_refl _, fun _ _ _ _ h _ => h⟩
theorem Frs.trans {ts : List TypeId} {a b c : World} (h : Frs ts a b) (k : Frs ts b c) : Frs ts a c :=
  ⟨k.os.trans h.os, k.tape.trans h.tape, k.output.trans h.output, Nat.le_trans h.size k.size, fun i x e fz h1 h2 => k.block i x e fz (h.block i x e fz h1 h2) h2⟩
theorem frs_alloc (ts : List TypeId) (w : World) (o : Obj) : Frs ts w (w.alloc o) :=
  ⟨rfl, rfl, rfl, by simp, fun k c e fz h _ => by
    have hk : k < w.heap.size := (Array.getElem?_eq_some_iff.1 h).1
    exact (Below.heap_alloc w o k hk).trans h⟩
theorem frs_grown {ts : List TypeId} {w w' : World} {B size n : Nat} {t : TypeId} {v : Value} {xs : List Value} (h : w.ownsRow B t size v n xs) (hg : w.grownBy w' v.ownBlock) (ht : t ∈ ts) : Frs ts w w' :=
  ⟨hg.os, hg.tape, hg.output, hg.size, fun k c e fz hk he => by
    refine (hg.block k (Array.getElem?_eq_some_iff.1 hk).1 fun e2 => ?_).trans hk
    rcases h.2 with ⟨rfl, _⟩ | ⟨g, cap, cur, rfl, _, hgg, _⟩
    · cases e2
    · cases e2
      rw [hgg] at hk
      cases hk
      exact he ht⟩
theorem frs_set {ts : List TypeId} {w : World} {S : Nat} {t : TypeId} {cs : List Value} {i : Nat} {u : Value} (h : Blk w S t cs) (ht : t ∈ ts) : Frs ts w (w.setCell ⟨S, i, Option.none⟩ u) :=
  ⟨rfl, rfl, rfl, by simp [World.setCell], fun k c e fz hk he => by
    refine (Below.heap_setCell w _ u k (fun e2 => ?_)).trans hk
    have e3 : k = S := e2
    subst e3
    unfold Blk at h
    rw [h] at hk
    cases hk
    exact he ht⟩
theorem Blk.frs {ts : List TypeId} {w w' : World} {g : Nat} {t : TypeId} {cs : List Value} (h : Blk w g t cs) (hf : Frs ts w w') (ht : t ∉ ts) : Blk w' g t cs := hf.block _ _ _ _ h ht
/-- One level of the table: its rows lie in the blocks gs. -/
structure LevOk (w : World) (n1 : Nat) (x : Nat × Nat × List Nat) : Prop where
  len : x.2.2.length = n1
  row : ∃ cur : Array Value, w.heap[x.1]? = some (.cells cur 29 (0, 0)) ∧ cur.toList.take n1 = x.2.2.map fun g => slN g n1
  zero : ∀ g ∈ x.2.2, Blk w g 3 (ints (List.replicate n1 0))
theorem LevOk.frs {ts : List TypeId} {w w' : World} {n1 : Nat} {x : Nat × Nat × List Nat} (h : LevOk w n1 x) (hf : Frs ts w w') (h1 : 3 ∉ ts) (h2 : 29 ∉ ts) : LevOk w' n1 x := by
  obtain ⟨cur, hc, ht⟩ := h.row
  exact ⟨h.len, ⟨cur, hf.block _ _ _ _ hc h2, ht⟩, fun g hg => (h.zero g hg).frs hf h1⟩
theorem LevOk.below {B : Nat} {w w' : World} {n1 : Nat} {x : Nat × Nat × List Nat} (h : LevOk w n1 x) (hb : Below B w w') (hx : w.heap.size ≤ B) : LevOk w' n1 x := by
  obtain ⟨cur, hc, ht⟩ := h.row
  exact ⟨h.len, ⟨cur, (hb.block _ (by have := (Array.getElem?_eq_some_iff.1 hc).1; omega)).trans hc, ht⟩, fun g hg => (h.zero g hg).below hb (by have := (h.zero g hg).lt; omega)⟩
def lvV (n1 : Nat) (x : Nat × Nat × List Nat) : Value := .slice (some ⟨x.1, 0, Option.none⟩) n1 x.2.1
def flatG (lev : List (Nat × Nat × List Nat)) : List Nat := lev.flatMap fun x => x.2.2
structure Levs (w : World) (T n1 : Nat) (lev : List (Nat × Nat × List Nat)) : Prop where
  ok : ∀ x ∈ lev, LevOk w n1 x
  nodup : (flatG lev).Nodup
  range : ∀ g ∈ flatG lev, T < g ∧ g < w.heap.size
theorem Levs.nil (w : World) (T n1 : Nat) : Levs w T n1 [] := ⟨by simp, by simp [flatG], by simp [flatG]⟩
theorem flatG_snoc (lev : List (Nat × Nat × List Nat)) (x : Nat × Nat × List Nat) : flatG (lev ++ [x]) = flatG lev ++ x.2.2 := by simp [flatG]
theorem Levs.frs {ts : List TypeId} {w w' : World} {T n1 : Nat} {lev : List (Nat × Nat × List Nat)} (h : Levs w T n1 lev) (hf : Frs ts w w') (h1 : 3 ∉ ts) (h2 : 29 ∉ ts) : Levs w' T n1 lev :=
  ⟨fun x hx => (h.ok x hx).frs hf h1 h2, h.nodup, fun g hg => ⟨(h.range g hg).1, by have := (h.range g hg).2; have := hf.size; omega⟩⟩
theorem Levs.snoc {w w' : World} {T n1 : Nat} {lev : List (Nat × Nat × List Nat)} {x : Nat × Nat × List Nat} (h : Levs w T n1 lev) (hT : T < w.heap.size) (hb : Below w.heap.size w w') (hx : LevOk w' n1 x) (hn : x.2.2.Nodup) (hr : ∀ g ∈ x.2.2, w.heap.size ≤ g) : Levs w' T n1 (lev ++ [x]) := by
  refine ⟨fun y hy => ?_, ?_, fun g hg => ?_⟩
  · rcases List.mem_append.1 hy with h1 | h1
    · exact (h.ok y h1).below hb (Nat.le_refl _)
    · rw [List.mem_singleton] at h1; rw [h1]; exact hx
  · rw [flatG_snoc, List.nodup_append]
    refine ⟨h.nodup, hn, fun a ha b hbb e => ?_⟩
    have h1 := (h.range a ha).2
    have h2 := hr b hbb
    omega
  · rw [flatG_snoc, List.mem_append] at hg
    rcases hg with h1 | h1
    · have := h.range g h1
      have := hb.size
      omega
    · have := hr g h1
      have := (hx.zero g h1).lt
      omega
theorem Blk.heap_ne {w : World} {g h : Nat} {t t' : TypeId} {cs : List Value} {cur : Array Value} {fz : Nat × Nat} (hb : Blk w g t cs) (hh : w.heap[h]? = some (.cells cur t' fz)) (ht : t ≠ t') : g ≠ h := by
  rintro rfl
  unfold Blk at hb
  rw [hb] at hh
  cases hh
  exact ht rfl
end Go.Proofs.Ytabiobjcfopakaa
