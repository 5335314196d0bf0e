/- Contracts: the least number of signals, of the reference; asking for letters. -/
import Derived.Test.YtabhnbooboceeaaE13
import Derived.Test.YtabhnbooboceeaaF2
namespace Go.Proofs.Ytabhnbooboceeaa
open Go.RowKit
/-- The least number of signals, if the letters can be asked for and spelled. -/
def leastO (ps : List Phr) (s : ByteArray) : Option Nat := if bookB ps && lettB s then (tblT ps s).getD 0 Option.none else Option.none
def lstV (o : Option Nat) : Value := match o with
  | some n => .tuple #[.int .i64 (n : Int), .bool true]
  | Option.none => .tuple #[.int .i64 0, .bool false]
theorem lstV_form (o : Option Nat) : ∃ p q, lstV o = .tuple #[.int .i64 p, .bool q] := by unfold lstV; split <;> exact ⟨_, _, rfl⟩
theorem leastO_no {ps : List Phr} {s : ByteArray} (h : (bookB ps && lettB s) = false) : leastO ps s = Option.none := by unfold leastO; rw [h]; rfl
theorem leastO_yes {ps : List Phr} {s : ByteArray} (h : (bookB ps && lettB s) = true) : leastO ps s = (tblT ps s).getD 0 Option.none := by unfold leastO; rw [h]; rfl
set_option maxRecDepth 100000 in
set_option maxHeartbeats 4000000 in
theorem sLeastSignals_any (ps : List Phr) (s : ByteArray) (v : Value) (hi : Nat) (w : World) (hs0 : s.size ≤ maxLen) (h : RdB w hi v ps) (hh : hi ≤ w.heap.size) :
    Calls Try.prog 18 #[v, .string s] w fun e w' => e = .returned (lstV (leastO ps s)) ∧ Below w.heap.size w w' := by
  obtain ⟨a, rfl, ha⟩ := h
  obtain ⟨A, c, rfl, hc, hm⟩ := ha.form
  have hba : Below w.heap.size w (w.alloc (.cells #[.slice A ps.length c] 30)) := (Below.refl _ _).alloc (Nat.le_refl _) _
  have HB := Lib.hid hba
  have HA := Lib.hid (ha.below hba hh)
  have HG : Hid (RdB (w.alloc (.cells #[.slice A ps.length c] 30)) hi (.agg #[.slice A ps.length c]) ps) := ⟨_, rfl, HA.out⟩
  have hcb0 : (w.alloc (.cells #[.slice A ps.length c] 30)).cell? ⟨w.heap.size, 0, Option.none⟩ = some (.slice A ps.length c) := (Blk.new w 30 #[.slice A ps.length c]).cell 0
  have HCB := Lib.hid hcb0
  have hsz1 : hi ≤ (w.alloc (.cells #[.slice A ps.length c] 30)).heap.size := by simp; omega
  clear ha hba hcb0
  have cB := spAsked_any ps s (.agg #[.slice A ps.length c]) hi (w.alloc (.cells #[.slice A ps.length c] 30)) hs0 HG.out hsz1
  cases hbr : (bookB ps && lettB s)
  · rw [hbr] at cB
    have CB := Lib.hid cB
    have HRB := Lib.hid hbr
    clear cB hbr
    go_enter Try.func18, Try.ntmps18
    go_wp2_with (go_at_call 59; refine CB.out.mono ?_; rintro e w1 ⟨rfl, hb1⟩)
    go_ret2
    exact ⟨ret_val (by rw [leastO_no HRB.out]; rfl), HB.out.trans (hb1.mono (by simp))⟩
  · rw [hbr] at cB
    have CB := Lib.hid cB
    have HRB := Lib.hid hbr
    rw [Bool.and_eq_true] at hbr
    have HBK := Lib.hid hbr.1
    have hs40 : s.size ≤ 40 := by have := hbr.2; unfold lettB at this; rw [Bool.and_eq_true, decide_eq_true_eq] at this; exact this.2
    clear cB hbr
    go_enter Try.func18, Try.ntmps18
    go_wp2_with fail
    refine CB.out.mono ?_
    rintro e w1 ⟨rfl, hb1⟩
    have hcb := (hb1.cell (p := ⟨w.heap.size, 0, Option.none⟩) (by simp)).trans HCB.out
    have hs1 : w.heap.size + 1 ≤ w1.heap.size := by have := hb1.size; simpa using this
    have HA1 := Lib.hid (HA.out.below hb1 hsz1)
    have HG1 : Hid (RdB w1 hi (.agg #[.slice A ps.length c]) ps) := ⟨_, rfl, HA1.out⟩
    have HB1 := Lib.hid (HB.out.trans (hb1.mono (by simp)))
    clear hb1
    have cT := spTable_any ps s (.agg #[.slice A ps.length c]) hi w1 HG1.out (by omega) HBK.out hs40
    have CT := Lib.hid cT
    clear cT
    go_wp2_with fail
    refine CT.out.mono ?_
    rintro e w2 ⟨q, rfl, hq, hb2⟩
    obtain ⟨bq, cq, rfl, hcq⟩ := own_headO hq
    have hs2 := hb2.size
    have hcb2 := (hb2.cell (p := ⟨w.heap.size, 0, Option.none⟩) (by show w.heap.size < w1.heap.size; omega)).trans hcb
    have HG2 := Lib.hid (HG1.out.below hb2 (by omega))
    have HB2 := Lib.hid (HB1.out.trans (hb2.mono (by omega)))
    clear hq hb2 hcb
    rcases ho : (tblT ps s).getD 0 Option.none with _ | vv
    · have HO := Lib.hid ho
      rw [ho] at hcq
      simp only [optI] at hcq
      clear ho
      go_wp2_with fail
      go_ret2
      exact ⟨ret_val (by rw [leastO_yes HRB.out, HO.out]; rfl), HB2.out⟩
    · have HO := Lib.hid ho
      rw [ho] at hcq
      simp only [optI] at hcq
      have hvv : ¬ (vv : Int) < 0 := by omega
      have cT := spTable_any ps s (.agg #[.slice A ps.length c]) hi w2 HG2.out (by omega) HBK.out hs40
      have CT2 := Lib.hid cT
      clear cT
      go_wp2_with fail
      refine CT2.out.mono ?_
      rintro e w3 ⟨q, rfl, hq, hb3⟩
      obtain ⟨bq3, cq3, rfl, hcq3⟩ := own_headO hq
      rw [HO.out] at hcq3
      simp only [optI] at hcq3
      have HB3 := Lib.hid (HB2.out.trans (hb3.mono (by omega)))
      clear hq hb3 hcb2 ho
      go_wp2_with fail
      go_ret2
      exact ⟨ret_val (by rw [leastO_yes HRB.out, HO.out]; rfl), HB3.out⟩
end Go.Proofs.Ytabhnbooboceeaa
