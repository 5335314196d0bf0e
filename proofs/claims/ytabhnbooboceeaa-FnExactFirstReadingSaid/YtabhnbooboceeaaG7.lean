/- Contracts: the first reading and the message of signals, asked for; of the program and of the reference. -/
import Derived.Test.YtabhnbooboceeaaG6
namespace Go.Proofs.Ytabhnbooboceeaa
open Go.RowKit
def frN (ps : List Phr) (sig : List Int) : List Nat := if bookB ps && readB sig then readN ps sig else []
def frQ (ps : List Phr) (sig : List Int) : Bool := (bookB ps && readB sig) && readQ ps sig
theorem frN_no {ps : List Phr} {sig : List Int} (h : (bookB ps && readB sig) = false) : frN ps sig = [] := by unfold frN; rw [h]; rfl
theorem frQ_no {ps : List Phr} {sig : List Int} (h : (bookB ps && readB sig) = false) : frQ ps sig = false := by unfold frQ; rw [h]; rfl
theorem frN_yes {ps : List Phr} {sig : List Int} (h : (bookB ps && readB sig) = true) : frN ps sig = readN ps sig := by unfold frN; rw [h]; rfl
theorem frQ_yes {ps : List Phr} {sig : List Int} (h : (bookB ps && readB sig) = true) : frQ ps sig = readQ ps sig := by unfold frQ; rw [h]; rfl
theorem readB_len {sig : List Int} (h : readB sig = true) : sig.length ≤ 60 := by unfold readB at h; rw [Bool.and_eq_true, decide_eq_true_eq] at h; exact h.1
theorem frN_len (ps : List Phr) (sig : List Int) : (waysI (frN ps sig)).length ≤ 60 := by
  rw [waysI_len]
  cases h : (bookB ps && readB sig)
  · rw [frN_no h]; simp
  · rw [frN_yes h]
    rw [Bool.and_eq_true] at h
    have := readN_len ps sig
    have := readB_len h.2
    omega
/-- The message. -/
def msgV (ps : List Phr) (sig : List Int) : Value := if (bookB ps && readB sig) && decide (cntS ps sig = 1) then .tuple #[.string ⟨(textL ps (waysI (readN ps sig))).toArray⟩, .bool true] else .tuple #[.string ⟨#[]⟩, .bool false]
theorem msgV_form (ps : List Phr) (sig : List Int) : ∃ p q, msgV ps sig = .tuple #[.string p, .bool q] := by unfold msgV; split <;> exact ⟨_, _, rfl⟩
theorem msgV_no {ps : List Phr} {sig : List Int} (h : (bookB ps && readB sig) = false) : msgV ps sig = .tuple #[.string ⟨#[]⟩, .bool false] := by unfold msgV; rw [h]; rfl
theorem msgV_more {ps : List Phr} {sig : List Int} (h : (tbS ps sig).getD 0 0 ≠ 1) : msgV ps sig = .tuple #[.string ⟨#[]⟩, .bool false] := by
  unfold msgV
  rw [decide_eq_false (show ¬ cntS ps sig = 1 from h), Bool.and_false]
  rfl
theorem msgV_one {ps : List Phr} {sig : List Int} (h : (bookB ps && readB sig) = true) (h1 : (tbS ps sig).getD 0 0 = 1) : msgV ps sig = .tuple #[.string ⟨(textL ps (waysI (readN ps sig))).toArray⟩, .bool true] := by
  unfold msgV
  rw [decide_eq_true (show cntS ps sig = 1 from h1), h]
  rfl
set_option maxRecDepth 100000 in
set_option maxHeartbeats 4000000 in
theorem FirstReading_any (ps : List Phr) (sig : List Int) (v u : Value) (hi hj : Nat) (w : World) (h : RdB w hi v ps) (g : RdI w hj u sig) (hh : hi ≤ w.heap.size) (hg : hj ≤ w.heap.size) :
    Calls Try.prog 22 #[v, u] w (RetOwT (waysI (frN ps sig)) (frQ ps sig) w) := by
  obtain ⟨A', c', rfl, hc', hm'⟩ := Rd.form g
  have G := Lib.hid g
  clear g
  obtain ⟨a, rfl, ha⟩ := h
  obtain ⟨A, c, rfl, hc, hm⟩ := ha.form
  have hba : Below w.heap.size w (w.alloc (.cells #[.slice A ps.length c] 30)) := (Below.refl _ _).alloc (Nat.le_refl _) _
  have HB := Lib.hid hba
  have HA := Lib.hid (ha.below hba hh)
  have HG : Hid (RdB (w.alloc (.cells #[.slice A ps.length c] 30)) hi (.agg #[.slice A ps.length c]) ps) := ⟨_, rfl, HA.out⟩
  have hcb0 : (w.alloc (.cells #[.slice A ps.length c] 30)).cell? ⟨w.heap.size, 0, Option.none⟩ = some (.slice A ps.length c) := (Blk.new w 30 #[.slice A ps.length c]).cell 0
  have HCB := Lib.hid hcb0
  have hsz1 : hi ≤ (w.alloc (.cells #[.slice A ps.length c] 30)).heap.size := by simp; omega
  clear ha hba hcb0
  have cB := IsBook_any ps (.agg #[.slice A ps.length c]) hi (w.alloc (.cells #[.slice A ps.length c] 30)) HG.out hsz1
  cases hbk : bookB ps
  · rw [hbk] at cB
    have CB := Lib.hid cB
    clear cB
    go_enter Try.func22, Try.ntmps22
    go_wp2_with (go_at_call 56; refine CB.out.mono ?_; rintro e w1 ⟨rfl, hb1⟩)
    go_ret2
    exact (by show RetOwT _ _ _ _ _; rw [frN_no (show (bookB ps && readB sig) = false by rw [hbk]; rfl), frQ_no (show (bookB ps && readB sig) = false by rw [hbk]; rfl)]; exact retOwT _ (GrowI.nil (HB.out.trans (hb1.mono (by simp)))))
  · rw [hbk] at cB
    have CB := Lib.hid cB
    have HBK := Lib.hid hbk
    clear cB
    go_enter Try.func22, Try.ntmps22
    go_wp2_with fail
    refine CB.out.mono ?_
    rintro e w1 ⟨rfl, hb1⟩
    have hcb := (hb1.cell (p := ⟨w.heap.size, 0, Option.none⟩) (by simp)).trans HCB.out
    have hs1 : w.heap.size + 1 ≤ w1.heap.size := by have := hb1.size; simpa using this
    have HA1 := Lib.hid (HA.out.below hb1 hsz1)
    have HG1 : Hid (RdB w1 hi (.agg #[.slice A ps.length c]) ps) := ⟨_, rfl, HA1.out⟩
    have HB1 := Lib.hid (HB.out.trans (hb1.mono (by simp)))
    clear hb1
    have G1 := Lib.hid (RdI.below G.out HB1.out hg)
    have cR := areRead_any sig _ hj w1 G1.out
    cases hrd : readB sig
    · rw [hrd] at cR
      have CR := Lib.hid cR
      have HRB : Hid ((bookB ps && readB sig) = false) := by show (bookB ps && readB sig) = false; rw [hrd, Bool.and_false]
      clear cR hrd
      go_wp2_with (go_at_call 63; refine (CR.out).mono ?_; rintro e w' ⟨rfl, rfl⟩)
      go_ret2
      exact (by show RetOwT _ _ _ _ _; rw [frN_no HRB.out, frQ_no HRB.out]; exact retOwT _ (GrowI.nil (HB1.out)))
    · rw [hrd] at cR
      have CR := Lib.hid cR
      have HRB : Hid ((bookB ps && readB sig) = true) := by show (bookB ps && readB sig) = true; rw [hrd, HBK.out]; rfl
      have hlen := readB_len hrd
      clear cR hrd
      have cF := firstReading_any ps sig (.agg #[.slice A ps.length c]) _ hi hj w1 HG1.out G1.out (by omega) (by omega) HBK.out hlen
      have CF := Lib.hid cF
      clear cF
      go_wp2_with (go_at_call 63; refine (CR.out).mono ?_; rintro e w' ⟨rfl, rfl⟩)
      refine CF.out.mono ?_
      rintro e w2 ⟨q, rfl, hq, hb2⟩
      have HQ := Lib.hid hq
      have HB2 := Lib.hid hb2
      clear hq hb2
      go_wp2_with fail
      go_ret2
      show RetOwT _ _ _ _ _
      rw [frN_yes HRB.out, frQ_yes HRB.out]
      exact retOwT_pass HQ.out HB1.out HB2.out
set_option maxRecDepth 100000 in
set_option maxHeartbeats 4000000 in
theorem sFirstReading_any (ps : List Phr) (sig : List Int) (v u : Value) (hi hj : Nat) (w : World) (h : RdB w hi v ps) (g : RdI w hj u sig) (hh : hi ≤ w.heap.size) (hg : hj ≤ w.heap.size) :
    Calls Try.prog 20 #[v, u] w (RetOwT (waysI (frN ps sig)) (frQ ps sig) w) := by
  obtain ⟨A', c', rfl, hc', hm'⟩ := Rd.form g
  have G := Lib.hid g
  clear g
  obtain ⟨a, rfl, ha⟩ := h
  obtain ⟨A, c, rfl, hc, hm⟩ := ha.form
  have hba : Below w.heap.size w (w.alloc (.cells #[.slice A ps.length c] 30)) := (Below.refl _ _).alloc (Nat.le_refl _) _
  have HB := Lib.hid hba
  have HA := Lib.hid (ha.below hba hh)
  have HG : Hid (RdB (w.alloc (.cells #[.slice A ps.length c] 30)) hi (.agg #[.slice A ps.length c]) ps) := ⟨_, rfl, HA.out⟩
  have hcb0 : (w.alloc (.cells #[.slice A ps.length c] 30)).cell? ⟨w.heap.size, 0, Option.none⟩ = some (.slice A ps.length c) := (Blk.new w 30 #[.slice A ps.length c]).cell 0
  have HCB := Lib.hid hcb0
  have hsz1 : hi ≤ (w.alloc (.cells #[.slice A ps.length c] 30)).heap.size := by simp; omega
  clear ha hba hcb0
  have G0 := Lib.hid (RdI.below G.out HB.out hg)
  have cB := spSignals_any ps sig (.agg #[.slice A ps.length c]) _ hi hj (w.alloc (.cells #[.slice A ps.length c] 30)) HG.out G0.out hsz1 (by simp; omega)
  cases hbr : (bookB ps && readB sig)
  · rw [hbr] at cB
    have CB := Lib.hid cB
    have HRB := Lib.hid hbr
    clear cB hbr
    go_enter Try.func20, Try.ntmps20
    go_wp2_with (go_at_call 61; refine CB.out.mono ?_; rintro e w1 ⟨rfl, hb1⟩)
    go_ret2
    exact (by show RetOwT _ _ _ _ _; rw [frN_no HRB.out, frQ_no HRB.out]; exact retOwT _ (GrowI.nil (HB.out.trans (hb1.mono (by simp)))))
  · rw [hbr] at cB
    have CB := Lib.hid cB
    have HRB := Lib.hid hbr
    rw [Bool.and_eq_true] at hbr
    have HBK := Lib.hid hbr.1
    have hlen := readB_len hbr.2
    clear cB hbr
    go_enter Try.func20, Try.ntmps20
    go_wp2_with fail
    refine CB.out.mono ?_
    rintro e w1 ⟨rfl, hb1⟩
    have hcb := (hb1.cell (p := ⟨w.heap.size, 0, Option.none⟩) (by simp)).trans HCB.out
    have hs1 : w.heap.size + 1 ≤ w1.heap.size := by have := hb1.size; simpa using this
    have HA1 := Lib.hid (HA.out.below hb1 hsz1)
    have HG1 : Hid (RdB w1 hi (.agg #[.slice A ps.length c]) ps) := ⟨_, rfl, HA1.out⟩
    have HB1 := Lib.hid (HB.out.trans (hb1.mono (by simp)))
    have G1 := Lib.hid (RdI.below G.out HB1.out hg)
    clear hb1
    have cF := spDecode_any ps sig (.agg #[.slice A ps.length c]) _ hi hj w1 HG1.out G1.out (by omega) (by omega) HBK.out hlen
    have CF := Lib.hid cF
    clear cF
    go_wp2_with fail
    refine CF.out.mono ?_
    rintro e w2 ⟨q, rfl, hq, hb2⟩
    have HQ := Lib.hid hq
    have HB2 := Lib.hid hb2
    clear hq hb2
    go_wp2_with fail
    go_ret2
    show RetOwT _ _ _ _ _
    rw [frN_yes HRB.out, frQ_yes HRB.out]
    exact retOwT_pass HQ.out HB1.out HB2.out
set_option maxRecDepth 100000 in
set_option maxHeartbeats 4000000 in
theorem ReadMessage_any (ps : List Phr) (sig : List Int) (v u : Value) (hi hj : Nat) (w : World) (h : RdB w hi v ps) (g : RdI w hj u sig) (hh : hi ≤ w.heap.size) (hg : hj ≤ w.heap.size) :
    Calls Try.prog 28 #[v, u] w fun e w' => e = .returned (msgV ps sig) ∧ Below w.heap.size w w' := by
  obtain ⟨A', c', rfl, hc', hm'⟩ := Rd.form g
  have G := Lib.hid g
  clear g
  obtain ⟨a, rfl, ha⟩ := h
  obtain ⟨A, c, rfl, hc, hm⟩ := ha.form
  have hba : Below w.heap.size w (w.alloc (.cells #[.slice A ps.length c] 30)) := (Below.refl _ _).alloc (Nat.le_refl _) _
  have HB := Lib.hid hba
  have HA := Lib.hid (ha.below hba hh)
  have HG : Hid (RdB (w.alloc (.cells #[.slice A ps.length c] 30)) hi (.agg #[.slice A ps.length c]) ps) := ⟨_, rfl, HA.out⟩
  have hcb0 : (w.alloc (.cells #[.slice A ps.length c] 30)).cell? ⟨w.heap.size, 0, Option.none⟩ = some (.slice A ps.length c) := (Blk.new w 30 #[.slice A ps.length c]).cell 0
  have HCB := Lib.hid hcb0
  have hsz1 : hi ≤ (w.alloc (.cells #[.slice A ps.length c] 30)).heap.size := by simp; omega
  clear ha hba hcb0
  have cB := IsBook_any ps (.agg #[.slice A ps.length c]) hi (w.alloc (.cells #[.slice A ps.length c] 30)) HG.out hsz1
  cases hbk : bookB ps
  · rw [hbk] at cB
    have CB := Lib.hid cB
    clear cB
    go_enter Try.func28, Try.ntmps28
    go_wp2_with (go_at_call 56; refine CB.out.mono ?_; rintro e w1 ⟨rfl, hb1⟩)
    go_ret2
    exact ⟨ret_val (by rw [msgV_no (show (bookB ps && readB sig) = false by rw [hbk]; rfl)]; rfl), HB.out.trans (hb1.mono (by simp))⟩
  · rw [hbk] at cB
    have CB := Lib.hid cB
    have HBK := Lib.hid hbk
    clear cB
    go_enter Try.func28, Try.ntmps28
    go_wp2_with fail
    refine CB.out.mono ?_
    rintro e w1 ⟨rfl, hb1⟩
    have hcb := (hb1.cell (p := ⟨w.heap.size, 0, Option.none⟩) (by simp)).trans HCB.out
    have hs1 : w.heap.size + 1 ≤ w1.heap.size := by have := hb1.size; simpa using this
    have HA1 := Lib.hid (HA.out.below hb1 hsz1)
    have HG1 : Hid (RdB w1 hi (.agg #[.slice A ps.length c]) ps) := ⟨_, rfl, HA1.out⟩
    have HB1 := Lib.hid (HB.out.trans (hb1.mono (by simp)))
    clear hb1
    have G1 := Lib.hid (RdI.below G.out HB1.out hg)
    have cR := areRead_any sig _ hj w1 G1.out
    cases hrd : readB sig
    · rw [hrd] at cR
      have CR := Lib.hid cR
      have HRB : Hid ((bookB ps && readB sig) = false) := by show (bookB ps && readB sig) = false; rw [hrd, Bool.and_false]
      clear cR hrd
      go_wp2_with (go_at_call 63; refine (CR.out).mono ?_; rintro e w' ⟨rfl, rfl⟩)
      go_ret2
      exact ⟨ret_val (by rw [msgV_no HRB.out]; rfl), HB1.out⟩
    · rw [hrd] at cR
      have CR := Lib.hid cR
      have HRB : Hid ((bookB ps && readB sig) = true) := by show (bookB ps && readB sig) = true; rw [hrd, HBK.out]; rfl
      have hlen := readB_len hrd
      clear cR hrd
      have cT := readings_any ps sig (.agg #[.slice A ps.length c]) _ hi hj w1 HG1.out G1.out (by omega) (by omega) HBK.out hlen
      have CT := Lib.hid cT
      clear cT
      go_wp2_with (go_at_call 63; refine (CR.out).mono ?_; rintro e w' ⟨rfl, rfl⟩)
      refine CT.out.mono ?_
      rintro e w2 ⟨q, rfl, hq, hb2⟩
      obtain ⟨bq, cq, rfl, hbq, htc⟩ := own_cellsW (tbS_len ps sig) hq
      have hcq := htc 0 (Nat.zero_le _)
      have hs2 := hb2.size
      have hcb2 := (hb2.cell (p := ⟨w.heap.size, 0, Option.none⟩) (by show w.heap.size < w1.heap.size; omega)).trans hcb
      have G2 := Lib.hid (RdI.below G1.out hb2 (by omega))
      have HG2 := Lib.hid (HG1.out.below hb2 (by omega))
      have HB2 := Lib.hid (HB1.out.trans (hb2.mono (by omega)))
      clear hq hb2 htc
      obtain ⟨vv, hvv⟩ : ∃ vv, vv = (tbS ps sig).getD 0 0 := ⟨_, rfl⟩
      rw [← hvv] at hcq
      have HVV := Lib.hid hvv
      clear hvv
      by_cases hz : vv = 1
      · have hz0 : ((((vv : Nat) : Int)) != 1) = false := by subst hz; rfl
        have HZ : Hid ((tbS ps sig).getD 0 0 = 1) := by show _ = 1; rw [← HVV.out]; exact hz
        clear hz
        have cF := firstReading_any ps sig (.agg #[.slice A ps.length c]) _ hi hj w2 HG2.out G2.out (by omega) (by omega) HBK.out hlen
        have CF := Lib.hid cF
        clear cF
        go_wp2_with fail
        refine CF.out.mono ?_
        rintro e w3 ⟨q3, rfl, hq3, hb3⟩
        have hcb3 := (hb3.cell (p := ⟨w.heap.size, 0, Option.none⟩) (by show w.heap.size < w2.heap.size; omega)).trans hcb2
        have hs3 := hb3.size
        have HG3 := Lib.hid (HG2.out.below hb3 (by omega))
        have HB3 := Lib.hid (HB2.out.trans (hb3.mono (by omega)))
        have cX := textOf_any ps (waysI (readN ps sig)) (.agg #[.slice A ps.length c]) q3 hi w3.heap.size w3 HG3.out hq3.rd (by omega) (Nat.le_refl _) HBK.out (ixok_of (readN_lt ps sig)) (by rw [waysI_len]; have := readN_len ps sig; omega)
        have CX := Lib.hid cX
        clear cX hq3 hb3 hcb2 hcq
        go_wp2_with fail
        refine CX.out.mono ?_
        rintro e w4 ⟨rfl, hb4⟩
        have HB4 := Lib.hid (HB3.out.trans (hb4.mono (by omega)))
        clear hb4
        go_wp2_with fail
        go_ret2
        exact ⟨ret_val (by rw [msgV_one HRB.out HZ.out]; rfl), HB4.out⟩
      · have hz0 : ((((vv : Nat) : Int)) != 1) = true := by rw [bne_iff_ne]; omega
        have HZ : Hid ((tbS ps sig).getD 0 0 ≠ 1) := by show _ ≠ 1; rw [← HVV.out]; exact hz
        clear hz
        go_wp2_with fail
        go_ret2
        exact ⟨ret_val (by rw [msgV_more HZ.out]; rfl), HB2.out⟩
set_option maxRecDepth 100000 in
set_option maxHeartbeats 4000000 in
theorem sReadMessage_any (ps : List Phr) (sig : List Int) (v u : Value) (hi hj : Nat) (w : World) (h : RdB w hi v ps) (g : RdI w hj u sig) (hh : hi ≤ w.heap.size) (hg : hj ≤ w.heap.size) :
    Calls Try.prog 27 #[v, u] w fun e w' => e = .returned (msgV ps sig) ∧ Below w.heap.size w w' := by
  obtain ⟨A', c', rfl, hc', hm'⟩ := Rd.form g
  have G := Lib.hid g
  clear g
  obtain ⟨a, rfl, ha⟩ := h
  obtain ⟨A, c, rfl, hc, hm⟩ := ha.form
  have hba : Below w.heap.size w (w.alloc (.cells #[.slice A ps.length c] 30)) := (Below.refl _ _).alloc (Nat.le_refl _) _
  have HB := Lib.hid hba
  have HA := Lib.hid (ha.below hba hh)
  have HG : Hid (RdB (w.alloc (.cells #[.slice A ps.length c] 30)) hi (.agg #[.slice A ps.length c]) ps) := ⟨_, rfl, HA.out⟩
  have hcb0 : (w.alloc (.cells #[.slice A ps.length c] 30)).cell? ⟨w.heap.size, 0, Option.none⟩ = some (.slice A ps.length c) := (Blk.new w 30 #[.slice A ps.length c]).cell 0
  have HCB := Lib.hid hcb0
  have hsz1 : hi ≤ (w.alloc (.cells #[.slice A ps.length c] 30)).heap.size := by simp; omega
  clear ha hba hcb0
  have G0 := Lib.hid (RdI.below G.out HB.out hg)
  have cB := spSignals_any ps sig (.agg #[.slice A ps.length c]) _ hi hj (w.alloc (.cells #[.slice A ps.length c] 30)) HG.out G0.out hsz1 (by simp; omega)
  cases hbr : (bookB ps && readB sig)
  · rw [hbr] at cB
    have CB := Lib.hid cB
    have HRB := Lib.hid hbr
    clear cB hbr
    go_enter Try.func27, Try.ntmps27
    go_wp2_with (go_at_call 61; refine CB.out.mono ?_; rintro e w1 ⟨rfl, hb1⟩)
    go_ret2
    exact ⟨ret_val (by rw [msgV_no HRB.out]; rfl), HB.out.trans (hb1.mono (by simp))⟩
  · rw [hbr] at cB
    have CB := Lib.hid cB
    have HRB := Lib.hid hbr
    rw [Bool.and_eq_true] at hbr
    have HBK := Lib.hid hbr.1
    have hlen := readB_len hbr.2
    clear cB hbr
    go_enter Try.func27, Try.ntmps27
    go_wp2_with fail
    refine CB.out.mono ?_
    rintro e w1 ⟨rfl, hb1⟩
    have hcb := (hb1.cell (p := ⟨w.heap.size, 0, Option.none⟩) (by simp)).trans HCB.out
    have hs1 : w.heap.size + 1 ≤ w1.heap.size := by have := hb1.size; simpa using this
    have HA1 := Lib.hid (HA.out.below hb1 hsz1)
    have HG1 : Hid (RdB w1 hi (.agg #[.slice A ps.length c]) ps) := ⟨_, rfl, HA1.out⟩
    have HB1 := Lib.hid (HB.out.trans (hb1.mono (by simp)))
    have G1 := Lib.hid (RdI.below G.out HB1.out hg)
    clear hb1
    have cT := spWays_any ps sig (.agg #[.slice A ps.length c]) _ hi hj w1 HG1.out G1.out (by omega) (by omega) HBK.out hlen
    have CT := Lib.hid cT
    clear cT
    go_wp2_with fail
    refine CT.out.mono ?_
    rintro e w2 ⟨q, rfl, hq, hb2⟩
    obtain ⟨bq, cq, rfl, hbq, htc⟩ := own_cellsW (tbS_len ps sig) hq
    have hcq := htc 0 (Nat.zero_le _)
    have hs2 := hb2.size
    have hcb2 := (hb2.cell (p := ⟨w.heap.size, 0, Option.none⟩) (by show w.heap.size < w1.heap.size; omega)).trans hcb
    have G2 := Lib.hid (RdI.below G1.out hb2 (by omega))
    have HG2 := Lib.hid (HG1.out.below hb2 (by omega))
    have HB2 := Lib.hid (HB1.out.trans (hb2.mono (by omega)))
    clear hq hb2 htc
    obtain ⟨vv, hvv⟩ : ∃ vv, vv = (tbS ps sig).getD 0 0 := ⟨_, rfl⟩
    rw [← hvv] at hcq
    have HVV := Lib.hid hvv
    clear hvv
    by_cases hz : vv = 1
    · have hz0 : ((((vv : Nat) : Int)) != 1) = false := by subst hz; rfl
      have HZ : Hid ((tbS ps sig).getD 0 0 = 1) := by show _ = 1; rw [← HVV.out]; exact hz
      clear hz
      have cF := spDecode_any ps sig (.agg #[.slice A ps.length c]) _ hi hj w2 HG2.out G2.out (by omega) (by omega) HBK.out hlen
      have CF := Lib.hid cF
      clear cF
      go_wp2_with fail
      refine CF.out.mono ?_
      rintro e w3 ⟨q3, rfl, hq3, hb3⟩
      have hcb3 := (hb3.cell (p := ⟨w.heap.size, 0, Option.none⟩) (by show w.heap.size < w2.heap.size; omega)).trans hcb2
      have hs3 := hb3.size
      have HG3 := Lib.hid (HG2.out.below hb3 (by omega))
      have HB3 := Lib.hid (HB2.out.trans (hb3.mono (by omega)))
      have cX := spText_any ps (waysI (readN ps sig)) (.agg #[.slice A ps.length c]) q3 hi w3.heap.size w3 HG3.out hq3.rd (by omega) (Nat.le_refl _) HBK.out (ixok_of (readN_lt ps sig)) (by rw [waysI_len]; have := readN_len ps sig; omega)
      have CX := Lib.hid cX
      clear cX hq3 hb3 hcb2 hcq
      go_wp2_with fail
      refine CX.out.mono ?_
      rintro e w4 ⟨rfl, hb4⟩
      have HB4 := Lib.hid (HB3.out.trans (hb4.mono (by omega)))
      clear hb4
      go_wp2_with fail
      go_ret2
      exact ⟨ret_val (by rw [msgV_one HRB.out HZ.out]; rfl), HB4.out⟩
    · have hz0 : ((((vv : Nat) : Int)) != 1) = true := by rw [bne_iff_ne]; omega
      have HZ : Hid ((tbS ps sig).getD 0 0 ≠ 1) := by show _ ≠ 1; rw [← HVV.out]; exact hz
      clear hz
      go_wp2_with fail
      go_ret2
      exact ⟨ret_val (by rw [msgV_more HZ.out]; rfl), HB2.out⟩
end Go.Proofs.Ytabhnbooboceeaa
