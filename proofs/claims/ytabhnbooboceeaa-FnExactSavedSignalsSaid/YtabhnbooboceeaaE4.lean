/- Contracts: how many readings signals have; of the program and of the reference. -/
import Derived.Test.YtabhnbooboceeaaE3
namespace Go.Proofs.Ytabhnbooboceeaa
open Go.RowKit
def readB (sig : List Int) : Bool := decide (sig.length ≤ 60) && allB sig 1 60
theorem areRead_any (sig : List Int) (v : Value) (hi : Nat) (w : World) (h : RdI w hi v sig) : Calls Try.prog 63 #[v] w fun e w' => e = .returned (.bool (readB sig)) ∧ w = w' := by
  obtain ⟨A, c, rfl, hc, hm⟩ := Rd.form h
  have H := Lib.hid h
  clear h
  unfold readB
  by_cases hl : sig.length ≤ 60
  · rw [decide_eq_true hl, Bool.true_and]
    have hl2 : (sig.length : Int) ≤ 60 := by omega
    go_enter Try.func63, Try.ntmps63
    go_wp2_with (go_at_call 104; refine (allWithin_any sig _ _ _ hi _ H.out).mono ?_; rintro e w' ⟨rfl, rfl⟩)
    go_ret
    exact ⟨rfl, rfl⟩
  · rw [decide_eq_false hl, Bool.false_and]
    have hl2 : ¬ (sig.length : Int) ≤ 60 := by omega
    go_enter Try.func63, Try.ntmps63
    go_wp2_with fail
    go_ret
    exact ⟨rfl, rfl⟩
set_option maxHeartbeats 800000 in
theorem spSignals_any (ps : List Phr) (sig : List Int) (v u : Value) (hi hj : Nat) (w : World) (h : RdB w hi v ps) (g : RdI w hj u sig) (hh : hi ≤ w.heap.size) (hg : hj ≤ w.heap.size) :
    Calls Try.prog 61 #[v, u] w fun e w' => e = .returned (.bool (bookB ps && readB sig)) ∧ Below w.heap.size w w' := by
  obtain ⟨A', c', rfl, hc', hm'⟩ := Rd.form g
  have G := Lib.hid g
  clear g
  obtain ⟨a, rfl, ha⟩ := h
  obtain ⟨A, c, rfl, hc, hm⟩ := ha.form
  have hba : Below w.heap.size w (w.alloc (.cells #[.slice A ps.length c] 30)) := (Below.refl _ _).alloc (Nat.le_refl _) _
  have HB := Lib.hid hba
  have HA := Lib.hid (ha.below hba hh)
  have HG : Hid (RdB (w.alloc (.cells #[.slice A ps.length c] 30)) hi (.agg #[.slice A ps.length c]) ps) := ⟨_, rfl, HA.out⟩
  have hcb0 : (w.alloc (.cells #[.slice A ps.length c] 30)).cell? ⟨w.heap.size, 0, Option.none⟩ = some (.slice A ps.length c) := (Blk.new w 30 #[.slice A ps.length c]).cell 0
  have HCB := Lib.hid hcb0
  have hsz1 : hi ≤ (w.alloc (.cells #[.slice A ps.length c] 30)).heap.size := by simp; omega
  clear ha hba hcb0
  have cB := bkGood_any ps (.agg #[.slice A ps.length c]) hi (w.alloc (.cells #[.slice A ps.length c] 30)) HG.out hsz1
  cases hbk : bookB ps
  · rw [hbk] at cB
    have CB := Lib.hid cB
    clear cB
    go_enter Try.func61, Try.ntmps61
    go_wp2_with (go_at_call 53; refine CB.out.mono ?_; rintro e w1 ⟨rfl, hb1⟩)
    go_ret
    exact ⟨rfl, HB.out.trans (hb1.mono (by simp))⟩
  · rw [hbk] at cB
    have CB := Lib.hid cB
    have HBK := Lib.hid hbk
    clear cB
    go_enter Try.func61, Try.ntmps61
    go_wp2_with fail
    refine CB.out.mono ?_
    rintro e w1 ⟨rfl, hb1⟩
    have hcb := (hb1.cell (p := ⟨w.heap.size, 0, Option.none⟩) (by simp)).trans HCB.out
    have hs1 : w.heap.size + 1 ≤ w1.heap.size := by have := hb1.size; simpa using this
    have HA1 := Lib.hid (HA.out.below hb1 hsz1)
    have HG1 : Hid (RdB w1 hi (.agg #[.slice A ps.length c]) ps) := ⟨_, rfl, HA1.out⟩
    have HB1 := Lib.hid (HB.out.trans (hb1.mono (by simp)))
    clear hb1
    have G1 := Lib.hid (RdI.below G.out (HB1.out) (by omega))
    have e : (true && readB sig) = readB sig := rfl
    by_cases hl : sig.length ≤ 60
    · have HL := Lib.hid hl
      have hl2 : (sig.length : Int) ≤ 60 := by omega
      go_wp2_with (go_at_call 103; refine (l1All_any sig _ _ _ hj _ G1.out).mono ?_; rintro e w' ⟨rfl, rfl⟩)
      go_ret
      exact ⟨ret_bool (by unfold readB; rw [decide_eq_true HL.out]; rfl), HB1.out⟩
    · have HL := Lib.hid hl
      have hl2 : ¬ (sig.length : Int) ≤ 60 := by omega
      go_wp2_with fail
      go_ret
      exact ⟨ret_bool (by unfold readB; rw [decide_eq_false HL.out]; rfl), HB1.out⟩
/-- How many readings. -/
def cntS (ps : List Phr) (sig : List Int) : Nat := (dpW (fitS sig) sigLen ps sig.length sig.length).getD 0 0
def cntV (b : Bool) (n : Nat) : Value := if b then .tuple #[.int .i64 (n : Int), .bool true] else .tuple #[.int .i64 0, .bool false]
theorem cntV_form (b : Bool) (n : Nat) : ∃ p q, cntV b n = .tuple #[.int .i64 p, .bool q] := by unfold cntV; split <;> exact ⟨_, _, rfl⟩
theorem waysI_head {l : List Nat} {y : Int} (h : (waysI l)[0]? = some y) : y = (l.getD 0 0 : Nat) := by
  unfold waysI at h
  rw [List.getElem?_map] at h
  rw [List.getD_eq_getElem?_getD]
  cases e : l[0]? with
  | none => rw [e] at h; cases h
  | some m => rw [e] at h; cases h; rfl
/-- A table of ways that the call has made: its head. -/
theorem own_head {w : World} {lo hi : Nat} {v : Value} {fit : Nat → Phr → Bool} {len : Phr → Nat} {ps : List Phr} {n : Nat} (h : OwI w lo hi v (waysI (dpW fit len ps n n))) :
    ∃ b c, v = .slice (some ⟨b, 0, Option.none⟩) (n + 1) c ∧ w.cell? ⟨b, 0, Option.none⟩ = some (.int .i64 (((dpW fit len ps n n).getD 0 0 : Nat) : Int)) := by
  have hl : (waysI (dpW fit len ps n n)).length = n + 1 := by simp [waysI, dpW_len]
  obtain ⟨b, off, c, y, hv, _, hy, hc⟩ := Rd.at_ h.rd (k := 0) (by rw [hl]; omega)
  rcases h.1.2 with ⟨rfl, _⟩ | ⟨g, cap, cur, hv2, _⟩
  · cases hv
  · rw [hv] at hv2
    cases hv2
    rw [hl] at hv
    refine ⟨b, c, hv, ?_⟩
    rw [waysI_head hy] at hc
    simpa using hc
end Go.Proofs.Ytabhnbooboceeaa
