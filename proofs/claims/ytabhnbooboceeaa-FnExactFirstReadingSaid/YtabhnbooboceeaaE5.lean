/- Contracts: how many spellings letters have; of the program and of the reference. -/
import Derived.Test.YtabhnbooboceeaaE4
namespace Go.Proofs.Ytabhnbooboceeaa
open Go.RowKit
def lettB (s : ByteArray) : Bool := smallB s.data.toList && decide (s.size ≤ 40)
theorem spLetters_any (s : ByteArray) (hs : s.size ≤ maxLen) (w : World) : Calls Try.prog 101 #[.string s] w fun e w' => e = .returned (.bool (lettB s)) ∧ w = w' := by
  unfold maxLen at hs
  unfold lettB
  go_enter Try.func101, Try.ntmps101
  go_wp2
  go_loop [3] (fun i => ∃ k : Nat, k ≤ s.size ∧ i = .int .i64 k ∧ Hid (smallB (s.data.toList.take k) = true)) (fun i => s.size - (intOf i).toNat)
  case atStart => exact ⟨0, Nat.zero_le _, rfl, rfl⟩
  case round =>
    obtain ⟨k, hk, rfl, hsm⟩ := hrel
    by_cases hlt : k < s.size
    · go_wp2
      · go_ret
        exact ⟨ret_bool (by rw [smallB_no s k hlt (by omega)]; rfl), rfl⟩
      · go_round
        case rel => exact ⟨k + 1, by omega, by go_num, smallB_step s k hlt hsm.out (by omega) (by omega)⟩
        case measure => simp [intOf]; omega
      · go_ret
        exact ⟨ret_bool (by rw [smallB_no s k hlt (by omega)]; rfl), rfl⟩
    · go_wp2
      go_ret
      exact ⟨ret_bool (by rw [smallB_all s k hlt hsm.out, Bool.true_and]; exact decide_eq_decide.2 (by omega)), rfl⟩
theorem isLetters_any (s : ByteArray) (hs : s.size ≤ maxLen) (w : World) : Calls Try.prog 73 #[.string s] w fun e w' => e = .returned (.bool (lettB s)) ∧ w = w' := by
  have cS := isSmall_any s hs
  unfold maxLen at hs
  have CS := Lib.hid cS
  clear cS
  by_cases hl : s.size ≤ 40
  · have HL := Lib.hid hl
    have hl2 : (s.size : Int) ≤ 40 := by omega
    go_enter Try.func73, Try.ntmps73
    go_wp2_with (go_at_call 112; refine (CS.out _).mono ?_; rintro e w' ⟨rfl, rfl⟩)
    go_ret
    exact ⟨ret_bool (by unfold lettB; rw [decide_eq_true HL.out, Bool.and_true]), rfl⟩
  · have HL := Lib.hid hl
    have hl2 : ¬ (s.size : Int) ≤ 40 := by omega
    go_enter Try.func73, Try.ntmps73
    go_wp2_with fail
    go_ret
    exact ⟨ret_bool (by unfold lettB; rw [decide_eq_false HL.out, Bool.and_false]), rfl⟩
theorem spBegins_any (s t : ByteArray) (_hs : s.size ≤ 9223372036854775807) (_ht : t.size ≤ 9223372036854775807) (w : World) :
    Calls Try.prog 102 #[.string s, .string t] w fun e w' => e = .returned (.bool (Lib.hasPrefix s.data.toList t.data.toList)) ∧ w = w' := by
  rw [← Lib.hasPrefix_raw]
  by_cases hl : t.size ≤ s.size
  · rw [decide_eq_true hl, Bool.true_and]
    have hl2 : (t.size : Int) ≤ (s.size : Int) := by omega
    go_enter Try.func102, Try.ntmps102
    go_wp2_with fail
    go_ret
    exact ⟨rfl, rfl⟩
  · rw [decide_eq_false hl, Bool.false_and]
    have hl2 : ¬ (t.size : Int) ≤ (s.size : Int) := by omega
    go_enter Try.func102, Try.ntmps102
    go_wp2_with fail
    go_ret
    exact ⟨rfl, rfl⟩
set_option maxHeartbeats 800000 in
theorem spAsked_any (ps : List Phr) (s : ByteArray) (v : Value) (hi : Nat) (w : World) (hs0 : s.size ≤ maxLen) (h : RdB w hi v ps) (hh : hi ≤ w.heap.size) :
    Calls Try.prog 59 #[v, .string s] w fun e w' => e = .returned (.bool (bookB ps && lettB s)) ∧ Below w.heap.size w w' := by
  obtain ⟨a, rfl, ha⟩ := h
  obtain ⟨A, c, rfl, hc, hm⟩ := ha.form
  have hba : Below w.heap.size w (w.alloc (.cells #[.slice A ps.length c] 30)) := (Below.refl _ _).alloc (Nat.le_refl _) _
  have HB := Lib.hid hba
  have HA := Lib.hid (ha.below hba hh)
  have HG : Hid (RdB (w.alloc (.cells #[.slice A ps.length c] 30)) hi (.agg #[.slice A ps.length c]) ps) := ⟨_, rfl, HA.out⟩
  have hcb0 : (w.alloc (.cells #[.slice A ps.length c] 30)).cell? ⟨w.heap.size, 0, Option.none⟩ = some (.slice A ps.length c) := (Blk.new w 30 #[.slice A ps.length c]).cell 0
  have HCB := Lib.hid hcb0
  have hsz1 : hi ≤ (w.alloc (.cells #[.slice A ps.length c] 30)).heap.size := by simp; omega
  clear ha hba hcb0
  have cB := bkGood_any ps (.agg #[.slice A ps.length c]) hi (w.alloc (.cells #[.slice A ps.length c] 30)) HG.out hsz1
  cases hbk : bookB ps
  · rw [hbk] at cB
    have CB := Lib.hid cB
    clear cB
    go_enter Try.func59, Try.ntmps59
    go_wp2_with (go_at_call 53; refine CB.out.mono ?_; rintro e w1 ⟨rfl, hb1⟩)
    go_ret
    exact ⟨rfl, HB.out.trans (hb1.mono (by simp))⟩
  · rw [hbk] at cB
    have CB := Lib.hid cB
    have HBK := Lib.hid hbk
    clear cB
    go_enter Try.func59, Try.ntmps59
    go_wp2_with fail
    refine CB.out.mono ?_
    rintro e w1 ⟨rfl, hb1⟩
    have hcb := (hb1.cell (p := ⟨w.heap.size, 0, Option.none⟩) (by simp)).trans HCB.out
    have hs1 : w.heap.size + 1 ≤ w1.heap.size := by have := hb1.size; simpa using this
    have HA1 := Lib.hid (HA.out.below hb1 hsz1)
    have HG1 : Hid (RdB w1 hi (.agg #[.slice A ps.length c]) ps) := ⟨_, rfl, HA1.out⟩
    have HB1 := Lib.hid (HB.out.trans (hb1.mono (by simp)))
    clear hb1
    have cL := spLetters_any s hs0 w1
    have CL := Lib.hid cL
    clear cL
    go_wp2_with (go_at_call 101; refine (CL.out).mono ?_; rintro e w' ⟨rfl, rfl⟩)
    go_ret
    exact ⟨rfl, HB1.out⟩
/-- How many spellings. -/
def cntT (ps : List Phr) (s : ByteArray) : Nat := (dpW (fitT s) txtLen ps s.size s.size).getD 0 0
theorem tblZ_head {fit : Nat → Phr → Bool} {len : Phr → Nat} {ps : List Phr} {n : Nat} : (tblZ 0 (dpW fit len ps n n))[0]? = some (.int .i64 (((dpW fit len ps n n).getD 0 0 : Nat) : Int)) := by
  have hl := dpW_len fit len ps n n
  cases e : dpW fit len ps n n with
  | nil => rw [e] at hl; simp at hl
  | cons a l => simp [tblZ]
end Go.Proofs.Ytabhnbooboceeaa
