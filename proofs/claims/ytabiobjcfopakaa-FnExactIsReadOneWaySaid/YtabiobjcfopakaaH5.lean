/- Contracts: IsReadOneWay, of the program and of the reference. -/
import Derived.Test.YtabiobjcfopakaaH4
import Derived.Test.YtabiobjcfopakaaD10
namespace Go.Proofs.Ytabiobjcfopakaa
open Go.RowKit
def rowV (b o : Bool) : Value := .tuple #[.bool (b && o), .bool b]
theorem rowV_form (b o : Bool) : ∃ p q : Bool, rowV b o = .tuple #[.bool p, .bool q] := ⟨_, _, rfl⟩
theorem rest_some {xss : List (List Int)} {k : Nat} (h : xss[k]? = some []) : [] ∈ xss := List.mem_of_getElem? h
set_option maxHeartbeats 800000 in
theorem IsReadOneWay_any (ps : List Phr) (v : Value) (hi : Nat) (w : World) (h : RdB w hi v ps) (hh : hi ≤ w.heap.size) :
    Calls Try.prog 39 #[v] w fun e w' => e = .returned (rowV (bookB ps) (oneB ps)) ∧ Below w.heap.size w w' := by
  obtain ⟨a, rfl, ha⟩ := h
  obtain ⟨A, c, rfl, hc, hm⟩ := ha.form
  have hba : Below w.heap.size w (w.alloc (.cells #[.slice A ps.length c] 48)) := (Below.refl _ _).alloc (Nat.le_refl _) _
  have HB := Lib.hid hba
  have HA := Lib.hid (ha.below hba hh)
  have HG : Hid (RdB (w.alloc (.cells #[.slice A ps.length c] 48)) hi (.agg #[.slice A ps.length c]) ps) := ⟨_, rfl, HA.out⟩
  have hcb0 : (w.alloc (.cells #[.slice A ps.length c] 48)).cell? ⟨w.heap.size, 0, Option.none⟩ = some (.slice A ps.length c) := (Blk.new w 48 #[.slice A ps.length c]).cell 0
  have HCB := Lib.hid hcb0
  have hsz1 : hi ≤ (w.alloc (.cells #[.slice A ps.length c] 48)).heap.size := by simp; omega
  clear ha hba hcb0
  have cB := IsBook_any ps (.agg #[.slice A ps.length c]) hi (w.alloc (.cells #[.slice A ps.length c] 48)) HG.out hsz1
  cases hbk : bookB ps
  · rw [hbk] at cB
    have CB := Lib.hid cB
    clear cB
    go_enter Try.func39, Try.ntmps39
    go_wp2_with (go_at_call 137; refine CB.out.mono ?_; rintro e w1 ⟨rfl, hb1⟩)
    go_ret2
    exact ⟨ret_val rfl, HB.out.trans (hb1.mono (by simp))⟩
  · rw [hbk] at cB
    have CB := Lib.hid cB
    have HBK := Lib.hid hbk
    clear cB
    go_enter Try.func39, Try.ntmps39
    go_wp2_with fail
    refine CB.out.mono ?_
    rintro e w1 ⟨rfl, hb1⟩
    have hcb := (hb1.cell (p := ⟨w.heap.size, 0, Option.none⟩) (by simp)).trans HCB.out
    have hs1 : w.heap.size + 1 ≤ w1.heap.size := by have := hb1.size; simpa using this
    have HA1 := Lib.hid (HA.out.below hb1 hsz1)
    have HG1 : Hid (RdB w1 hi (.agg #[.slice A ps.length c]) ps) := ⟨_, rfl, HA1.out⟩
    have HB1 := Lib.hid (HB.out.trans (hb1.mono (by simp)))
    clear hb1
    have cR := readOneWay_any ps (.agg #[.slice A ps.length c]) hi w1 HG1.out (by omega) HBK.out
    have CR := Lib.hid cR
    clear cR
    go_wp2_with fail
    refine CR.out.mono ?_
    rintro e w2 ⟨rfl, hb2⟩
    have HB2 := Lib.hid (HB1.out.trans (hb2.mono (by omega)))
    clear hb2
    go_wp2_with fail
    go_ret2
    exact ⟨ret_val rfl, HB2.out⟩
set_option maxHeartbeats 800000 in
theorem sIsReadOneWay_any (ps : List Phr) (v : Value) (hi : Nat) (w : World) (h : RdB w hi v ps) (hh : hi ≤ w.heap.size) :
    Calls Try.prog 37 #[v] w fun e w' => e = .returned (rowV (bookB ps) (oneB ps)) ∧ Below w.heap.size w w' := by
  obtain ⟨a, rfl, ha⟩ := h
  obtain ⟨A, c, rfl, hc, hm⟩ := ha.form
  have hba : Below w.heap.size w (w.alloc (.cells #[.slice A ps.length c] 48)) := (Below.refl _ _).alloc (Nat.le_refl _) _
  have HB := Lib.hid hba
  have HA := Lib.hid (ha.below hba hh)
  have HG : Hid (RdB (w.alloc (.cells #[.slice A ps.length c] 48)) hi (.agg #[.slice A ps.length c]) ps) := ⟨_, rfl, HA.out⟩
  have hcb0 : (w.alloc (.cells #[.slice A ps.length c] 48)).cell? ⟨w.heap.size, 0, Option.none⟩ = some (.slice A ps.length c) := (Blk.new w 48 #[.slice A ps.length c]).cell 0
  have HCB := Lib.hid hcb0
  have hsz1 : hi ≤ (w.alloc (.cells #[.slice A ps.length c] 48)).heap.size := by simp; omega
  clear ha hba hcb0
  have cB := bkGood_any ps (.agg #[.slice A ps.length c]) hi (w.alloc (.cells #[.slice A ps.length c] 48)) HG.out hsz1
  cases hbk : bookB ps
  · rw [hbk] at cB
    have CB := Lib.hid cB
    clear cB
    go_enter Try.func37, Try.ntmps37
    go_wp2_with (go_at_call 134; refine CB.out.mono ?_; rintro e w1 ⟨rfl, hb1⟩)
    go_ret2
    exact ⟨ret_val rfl, HB.out.trans (hb1.mono (by simp))⟩
  · rw [hbk] at cB
    have CB := Lib.hid cB
    have HBK := Lib.hid hbk
    clear cB
    go_enter Try.func37, Try.ntmps37
    go_wp2_with fail
    refine CB.out.mono ?_
    rintro e w1 ⟨rfl, hb1⟩
    have hcb := (hb1.cell (p := ⟨w.heap.size, 0, Option.none⟩) (by simp)).trans HCB.out
    have hs1 : w.heap.size + 1 ≤ w1.heap.size := by have := hb1.size; simpa using this
    have HA1 := Lib.hid (HA.out.below hb1 hsz1)
    have HG1 : Hid (RdB w1 hi (.agg #[.slice A ps.length c]) ps) := ⟨_, rfl, HA1.out⟩
    have HB1 := Lib.hid (HB.out.trans (hb1.mono (by simp)))
    clear hb1
    have cR := bkRests_any ps (.agg #[.slice A ps.length c]) hi w1 HG1.out (by omega) HBK.out
    have CR := Lib.hid cR
    clear cR
    go_wp2_with fail
    refine CR.out.mono ?_
    rintro e w2 ⟨v', rfl, hr2, hb2⟩
    have HB2 := Lib.hid (HB1.out.trans (hb2.mono (by omega)))
    have HR2 := Lib.hid hr2
    obtain ⟨A2, c2, rfl, hm2⟩ := hr2.form
    clear hb2 hr2
    go_wp2_with fail
    go_loop [12] (fun i => ∃ k : Nat, k ≤ (restsR ps).length ∧ i = .int .i64 k ∧ Hid (∀ j, j < k → (restsR ps)[j]? ≠ some [])) (fun i => (restsR ps).length - (intOf i).toNat)
    case atStart => exact ⟨0, Nat.zero_le _, rfl, fun j hj => by omega⟩
    case round =>
      obtain ⟨k, hk, rfl, hno⟩ := hrel
      by_cases hlt : k < (restsR ps).length
      · obtain ⟨b1, o1, c1, a1, xs, hv, _, hx, hcell1, hra⟩ := HR2.out.at_ hlt
        injection hv with hv1 hv2 hv3
        subst hv1
        obtain ⟨A3, c3, rfl, hc3, hm3⟩ := Rd.form hra
        clear hv2 hv3
        by_cases he : xs.length = 0
        · have hxe : xs = [] := List.length_eq_zero_iff.1 he
          have HONE := Lib.hid (show oneB ps = false by unfold oneB; exact decide_eq_false (fun hn => hn (rest_some (hxe ▸ hx))))
          clear hx hra
          go_wp2_with fail
          go_ret2
          exact ⟨ret_val (by rw [HONE.out]; rfl), HB2.out⟩
        · have HN : Hid ((restsR ps)[k]? ≠ some []) := by show _ ≠ _; rw [hx]; intro e; cases e; exact he rfl
          clear hx hra
          go_wp2_with fail
          go_round
          case rel => exact ⟨k + 1, by omega, by go_num, fun j hj => by
            by_cases e : j = k
            · subst e; exact HN.out
            · exact hno.out j (by omega)⟩
          case measure => simp [intOf]; omega
      · obtain rfl : k = (restsR ps).length := by omega
        have HONE := Lib.hid (show oneB ps = true from one_yes (notIn_full hno.out))
        go_wp2_with fail
        go_ret2
        exact ⟨ret_val (by rw [HONE.out]; rfl), HB2.out⟩
end Go.Proofs.Ytabiobjcfopakaa
