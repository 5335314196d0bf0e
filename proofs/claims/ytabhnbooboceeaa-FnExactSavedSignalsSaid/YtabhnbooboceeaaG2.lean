/- Contracts: the signals of what spells letters, one after the other, and how many; of the program and of the reference. -/
import Derived.Test.YtabhnbooboceeaaG1
namespace Go.Proofs.Ytabhnbooboceeaa
open Go.RowKit
theorem spellN_book {ps : List Phr} {s : ByteArray} (h : 0 < (spellN ps s).length) : bookB ps = true := by
  cases hl : leastO ps s with
  | none => rw [spellN_no hl] at h; simp at h
  | some n => have := leastO_ask hl; rw [Bool.and_eq_true] at this; exact this.1
/-- What the loop over the phrases' numbers leans on. -/
structure NumsOk (ps : List Phr) (l : List Nat) : Prop where
  lt : ∀ i ∈ l, i < ps.length
  len : l.length ≤ 40
  book : 0 < l.length → bookB ps = true
theorem spellN_ok (ps : List Phr) (s : ByteArray) : NumsOk ps (spellN ps s) := ⟨spellN_lt ps s, spellN_len ps s, spellN_book⟩
theorem NumsOk.at_ {ps : List Phr} {l : List Nat} (h : NumsOk ps l) {k : Nat} (hk : k < l.length) : ∃ i p, l[k]? = some i ∧ ps[i]? = some p ∧ i < ps.length ∧ (sigsOf ps (l.take k)).length + p.2.length ≤ 1000 := by
  have hi := h.lt l[k] (List.getElem_mem hk)
  have hb := h.book (by omega)
  refine ⟨l[k], ps[l[k]], List.getElem?_eq_getElem hk, List.getElem?_eq_getElem hi, hi, ?_⟩
  have h1 := sigsOf_bd hb (l.take k)
  have h2 := (phrOk_sig (bookB_phr hb (List.getElem_mem hi))).2.1
  have h3 := h.len
  rw [List.length_take] at h1
  omega
theorem enc_le (ps : List Phr) (s : ByteArray) : (sigsOf ps (spellN ps s)).length ≤ 120 := by
  cases h : leastO ps s with
  | none => rw [enc_none h]; simp
  | some n =>
    have hb := leastO_ask h
    rw [Bool.and_eq_true] at hb
    have h1 := sigsOf_bd hb.1 (spellN ps s)
    have h2 := spellN_len ps s
    omega
theorem spellI_len (ps : List Phr) (s : ByteArray) : (waysI (spellN ps s)).length ≤ 40 := by rw [waysI_len]; exact spellN_len ps s
theorem enc_val {ps : List Phr} {s : ByteArray} : Value.tuple #[.int .i64 ((sigsOf ps (spellN ps s)).length : Nat), .bool (leastO ps s).isSome] = lstV (leastO ps s) := by
  cases h : leastO ps s with
  | none => rw [enc_none h]; rfl
  | some n => rw [enc_len h]; rfl
set_option maxRecDepth 100000 in
set_option maxHeartbeats 4000000 in
theorem EncodeMessage_any (ps : List Phr) (s : ByteArray) (v : Value) (hi : Nat) (w : World) (hs0 : s.size ≤ maxLen) (h : RdB w hi v ps) (hh : hi ≤ w.heap.size) :
    Calls Try.prog 37 #[v, .string s] w (RetOwT (sigsOf ps (spellN ps s)) (leastO ps s).isSome w) := by
  obtain ⟨a, rfl, ha⟩ := h
  obtain ⟨A, c, rfl, hc, hm⟩ := ha.form
  have hba : Below w.heap.size w (w.alloc (.cells #[.slice A ps.length c] 30)) := (Below.refl _ _).alloc (Nat.le_refl _) _
  have HB := Lib.hid hba
  have HA := Lib.hid (ha.below hba hh)
  have HG : Hid (RdB (w.alloc (.cells #[.slice A ps.length c] 30)) hi (.agg #[.slice A ps.length c]) ps) := ⟨_, rfl, HA.out⟩
  have hcb0 : (w.alloc (.cells #[.slice A ps.length c] 30)).cell? ⟨w.heap.size, 0, Option.none⟩ = some (.slice A ps.length c) := (Blk.new w 30 #[.slice A ps.length c]).cell 0
  have HCB := Lib.hid hcb0
  have hsz1 : hi ≤ (w.alloc (.cells #[.slice A ps.length c] 30)).heap.size := by simp; omega
  clear ha hba hcb0
  have cS := SpellMessage_any ps s (.agg #[.slice A ps.length c]) hi (w.alloc (.cells #[.slice A ps.length c] 30)) hs0 HG.out hsz1
  have hn := spellN_ok ps s
  obtain ⟨l, hl⟩ : ∃ l, l = spellN ps s := ⟨_, rfl⟩
  obtain ⟨bq, hbq⟩ : ∃ b, b = (leastO ps s).isSome := ⟨_, rfl⟩
  rw [← hl, ← hbq] at cS ⊢
  rw [← hl] at hn
  have HN := Lib.hid hn
  have CS := Lib.hid cS
  have hl40 := hn.len
  clear cS hn hl hbq
  go_enter Try.func37, Try.ntmps37
  go_wp2_with fail
  refine CS.out.mono ?_
  rintro e w1 ⟨q, rfl, hq, hb1⟩
  obtain ⟨Aq, cq, hqv, hqm⟩ := hq.form
  rw [waysI_len] at hqv hqm
  subst hqv
  have hcb := (hb1.cell (p := ⟨w.heap.size, 0, Option.none⟩) (by simp)).trans HCB.out
  have hs1 : w.heap.size + 1 ≤ w1.heap.size := by have := hb1.size; simpa using this
  have HA1 := Lib.hid (HA.out.below hb1 hsz1)
  have HB1 := Lib.hid (HB.out.trans (hb1.mono (by simp)))
  have HQ := Lib.hid hq
  clear hq hb1
  go_wp2_with fail
  go_loopw [8, 19] (fun v i wr => ∃ k : Nat, k ≤ l.length ∧ i = .int .i64 k ∧ Hid (GrowI w1 w1.heap.size wr v (sigsOf ps (l.take k)))) (fun _ i _ => l.length - (intOf i).toNat)
  case atStart => exact ⟨0, Nat.zero_le _, rfl, GrowI.start w1⟩
  case round =>
    obtain ⟨k, hk, rfl, hg⟩ := hrel
    have hsr0 := hg.out.2.1.size
    have hsr1 := hg.out.2.2
    by_cases hlt : k < l.length
    · obtain ⟨i, p, hik, hp, hil, hbd⟩ := HN.out.at_ hlt
      obtain ⟨b1, o1, c1, y, hv, _, hy, hcell1⟩ := Rd.at_ (RdI.below HQ.out.rd hg.out.2.1 (Nat.le_refl _)) (k := k) (by rw [waysI_len]; exact hlt)
      rw [waysI_len] at hv
      injection hv with hv1 hv2 hv3
      subst hv1
      rw [waysI_at hik] at hy
      cases hy
      obtain ⟨b2, o2, c2, a2, t, xs, hv, _, hx, hcell2, hcell3, hra, hta⟩ := (HA1.out.below hg.out.2.1 (by omega)).at_ hil
      injection hv with hv1 hv2 hv3
      subst hv1
      rw [hp] at hx
      cases hx
      have hcbr := (hg.out.2.1.cell (p := ⟨w.heap.size, 0, Option.none⟩) (by show w.heap.size < w1.heap.size; omega)).trans hcb
      have HIK := Lib.hid hik
      have HP := Lib.hid hp
      have HRA := Lib.hid hra
      have hbd2 : (sigsOf ps (l.take k)).length + xs.length ≤ 1000 := hbd
      clear hv2 hv3 hik hp hra hcell2 hbd
      go_wp2_with (at_builtin; refine GrowI.appI rfl (.tmp 23) (.tmp 29) rfl hg.out HRA.out (by omega) rfl rfl ?_; intro v' w5 hG')
      go_roundw
      case rel =>
        refine ⟨_, _, _, ⟨k + 1, by omega, ?_, ?_⟩, rfl, rfl, rfl⟩
        · go_num
        · show GrowI _ _ _ _ _
          rw [take_snocN HIK.out, sigsOf_snoc HP.out]; exact hG'
      case measure => simp [intOf]; omega
    · obtain rfl : k = l.length := by omega
      go_wp2_with fail
      go_ret2
      show RetOwT _ _ _ _ _
      have hgo := hg.out
      rw [List.take_of_length_le (Nat.le_refl _)] at hgo
      exact retOwT_from _ hgo HB1.out (by omega)
set_option maxRecDepth 100000 in
set_option maxHeartbeats 4000000 in
theorem spEncode_any (ps : List Phr) (s : ByteArray) (v : Value) (hi : Nat) (w : World) (h : RdB w hi v ps) (hh : hi ≤ w.heap.size) (hbr : (bookB ps && lettB s) = true) :
    Calls Try.prog 80 #[v, .string s] w (RetOwT (sigsOf ps (spellN ps s)) (leastO ps s).isSome w) := by
  obtain ⟨a, rfl, ha⟩ := h
  obtain ⟨A, c, rfl, hc, hm⟩ := ha.form
  have hba : Below w.heap.size w (w.alloc (.cells #[.slice A ps.length c] 30)) := (Below.refl _ _).alloc (Nat.le_refl _) _
  have HB := Lib.hid hba
  have HA := Lib.hid (ha.below hba hh)
  have HG : Hid (RdB (w.alloc (.cells #[.slice A ps.length c] 30)) hi (.agg #[.slice A ps.length c]) ps) := ⟨_, rfl, HA.out⟩
  have hcb0 : (w.alloc (.cells #[.slice A ps.length c] 30)).cell? ⟨w.heap.size, 0, Option.none⟩ = some (.slice A ps.length c) := (Blk.new w 30 #[.slice A ps.length c]).cell 0
  have HCB := Lib.hid hcb0
  have hsz1 : hi ≤ (w.alloc (.cells #[.slice A ps.length c] 30)).heap.size := by simp; omega
  clear ha hba hcb0
  have hbr2 := hbr
  rw [Bool.and_eq_true] at hbr2
  have cS := spSpell_any ps s (.agg #[.slice A ps.length c]) hi (w.alloc (.cells #[.slice A ps.length c] 30)) HG.out hsz1 hbr2.1 (lettB_len hbr2.2)
  rw [spellL_N hbr, spellQ_O hbr] at cS
  have hn := spellN_ok ps s
  have hnone : (leastO ps s).isSome = false → spellN ps s = [] := fun h => spellN_no (by simpa using h)
  obtain ⟨l, hl⟩ : ∃ l, l = spellN ps s := ⟨_, rfl⟩
  obtain ⟨bq, hbq⟩ : ∃ b, b = (leastO ps s).isSome := ⟨_, rfl⟩
  rw [← hl, ← hbq] at cS hnone ⊢
  rw [← hl] at hn
  have HN := Lib.hid hn
  have hl40 := hn.len
  clear hn hl hbq hbr hbr2
  cases bq
  · have CS := Lib.hid cS
    have HNO := Lib.hid (hnone rfl)
    clear cS hnone
    go_enter Try.func80, Try.ntmps80
    go_wp2_with fail
    refine CS.out.mono ?_
    rintro e w1 ⟨q, rfl, hq, hb1⟩
    have HB1 := Lib.hid (HB.out.trans (hb1.mono (by simp)))
    clear hq hb1
    go_wp2_with fail
    go_ret2
    show RetOwT _ _ _ _ _
    rw [HNO.out]
    exact retOwT _ (GrowI.nil HB1.out)
  · have CS := Lib.hid cS
    clear cS hnone
    go_enter Try.func80, Try.ntmps80
    go_wp2_with fail
    refine CS.out.mono ?_
    rintro e w1 ⟨q, rfl, hq, hb1⟩
    obtain ⟨Aq, cq, hqv, hqm⟩ := hq.form
    rw [waysI_len] at hqv hqm
    subst hqv
    have hcb := (hb1.cell (p := ⟨w.heap.size, 0, Option.none⟩) (by simp)).trans HCB.out
    have hs1 : w.heap.size + 1 ≤ w1.heap.size := by have := hb1.size; simpa using this
    have HA1 := Lib.hid (HA.out.below hb1 hsz1)
    have HB1 := Lib.hid (HB.out.trans (hb1.mono (by simp)))
    have HQ := Lib.hid hq
    clear hq hb1
    go_wp2_with fail
    go_loopw [8, 21] (fun v i wr => ∃ k : Nat, k ≤ l.length ∧ i = .int .i64 k ∧ Hid (GrowI w1 w1.heap.size wr v (sigsOf ps (l.take k)))) (fun _ i _ => l.length - (intOf i).toNat)
    case atStart => exact ⟨0, Nat.zero_le _, rfl, GrowI.start w1⟩
    case round =>
      obtain ⟨k, hk, rfl, hg⟩ := hrel
      have hsr0 := hg.out.2.1.size
      have hsr1 := hg.out.2.2
      by_cases hlt : k < l.length
      · obtain ⟨i, p, hik, hp, hil, hbd⟩ := HN.out.at_ hlt
        obtain ⟨b1, o1, c1, y, hv, _, hy, hcell1⟩ := Rd.at_ (RdI.below HQ.out.rd hg.out.2.1 (Nat.le_refl _)) (k := k) (by rw [waysI_len]; exact hlt)
        rw [waysI_len] at hv
        injection hv with hv1 hv2 hv3
        subst hv1
        rw [waysI_at hik] at hy
        cases hy
        obtain ⟨b2, o2, c2, a2, t, xs, hv, _, hx, hcell2, hcell3, hra, hta⟩ := (HA1.out.below hg.out.2.1 (by omega)).at_ hil
        injection hv with hv1 hv2 hv3
        subst hv1
        rw [hp] at hx
        cases hx
        have hcbr := (hg.out.2.1.cell (p := ⟨w.heap.size, 0, Option.none⟩) (by show w.heap.size < w1.heap.size; omega)).trans hcb
        have HIK := Lib.hid hik
        have HP := Lib.hid hp
        have HRA := Lib.hid hra
        have hbd2 : (sigsOf ps (l.take k)).length + xs.length ≤ 1000 := hbd
        clear hv2 hv3 hik hp hra hcell2 hbd
        go_wp2_with (at_builtin; refine GrowI.appI rfl (.tmp 25) (.tmp 31) rfl hg.out HRA.out (by omega) rfl rfl ?_; intro v' w5 hG')
        go_roundw
        case rel =>
          refine ⟨_, _, _, ⟨k + 1, by omega, ?_, ?_⟩, rfl, rfl, rfl⟩
          · go_num
          · show GrowI _ _ _ _ _
            rw [take_snocN HIK.out, sigsOf_snoc HP.out]; exact hG'
        case measure => simp [intOf]; omega
      · obtain rfl : k = l.length := by omega
        go_wp2_with fail
        go_ret2
        show RetOwT _ _ _ _ _
        have hgo := hg.out
        rw [List.take_of_length_le (Nat.le_refl _)] at hgo
        exact retOwT_from _ hgo HB1.out (by omega)
set_option maxRecDepth 100000 in
set_option maxHeartbeats 4000000 in
theorem sEncodeMessage_any (ps : List Phr) (s : ByteArray) (v : Value) (hi : Nat) (w : World) (hs0 : s.size ≤ maxLen) (h : RdB w hi v ps) (hh : hi ≤ w.heap.size) :
    Calls Try.prog 36 #[v, .string s] w (RetOwT (sigsOf ps (spellN ps s)) (leastO ps s).isSome w) := by
  obtain ⟨a, rfl, ha⟩ := h
  obtain ⟨A, c, rfl, hc, hm⟩ := ha.form
  have hba : Below w.heap.size w (w.alloc (.cells #[.slice A ps.length c] 30)) := (Below.refl _ _).alloc (Nat.le_refl _) _
  have HB := Lib.hid hba
  have HA := Lib.hid (ha.below hba hh)
  have HG : Hid (RdB (w.alloc (.cells #[.slice A ps.length c] 30)) hi (.agg #[.slice A ps.length c]) ps) := ⟨_, rfl, HA.out⟩
  have hcb0 : (w.alloc (.cells #[.slice A ps.length c] 30)).cell? ⟨w.heap.size, 0, Option.none⟩ = some (.slice A ps.length c) := (Blk.new w 30 #[.slice A ps.length c]).cell 0
  have HCB := Lib.hid hcb0
  have hsz1 : hi ≤ (w.alloc (.cells #[.slice A ps.length c] 30)).heap.size := by simp; omega
  clear ha hba hcb0
  have cB := spAsked_any ps s (.agg #[.slice A ps.length c]) hi (w.alloc (.cells #[.slice A ps.length c] 30)) hs0 HG.out hsz1
  cases hbr : (bookB ps && lettB s)
  · rw [hbr] at cB
    have CB := Lib.hid cB
    have HRB := Lib.hid hbr
    clear cB hbr
    go_enter Try.func36, Try.ntmps36
    go_wp2_with (go_at_call 59; refine CB.out.mono ?_; rintro e w1 ⟨rfl, hb1⟩)
    go_ret2
    exact (by show RetOwT _ _ _ _ _; rw [spellN_no (leastO_no HRB.out), leastO_no HRB.out]; exact retOwT _ (GrowI.nil (HB.out.trans (hb1.mono (by simp)))))
  · rw [hbr] at cB
    have CB := Lib.hid cB
    have HRB := Lib.hid hbr
    rw [Bool.and_eq_true] at hbr
    have HBK := Lib.hid hbr.1
    have hs40 : s.size ≤ 40 := by have := hbr.2; unfold lettB at this; rw [Bool.and_eq_true, decide_eq_true_eq] at this; exact this.2
    clear cB hbr
    go_enter Try.func36, Try.ntmps36
    go_wp2_with fail
    refine CB.out.mono ?_
    rintro e w1 ⟨rfl, hb1⟩
    have hcb := (hb1.cell (p := ⟨w.heap.size, 0, Option.none⟩) (by simp)).trans HCB.out
    have hs1 : w.heap.size + 1 ≤ w1.heap.size := by have := hb1.size; simpa using this
    have HA1 := Lib.hid (HA.out.below hb1 hsz1)
    have HG1 : Hid (RdB w1 hi (.agg #[.slice A ps.length c]) ps) := ⟨_, rfl, HA1.out⟩
    have HB1 := Lib.hid (HB.out.trans (hb1.mono (by simp)))
    clear hb1
    have cS := spEncode_any ps s (.agg #[.slice A ps.length c]) hi w1 HG1.out (by omega) HRB.out
    have CS := Lib.hid cS
    clear cS
    go_wp2_with fail
    refine CS.out.mono ?_
    rintro e w2 ⟨q, rfl, hq, hb2⟩
    have HQ := Lib.hid hq
    have HB2 := Lib.hid hb2
    clear hq hb2
    go_wp2_with fail
    go_ret2
    show RetOwT _ _ _ _ _
    exact retOwT_pass HQ.out HB1.out HB2.out
set_option maxRecDepth 100000 in
set_option maxHeartbeats 4000000 in
theorem LeastSignals_any (ps : List Phr) (s : ByteArray) (v : Value) (hi : Nat) (w : World) (hs0 : s.size ≤ maxLen) (h : RdB w hi v ps) (hh : hi ≤ w.heap.size) :
    Calls Try.prog 19 #[v, .string s] w fun e w' => e = .returned (lstV (leastO ps s)) ∧ Below w.heap.size w w' := by
  obtain ⟨a, rfl, ha⟩ := h
  obtain ⟨A, c, rfl, hc, hm⟩ := ha.form
  have hba : Below w.heap.size w (w.alloc (.cells #[.slice A ps.length c] 30)) := (Below.refl _ _).alloc (Nat.le_refl _) _
  have HB := Lib.hid hba
  have HA := Lib.hid (ha.below hba hh)
  have HG : Hid (RdB (w.alloc (.cells #[.slice A ps.length c] 30)) hi (.agg #[.slice A ps.length c]) ps) := ⟨_, rfl, HA.out⟩
  have hcb0 : (w.alloc (.cells #[.slice A ps.length c] 30)).cell? ⟨w.heap.size, 0, Option.none⟩ = some (.slice A ps.length c) := (Blk.new w 30 #[.slice A ps.length c]).cell 0
  have HCB := Lib.hid hcb0
  have hsz1 : hi ≤ (w.alloc (.cells #[.slice A ps.length c] 30)).heap.size := by simp; omega
  clear ha hba hcb0
  have cS := EncodeMessage_any ps s (.agg #[.slice A ps.length c]) hi (w.alloc (.cells #[.slice A ps.length c] 30)) hs0 HG.out hsz1
  have hev := enc_val (ps := ps) (s := s)
  obtain ⟨l, hl⟩ : ∃ l, l = sigsOf ps (spellN ps s) := ⟨_, rfl⟩
  obtain ⟨bq, hbq⟩ : ∃ b, b = (leastO ps s).isSome := ⟨_, rfl⟩
  rw [← hl, ← hbq] at cS hev
  rw [← hev]
  have CS := Lib.hid cS
  clear cS hev hl hbq
  go_enter Try.func19, Try.ntmps19
  go_wp2_with fail
  refine CS.out.mono ?_
  rintro e w1 ⟨q, rfl, hq, hb1⟩
  obtain ⟨Aq, cq, rfl, hqm⟩ := hq.form
  have HB1 := Lib.hid (HB.out.trans (hb1.mono (by simp)))
  clear hq hb1
  go_wp2_with fail
  go_ret2
  exact ⟨rfl, HB1.out⟩
end Go.Proofs.Ytabhnbooboceeaa
