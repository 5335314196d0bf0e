/- Contracts of the searches for phrases of which one begins another; of the program and of the reference. -/
import Derived.Test.YtabiobjcfopakaaD8
namespace Go.Proofs.Ytabiobjcfopakaa
open Go.RowKit
def sigAt (ps : List Phr) (i : Nat) : List Int := (sigs ps).getD i []
theorem sigAt_eq {ps : List Phr} {i : Nat} {p : Phr} (h : ps[i]? = some p) : sigAt ps i = p.2 := by simp [sigAt, sigs, List.getD_eq_getElem?_getD, h]
/-- Does phrase i begin phrase k, another one? -/
def preB (ps : List Phr) (i k : Nat) : Bool := !(i == k) && begB (sigAt ps i) (sigAt ps k)
/-- The first two phrases of which one begins the other. -/
def firstPre (ps : List Phr) : Option (Nat × Nat) :=
  match (List.range ps.length).find? fun i => (List.range ps.length).any fun k => preB ps i k with
  | some i => ((List.range ps.length).find? fun k => preB ps i k).map fun k => (i, k)
  | Option.none => Option.none
theorem preB_no {ps : List Phr} {i : Nat} (h : ∀ k, k < ps.length → preB ps i k = false) : ((List.range ps.length).any fun k => preB ps i k) = false := by
  rw [List.any_eq_false]; intro k hk; rw [h k (List.mem_range.1 hk)]; exact Bool.false_ne_true
theorem firstPre_none {ps : List Phr} (h : ∀ i, i < ps.length → ∀ k, k < ps.length → preB ps i k = false) : firstPre ps = Option.none := by
  have : ((List.range ps.length).find? fun i => (List.range ps.length).any fun k => preB ps i k) = Option.none := by
    rw [List.find?_eq_none]; intro i hi; rw [preB_no (h i (List.mem_range.1 hi))]; exact Bool.false_ne_true
  unfold firstPre; rw [this]
theorem firstPre_some {ps : List Phr} {i k : Nat} (h : ∀ j, j < i → ∀ k, k < ps.length → preB ps j k = false) (h2 : ∀ j, j < k → preB ps i j = false) (hi : i < ps.length) (hk : k < ps.length) (hp : preB ps i k = true) : firstPre ps = some (i, k) := by
  have e1 : ((List.range ps.length).find? fun i => (List.range ps.length).any fun k => preB ps i k) = some i := by
    rw [List.find?_range_eq_some]
    refine ⟨?_, List.mem_range.2 hi, fun j hj => by rw [preB_no (h j hj)]; rfl⟩
    rw [List.any_eq_true]; exact ⟨k, List.mem_range.2 hk, hp⟩
  have e2 : ((List.range ps.length).find? fun k => preB ps i k) = some k := by
    rw [List.find?_range_eq_some]
    exact ⟨hp, List.mem_range.2 hk, fun j hj => by rw [h2 j hj]; rfl⟩
  unfold firstPre; rw [e1]; show Option.map _ _ = _; rw [e2]; rfl
theorem firstPre_lt {ps : List Phr} {i k : Nat} (h : firstPre ps = some (i, k)) : i < ps.length ∧ k < ps.length := by
  unfold firstPre at h
  split at h
  · rename_i i' he
    rw [List.find?_range_eq_some] at he
    rw [Option.map_eq_some_iff] at h
    obtain ⟨k', h1, h2⟩ := h
    rw [List.find?_range_eq_some] at h1
    cases h2
    exact ⟨List.mem_range.1 he.2.1, List.mem_range.1 h1.2.1⟩
  · cases h
def preS : Option (Nat × Nat) → Value
  | some (i, k) => .tuple #[.int .i64 (i : Int), .int .i64 (k : Int)]
  | Option.none => .tuple #[.int .i64 (-1), .int .i64 (-1)]
def preI : Option (Nat × Nat) → Value
  | some (i, k) => .tuple #[.int .i64 (i : Int), .int .i64 (k : Int), .bool true]
  | Option.none => .tuple #[.int .i64 0, .int .i64 0, .bool false]
set_option maxHeartbeats 1600000 in
theorem bkPrefix_any (ps : List Phr) (v : Value) (hi : Nat) (w : World) (h : RdB w hi v ps) (hh : hi ≤ w.heap.size) :
    Calls Try.prog 150 #[v] w fun e w' => e = .returned (preS (firstPre ps)) ∧ Below w.heap.size w w' := by
  obtain ⟨a, rfl, ha⟩ := h
  obtain ⟨A, c, rfl, hc, hm⟩ := ha.form
  have hba : Below w.heap.size w (w.alloc (.cells #[.slice A ps.length c] 48)) := (Below.refl _ _).alloc (Nat.le_refl _) _
  have HB := Lib.hid hba
  have HA := Lib.hid (ha.below hba hh)
  have HG : Hid (RdB (w.alloc (.cells #[.slice A ps.length c] 48)) hi (.agg #[.slice A ps.length c]) ps) := ⟨_, rfl, HA.out⟩
  have hcb0 : (w.alloc (.cells #[.slice A ps.length c] 48)).cell? ⟨w.heap.size, 0, Option.none⟩ = some (.slice A ps.length c) := (Blk.new w 48 #[.slice A ps.length c]).cell 0
  have HCB := Lib.hid hcb0
  have hsz1 : hi ≤ (w.alloc (.cells #[.slice A ps.length c] 48)).heap.size := by simp; omega
  clear ha hba hcb0
  go_enter Try.func150, Try.ntmps150
  go_wp2_with fail
  go_loopw [11] (fun i wr => ∃ k : Nat, k ≤ ps.length ∧ i = .int .i64 k ∧ Hid (∀ j, j < k → ∀ q, q < ps.length → preB ps j q = false) ∧ Below (w.heap.size + 1) (w.alloc (.cells #[.slice A ps.length c] 48)) wr) (fun i _ => ps.length - (intOf i).toNat)
  case atStart => exact ⟨0, Nat.zero_le _, rfl, fun j hj => by omega, Below.refl _ _⟩
  case round =>
    obtain ⟨k, hk, rfl, hup, hbr⟩ := hrel
    have hs : w.heap.size + 1 ≤ wr.heap.size := by have := hbr.size; simpa using this
    by_cases hlt : k < ps.length
    · obtain ⟨b1, o1, c1, a, t, xs, hv, hb1, hx, hcell1, hcell2, hra, hta⟩ := (HA.out.below hbr (by omega)).at_ hlt
      cases hv
      obtain ⟨A2, c2, rfl, hc2, hm2⟩ := Rd.form hra
      have HX := Lib.hid hx
      have HRA := Lib.hid hra
      clear hx hra
      have hbx : Below (w.heap.size + 1) (w.alloc (.cells #[.slice (some ⟨b1, o1, Option.none⟩) ps.length c] 48)) (wr.alloc (.cells #[.string t, .slice A2 xs.length c2] 60)) := hbr.alloc hs _
      have HBX := Lib.hid hbx
      have HRX := Lib.hid (HRA.out.below ((Below.refl wr.heap.size wr).alloc (Nat.le_refl _) (.cells #[.string t, .slice A2 xs.length c2] 60)) (by omega))
      have HCX := Lib.hid ((Blk.new wr 60 #[.string t, .slice A2 xs.length c2]).cell 1)
      have hsx : (wr.alloc (.cells #[.string t, .slice A2 xs.length c2] 60)).heap.size = wr.heap.size + 1 := by simp
      have HSX := Lib.hid hsx
      have hboxx := (hbx.cell (p := ⟨w.heap.size, 0, Option.none⟩) (by show w.heap.size < _; omega)).trans HCB.out
      clear hbx hsx hbr
      rename World => wo
      go_wp2_with fail
      go_loopw [19] (fun i wr => ∃ q : Nat, q ≤ ps.length ∧ i = .int .i64 q ∧ Hid (∀ j, j < q → preB ps k j = false) ∧ Below (wo.heap.size + 1) (wo.alloc (.cells #[.string t, .slice A2 xs.length c2] 60)) wr) (fun i _ => ps.length - (intOf i).toNat)
      case atStart => exact ⟨0, Nat.zero_le _, rfl, fun j hj => by omega, Below.refl _ _⟩
      case round =>
        obtain ⟨q, hq, rfl, hin, hbi⟩ := hrel
        have hsi : wo.heap.size + 1 ≤ wr.heap.size := by have := hbi.size; have := HSX.out; omega
        by_cases hltq : q < ps.length
        · obtain ⟨b3, o3, c3, a2, t2, ys, hv, _, hy, hcell3, hcell4, hrb, htb⟩ := (HA.out.below (HBX.out.trans (hbi.mono (by omega))) (by omega)).at_ hltq
          cases hv
          obtain ⟨A4, c4, rfl, hc4, hm4⟩ := Rd.form hrb
          have hcx1 := (hbi.cell (p := ⟨wo.heap.size, 1, Option.none⟩) (by show wo.heap.size < _; omega)).trans HCX.out
          have HY := Lib.hid hy
          have hry := hrb.below ((Below.refl wr.heap.size wr).alloc (Nat.le_refl _) (.cells #[.string t2, .slice A4 ys.length c4] 60)) (by omega)
          have hrx := (HRX.out.below hbi (by omega)).below ((Below.refl wr.heap.size wr).alloc (Nat.le_refl _) (.cells #[.string t2, .slice A4 ys.length c4] 60)) (by omega)
          have HRY := Lib.hid hry
          have HRX2 := Lib.hid hrx
          have HBI := Lib.hid (hbi.alloc hsi (.cells #[.string t2, .slice A4 ys.length c4] 60))
          clear hrb hry hrx hy hbi
          have hcx2 : (wr.alloc (.cells #[.string t2, .slice A4 ys.length c4] 60)).cell? ⟨wo.heap.size, 1, Option.none⟩ = some (.slice A2 xs.length c2) := by
            have := (((Below.refl wr.heap.size wr).alloc (Nat.le_refl _) (.cells #[.string t2, .slice A4 ys.length c4] 60)).cell (p := ⟨wo.heap.size, 1, Option.none⟩) (by show wo.heap.size < _; omega)).trans hcx1
            exact this
          by_cases hne : k = q
          · have hne1 : ((k : Int) != (q : Int)) = false := by rw [hne]; simp
            have HNE := Lib.hid hne
            clear hne
            go_wp2_with fail
            go_roundw
            case rel => exact ⟨q + 1, by omega, by go_num, fun j hj => by
              by_cases e : j = q
              · subst e; unfold preB; simp [HNE.out]
              · exact hin.out j (by omega), HBI.out⟩
            case measure => simp [intOf]; omega
          · have hne1 : ((k : Int) != (q : Int)) = true := by rw [bne_iff_ne]; omega
            have hpre : preB ps k q = begB xs ys := by unfold preB; rw [sigAt_eq HX.out, sigAt_eq HY.out]; simp [hne]
            cases hbg : begB xs ys
            · rw [hbg] at hpre
              have HP := Lib.hid hpre
              clear hpre
              have cB := bkBegins_any xs ys _ _ hi hi _ HRX2.out HRY.out
              rw [hbg] at cB
              have CB := Lib.hid cB
              clear cB
              go_wp2_with (go_at_call 209; refine CB.out.mono ?_; rintro e w' ⟨rfl, n, rfl⟩)
              go_roundw
              case rel => exact ⟨q + 1, by omega, by go_num, fun j hj => by
                by_cases e : j = q
                · subst e; exact HP.out
                · exact hin.out j (by omega), HBI.out.trans (bel_drewN _ _ _)⟩
              case measure => simp [intOf]; omega
            · rw [hbg] at hpre
              have HP := Lib.hid hpre
              clear hpre
              have cB := bkBegins_any xs ys _ _ hi hi _ HRX2.out HRY.out
              rw [hbg] at cB
              have CB := Lib.hid cB
              clear cB
              go_wp2_with (go_at_call 209; refine CB.out.mono ?_; rintro e w' ⟨rfl, n, rfl⟩)
              go_ret2
              exact ⟨ret_val (by rw [firstPre_some hup.out hin.out hlt hltq HP.out]; rfl), (HB.out.trans (HBX.out.mono (by omega))).trans ((HBI.out.mono (by omega)).trans (bel_drewN _ _ _))⟩
        · obtain rfl : q = ps.length := by omega
          go_wp2_with fail
          go_roundw
          case rel => exact ⟨k + 1, by omega, by go_num, fun j hj => by
            by_cases e : j = k
            · subst e; exact hin.out
            · exact hup.out j (by omega), HBX.out.trans (hbi.mono (by omega))⟩
          case measure => simp [intOf]; omega
    · obtain rfl : k = ps.length := by omega
      go_wp2_with fail
      go_ret2
      exact ⟨ret_val (by rw [firstPre_none hup.out]; rfl), HB.out.trans (hbr.mono (by omega))⟩
set_option maxHeartbeats 1600000 in
theorem firstPrefix_any (ps : List Phr) (v : Value) (hi : Nat) (w : World) (h : RdB w hi v ps) (hh : hi ≤ w.heap.size) :
    Calls Try.prog 149 #[v] w fun e w' => e = .returned (preI (firstPre ps)) ∧ Below w.heap.size w w' := by
  obtain ⟨a, rfl, ha⟩ := h
  obtain ⟨A, c, rfl, hc, hm⟩ := ha.form
  have hba : Below w.heap.size w (w.alloc (.cells #[.slice A ps.length c] 48)) := (Below.refl _ _).alloc (Nat.le_refl _) _
  have HB := Lib.hid hba
  have HA := Lib.hid (ha.below hba hh)
  have HG : Hid (RdB (w.alloc (.cells #[.slice A ps.length c] 48)) hi (.agg #[.slice A ps.length c]) ps) := ⟨_, rfl, HA.out⟩
  have hcb0 : (w.alloc (.cells #[.slice A ps.length c] 48)).cell? ⟨w.heap.size, 0, Option.none⟩ = some (.slice A ps.length c) := (Blk.new w 48 #[.slice A ps.length c]).cell 0
  have HCB := Lib.hid hcb0
  have hsz1 : hi ≤ (w.alloc (.cells #[.slice A ps.length c] 48)).heap.size := by simp; omega
  clear ha hba hcb0
  go_enter Try.func149, Try.ntmps149
  go_wp2_with fail
  go_loopw [12] (fun i wr => ∃ k : Nat, k ≤ ps.length ∧ i = .int .i64 k ∧ Hid (∀ j, j < k → ∀ q, q < ps.length → preB ps j q = false) ∧ Below (w.heap.size + 1) (w.alloc (.cells #[.slice A ps.length c] 48)) wr) (fun i _ => ps.length - (intOf i).toNat)
  case atStart => exact ⟨0, Nat.zero_le _, rfl, fun j hj => by omega, Below.refl _ _⟩
  case round =>
    obtain ⟨k, hk, rfl, hup, hbr⟩ := hrel
    have hs : w.heap.size + 1 ≤ wr.heap.size := by have := hbr.size; simpa using this
    by_cases hlt : k < ps.length
    · obtain ⟨b1, o1, c1, a, t, xs, hv, hb1, hx, hcell1, hcell2, hra, hta⟩ := (HA.out.below hbr (by omega)).at_ hlt
      cases hv
      obtain ⟨A2, c2, rfl, hc2, hm2⟩ := Rd.form hra
      have HX := Lib.hid hx
      have HRA := Lib.hid hra
      clear hx hra
      have hbx : Below (w.heap.size + 1) (w.alloc (.cells #[.slice (some ⟨b1, o1, Option.none⟩) ps.length c] 48)) (wr.alloc (.cells #[.string t, .slice A2 xs.length c2] 60)) := hbr.alloc hs _
      have HBX := Lib.hid hbx
      have HRX := Lib.hid (HRA.out.below ((Below.refl wr.heap.size wr).alloc (Nat.le_refl _) (.cells #[.string t, .slice A2 xs.length c2] 60)) (by omega))
      have HCX := Lib.hid ((Blk.new wr 60 #[.string t, .slice A2 xs.length c2]).cell 1)
      have hsx : (wr.alloc (.cells #[.string t, .slice A2 xs.length c2] 60)).heap.size = wr.heap.size + 1 := by simp
      have HSX := Lib.hid hsx
      have hboxx := (hbx.cell (p := ⟨w.heap.size, 0, Option.none⟩) (by show w.heap.size < _; omega)).trans HCB.out
      clear hbx hsx hbr
      rename World => wo
      go_wp2_with fail
      go_loopw [20] (fun i wr => ∃ q : Nat, q ≤ ps.length ∧ i = .int .i64 q ∧ Hid (∀ j, j < q → preB ps k j = false) ∧ Below (wo.heap.size + 1) (wo.alloc (.cells #[.string t, .slice A2 xs.length c2] 60)) wr) (fun i _ => ps.length - (intOf i).toNat)
      case atStart => exact ⟨0, Nat.zero_le _, rfl, fun j hj => by omega, Below.refl _ _⟩
      case round =>
        obtain ⟨q, hq, rfl, hin, hbi⟩ := hrel
        have hsi : wo.heap.size + 1 ≤ wr.heap.size := by have := hbi.size; have := HSX.out; omega
        by_cases hltq : q < ps.length
        · obtain ⟨b3, o3, c3, a2, t2, ys, hv, _, hy, hcell3, hcell4, hrb, htb⟩ := (HA.out.below (HBX.out.trans (hbi.mono (by omega))) (by omega)).at_ hltq
          cases hv
          obtain ⟨A4, c4, rfl, hc4, hm4⟩ := Rd.form hrb
          have hcx1 := (hbi.cell (p := ⟨wo.heap.size, 1, Option.none⟩) (by show wo.heap.size < _; omega)).trans HCX.out
          have HY := Lib.hid hy
          have hry := hrb.below ((Below.refl wr.heap.size wr).alloc (Nat.le_refl _) (.cells #[.string t2, .slice A4 ys.length c4] 60)) (by omega)
          have hrx := (HRX.out.below hbi (by omega)).below ((Below.refl wr.heap.size wr).alloc (Nat.le_refl _) (.cells #[.string t2, .slice A4 ys.length c4] 60)) (by omega)
          have HRY := Lib.hid hry
          have HRX2 := Lib.hid hrx
          have HBI := Lib.hid (hbi.alloc hsi (.cells #[.string t2, .slice A4 ys.length c4] 60))
          clear hrb hry hrx hy hbi
          have hcx2 : (wr.alloc (.cells #[.string t2, .slice A4 ys.length c4] 60)).cell? ⟨wo.heap.size, 1, Option.none⟩ = some (.slice A2 xs.length c2) := by
            have := (((Below.refl wr.heap.size wr).alloc (Nat.le_refl _) (.cells #[.string t2, .slice A4 ys.length c4] 60)).cell (p := ⟨wo.heap.size, 1, Option.none⟩) (by show wo.heap.size < _; omega)).trans hcx1
            exact this
          by_cases hne : k = q
          · have hne1 : ((k : Int) != (q : Int)) = false := by rw [hne]; simp
            have HNE := Lib.hid hne
            clear hne
            go_wp2_with fail
            go_roundw
            case rel => exact ⟨q + 1, by omega, by go_num, fun j hj => by
              by_cases e : j = q
              · subst e; unfold preB; simp [HNE.out]
              · exact hin.out j (by omega), HBI.out⟩
            case measure => simp [intOf]; omega
          · have hne1 : ((k : Int) != (q : Int)) = true := by rw [bne_iff_ne]; omega
            have hpre : preB ps k q = begB xs ys := by unfold preB; rw [sigAt_eq HX.out, sigAt_eq HY.out]; simp [hne]
            cases hbg : begB xs ys
            · rw [hbg] at hpre
              have HP := Lib.hid hpre
              clear hpre
              have cB := begins_any xs ys _ _ hi hi _ HRX2.out HRY.out
              rw [hbg] at cB
              have CB := Lib.hid cB
              clear cB
              go_wp2_with (go_at_call 208; refine CB.out.mono ?_; rintro e w' ⟨rfl, n, rfl⟩)
              go_roundw
              case rel => exact ⟨q + 1, by omega, by go_num, fun j hj => by
                by_cases e : j = q
                · subst e; exact HP.out
                · exact hin.out j (by omega), HBI.out.trans (bel_drewN _ _ _)⟩
              case measure => simp [intOf]; omega
            · rw [hbg] at hpre
              have HP := Lib.hid hpre
              clear hpre
              have cB := begins_any xs ys _ _ hi hi _ HRX2.out HRY.out
              rw [hbg] at cB
              have CB := Lib.hid cB
              clear cB
              go_wp2_with (go_at_call 208; refine CB.out.mono ?_; rintro e w' ⟨rfl, n, rfl⟩)
              go_ret3
              exact ⟨ret_val (by rw [firstPre_some hup.out hin.out hlt hltq HP.out]; rfl), (HB.out.trans (HBX.out.mono (by omega))).trans ((HBI.out.mono (by omega)).trans (bel_drewN _ _ _))⟩
        · obtain rfl : q = ps.length := by omega
          go_wp2_with fail
          go_roundw
          case rel => exact ⟨k + 1, by omega, by go_num, fun j hj => by
            by_cases e : j = k
            · subst e; exact hin.out
            · exact hup.out j (by omega), HBX.out.trans (hbi.mono (by omega))⟩
          case measure => simp [intOf]; omega
    · obtain rfl : k = ps.length := by omega
      go_wp2_with fail
      go_ret3
      exact ⟨ret_val (by rw [firstPre_none hup.out]; rfl), HB.out.trans (hbr.mono (by omega))⟩
end Go.Proofs.Ytabiobjcfopakaa
