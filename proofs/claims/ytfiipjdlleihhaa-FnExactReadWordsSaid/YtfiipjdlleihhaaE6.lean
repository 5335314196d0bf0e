/- Contracts: the phrases whose texts begin with a string; of the program and of the reference. -/
import Derived.Test.YtfiipjdlleihhaaD10
import Derived.Test.YtfiipjdlleihhaaM4
namespace Go.Proofs.Ytfiipjdlleihhaa
open Go.RowKit
def lettS (s : ByteArray) : Bool := smallB s.data.toList && decide (s.size ≤ 12)
def begAt (ps : List Phr) (s : ByteArray) (i : Nat) : Bool := match ps[i]? with
  | some p => Lib.hasPrefix p.1.data.toList s.data.toList
  | Option.none => false
/-- Of the first k phrases those whose texts begin so. -/
def begK (ps : List Phr) (s : ByteArray) (k : Nat) : List Int := ((List.range k).filter fun i => begAt ps s i).map fun i : Nat => (i : Int)
theorem begK_len (ps : List Phr) (s : ByteArray) (k : Nat) : (begK ps s k).length ≤ k := by
  unfold begK; rw [List.length_map]; have := List.length_filter_le (fun i => begAt ps s i) (List.range k); simpa using this
theorem begK_yes {ps : List Phr} {s : ByteArray} {k : Nat} {p : Phr} (hp : ps[k]? = some p) (h : Lib.hasPrefix p.1.data.toList s.data.toList = true) : begK ps s (k + 1) = begK ps s k ++ [(k : Int)] := by
  have : begAt ps s k = true := by unfold begAt; rw [hp]; exact h
  simp [begK, List.range_succ, this]
theorem begK_no {ps : List Phr} {s : ByteArray} {k : Nat} {p : Phr} (hp : ps[k]? = some p) (h : Lib.hasPrefix p.1.data.toList s.data.toList = false) : begK ps s (k + 1) = begK ps s k := by
  have : begAt ps s k = false := by unfold begAt; rw [hp]; exact h
  simp [begK, List.range_succ, this]
/-- The phrases whose texts begin so, if all is asked rightly. -/
def begL (ps : List Phr) (s : ByteArray) : List Int := if bookB ps && lettS s then begK ps s ps.length else []
theorem begL_len (ps : List Phr) (s : ByteArray) : (begL ps s).length ≤ 40 := by
  unfold begL
  split
  · rename_i h
    rw [Bool.and_eq_true] at h
    have := bookB_len h.1
    have := begK_len ps s ps.length
    omega
  · simp
theorem pre_no {s t : ByteArray} (h : ¬ s.size ≤ t.size) : Lib.hasPrefix t.data.toList s.data.toList = false := by rw [← Lib.hasPrefix_raw, decide_eq_false h]; rfl
theorem pre_eq {s t : ByteArray} {b : Bool} (h : s.size ≤ t.size) (hb : ((t.extract 0 s.size).toList == s.toList) = b) : Lib.hasPrefix t.data.toList s.data.toList = b := by rw [← Lib.hasPrefix_raw, decide_eq_true h, hb]; rfl
theorem GrowI.appH {w wr : World} {B : Nat} {v : Value} {xs : List Int} {ops : Array Oper} {rest : List Oper} {o : Oper} {a : Act} {Q : Exit → Act → World → Prop} {y : Int} (H : Nat) (hH : wr.heap.size = H) (hgd : o.guard = Option.none) (s x : Operand)
    (ho : o.op = .call { callee := .builtin .append, args := #[s, x], argTypes := #[23, 23] }) (hG : GrowI w B wr v xs) (hlen : xs.length < 1099511627776)
    (hs : a.eval s = v) (hx : a.eval x = .slice (some ⟨H, 0, Option.none⟩) 1 1)
    (h : ∀ v' w', GrowI w B w' v' (xs ++ [y]) → wpList Try.prog ops Q rest (a.put o.dst v') w') : wpList Try.prog ops Q (o :: rest) a (wr.alloc (.cells #[.int .i64 y] 3)) := by
  subst hH
  exact GrowI.app hgd s x ho hG hlen hs hx h
theorem still_flip {P : Program} {f : FuncId} {args : Array Value} {w : World} {v : Value} (h : Calls P f args w fun e w' => e = .returned v ∧ w' = w) : Calls P f args w fun e w' => e = .returned v ∧ w = w' :=
  h.mono fun _ _ ⟨he, hw⟩ => ⟨he, hw.symm⟩
set_option maxRecDepth 100000 in
set_option maxHeartbeats 4000000 in
theorem sWithBeginning_any (ps : List Phr) (s : ByteArray) (v : Value) (hi : Nat) (w : World) (hs0 : s.size ≤ maxLen) (h : RdB w hi v ps) (hh : hi ≤ w.heap.size) :
    Calls Try.prog 48 #[v, .string s] w (RetOwT (begL ps s) (bookB ps && lettS s) w) := by
  obtain ⟨a, rfl, ha⟩ := h
  obtain ⟨A, c, rfl, hc, hm⟩ := ha.form
  have HA0 := Lib.hid ha
  have hba : Below w.heap.size w (w.alloc (.cells #[.slice A ps.length c] 40)) := (Below.refl _ _).alloc (Nat.le_refl _) _
  have HB := Lib.hid hba
  have HA := Lib.hid (ha.below hba hh)
  have HG : Hid (RdB (w.alloc (.cells #[.slice A ps.length c] 40)) hi (.agg #[.slice A ps.length c]) ps) := ⟨_, rfl, HA.out⟩
  have hcb0 : (w.alloc (.cells #[.slice A ps.length c] 40)).cell? ⟨w.heap.size, 0, Option.none⟩ = some (.slice A ps.length c) := (Blk.new w 40 #[.slice A ps.length c]).cell 0
  have HCB := Lib.hid hcb0
  have hsz1 : hi ≤ (w.alloc (.cells #[.slice A ps.length c] 40)).heap.size := by simp; omega
  clear ha hba hcb0
  have cB := bkGood_any ps (.agg #[.slice A ps.length c]) hi (w.alloc (.cells #[.slice A ps.length c] 40)) HG.out hsz1
  cases hbk : bookB ps
  · rw [hbk] at cB
    have CB := Lib.hid cB
    clear cB
    go_enter Try.func48, Try.ntmps48
    go_wp2_with (go_at_call 61; refine CB.out.mono ?_; rintro e w1 ⟨rfl, hb1⟩)
    go_ret2
    exact (by
      have e : begL ps s = [] := by unfold begL; rw [hbk]; rfl
      show RetOwT _ _ _ _ _
      rw [e]
      first | exact retOwT _ (GrowI.nil (HB.out.trans (hb1.mono (by simp)))) | (rw [hbk]; exact retOwT _ (GrowI.nil (HB.out.trans (hb1.mono (by simp))))))
  · rw [hbk] at cB
    have CB := Lib.hid cB
    have HBK := Lib.hid hbk
    clear cB
    have hlen := bookB_len hbk
    have hlen1 := hlen.2
    clear hlen
    go_enter Try.func48, Try.ntmps48
    go_wp2_with fail
    refine CB.out.mono ?_
    rintro e w1 ⟨rfl, hb1⟩
    have hcb := (hb1.cell (p := ⟨w.heap.size, 0, Option.none⟩) (by simp)).trans HCB.out
    have hs1 : w.heap.size + 1 ≤ w1.heap.size := by have := hb1.size; simpa using this
    have HA1 := Lib.hid (HA.out.below hb1 hsz1)
    have HG1 : Hid (RdB w1 hi (.agg #[.slice A ps.length c]) ps) := ⟨_, rfl, HA1.out⟩
    have HB1 := Lib.hid (HB.out.trans (hb1.mono (by simp)))
    clear hb1
    have cL := bkLetters_any s hs0 w1
    have HSS : Hid (∃ b, lettS s = b) := ⟨_, rfl⟩
    cases hls : lettS s
    · have hls' : (smallB s.data.toList && decide (s.size ≤ 12)) = false := hls
      rw [hls'] at cL
      have CL := Lib.hid cL
      have HLS := Lib.hid hls
      clear cL hls' hls
      go_wp2_with (go_at_call 86; refine (CL.out).mono ?_; rintro e w' ⟨rfl, rfl⟩)
      go_ret2
      have e : begL ps s = [] := by unfold begL; rw [HBK.out, HLS.out]; first | rfl | simp
      show RetOwT _ _ _ _ _
      first | (rw [e]; exact retOwT _ (GrowI.nil HB1.out)) | (rw [e, HLS.out]; exact retOwT _ (GrowI.nil HB1.out))
    · have hls' : (smallB s.data.toList && decide (s.size ≤ 12)) = true := hls
      rw [hls'] at cL
      have CL := Lib.hid cL
      have HLS := Lib.hid hls
      have hs12 : s.size ≤ 12 := by rw [Bool.and_eq_true, decide_eq_true_eq] at hls'; exact hls'.2
      clear cL hls' hls
      go_wp2_with (go_at_call 86; refine (CL.out).mono ?_; rintro e w' ⟨rfl, rfl⟩)
      go_loopw [6, 20] (fun q i wr => ∃ k : Nat, k ≤ ps.length ∧ i = .int .i64 k ∧ GrowI w w.heap.size wr q (begK ps s k)) (fun _ i _ => ps.length - (intOf i).toNat)
      case atStart => exact ⟨0, Nat.zero_le _, rfl, GrowI.nil HB1.out⟩
      case round =>
        obtain ⟨k, hk, rfl, hG⟩ := hrel
        have hl := begK_len ps s k
        have hs := hG.2.1.size
        by_cases hlt : k < ps.length
        · obtain ⟨b1, o1, c1, a, t, xs, hv, hb1, hx, hcell1, hcell2, hra, hta⟩ := (HA0.out.below hG.2.1 (by omega)).at_ hlt
          cases hv
          obtain ⟨A2, c2, rfl, hc2, hm2⟩ := Rd.form hra
          have HX := Lib.hid hx
          have HG2 := Lib.hid (hG.belowR ((Below.refl wr.heap.size wr).alloc (Nat.le_refl _) (.cells #[.string t, .slice A2 xs.length c2] 66)))
          clear hra hx hG
          by_cases hsz : s.size ≤ t.size
          · have HSZ := Lib.hid hsz
            have hsz2 : (s.size : Int) ≤ (t.size : Int) := by omega
            cases hts : ((t.extract 0 s.size).toList == s.toList)
            · have HT := Lib.hid hts
              go_wp2_with fail
              go_roundw
              case rel => exact ⟨k + 1, by omega, by go_num, by rw [begK_no HX.out (pre_eq HSZ.out HT.out)]; exact HG2.out⟩
              case measure => simp [intOf]; omega
            · have HT := Lib.hid hts
              go_wp2_with (at_builtin; refine GrowI.appH (wr.heap.size + 1) (by simp) rfl (.tmp 40) (.tmp 42) rfl HG2.out (by omega) rfl rfl ?_; intro v' w1 hG')
              go_roundw
              case rel => exact ⟨k + 1, by omega, by go_num, by rw [begK_yes HX.out (pre_eq HSZ.out HT.out)]; exact hG'⟩
              case measure => simp [intOf]; omega
          · have HSZ := Lib.hid hsz
            have hsz2 : ¬ (s.size : Int) ≤ (t.size : Int) := by omega
            go_wp2_with fail
            go_roundw
            case rel => exact ⟨k + 1, by omega, by go_num, by rw [begK_no HX.out (pre_no HSZ.out)]; exact HG2.out⟩
            case measure => simp [intOf]; omega
        · obtain rfl : k = ps.length := by omega
          go_wp2_with fail
          go_ret2
          have e : begL ps s = begK ps s ps.length := by unfold begL; rw [HBK.out, HLS.out]; rfl
          show RetOwT _ _ _ _ _
          first | (rw [e]; exact retOwT _ hG) | (rw [e, HLS.out]; exact retOwT _ hG)
set_option maxRecDepth 100000 in
set_option maxHeartbeats 4000000 in
theorem WithBeginning_any (ps : List Phr) (s : ByteArray) (v : Value) (hi : Nat) (w : World) (hs0 : s.size ≤ maxLen) (h : RdB w hi v ps) (hh : hi ≤ w.heap.size) :
    Calls Try.prog 49 #[v, .string s] w (RetOwT (begL ps s) (bookB ps && lettS s) w) := by
  obtain ⟨a, rfl, ha⟩ := h
  obtain ⟨A, c, rfl, hc, hm⟩ := ha.form
  have HA0 := Lib.hid ha
  have hba : Below w.heap.size w (w.alloc (.cells #[.slice A ps.length c] 40)) := (Below.refl _ _).alloc (Nat.le_refl _) _
  have HB := Lib.hid hba
  have HA := Lib.hid (ha.below hba hh)
  have HG : Hid (RdB (w.alloc (.cells #[.slice A ps.length c] 40)) hi (.agg #[.slice A ps.length c]) ps) := ⟨_, rfl, HA.out⟩
  have hcb0 : (w.alloc (.cells #[.slice A ps.length c] 40)).cell? ⟨w.heap.size, 0, Option.none⟩ = some (.slice A ps.length c) := (Blk.new w 40 #[.slice A ps.length c]).cell 0
  have HCB := Lib.hid hcb0
  have hsz1 : hi ≤ (w.alloc (.cells #[.slice A ps.length c] 40)).heap.size := by simp; omega
  clear ha hba hcb0
  have cB := IsBook_any ps (.agg #[.slice A ps.length c]) hi (w.alloc (.cells #[.slice A ps.length c] 40)) HG.out hsz1
  cases hbk : bookB ps
  · rw [hbk] at cB
    have CB := Lib.hid cB
    clear cB
    go_enter Try.func49, Try.ntmps49
    go_wp2_with (go_at_call 28; refine CB.out.mono ?_; rintro e w1 ⟨rfl, hb1⟩)
    go_ret2
    exact (by
      have e : begL ps s = [] := by unfold begL; rw [hbk]; rfl
      show RetOwT _ _ _ _ _
      rw [e]
      first | exact retOwT _ (GrowI.nil (HB.out.trans (hb1.mono (by simp)))) | (rw [hbk]; exact retOwT _ (GrowI.nil (HB.out.trans (hb1.mono (by simp))))))
  · rw [hbk] at cB
    have CB := Lib.hid cB
    have HBK := Lib.hid hbk
    clear cB
    have hlen := bookB_len hbk
    have hlen1 := hlen.2
    clear hlen
    go_enter Try.func49, Try.ntmps49
    go_wp2_with fail
    refine CB.out.mono ?_
    rintro e w1 ⟨rfl, hb1⟩
    have hcb := (hb1.cell (p := ⟨w.heap.size, 0, Option.none⟩) (by simp)).trans HCB.out
    have hs1 : w.heap.size + 1 ≤ w1.heap.size := by have := hb1.size; simpa using this
    have HA1 := Lib.hid (HA.out.below hb1 hsz1)
    have HG1 : Hid (RdB w1 hi (.agg #[.slice A ps.length c]) ps) := ⟨_, rfl, HA1.out⟩
    have HB1 := Lib.hid (HB.out.trans (hb1.mono (by simp)))
    clear hb1
    by_cases h12 : s.size ≤ 12
    · have cL := isSmall_any s hs0 w1
      have H12 := Lib.hid h12
      cases hls : smallB s.data.toList
      · rw [hls] at cL
        have CL := Lib.hid cL
        have HLS : Hid (lettS s = false) := by show lettS s = false; unfold lettS; rw [hls]; rfl
        clear cL hls
        have h12i : ¬ (12 : Int) < (s.size : Int) := by omega
        go_wp2_with (go_at_call 87; refine (CL.out).mono ?_; rintro e w' ⟨rfl, rfl⟩)
        go_ret2
        have e : begL ps s = [] := by unfold begL; rw [HBK.out, HLS.out]; first | rfl | simp
        show RetOwT _ _ _ _ _
        first | (rw [e]; exact retOwT _ (GrowI.nil HB1.out)) | (rw [e, HLS.out]; exact retOwT _ (GrowI.nil HB1.out))
      · rw [hls] at cL
        have CL := Lib.hid cL
        have HLS : Hid (lettS s = true) := by show lettS s = true; unfold lettS; rw [hls, decide_eq_true H12.out]; rfl
        clear cL hls
        have h12i : ¬ (12 : Int) < (s.size : Int) := by omega
        go_wp2_with (go_at_call 87; refine (CL.out).mono ?_; rintro e w' ⟨rfl, rfl⟩)
        go_loopw [6, 25] (fun q i wr => ∃ k : Nat, k ≤ ps.length ∧ i = .int .i64 k ∧ GrowI w w.heap.size wr q (begK ps s k)) (fun _ i _ => ps.length - (intOf i).toNat)
        case atStart => exact ⟨0, Nat.zero_le _, rfl, GrowI.nil HB1.out⟩
        case round =>
          obtain ⟨k, hk, rfl, hG⟩ := hrel
          have hl := begK_len ps s k
          have hs := hG.2.1.size
          by_cases hlt : k < ps.length
          · obtain ⟨b1, o1, c1, a, t, xs, hv, hb1, hx, hcell1, hcell2, hra, hta⟩ := (HA0.out.below hG.2.1 (by omega)).at_ hlt
            cases hv
            obtain ⟨A2, c2, rfl, hc2, hm2⟩ := Rd.form hra
            have HX := Lib.hid hx
            have HG2 := Lib.hid (hG.belowR ((Below.refl wr.heap.size wr).alloc (Nat.le_refl _) (.cells #[.string t, .slice A2 xs.length c2] 66)))
            clear hra hx hG
            have cP := fun w' => still_flip (Try.strings_HasPrefix t s w')
            cases hpx : Lib.hasPrefix t.data.toList s.data.toList
            · rw [hpx] at cP
              have CP := Lib.hid cP
              have HP := Lib.hid hpx
              clear cP hpx
              go_wp2_with (go_at_call 82; refine (CP.out _).mono ?_; rintro e w' ⟨rfl, rfl⟩)
              go_roundw
              case rel => exact ⟨k + 1, by omega, by go_num, by rw [begK_no HX.out HP.out]; exact HG2.out⟩
              case measure => simp [intOf]; omega
            · rw [hpx] at cP
              have CP := Lib.hid cP
              have HP := Lib.hid hpx
              clear cP hpx
              go_wp2_with (first | (go_at_call 82; refine (CP.out _).mono ?_; rintro e w' ⟨rfl, rfl⟩) | (at_builtin; refine GrowI.appH (wr.heap.size + 1) (by simp) rfl (.tmp 34) (.tmp 36) rfl HG2.out (by omega) rfl rfl ?_; intro v' w1 hG'))
              go_roundw
              case rel => exact ⟨k + 1, by omega, by go_num, by rw [begK_yes HX.out HP.out]; exact hG'⟩
              case measure => simp [intOf]; omega
          · obtain rfl : k = ps.length := by omega
            go_wp2_with fail
            go_ret2
            have e : begL ps s = begK ps s ps.length := by unfold begL; rw [HBK.out, HLS.out]; rfl
            show RetOwT _ _ _ _ _
            first | (rw [e]; exact retOwT _ hG) | (rw [e, HLS.out]; exact retOwT _ hG)
    · have HLS : Hid (lettS s = false) := by show lettS s = false; unfold lettS; rw [decide_eq_false h12, Bool.and_false]
      have h12i : (12 : Int) < (s.size : Int) := by omega
      go_wp2_with fail
      go_ret2
      have e : begL ps s = [] := by unfold begL; rw [HBK.out, HLS.out]; first | rfl | simp
      show RetOwT _ _ _ _ _
      first | (rw [e]; exact retOwT _ (GrowI.nil HB1.out)) | (rw [e, HLS.out]; exact retOwT _ (GrowI.nil HB1.out))
end Go.Proofs.Ytfiipjdlleihhaa
