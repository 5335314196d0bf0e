/- Texts of one claim, joined: E6, Y2, Z10, W0, W4, W7. -/
import Derived.Laws.IdiomCopy
import Derived.Lib.SliceRun
import Derived.Lib.AppendZerosOnto
import Derived.Deep.RegionLaw
import Derived.Deep.DeepCutAuto
import Derived.Test.YtjnkdjokbamibaaGreatDoorP12Books
/- Contracts: the phrases whose texts begin with a string; of the program and of the reference. -/
namespace Go.Proofs.YtjnkdjokbamibaaGreatDoor
open Go.RowKit
def lettS (s : ByteArray) : Bool := smallB s.data.toList && decide (s.size ≤ 12)
def begAt (ps : List Phr) (s : ByteArray) (i : Nat) : Bool := match ps[i]? with
  | some p => Lib.hasPrefix p.1.data.toList s.data.toList
  | Option.none => false
/-- Of the first k phrases those whose texts begin so. -/
def begK (ps : List Phr) (s : ByteArray) (k : Nat) : List Int := ((List.range k).filter fun i => begAt ps s i).map fun i : Nat => (i : Int)
theorem begK_len (ps : List Phr) (s : ByteArray) (k : Nat) : (begK ps s k).length ≤ k := by
  unfold begK; rw [List.length_map]; have := List.length_filter_le (fun i => begAt ps s i) (List.range k); simpa using this
theorem begK_yes {ps : List Phr} {s : ByteArray} {k : Nat} {p : Phr} (hp : ps[k]? = some p) (h : Lib.hasPrefix p.1.data.toList s.data.toList = true) : begK ps s (k + 1) = begK ps s k ++ [(k : Int)] := by
  have : begAt ps s k = true := by unfold begAt; rw [hp]; exact h
  simp [begK, List.range_succ, this]
theorem begK_no {ps : List Phr} {s : ByteArray} {k : Nat} {p : Phr} (hp : ps[k]? = some p) (h : Lib.hasPrefix p.1.data.toList s.data.toList = false) : begK ps s (k + 1) = begK ps s k := by
  have : begAt ps s k = false := by unfold begAt; rw [hp]; exact h
  simp [begK, List.range_succ, this]
/-- The phrases whose texts begin so, if all is asked rightly. -/
def begL (ps : List Phr) (s : ByteArray) : List Int := if bookB ps && lettS s then begK ps s ps.length else []
theorem begL_len (ps : List Phr) (s : ByteArray) : (begL ps s).length ≤ 40 := by
  unfold begL
  split
  · rename_i h
    rw [Bool.and_eq_true] at h
    have := bookB_len h.1
    have := begK_len ps s ps.length
    omega
  · simp
theorem pre_no {s t : ByteArray} (h : ¬ s.size ≤ t.size) : Lib.hasPrefix t.data.toList s.data.toList = false := by rw [← Lib.hasPrefix_raw, decide_eq_false h]; rfl
theorem pre_eq {s t : ByteArray} {b : Bool} (h : s.size ≤ t.size) (hb : ((t.extract 0 s.size).toList == s.toList) = b) : Lib.hasPrefix t.data.toList s.data.toList = b := by rw [← Lib.hasPrefix_raw, decide_eq_true h, hb]; rfl
theorem GrowI.appH {w wr : World} {B : Nat} {v : Value} {xs : List Int} {ops : Array Oper} {rest : List Oper} {o : Oper} {a : Act} {Q : Exit → Act → World → Prop} {y : Int} (H : Nat) (hH : wr.heap.size = H) (hgd : o.guard = Option.none) (s x : Operand)
    (ho : o.op = .call { callee := .builtin .append, args := #[s, x], argTypes := #[24, 24] }) (hG : GrowI w B wr v xs) (hlen : xs.length < 1099511627776)
    (hs : a.eval s = v) (hx : a.eval x = .slice (some ⟨H, 0, Option.none⟩) 1 1)
    (h : ∀ v' w', GrowI w B w' v' (xs ++ [y]) → wpList Tryz.prog ops Q rest (a.put o.dst v') w') : wpList Tryz.prog ops Q (o :: rest) a (wr.alloc (.cells #[.int .i64 y] 3)) := by
  subst hH
  exact GrowI.app hgd s x ho hG hlen hs hx h
theorem still_flip {P : Program} {f : FuncId} {args : Array Value} {w : World} {v : Value} (h : Calls P f args w fun e w' => e = .returned v ∧ w' = w) : Calls P f args w fun e w' => e = .returned v ∧ w = w' :=
  h.mono fun _ _ ⟨he, hw⟩ => ⟨he, hw.symm⟩
set_option maxRecDepth 100000 in
set_option maxHeartbeats 4000000 in
theorem sWithBeginning_any (ps : List Phr) (s : ByteArray) (v : Value) (hi : Nat) (w : World) (hs0 : s.size ≤ maxLen) (h : RdB w hi v ps) (hh : hi ≤ w.heap.size) :
    Calls Tryz.prog 38 #[v, .string s] w (RetOwT (begL ps s) (bookB ps && lettS s) w) := by
  obtain ⟨a, rfl, ha⟩ := h
  obtain ⟨A, c, rfl, hc, hm⟩ := ha.form
  have HA0 := Lib.hid ha
  have hba : Below w.heap.size w (w.alloc (.cells #[.slice A ps.length c] 41)) := (Below.refl _ _).alloc (Nat.le_refl _) _
  have HB := Lib.hid hba
  have HA := Lib.hid (ha.below hba hh)
  have HG : Hid (RdB (w.alloc (.cells #[.slice A ps.length c] 41)) hi (.agg #[.slice A ps.length c]) ps) := ⟨_, rfl, HA.out⟩
  have hcb0 : (w.alloc (.cells #[.slice A ps.length c] 41)).cell? ⟨w.heap.size, 0, Option.none⟩ = some (.slice A ps.length c) := (Blk.new w 41 #[.slice A ps.length c]).cell 0
  have HCB := Lib.hid hcb0
  have hsz1 : hi ≤ (w.alloc (.cells #[.slice A ps.length c] 41)).heap.size := by simp; omega
  clear ha hba hcb0
  have cB := bkGood_any ps (.agg #[.slice A ps.length c]) hi (w.alloc (.cells #[.slice A ps.length c] 41)) HG.out hsz1
  cases hbk : bookB ps
  · rw [hbk] at cB
    have CB := Lib.hid cB
    clear cB
    go_enter Tryz.func38, Tryz.ntmps38
    go_wp2_with (go_at_call 69; refine CB.out.mono ?_; rintro e w1 ⟨rfl, hb1⟩)
    go_ret2
    exact (by
      have e : begL ps s = [] := by unfold begL; rw [hbk]; rfl
      show RetOwT _ _ _ _ _
      rw [e]
      first | exact retOwT _ (GrowI.nil (HB.out.trans (hb1.mono (by simp)))) | (rw [hbk]; exact retOwT _ (GrowI.nil (HB.out.trans (hb1.mono (by simp))))))
  · rw [hbk] at cB
    have CB := Lib.hid cB
    have HBK := Lib.hid hbk
    clear cB
    have hlen := bookB_len hbk
    have hlen1 := hlen.2
    clear hlen
    go_enter Tryz.func38, Tryz.ntmps38
    go_wp2_with fail
    refine CB.out.mono ?_
    rintro e w1 ⟨rfl, hb1⟩
    have hcb := (hb1.cell (p := ⟨w.heap.size, 0, Option.none⟩) (by simp)).trans HCB.out
    have hs1 : w.heap.size + 1 ≤ w1.heap.size := by have := hb1.size; simpa using this
    have HA1 := Lib.hid (HA.out.below hb1 hsz1)
    have HG1 : Hid (RdB w1 hi (.agg #[.slice A ps.length c]) ps) := ⟨_, rfl, HA1.out⟩
    have HB1 := Lib.hid (HB.out.trans (hb1.mono (by simp)))
    clear hb1
    have cL := bkLetters_any s hs0 w1
    have HSS : Hid (∃ b, lettS s = b) := ⟨_, rfl⟩
    cases hls : lettS s
    · have hls' : (smallB s.data.toList && decide (s.size ≤ 12)) = false := hls
      rw [hls'] at cL
      have CL := Lib.hid cL
      have HLS := Lib.hid hls
      clear cL hls' hls
      go_wp2_with (go_at_call 94; refine (CL.out).mono ?_; rintro e w' ⟨rfl, rfl⟩)
      go_ret2
      have e : begL ps s = [] := by unfold begL; rw [HBK.out, HLS.out]; first | rfl | simp
      show RetOwT _ _ _ _ _
      first | (rw [e]; exact retOwT _ (GrowI.nil HB1.out)) | (rw [e, HLS.out]; exact retOwT _ (GrowI.nil HB1.out))
    · have hls' : (smallB s.data.toList && decide (s.size ≤ 12)) = true := hls
      rw [hls'] at cL
      have CL := Lib.hid cL
      have HLS := Lib.hid hls
      have hs12 : s.size ≤ 12 := by rw [Bool.and_eq_true, decide_eq_true_eq] at hls'; exact hls'.2
      clear cL hls' hls
      go_wp2_with (go_at_call 94; refine (CL.out).mono ?_; rintro e w' ⟨rfl, rfl⟩)
      go_loopw [6, 20] (fun q i wr => ∃ k : Nat, k ≤ ps.length ∧ i = .int .i64 k ∧ GrowI w w.heap.size wr q (begK ps s k)) (fun _ i _ => ps.length - (intOf i).toNat)
      case atStart => exact ⟨0, Nat.zero_le _, rfl, GrowI.nil HB1.out⟩
      case round =>
        obtain ⟨k, hk, rfl, hG⟩ := hrel
        have hl := begK_len ps s k
        have hs := hG.2.1.size
        by_cases hlt : k < ps.length
        · obtain ⟨b1, o1, c1, a, t, xs, hv, hb1, hx, hcell1, hcell2, hra, hta⟩ := (HA0.out.below hG.2.1 (by omega)).at_ hlt
          cases hv
          obtain ⟨A2, c2, rfl, hc2, hm2⟩ := Rd.form hra
          have HX := Lib.hid hx
          have HG2 := Lib.hid (hG.belowR ((Below.refl wr.heap.size wr).alloc (Nat.le_refl _) (.cells #[.string t, .slice A2 xs.length c2] 45)))
          clear hra hx hG
          by_cases hsz : s.size ≤ t.size
          · have HSZ := Lib.hid hsz
            have hsz2 : (s.size : Int) ≤ (t.size : Int) := by omega
            cases hts : ((t.extract 0 s.size).toList == s.toList)
            · have HT := Lib.hid hts
              go_wp2_with fail
              go_roundw
              case rel => exact ⟨k + 1, by omega, by go_num, by rw [begK_no HX.out (pre_eq HSZ.out HT.out)]; exact HG2.out⟩
              case measure => simp [intOf]; omega
            · have HT := Lib.hid hts
              go_wp2_with (at_builtin; refine GrowI.appH (wr.heap.size + 1) (by simp) rfl (.tmp 40) (.tmp 42) rfl HG2.out (by omega) rfl rfl ?_; intro v' w1 hG')
              go_roundw
              case rel => exact ⟨k + 1, by omega, by go_num, by rw [begK_yes HX.out (pre_eq HSZ.out HT.out)]; exact hG'⟩
              case measure => simp [intOf]; omega
          · have HSZ := Lib.hid hsz
            have hsz2 : ¬ (s.size : Int) ≤ (t.size : Int) := by omega
            go_wp2_with fail
            go_roundw
            case rel => exact ⟨k + 1, by omega, by go_num, by rw [begK_no HX.out (pre_no HSZ.out)]; exact HG2.out⟩
            case measure => simp [intOf]; omega
        · obtain rfl : k = ps.length := by omega
          go_wp2_with fail
          go_ret2
          have e : begL ps s = begK ps s ps.length := by unfold begL; rw [HBK.out, HLS.out]; rfl
          show RetOwT _ _ _ _ _
          first | (rw [e]; exact retOwT _ hG) | (rw [e, HLS.out]; exact retOwT _ hG)
set_option maxRecDepth 100000 in
set_option maxHeartbeats 4000000 in
theorem WithBeginning_any (ps : List Phr) (s : ByteArray) (v : Value) (hi : Nat) (w : World) (hs0 : s.size ≤ maxLen) (h : RdB w hi v ps) (hh : hi ≤ w.heap.size) :
    Calls Tryz.prog 37 #[v, .string s] w (RetOwT (begL ps s) (bookB ps && lettS s) w) := by
  obtain ⟨a, rfl, ha⟩ := h
  obtain ⟨A, c, rfl, hc, hm⟩ := ha.form
  have HA0 := Lib.hid ha
  have hba : Below w.heap.size w (w.alloc (.cells #[.slice A ps.length c] 41)) := (Below.refl _ _).alloc (Nat.le_refl _) _
  have HB := Lib.hid hba
  have HA := Lib.hid (ha.below hba hh)
  have HG : Hid (RdB (w.alloc (.cells #[.slice A ps.length c] 41)) hi (.agg #[.slice A ps.length c]) ps) := ⟨_, rfl, HA.out⟩
  have hcb0 : (w.alloc (.cells #[.slice A ps.length c] 41)).cell? ⟨w.heap.size, 0, Option.none⟩ = some (.slice A ps.length c) := (Blk.new w 41 #[.slice A ps.length c]).cell 0
  have HCB := Lib.hid hcb0
  have hsz1 : hi ≤ (w.alloc (.cells #[.slice A ps.length c] 41)).heap.size := by simp; omega
  clear ha hba hcb0
  have cB := IsBook_any ps (.agg #[.slice A ps.length c]) hi (w.alloc (.cells #[.slice A ps.length c] 41)) HG.out hsz1
  cases hbk : bookB ps
  · rw [hbk] at cB
    have CB := Lib.hid cB
    clear cB
    go_enter Tryz.func37, Tryz.ntmps37
    go_wp2_with (go_at_call 47; refine CB.out.mono ?_; rintro e w1 ⟨rfl, hb1⟩)
    go_ret2
    exact (by
      have e : begL ps s = [] := by unfold begL; rw [hbk]; rfl
      show RetOwT _ _ _ _ _
      rw [e]
      first | exact retOwT _ (GrowI.nil (HB.out.trans (hb1.mono (by simp)))) | (rw [hbk]; exact retOwT _ (GrowI.nil (HB.out.trans (hb1.mono (by simp))))))
  · rw [hbk] at cB
    have CB := Lib.hid cB
    have HBK := Lib.hid hbk
    clear cB
    have hlen := bookB_len hbk
    have hlen1 := hlen.2
    clear hlen
    go_enter Tryz.func37, Tryz.ntmps37
    go_wp2_with fail
    refine CB.out.mono ?_
    rintro e w1 ⟨rfl, hb1⟩
    have hcb := (hb1.cell (p := ⟨w.heap.size, 0, Option.none⟩) (by simp)).trans HCB.out
    have hs1 : w.heap.size + 1 ≤ w1.heap.size := by have := hb1.size; simpa using this
    have HA1 := Lib.hid (HA.out.below hb1 hsz1)
    have HG1 : Hid (RdB w1 hi (.agg #[.slice A ps.length c]) ps) := ⟨_, rfl, HA1.out⟩
    have HB1 := Lib.hid (HB.out.trans (hb1.mono (by simp)))
    clear hb1
    by_cases h12 : s.size ≤ 12
    · have cL := isSmall_any s hs0 w1
      have H12 := Lib.hid h12
      cases hls : smallB s.data.toList
      · rw [hls] at cL
        have CL := Lib.hid cL
        have HLS : Hid (lettS s = false) := by show lettS s = false; unfold lettS; rw [hls]; rfl
        clear cL hls
        have h12i : ¬ (12 : Int) < (s.size : Int) := by omega
        go_wp2_with (go_at_call 92; refine (CL.out).mono ?_; rintro e w' ⟨rfl, rfl⟩)
        go_ret2
        have e : begL ps s = [] := by unfold begL; rw [HBK.out, HLS.out]; first | rfl | simp
        show RetOwT _ _ _ _ _
        first | (rw [e]; exact retOwT _ (GrowI.nil HB1.out)) | (rw [e, HLS.out]; exact retOwT _ (GrowI.nil HB1.out))
      · rw [hls] at cL
        have CL := Lib.hid cL
        have HLS : Hid (lettS s = true) := by show lettS s = true; unfold lettS; rw [hls, decide_eq_true H12.out]; rfl
        clear cL hls
        have h12i : ¬ (12 : Int) < (s.size : Int) := by omega
        go_wp2_with (go_at_call 92; refine (CL.out).mono ?_; rintro e w' ⟨rfl, rfl⟩)
        go_loopw [6, 25] (fun q i wr => ∃ k : Nat, k ≤ ps.length ∧ i = .int .i64 k ∧ GrowI w w.heap.size wr q (begK ps s k)) (fun _ i _ => ps.length - (intOf i).toNat)
        case atStart => exact ⟨0, Nat.zero_le _, rfl, GrowI.nil HB1.out⟩
        case round =>
          obtain ⟨k, hk, rfl, hG⟩ := hrel
          have hl := begK_len ps s k
          have hs := hG.2.1.size
          by_cases hlt : k < ps.length
          · obtain ⟨b1, o1, c1, a, t, xs, hv, hb1, hx, hcell1, hcell2, hra, hta⟩ := (HA0.out.below hG.2.1 (by omega)).at_ hlt
            cases hv
            obtain ⟨A2, c2, rfl, hc2, hm2⟩ := Rd.form hra
            have HX := Lib.hid hx
            have HG2 := Lib.hid (hG.belowR ((Below.refl wr.heap.size wr).alloc (Nat.le_refl _) (.cells #[.string t, .slice A2 xs.length c2] 45)))
            clear hra hx hG
            have cP := fun w' => still_flip (Tryz.strings_HasPrefix t s w')
            cases hpx : Lib.hasPrefix t.data.toList s.data.toList
            · rw [hpx] at cP
              have CP := Lib.hid cP
              have HP := Lib.hid hpx
              clear cP hpx
              go_wp2_with (go_at_call 93; refine (CP.out _).mono ?_; rintro e w' ⟨rfl, rfl⟩)
              go_roundw
              case rel => exact ⟨k + 1, by omega, by go_num, by rw [begK_no HX.out HP.out]; exact HG2.out⟩
              case measure => simp [intOf]; omega
            · rw [hpx] at cP
              have CP := Lib.hid cP
              have HP := Lib.hid hpx
              clear cP hpx
              go_wp2_with (first | (go_at_call 93; refine (CP.out _).mono ?_; rintro e w' ⟨rfl, rfl⟩) | (at_builtin; refine GrowI.appH (wr.heap.size + 1) (by simp) rfl (.tmp 34) (.tmp 36) rfl HG2.out (by omega) rfl rfl ?_; intro v' w1 hG'))
              go_roundw
              case rel => exact ⟨k + 1, by omega, by go_num, by rw [begK_yes HX.out HP.out]; exact hG'⟩
              case measure => simp [intOf]; omega
          · obtain rfl : k = ps.length := by omega
            go_wp2_with fail
            go_ret2
            have e : begL ps s = begK ps s ps.length := by unfold begL; rw [HBK.out, HLS.out]; rfl
            show RetOwT _ _ _ _ _
            first | (rw [e]; exact retOwT _ hG) | (rw [e, HLS.out]; exact retOwT _ hG)
    · have HLS : Hid (lettS s = false) := by show lettS s = false; unfold lettS; rw [decide_eq_false h12, Bool.and_false]
      have h12i : (12 : Int) < (s.size : Int) := by omega
      go_wp2_with fail
      go_ret2
      have e : begL ps s = [] := by unfold begL; rw [HBK.out, HLS.out]; first | rfl | simp
      show RetOwT _ _ _ _ _
      first | (rw [e]; exact retOwT _ (GrowI.nil HB1.out)) | (rw [e, HLS.out]; exact retOwT _ (GrowI.nil HB1.out))
end Go.Proofs.YtjnkdjokbamibaaGreatDoor
/- Plain laws on the texts of books: the text of a book is read back, and nothing else is. -/
namespace Go.Proofs.YtjnkdjokbamibaaGreatDoor
open Go.RowKit
def lineT (p : Phr) : List UInt8 := p.1.data.toList ++ 32 :: numsT 45 p.2
def bookT (ps : List Phr) : List UInt8 := (ps.map fun p => lineT p ++ [10]).flatten
def linesO (s : List UInt8) : Option (List (List UInt8)) := if s = [] then some [] else if Lib.hasSuffix s [10] then some (splitC 10 (Lib.trimSuffix s [10])) else Option.none
def lineO (line : List UInt8) : Option Phr := match numsO 45 (Lib.cut line [32]).2.1 with
  | some l => some (⟨(Lib.cut line [32]).1.toArray⟩, l)
  | Option.none => Option.none
def bookO (s : List UInt8) : Option (List Phr) := match linesO s with
  | some ls => match allO lineO ls with
    | some b => if bookB b then some b else Option.none
    | Option.none => Option.none
  | Option.none => Option.none
theorem joinC_flat (c : UInt8) : ∀ {ls : List (List UInt8)}, ls ≠ [] → joinC c ls ++ [c] = (ls.map (· ++ [c])).flatten
  | [], h => absurd rfl h
  | [a], _ => by simp [joinC]
  | a :: b :: r, _ => by
    have ih := joinC_flat c (ls := b :: r) (by simp)
    rw [joinC_cons _ _ (by simp), List.map_cons, List.flatten_cons, ← ih]
    simp
theorem bookT_join {ps : List Phr} (h : ps ≠ []) : bookT ps = joinC 10 (ps.map lineT) ++ [10] := by
  rw [joinC_flat 10 (by simpa using h)]
  unfold bookT
  rw [List.map_map]; rfl
theorem suffix_snoc (a : List UInt8) (c : UInt8) : Lib.hasSuffix (a ++ [c]) [c] = true ∧ Lib.trimSuffix (a ++ [c]) [c] = a := by
  have h : Lib.hasSuffix (a ++ [c]) [c] = true := by
    unfold Lib.hasSuffix
    rw [List.isSuffixOf_iff_suffix]
    exact List.suffix_append _ _
  refine ⟨h, ?_⟩
  unfold Lib.trimSuffix
  rw [h, if_pos rfl]
  simp
theorem suffix_of {s : List UInt8} {c : UInt8} (h : Lib.hasSuffix s [c] = true) : s = Lib.trimSuffix s [c] ++ [c] := by
  have h0 := h
  unfold Lib.hasSuffix at h
  rw [List.isSuffixOf_iff_suffix] at h
  obtain ⟨a, rfl⟩ := h
  rw [(suffix_snoc a c).2]
theorem lineO_text {line : List UInt8} {p : Phr} (h : lineO line = some p) : lineT p = line ∧ True := by
  refine ⟨?_, trivial⟩
  unfold lineO at h
  rcases cut_or 32 line with ⟨_, hc⟩ | ⟨a, r, rfl, _, hc⟩
  · rw [hc] at h
    simp [numsO, splitC, allO, readN, Lib.atoiAll] at h
  · rw [hc] at h
    cases hn : numsO 45 r with
    | none => simp [hn] at h
    | some l =>
      simp [hn] at h
      subst h
      unfold lineT
      rw [nums_text hn]
theorem phr_text {p : Phr} (h : phrOk p = true) : 1 ≤ p.1.data.toList.length ∧ p.1.data.toList.length ≤ 12 ∧ ∀ b ∈ p.1.data.toList, 97 ≤ b.toNat ∧ b.toNat ≤ 122 := by
  unfold phrOk phraseB smallB at h
  simp only [Bool.and_eq_true, decide_eq_true_eq, List.all_eq_true] at h
  exact ⟨h.1.1.1, h.1.1.2, h.1.2⟩
theorem phr_sigs {p : Phr} (h : phrOk p = true) : 1 ≤ p.2.length ∧ p.2.length ≤ 3 ∧ ∀ n ∈ p.2, 1 ≤ n ∧ n ≤ 60 := by
  unfold phrOk sigOk allB at h
  simp only [Bool.and_eq_true, inB_iff, List.all_eq_true] at h
  have h1 := h.2.1
  exact ⟨by omega, by omega, fun n hn => h.2.2 n hn⟩
theorem phr_no {p : Phr} (h : phrOk p = true) {c : UInt8} (hc : c.toNat < 97) : c ∉ p.1.data.toList := fun hm => by have := (phr_text h).2.2 c hm; omega
theorem phr_63 {p : Phr} (h : phrOk p = true) : ∀ n ∈ p.2, 0 ≤ n ∧ n ≤ 63 := fun n hn => by have := (phr_sigs h).2.2 n hn; omega
theorem phr_ne {p : Phr} (h : phrOk p = true) : p.2 ≠ [] := fun e => by have := (phr_sigs h).1; rw [e] at this; simp at this
theorem line_no {p : Phr} (h : phrOk p = true) : 10 ∉ lineT p := by
  unfold lineT
  intro hm
  rcases List.mem_append.1 hm with hm | hm
  · exact phr_no h (by decide) hm
  · rcases List.mem_cons.1 hm with hm | hm
    · cases hm
    · exact numsT_no (by decide) (.inl (by decide)) (phr_63 h) hm
theorem text_lineO {p : Phr} (h : phrOk p = true) : lineO (lineT p) = some p := by
  unfold lineO lineT
  rw [cut_hit _ (phr_no h (by decide))]
  simp only [text_nums (c := 45) (by decide) (phr_ne h) (phr_63 h)]
theorem book_ne {ps : List Phr} (h : bookB ps = true) : ps ≠ [] := fun e => by have := bookB_len h; rw [e] at this; simp at this
theorem book_lines {ps : List Phr} (h : bookB ps = true) : splitC 10 (joinC 10 (ps.map lineT)) = ps.map lineT := by
  refine split_join (by simpa using book_ne h) (fun a ha => ?_)
  obtain ⟨p, hp, rfl⟩ := List.mem_map.1 ha
  exact line_no (bookB_phr h hp)
theorem bookO_iff {s : List UInt8} {b : List Phr} : bookO s = some b ↔ bookB b = true ∧ bookT b = s := by
  constructor
  · intro h
    unfold bookO at h
    cases hl : linesO s with
    | none => rw [hl] at h; cases h
    | some ls =>
      rw [hl] at h
      cases ha : allO lineO ls with
      | none => simp [ha] at h
      | some q =>
        simp only [ha] at h
        split at h
        · rename_i hb
          cases h
          refine ⟨hb, ?_⟩
          have hm := (allO_inv (P := fun _ => True) (fun a n hn => lineO_text hn) ha).1
          unfold linesO at hl
          split at hl
          · cases hl
            have : b = [] := by simpa using hm
            exact absurd this (book_ne hb)
          · split at hl
            · rename_i hs
              cases hl
              rw [bookT_join (book_ne hb), hm, join_split]
              exact (suffix_of hs).symm
            · cases hl
        · cases h
  · rintro ⟨h1, rfl⟩
    have h2 := suffix_snoc (joinC 10 (b.map lineT)) 10
    unfold bookO linesO
    rw [bookT_join (book_ne h1), if_neg (by simp), h2.1, if_pos rfl, h2.2, book_lines h1]
    simp only [allO_map (fun p hp => text_lineO (bookB_phr h1 hp)), h1, if_true]
/-- As the reference reads a line, and a book. -/
def refLine (line : List UInt8) : Option Phr := match splitC 32 line with
  | [a, r] => some (⟨a.toArray⟩, (splitC 45 r).map readR)
  | _ => Option.none
def refB (s : List UInt8) : Option (List Phr) := if 41 < (splitC 10 s).length then Option.none else match allO refLine (splitC 10 s).dropLast with
  | some b => if bookB b && decide (bookT b = s) then some b else Option.none
  | Option.none => Option.none
theorem text_refLine {p : Phr} (h : phrOk p = true) : refLine (lineT p) = some p := by
  unfold refLine lineT
  rw [splitC_hit _ (phr_no h (by decide)), splitC_no (numsT_no (by decide) (.inl (by decide)) (phr_63 h))]
  simp only [nums_parts (c := 45) (by decide) (phr_ne h) (phr_63 h), map_readR (phr_63 h)]
theorem refB_eq (s : List UInt8) : refB s = bookO s := by
  apply Option.ext
  intro b
  rw [bookO_iff]
  unfold refB
  constructor
  · intro h
    split at h
    · cases h
    · split at h
      · split at h
        · rename_i hc
          rw [Bool.and_eq_true, decide_eq_true_eq] at hc
          cases h; exact hc
        · cases h
      · cases h
  · rintro ⟨h1, rfl⟩
    have hb := bookB_len h1
    have hs : splitC 10 (bookT b) = b.map lineT ++ [[]] := by
      rw [bookT_join (book_ne h1), show joinC 10 (b.map lineT) ++ [10] = joinC 10 (b.map lineT ++ [[]]) by rw [joinC_snoc, if_neg (by simpa using book_ne h1)]]
      refine split_join (by simp) (fun a ha => ?_)
      rcases List.mem_append.1 ha with ha | ha
      · obtain ⟨p, hp, rfl⟩ := List.mem_map.1 ha
        exact line_no (bookB_phr h1 hp)
      · simp at ha; subst ha; simp
    rw [hs, if_neg (by simp; omega), List.dropLast_concat, allO_map (fun p hp => text_refLine (bookB_phr h1 hp))]
    simp [h1]
theorem bookT_len {ps : List Phr} (h : bookB ps = true) : (bookT ps).length ≤ 23 * ps.length := by
  have : ∀ q : List Phr, (∀ p ∈ q, phrOk p = true) → (bookT q).length ≤ 23 * q.length := by
    intro q
    induction q with
    | nil => intro _; simp [bookT]
    | cons p r ih =>
      intro hq
      have h1 := phr_text (hq p (by simp))
      have h2 := phr_sigs (hq p (by simp))
      have h3 := numsT_len (c := 45) (phr_63 (hq p (by simp)))
      have ih := ih (fun x hx => hq x (by simp [hx]))
      unfold bookT lineT at ih ⊢
      simp only [List.map_cons, List.flatten_cons, List.length_append, List.length_cons, List.length_nil] at ih ⊢
      omega
  exact this ps fun p hp => bookB_phr h hp
end Go.Proofs.YtjnkdjokbamibaaGreatDoor
/- Plain laws for FnBooks: what is found is there, what was added is dropped, what begins. -/
namespace Go.Proofs.YtjnkdjokbamibaaGreatDoor
open Go.RowKit
theorem find_told (ps : List Phr) (s : ByteArray) : ∃ (i : Int) (b : Bool), findV (bookB ps) (txtIx ps s) = .tuple #[.int .i64 i, .bool b] ∧ (b = true → ∃ (k : Nat) (p : Phr), i = (k : Int) ∧ ps[k]? = some p ∧ p.1 = s) := by
  cases hb : bookB ps
  · exact ⟨0, false, rfl, fun h => (by cases h)⟩
  · cases hi : txtIx ps s with
    | none => exact ⟨0, false, rfl, fun h => (by cases h)⟩
    | some k =>
      obtain ⟨p, hp, he⟩ := txtIx_at hi
      exact ⟨k, true, rfl, fun _ => ⟨k, p, rfl, hp, he⟩⟩
theorem sigIx_at {ps : List Phr} {ys : List Int} {i : Nat} (h : sigIx ps ys = some i) : ∃ p, ps[i]? = some p ∧ p.2 = ys := by
  unfold sigIx at h
  rw [List.findIdx?_eq_some_iff_getElem] at h
  obtain ⟨hi, h1, _⟩ := h
  exact ⟨_, List.getElem?_eq_getElem hi, of_decide_eq_true h1⟩
theorem of_told (ps : List Phr) (ys : List Int) : ∃ (i : Int) (b : Bool), findV (bookB ps && sigOk ys) (sigIx ps ys) = .tuple #[.int .i64 i, .bool b] ∧ (b = true → ∃ (k : Nat) (p : Phr), i = (k : Int) ∧ ps[k]? = some p ∧ p.2 = ys) := by
  cases hb : (bookB ps && sigOk ys)
  · exact ⟨0, false, rfl, fun h => (by cases h)⟩
  · cases hi : sigIx ps ys with
    | none => exact ⟨0, false, rfl, fun h => (by cases h)⟩
    | some k =>
      obtain ⟨p, hp, he⟩ := sigIx_at hi
      exact ⟨k, true, rfl, fun _ => ⟨k, p, rfl, hp, he⟩⟩
theorem add_told {px : List Phr} {y : Phr} (h : (addO px y).isSome = true) : ∃ i : Nat, bookB ((addO px y).getD []) = true ∧ txtIx ((addO px y).getD []) y.1 = some i ∧ ((addO px y).getD [])[i]? = some y ∧ dropO ((addO px y).getD []) y.1 = some px := by
  unfold addO at h ⊢
  split
  · rename_i hc
    rw [Bool.and_eq_true] at hc
    have hd := add_drop hc.1 hc.2
    exact ⟨posA px y.1, hc.2, hd.1, hd.2.1, hd.2.2⟩
  · rename_i hc
    rw [if_neg hc] at h
    cases h
theorem beg_told {ps : List Phr} {s : ByteArray} (h : (bookB ps && lettS s) = true) {k : Nat} {p : Phr} (hp : ps[k]? = some p) : decide ((k : Int) ∈ begL ps s) = Lib.hasPrefix p.1.data.toList s.data.toList := by
  have hk := (List.getElem?_eq_some_iff.1 hp).1
  have hb : begAt ps s k = Lib.hasPrefix p.1.data.toList s.data.toList := by unfold begAt; rw [hp]
  unfold begL
  rw [if_pos h, ← hb]
  have e : ((k : Int) ∈ begK ps s ps.length) ↔ begAt ps s k = true := by
    unfold begK
    simp only [List.mem_map, List.mem_filter, List.mem_range]
    constructor
    · rintro ⟨j, ⟨_, h2⟩, he⟩
      obtain rfl : j = k := by omega
      exact h2
    · intro h2
      exact ⟨k, ⟨hk, h2⟩, rfl⟩
  cases hc : begAt ps s k
  · exact decide_eq_false (fun hm => by rw [e, hc] at hm; cases hm)
  · exact decide_eq_true (e.2 hc)
theorem book_told {ps : List Phr} {st : ByteArray} (h : bookB ps = true) (hs : st = ⟨(bookT ps).toArray⟩) : bookO st.data.toList = some ps ∧ st.size ≤ 1048576 := by
  subst hs
  refine ⟨bookO_iff.2 ⟨h, rfl⟩, ?_⟩
  have h1 := bookT_len h
  have h2 := bookB_len h
  show (bookT ps).toArray.size ≤ 1048576
  rw [List.size_toArray]
  omega
theorem qHas_quiet (xs : List Int) (n : Int) (v : Value) (hi : Nat) (w : World) (h : RdI w hi v xs) : Calls Tryz.prog 48 #[v, .int .i64 n] w fun e w' => e = .returned (.bool (decide (n ∈ xs))) ∧ ∃ k, w' = w.drewN k :=
  (qHas_any xs n v hi w h).mono fun _ _ ⟨he, hw⟩ => ⟨he, 0, by rw [← hw]; rfl⟩
end Go.Proofs.YtjnkdjokbamibaaGreatDoor
/- Room for phrases; phrases of the call's own: for the seats without the copies of books. -/
namespace Go.Proofs.YtjnkdjokbamibaaGreatDoor
open Go.RowKit
theorem make_phr (n : Nat) (hn : n ≤ 1048576) (w : World) :
    (Instr.makeSlice 39 (.int .i64 (n : Int)) (.int .i64 (n : Int))).run Tryz.prog w = .ok (.slice (some ⟨w.heap.size, 0, Option.none⟩) n n) (w.alloc (.cells (phrRoom n) 45)) := by
  obtain ⟨i, hi, hz0, hz1, hz2⟩ := info_parts info_phr
  have h := run_make_rowN (P := Tryz.prog) 39 45 i (.agg #[.string { data := #[] }, .slice Option.none 0 0]) Tryz.underlying39 hi hz0 .i64 .i64 n n (Nat.le_refl _) (by rw [hz2]; omega) (by omega) w
  rw [h, hz1]
  rfl
/-- Phrases of the call's own. -/
def RetOwPS (ps : List Phr) (w : World) (e : Ending) (w' : World) : Prop := ∃ v, e = .returned v ∧ OwPS w' w.heap.size w'.heap.size v ps ∧ Below w.heap.size w w'
end Go.Proofs.YtjnkdjokbamibaaGreatDoor
/- A row of phrases in memory: cells stored, copied, cleared, appended; slices.Delete, slices.Insert on a row that the call has made. -/
namespace Go.Proofs.YtjnkdjokbamibaaGreatDoor
open Go.RowKit
theorem zipC_drop : ∀ (ts : List ByteArray) (us : List Value) (k : Nat), us.length = ts.length → (zipC ts us).drop (k * 2) = zipC (ts.drop k) (us.drop k)
  | [], us, k, _ => by simp [zipC]
  | t :: ts, [], k, h => by simp at h
  | t :: ts, u :: us, 0, _ => by simp [zipC]
  | t :: ts, u :: us, k + 1, h => by simp only [zipC, List.drop_succ_cons, show (k + 1) * 2 = k * 2 + 1 + 1 by omega, zipC_drop ts us k (by simpa using h)]
theorem RowsR.drop {w : World} {hi : Nat} {us : List Value} {xss : List (List Int)} (h : RowsR w hi us xss) (k : Nat) : RowsR w hi (us.drop k) (xss.drop k) := by
  refine ⟨by simp [h.1], fun i u xs hu hx => ?_⟩
  rw [List.getElem?_drop] at hu hx
  exact h.2 _ u xs hu hx
theorem RdPS.drop {w : World} {hi n c b off : Nat} {ps : List Phr} (h : RdPS w hi (.slice (some ⟨b, off, Option.none⟩) n c) ps) {k : Nat} (hk : k ≤ ps.length) :
    RdPS w hi (.slice (if c = k then some ⟨b, off, Option.none⟩ else some ⟨b, off + k * 2, Option.none⟩) (n - k) (c - k)) (ps.drop k) := by
  obtain ⟨us, h1, ⟨h0, A', c', hv, h2, h3, h4⟩, ht⟩ := h
  cases hv
  have hul : us.length = ps.length := by have := h1.1; simpa [sigs] using this
  have e := zipC_drop (txts ps) us k (by simp [txts, hul])
  refine ⟨us.drop k, ?_, ⟨?_, (if c = k then some ⟨b, off, Option.none⟩ else some ⟨b, off + k * 2, Option.none⟩), c - k, ?_, ?_, ?_, fun hp => ?_⟩, fun p hp => ht p (List.mem_of_mem_drop hp)⟩
  · have := h1.drop k; unfold sigs at *; rwa [← List.map_drop] at this
  · unfold txts at *; rw [← List.map_drop] at e; rw [← e, List.length_drop, h0, List.length_drop]; omega
  · rw [List.length_drop]
  · rw [List.length_drop]; omega
  · unfold maxLen at *; omega
  · rw [List.length_drop] at hp
    obtain ⟨b', off', hA, hb, hc⟩ := h4 (by omega)
    cases hA
    refine ⟨b, off + k * 2, if_neg (by omega), hb, fun j u hu => ?_⟩
    unfold txts at *
    rw [← List.map_drop] at e
    rw [← e, List.getElem?_drop] at hu
    have := hc _ _ hu
    rwa [← Nat.add_assoc] at this
theorem blk_setCells : ∀ (vs : List Value) (o : Nat) {w : World} {g : Nat} {t : TypeId} {cs : List Value}, Blk w g t cs → o + vs.length ≤ cs.length → Blk (w.setCells g o vs) g t (cs.take o ++ vs ++ cs.drop (o + vs.length))
  | [], o, w, g, t, cs, h, _ => by simpa [World.setCells] using h
  | v :: r, o, w, g, t, cs, h, hl => by
    have h1 := blk_setCells r (o + 1) (h.set_ o v) (by simp at hl ⊢; omega)
    have e := list_seg_step cs o v r (by simp at hl; omega)
    rw [show o + 1 + r.length = o + 1 + r.length from rfl, e] at h1
    exact h1
theorem only_setCells : ∀ (vs : List Value) (o : Nat) {a w : World} {g : Nat}, Only (some g) a w → Only (some g) a (w.setCells g o vs)
  | [], _, _, _, _, h => h
  | v :: r, o, _, _, _, h => only_setCells r (o + 1) (h.setCell rfl v)
theorem below_setCellsP : ∀ (vs : List Value) (o : Nat) {B : Nat} {a w : World} {g : Nat}, Below B a w → B ≤ g → Below B a (w.setCells g o vs)
  | [], _, _, _, _, _, h, _ => h
  | v :: r, o, _, _, _, _, h, hB => below_setCellsP r (o + 1) (h.setCell hB v) hB
theorem only_drew {g : Nat} {a w : World} (h : Only (some g) a w) : Only (some g) a w.drew := ⟨h.os, h.tape, h.output, h.size, h.block⟩
theorem run_copyP (w : World) (ty : TypeId) (g o dLen dCap : Nat) (a : Addr) (sLen sCap n : Nat) (cs news : List Value) (hb : Blk w g 45 cs) (hmin : Nat.min sLen dLen = n) (hl : news.length = n * 2) (hsrc : ∀ j v, news[j]? = some v → w.cell? (a.add j) = some v)
    (hfit : o + news.length ≤ cs.length) (h1 : ∀ v ∈ news, v.oneCell' = true) :
    (Builtin.copy_ #[39, 39] ty #[.slice (some ⟨g, o, Option.none⟩) dLen dCap, .slice (some a) sLen sCap]).run Tryz.prog w = .ok (goInt n) (w.setCells g o news) := by
  obtain ⟨i, hi, hz0, hz1, hz2⟩ := info_parts info_phr
  have hl2 := run_loadCells_list (P := Tryz.prog) w a news hsrc
  have hst := run_storeCells_cells (P := Tryz.prog) g o news 0 w (fun j hj => by rw [Nat.add_zero, hb.cell, List.getElem?_eq_getElem (by omega)]; rfl) (fun j hj => hb.frozen _) h1
  rw [hl] at hl2
  simp only [Nat.add_zero] at hst
  simp [Builtin.copy_, run_underlying Tryz.underlying39, Builtin.lenOf, Builtin.firstCells, sizeOf, typeInfo, hi, hz1, hmin, hl2, hst]
theorem run_clearP (w : World) (ty : TypeId) (g o c : Nat) (cs : List Value) (hb : Blk w g 45 cs) (hfit : o + 2 ≤ cs.length) :
    (Builtin.clear_ #[39] ty #[.slice (some ⟨g, o, Option.none⟩) 1 c]).run Tryz.prog w = .ok (.tuple #[]) (w.setCells g o [.string { data := #[] }, .slice Option.none 0 0]) := by
  obtain ⟨i, hi, hz0, hz1, hz2⟩ := info_parts info_phr
  have hst := run_storeCells_cells (P := Tryz.prog) g o [.string { data := #[] }, .slice Option.none 0 0] 0 w (fun j hj => by simp at hj; rw [Nat.add_zero, hb.cell, List.getElem?_eq_getElem (by omega)]; rfl) (fun j hj => hb.frozen _) (by intro v hv; simp at hv; rcases hv with rfl | rfl <;> rfl)
  simp only [Nat.add_zero] at hst
  have hzc : (Builtin.zeroCells (Value.agg #[.string { data := #[] }, .slice Option.none 0 0]).cells 1).toList = [.string { data := #[] }, .slice Option.none 0 0] := by
    apply List.ext_getElem?
    intro j
    rcases j with _ | _ | j
    · simp [Builtin.zeroCells, Value.cells]
    · simp [Builtin.zeroCells, Value.cells]
    · simp [Builtin.zeroCells, Value.cells]
  simp [Builtin.clear_, run_underlying Tryz.underlying39, zeroValue, typeInfo, hi, hz0, hzc, hst]
end Go.Proofs.YtjnkdjokbamibaaGreatDoor
/- Contracts: a book in new memory; one phrase of its row deleted, one more inserted. -/
namespace Go.Proofs.YtjnkdjokbamibaaGreatDoor
open Go.RowKit
theorem cloneI_any (xs : List Int) (v : Value) (hi : Nat) (w : World) (h : RdI w hi v xs) (hpos : 0 < xs.length) (hlen : xs.length ≤ 1048576) : Calls Tryz.prog 77 #[v] w (RetOwI xs w) := by
  obtain ⟨hl, A, c, rfl, hc, hm, hcell⟩ := h
  obtain ⟨b, off, rfl, _, hcc⟩ := hcell hpos
  have cC := Tryz.slices_Clone_int b off xs.length c xs w (Nat.le_refl _) (by omega) (fun j hj => by
    rw [hcc j (.int .i64 xs[j]) (by simp [hj]), List.getD_eq_getElem?_getD]; simp [hj])
  refine cC.mono ?_
  rintro e w' ⟨v', rfl, ho, _, hb⟩
  rw [List.take_of_length_le (Nat.le_refl _)] at ho
  exact ⟨v', rfl, ⟨ho, fun k hk => (ho.lt k hk).2⟩, hb⟩
set_option maxRecDepth 100000 in
set_option maxHeartbeats 4000000 in
theorem cloneBook_any (ps : List Phr) (v : Value) (hi : Nat) (w : World) (h : RdB w hi v ps) (hh : hi ≤ w.heap.size) (hbk : bookB ps = true) :
    Calls Tryz.prog 76 #[v] w fun e w' => ∃ g us, e = .returned (.agg #[.slice (some ⟨g, 0, Option.none⟩) ps.length ps.length]) ∧ Blk w' g 45 (zipC (txts ps) us) ∧ RowsO w' (g + 1) w'.heap.size us (sigs ps) ∧ w.heap.size ≤ g ∧ Below w.heap.size w w' := by
  obtain ⟨a, rfl, ha⟩ := h
  obtain ⟨A, c, rfl, hc, hm⟩ := ha.form
  have hbl := bookB_len hbk
  have HBK := Lib.hid hbk
  have hmk := make_phr ps.length (by omega)
  obtain ⟨wa, hwa⟩ : ∃ wa, wa = (w.alloc (.cells #[.slice A ps.length c] 41)).alloc (.cells #[.slice Option.none 0 0] 41) := ⟨_, rfl⟩
  have hza : wa.heap.size = w.heap.size + 1 + 1 := by rw [hwa]; simp
  obtain ⟨g, hg⟩ : ∃ g, g = w.heap.size + 1 + 1 := ⟨_, rfl⟩
  obtain ⟨wc, hwc⟩ : ∃ wc, wc = (wa.alloc (.cells (phrRoom ps.length) 45)).alloc (.cells #[.slice (some ⟨g, 0, Option.none⟩) ps.length ps.length] 41) := ⟨_, rfl⟩
  have hba : Below w.heap.size w wa := by rw [hwa]; exact ((Below.refl _ _).alloc (Nat.le_refl _) _).alloc (by simp) _
  have hXa : Blk wa w.heap.size 41 [.slice A ps.length c] := by rw [hwa]; exact (Blk.new w 41 #[.slice A ps.length c]).alloc _
  have hRa : Blk wa (w.heap.size + 1) 41 [.slice Option.none 0 0] := by
    rw [hwa]
    have := Blk.new (w.alloc (.cells #[.slice A ps.length c] 41)) 41 #[.slice Option.none 0 0]
    simpa using this
  have hzg : wa.heap.size = g := by omega
  have hzc : wc.heap.size = g + 2 := by rw [hwc]; simp; omega
  have hbc : Below w.heap.size w wc := by rw [hwc]; exact (hba.alloc (by omega) _).alloc (by simp; omega) _
  have hXc : Blk wc w.heap.size 41 [.slice A ps.length c] := by rw [hwc]; exact (hXa.alloc _).alloc _
  have hRc : Blk wc (w.heap.size + 1) 41 [.slice Option.none 0 0] := by rw [hwc]; exact (hRa.alloc _).alloc _
  have hPc : Blk wc g 45 (noPhr ps.length) := by
    rw [hwc]
    have := (Blk.new wa 45 (phrRoom ps.length)).alloc (.cells #[.slice (some ⟨g, 0, Option.none⟩) ps.length ps.length] 41)
    unfold phrRoom at this; rw [made_phr, hzg] at this; exact this
  have hBc : Blk wc (g + 1) 41 [.slice (some ⟨g, 0, Option.none⟩) ps.length ps.length] := by
    rw [hwc]
    have := Blk.new (wa.alloc (.cells (phrRoom ps.length) 45)) 41 #[.slice (some ⟨g, 0, Option.none⟩) ps.length ps.length]
    simpa [hzg] using this
  have HBW : Hid (∀ wr, Below w.heap.size w wr → RdPS wr hi (.slice A ps.length c) ps) := fun wr hb => ha.below hb hh
  have hxa := hXa.cell 0
  have hxc := hXc.cell 0
  have HWA := Lib.hid hwa
  have HWC := Lib.hid hwc
  have HRc := Lib.hid hRc
  have HPc := Lib.hid hPc
  have HBc := Lib.hid hBc
  have HBC := Lib.hid hbc
  have HG := Lib.hid hg
  have HZG := Lib.hid hzg
  have HZC := Lib.hid hzc
  have HZA := Lib.hid hza
  clear ha hba hXa hRa hXc hRc hPc hBc hbc hbk hwc hg hzg hzc hza
  go_enter Tryz.func76, Tryz.ntmps76
  go_wp2_with fail
  rw [← HWA.out]
  clear hwa
  go_wp2_with fail
  rw [← HG.out, ← HWC.out]
  have hgw : w.heap.size + 2 = g := HG.out.symm
  have hzc := HZC.out
  clear HWA HWC hmk hxa hxc HZA HZG HZC
  go_loopw [14] (fun i wr => ∃ (k : Nat) (us : List Value), k ≤ ps.length ∧ i = .int .i64 (k : Int) ∧ us.length = k ∧ Hid (Blk wr g 45 (zipC (txts (ps.take k)) us ++ noPhr (ps.length - k))) ∧ Hid (Blk wr (g + 1) 41 [.slice (some ⟨g, 0, Option.none⟩) ps.length ps.length]) ∧ Hid (Blk wr (w.heap.size + 1) 41 [.slice Option.none 0 0]) ∧
      Hid (RowsO wr (g + 2) wr.heap.size us (sigs (ps.take k))) ∧ Hid (Below w.heap.size w wr) ∧ g + 2 ≤ wr.heap.size) (fun i _ => ps.length - (intOf i).toNat)
  case atStart => exact ⟨0, [], Nat.zero_le _, rfl, rfl, HPc.out, HBc.out, HRc.out, RowsO.nil _ _ _, HBC.out, by omega⟩
  case round =>
    obtain ⟨k, us, hk, rfl, hul, hblk, hbox, hres, hrows, hbr, hsz⟩ := hrel
    clear HPc HBc HRc HBC
    have HU := Lib.hid hul
    clear hul
    by_cases hlt : k < ps.length
    · have hbw := hbr.out
      have hbwc := HBW.out wr hbr.out
      obtain ⟨b1, o1, c1, a, t, xs, hv, _, hx, hcell1, hcell2, hra, hts⟩ := hbwc.at_ hlt
      cases hv
      have hpo := phrOk_sig (bookB_phr HBK.out (List.mem_of_getElem? hx))
      have hxl1 : 0 < xs.length := hpo.1
      have hxl2 : xs.length ≤ 3 := hpo.2.1
      obtain ⟨A3, c3, rfl, hc3, hm3⟩ := Rd.form hra
      have HX := Lib.hid hx
      have HRA := Lib.hid hra
      have hbx : Below wr.heap.size wr (wr.alloc (.cells #[.string t, .slice A3 xs.length c3] 45)) := (Below.refl _ _).alloc (Nat.le_refl _) _
      have q0 : (wr.alloc (.cells #[.string t, .slice A3 xs.length c3] 45)).cell? ⟨wr.heap.size, 0, Option.none⟩ = some (.string t) := (Blk.new wr 45 #[.string t, .slice A3 xs.length c3]).cell 0
      have q1 : (wr.alloc (.cells #[.string t, .slice A3 xs.length c3] 45)).cell? ⟨wr.heap.size, 1, Option.none⟩ = some (.slice A3 xs.length c3) := (Blk.new wr 45 #[.string t, .slice A3 xs.length c3]).cell 1
      have hzx : (wr.alloc (.cells #[.string t, .slice A3 xs.length c3] 45)).heap.size = wr.heap.size + 1 := by simp
      clear hx hra hbw hbwc hpo
      go_wp2_with fail
      generalize wr.alloc (.cells #[.string t, .slice A3 xs.length c3] 45) = wx at hbx q0 q1 hzx ⊢
      have hbd : Below wr.heap.size wr wx.drew := hbx.drew
      have HBD := Lib.hid hbd
      have hzd : wx.drew.heap.size = wr.heap.size + 1 := hzx
      have HRX : Hid (RdI wx.drew hi (.slice A3 xs.length c3) xs) := HRA.out.below hbd (by omega)
      have hbq : wx.drew.cell? ⟨g + 1, 0, Option.none⟩ = some (.slice (some ⟨g, 0, Option.none⟩) ps.length ps.length) := (hbox.out.below hbd (by omega)).cell 0
      have HZL : Hid ((zipC (txts (ps.take k)) us).length = k * 2) := by show _ = _; rw [zipC_len _ _ (by simp [txts]; have := HU.out; omega)]; simp [txts]; omega
      have HC3 : Hid ((zipC (txts (ps.take k)) us ++ noPhr (ps.length - k))[k * 2]? = some (.string { data := #[] }) ∧ (zipC (txts (ps.take k)) us ++ noPhr (ps.length - k))[k * 2 + 1]? = some (.slice Option.none 0 0)) := by
        have hn1 := noPhr_at (n := ps.length - k) (j := 0) (by omega)
        have hzl := HZL.out
        constructor
        · rw [List.getElem?_append_right (by omega), show k * 2 - (zipC (txts (ps.take k)) us).length = 0 * 2 by omega, hn1.1]
        · rw [List.getElem?_append_right (by omega), show k * 2 + 1 - (zipC (txts (ps.take k)) us).length = 0 * 2 + 1 by omega, hn1.2]
      have HZD := Lib.hid hzd
      clear hbx hbd hzx hzd
      go_region_law (first
        | ((go_simp; go_at_call 77; (with_reducible refine (cloneI_any xs _ hi _ HRX.out hxl1 (by omega)).mono ?_); rintro e w5 ⟨v5, rfl, hu5, hb5⟩; obtain ⟨A5, c5, hv5, _⟩ := hu5.form; subst hv5; have hb6 : Below wr.heap.size wr w5 := HBD.out.trans (hb5.mono HBD.out.size); have r0 := (hb5.cell (p := ⟨wr.heap.size, 0, Option.none⟩) (by have := HZD.out; show wr.heap.size < _; omega)).trans q0; have hbl6 := hblk.out.below hb6 (by omega); have rb := (hbox.out.below hb6 (by omega)).cell 0; have rc3 := (hbl6.cell (k * 2)).trans HC3.out.1; have rc4 := (hbl6.cell (k * 2 + 1)).trans HC3.out.2; have rf3 := hbl6.frozen (k * 2); have rf4 := hbl6.frozen (k * 2 + 1))))
      all_goals
        have hset := (hbl6.set_ (k * 2) (.string t)).set_ (k * 2 + 1) (.slice A5 xs.length c5)
        rw [set_pair (by omega) HZL.out] at hset
        have HS := Lib.hid hset
        have HB6 := Lib.hid hb6
        have HB5 := Lib.hid hb5
        have HO := Lib.hid hu5
        have hs5 := hb5.size
        have hzx2 := HZD.out
        clear hset hb6 hb5 hu5 hbl6 r0 rb rc3 rc4 rf3 rf4 hbq hcell1 hcell2 q0 q1 HZL HC3
        go_wp2_with fail
        go_roundw
        case rel =>
          have hk1 : Keep g (g + 1) w5 ((w5.setCell ⟨g, k * 2, Option.none⟩ (.string t)).setCell ⟨g, k * 2 + 1, Option.none⟩ (.slice A5 xs.length c5)) := ((Keep.refl _ _ w5).setCell (p := ⟨g, k * 2, Option.none⟩) (Nat.le_refl _) (by show g < _; omega) _).setCell (p := ⟨g, k * 2 + 1, Option.none⟩) (Nat.le_refl _) (by show g < _; omega) _
          refine ⟨k + 1, us ++ [.slice A5 xs.length c5], by omega, by go_num, by have := HU.out; simp [this], ?_, ?_, ?_, ?_, (hbr.out.trans (HB6.out.mono (by omega))).trans (hk1.bel.mono (by omega)), by rw [hk1.size]; omega⟩
          · show Blk _ _ _ _
            rw [show ps.length - (k + 1) = ps.length - k - 1 by omega, take_snocN HX.out]
            have := HS.out
            unfold txts at *
            rw [List.map_append, List.map_cons, List.map_nil, zipC_append _ _ _ _ (by simp; have := HU.out; omega)]
            exact this
          · exact (hk1.block (g + 1) (.inr (Nat.le_refl _))).trans (hbox.out.below HB6.out (by omega))
          · exact (hk1.block (w.heap.size + 1) (.inl (by omega))).trans (hres.out.below HB6.out (by omega))
          · show RowsO _ _ _ _ _
            rw [take_snocN HX.out]
            unfold sigs at *
            rw [List.map_append, List.map_cons, List.map_nil]
            have h1 := ((hrows.out.below HB6.out (Nat.le_refl _)).mono (Nat.le_refl _) (show wr.heap.size ≤ wx.drew.heap.size by omega)).snoc HO.out (by omega) hs5
            have h2 := h1.keep hk1 (.inr (by omega))
            rw [hk1.size]
            exact h2
        case measure => (simp [intOf]; try omega)
    · obtain rfl : k = ps.length := by omega
      have hbl3 := hblk.out
      have hrw := hrows.out
      rw [List.take_of_length_le (Nat.le_refl _)] at hbl3 hrw
      rw [Nat.sub_self, noPhr, List.append_nil] at hbl3
      have HBL3 := Lib.hid hbl3
      have HRW := Lib.hid hrw
      have hbc0 := hbox.out.cell 0
      have hrc0 := hres.out.cell 0
      have hrf0 := hres.out.frozen 0
      have c10 := (hres.out.set_ 0 (.slice (some ⟨g, 0, Option.none⟩) ps.length ps.length)).cell 0
      clear hbl3 hrw hblk hrows
      go_wp2_with fail
      refine bodyPost_ret (v := .agg #[.slice (some ⟨g, 0, Option.none⟩) ps.length ps.length]) (by simp [results, Tryz.results76, go_sem, c10]) rfl ?_
      have hk1 : Keep (w.heap.size + 1) (w.heap.size + 2) wr (wr.setCell ⟨w.heap.size + 1, 0, Option.none⟩ (.slice (some ⟨g, 0, Option.none⟩) ps.length ps.length)) := (Keep.refl _ _ wr).setCell (p := ⟨w.heap.size + 1, 0, Option.none⟩) (Nat.le_refl _) (by show w.heap.size + 1 < _; omega) _
      refine ⟨g, us, rfl, (hk1.block g (.inr (by omega))).trans HBL3.out, ?_, by omega, hbr.out.trans (hk1.bel.mono (by omega))⟩
      have h2 := (HRW.out.keep hk1 (.inr (by omega))).mono (show g + 1 ≤ g + 2 by omega) (Nat.le_refl _)
      rw [hk1.size]
      exact h2
end Go.Proofs.YtjnkdjokbamibaaGreatDoor
