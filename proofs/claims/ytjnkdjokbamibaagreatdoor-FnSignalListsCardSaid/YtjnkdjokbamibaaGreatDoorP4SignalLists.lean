/- Texts of one claim, joined: Y6, Y7, Y8, D1, D7, J1. -/
import Derived.Lib.AtoiAllMem
import Derived.Lib.AtoiErrMem
import Derived.Lib.AtoiAllCases
import Derived.Lib.SplitLaws
import Derived.Test.YtjnkdjokbamibaaGreatDoorRows
import Derived.Stop.LaidErr
import Derived.Lib.LaidTab
import Derived.Shelf.Vars
import Derived.LaidMore
import Derived.OpenShut
import Derived.Stop.Joined
import Derived.SevenTiedAt
import Derived.Laws.OwnMore
import Derived.Laws.IdiomStrings
import Derived.Laws.BitsLemmas
import Derived.Laws.Bits64
import Derived.Test.YtjnkdjokbamibaaGreatDoorP3SignalLists
/- Contracts: a number read, numbers split, ReadSignals; of the program. -/
namespace Go.Proofs.YtjnkdjokbamibaaGreatDoor
open Go.RowKit
/-- What the library's variables hold, as far as the library's contracts ask. -/
def LW (w : World) : Prop := Lib.TabIs Tryz.prog w "internal/strconv.uint64pow10" .u64 Lib.pow10Tab ∧ (∃ m, w.cell? ⟨0, 0, Option.none⟩ = some (.int .i64 m)) ∧
  (∃ ev, w.cell? ⟨2, 0, Option.none⟩ = some ev ∧ (ev = .nilIface ∨ ∃ te pe, ev = .iface te pe)) ∧ (∃ ev, w.cell? ⟨3, 0, Option.none⟩ = some ev ∧ (ev = .nilIface ∨ ∃ te pe, ev = .iface te pe))
theorem lw_cell {w w' : World} (hb : Below w.heap.size w w') {a : Addr} {v : Value} (hc : w.cell? a = some v) : w'.cell? a = some v := (hb.cell (World.block_lt_of_cell? w a hc)).trans hc
theorem lw_tab {w w' : World} (h : Lib.TabIs Tryz.prog w "internal/strconv.uint64pow10" .u64 Lib.pow10Tab) (hb : Below w.heap.size w w') : Lib.TabIs Tryz.prog w' "internal/strconv.uint64pow10" .u64 Lib.pow10Tab := by
  obtain ⟨g, hg⟩ := Option.isSome_iff_exists.1 (show (Tryz.prog.globalNamed "internal/strconv.uint64pow10").isSome = true by kernel_rfl)
  unfold Lib.TabIs World.var? at h ⊢
  rw [hg] at h ⊢
  simp only [Option.bind_some] at h ⊢
  have hlt : g < w.heap.size := by
    rcases Nat.lt_or_ge g w.heap.size with h' | h'
    · exact h'
    · rw [Array.getElem?_eq_none h'] at h; cases h
  rw [hb.block g hlt]
  exact h
theorem LW.below {w w' : World} (h : LW w) (hb : Below w.heap.size w w') : LW w' := by
  obtain ⟨h1, ⟨m, h2⟩, ⟨e1, h3, h4⟩, ⟨e2, h5, h6⟩⟩ := h
  exact ⟨lw_tab h1 hb, ⟨m, lw_cell hb h2⟩, ⟨e1, lw_cell hb h3, h4⟩, ⟨e2, lw_cell hb h5, h6⟩⟩
theorem below_grownB (w : World) (q : Nat) (os : Array Obj) : Below w.heap.size w (Sort.grow (w.drewN q) os) := by
  refine ⟨rfl, rfl, rfl, by first | (simp [Sort.grow]; done) | (simp [Sort.grow]; omega), fun k hk => ?_⟩
  show ((w.drewN q).heap ++ os)[k]? = _
  rw [Array.getElem?_append_left (by show k < w.heap.size; omega)]
  rfl
theorem readN_ok {a : List UInt8} {v : Int} (h : Lib.atoiAll a = .ok v) : readN a = if 0 ≤ v ∧ Lib.itoa v = a then some v else Option.none := by unfold readN; rw [h]
theorem readN_not {a : List UInt8} (h : ∀ v, Lib.atoiAll a ≠ .ok v) : readN a = Option.none := by
  unfold readN
  split
  · rename_i v hv; exact absurd hv (h v)
  · rfl
set_option maxRecDepth 100000 in
set_option maxHeartbeats 4000000 in
theorem readNumber_any (s : ByteArray) (hs : s.size ≤ 1048576) (w : World) (hL : LW w) :
    Calls Tryz.prog 107 #[.string s] w fun e w' => e = .returned (.tuple #[.int .i64 ((readN s.data.toList).getD 0), .bool (readN s.data.toList).isSome]) ∧ Below w.heap.size w w' := by
  have HL := Lib.hid hL
  clear hL
  rcases hat : Lib.atoiAll s.data.toList with v | _ | _
  · obtain ⟨hv0, hv1⟩ := Lib.atoiAll_bounds hat
    have HN := Lib.hid (readN_ok hat)
    have CA := Lib.hid (Tryz.strconv_Atoi_ok s (by omega) v hat w)
    by_cases hneg : v < 0
    · have HR : Hid (readN s.data.toList = Option.none) := by
        show _ = _
        rw [HN.out, if_neg (by omega)]
      clear HN
      go_enter Tryz.func107, Tryz.ntmps107
      go_wp2_with fail
      refine CA.out.mono ?_
      rintro e w1 ⟨rfl, hw1⟩
      have HB : Hid (Below w.heap.size w w1) := by
        rcases hw1 with rfl | ⟨t, rfl⟩
        · exact Below.refl _ _
        · exact Lib.bytesWorld_below _ _ _
      clear hw1
      go_wp2_with fail
      go_ret2
      rw [HR.out]
      exact ⟨rfl, HB.out⟩
    · have hneg2 : decide (v < 0) = false := decide_eq_false hneg
      have CI := fun (w1 : World) (h : LW w1) => Tryz.strconv_Itoa v (by omega) (by omega) w1 h.1
      have HCI := Lib.hid CI
      clear CI
      have hil := Lib.itoa_length_le v (by omega) (by omega)
      cases heq : (Lib.itoa v == s.toList)
      · have HR : Hid (readN s.data.toList = Option.none) := by
          show _ = _
          have := ne_of_beq_false heq
          rw [ByteArray.toList_eq] at this
          rw [HN.out, if_neg (fun h => this h.2)]
        clear HN
        go_enter Tryz.func107, Tryz.ntmps107
        go_wp2_with fail
        refine CA.out.mono ?_
        rintro e w1 ⟨rfl, hw1⟩
        have HB : Hid (Below w.heap.size w w1) := by
          rcases hw1 with rfl | ⟨t, rfl⟩
          · exact Below.refl _ _
          · exact Lib.bytesWorld_below _ _ _
        clear hw1
        go_wp2_with fail
        refine (HCI.out w1 (HL.out.below HB.out)).mono ?_
        rintro e w2 ⟨rfl, hw2⟩
        have HB2 : Hid (Below w.heap.size w w2) := by
          obtain ⟨k, os, rfl⟩ := hw2
          exact HB.out.trans ((below_grownB w1 k os).mono HB.out.size)
        clear hw2
        go_wp2_with fail
        go_ret2
        rw [HR.out]
        exact ⟨rfl, HB2.out⟩
      · have HR : Hid (readN s.data.toList = some v) := by
          show _ = _
          have := eq_of_beq heq
          rw [ByteArray.toList_eq] at this
          rw [HN.out, if_pos ⟨by omega, this⟩]
        clear HN
        go_enter Tryz.func107, Tryz.ntmps107
        go_wp2_with fail
        refine CA.out.mono ?_
        rintro e w1 ⟨rfl, hw1⟩
        have HB : Hid (Below w.heap.size w w1) := by
          rcases hw1 with rfl | ⟨t, rfl⟩
          · exact Below.refl _ _
          · exact Lib.bytesWorld_below _ _ _
        clear hw1
        go_wp2_with fail
        refine (HCI.out w1 (HL.out.below HB.out)).mono ?_
        rintro e w2 ⟨rfl, hw2⟩
        have HB2 : Hid (Below w.heap.size w w2) := by
          obtain ⟨k, os, rfl⟩ := hw2
          exact HB.out.trans ((below_grownB w1 k os).mono HB.out.size)
        clear hw2
        go_wp2_with fail
        go_ret2
        rw [HR.out]
        exact ⟨rfl, HB2.out⟩
  · have HR := Lib.hid (readN_not (a := s.data.toList) (fun v h => by rw [hat] at h; cases h))
    obtain ⟨ev, hv, hev⟩ := HL.out.2.2.1
    have CA := Lib.hid (Any.strconv_Atoi_syntax Tryz.laysC172 s (by omega) hat ev w hv hev)
    clear hv hev
    go_enter Tryz.func107, Tryz.ntmps107
    go_wp2_with fail
    refine CA.out.mono ?_
    rintro e w1 ⟨N, rfl, hN, hc, hb1⟩
    have HB := Lib.hid hb1
    clear hN hc hb1
    go_wp2_with fail
    go_ret2
    rw [HR.out]
    exact ⟨rfl, HB.out⟩
  · have HR := Lib.hid (readN_not (a := s.data.toList) (fun v h => by rw [hat] at h; cases h))
    obtain ⟨ev, hv, hev⟩ := HL.out.2.2.2
    have CA := Lib.hid (Tryz.strconv_Atoi_range s (by omega) hat ev w hv hev)
    have hsat := Lib.atoiSat_bounds s.data.toList
    obtain ⟨sat, hst⟩ : ∃ sat, sat = Lib.atoiSat s.data.toList := ⟨_, rfl⟩
    rw [← hst] at CA hsat
    clear hv hev hst
    go_enter Tryz.func107, Tryz.ntmps107
    go_wp2_with fail
    refine CA.out.mono ?_
    rintro e w1 ⟨N, rfl, hN, hc, hb1⟩
    have HB := Lib.hid hb1
    clear hN hc hb1
    go_wp2_with fail
    go_ret2
    rw [HR.out]
    exact ⟨rfl, HB.out⟩
theorem split_txts (c : UInt8) (s : ByteArray) : (Lib.splitB ⟨#[c]⟩ 0 (Lib.countB s ⟨#[c]⟩) s).map Value.string = strsT (splitC c s.data.toList) := by
  have h := Lib.splitB_data ⟨#[c]⟩ 0 (Lib.countB s ⟨#[c]⟩) s
  have h2 : Lib.splitK (⟨#[c]⟩ : ByteArray).data.toList 0 (Lib.countB s ⟨#[c]⟩) s.data.toList = splitC c s.data.toList := splitK_C c s.data.toList
  rw [h2] at h
  unfold strsT
  rw [← h, List.map_map]
  exact List.map_congr_left fun a _ => by simp
theorem split_count (c : UInt8) (s : ByteArray) : Lib.countB s ⟨#[c]⟩ + 1 = (splitC c s.data.toList).length := by
  have h := congrArg List.length (split_txts c s)
  rw [List.length_map, Lib.splitB_all ⟨#[c]⟩ (Nat.le_refl 1) 0 _ s rfl] at h
  rw [h]; simp [strsT]
theorem rd_strs (w : World) (P : List (List UInt8)) (hl : P.length ≤ maxLen) : Rd (w.alloc (.cells (strsT P).toArray 9)) (w.heap.size + 1) 1 (.slice (some ⟨w.heap.size, 0, Option.none⟩) P.length P.length) P.length (strsT P) :=
  ⟨by simp [strsT], _, _, rfl, Nat.le_refl _, hl, fun _ => ⟨w.heap.size, 0, rfl, by omega, fun j u hu => by
    have h := (Blk.new w 9 (strsT P).toArray).cell j
    rw [Nat.zero_add, h]
    simpa using hu⟩⟩
set_option maxRecDepth 100000 in
set_option maxHeartbeats 4000000 in
theorem splitNumbers_any (s : ByteArray) (c : UInt8) (hs : s.size ≤ 1048576) (w : World) (hL : LW w) :
    Calls Tryz.prog 56 #[.string s, .string ⟨#[c]⟩] w (RetOwT ((numsO c s.data.toList).getD []) (numsO c s.data.toList).isSome w) := by
  have hs1 : (splitC c s.data.toList).length ≤ s.data.toList.length + 1 := (splitC_len c _).2
  have hs2 : s.data.toList.length = s.size := by simp
  have hml : ∀ a ∈ splitC c s.data.toList, a.length ≤ s.data.toList.length := fun a h => splitC_le h
  obtain ⟨m, hm⟩ := hL.2.1
  have cS := Tryz.strings_Split s ⟨#[c]⟩ m w (by omega) hm (Nat.le_refl 1)
  rw [split_txts, split_count] at cS
  have hN : numsO c s.data.toList = allN (splitC c s.data.toList) := rfl
  obtain ⟨P, hP⟩ : ∃ P, P = splitC c s.data.toList := ⟨_, rfl⟩
  rw [← hP] at hs1 cS hml hN
  have HN := Lib.hid hN
  have HM := Lib.hid hml
  have CS := Lib.hid cS
  have HR := Lib.hid (rd_strs w P (by unfold maxLen; omega))
  have hb1 : Below w.heap.size w (w.alloc (.cells (strsT P).toArray 9)) := (Below.refl _ _).alloc (Nat.le_refl _) _
  have hz1 : (w.alloc (.cells (strsT P).toArray 9)).heap.size = w.heap.size + 1 := by simp
  have HL := Lib.hid (hL.below hb1)
  have HB1 := Lib.hid hb1
  have hP1 : (P.length : Int) ≤ 1048577 := by omega
  clear hP hml cS hN hm hL hb1
  go_enter Tryz.func56, Tryz.ntmps56
  go_wp2_with fail
  refine CS.out.mono ?_
  rintro e w1 ⟨rfl, hw1⟩
  rw [← hw1] at HL HB1 HR hz1
  clear hw1
  go_wp2_with fail
  go_loopw [6, 15] (fun q i wr => ∃ (k : Nat) (ns : List Int), k ≤ P.length ∧ i = .int .i64 (k : Int) ∧ ns.length ≤ k ∧ Hid (allN (P.take k) = some ns) ∧ Hid (GrowI w1 w1.heap.size wr q ns)) (fun _ i _ => P.length - (intOf i).toNat)
  case atStart => exact ⟨0, [], Nat.zero_le _, rfl, Nat.le_refl _, rfl, GrowI.start w1⟩
  case round =>
    obtain ⟨k, ns, hk, rfl, hns, HA, HG⟩ := hrel
    by_cases hlt : k < P.length
    · obtain ⟨b1, o1, c1, y, hv, _, hx, hcell1⟩ := Rd.atS (Rd.below HR.out HG.out.2.1 (by omega)) hlt
      injection hv with hv1 hv2 hv3; cases hv1; clear hv2 hv3
      rw [Nat.zero_add] at hcell1
      have hy := HM.out y (List.mem_of_getElem? hx)
      have cR := readNumber_any ⟨y.toArray⟩ (by show y.toArray.size ≤ _; simp; omega) wr (HL.out.below HG.out.2.1)
      have e0 : (⟨y.toArray⟩ : ByteArray).data.toList = y := rfl
      rw [e0] at cR
      rcases hr : readN y with _ | n
      · rw [hr] at cR
        have HE := Lib.hid (HN.out.trans (allO_no hx hr))
        have CR := Lib.hid cR
        clear cR hx hr e0
        go_wp2_with fail
        refine CR.out.mono ?_
        rintro e w2 ⟨rfl, hb2⟩
        have HB2 := Lib.hid (HB1.out.trans ((HG.out.2.1.trans (hb2.mono HG.out.2.1.size)).mono HB1.out.size))
        clear hb2
        go_wp2_with fail
        go_ret2
        rw [HE.out]
        exact retOwT _ (GrowI.nil HB2.out)
      · rw [hr] at cR
        have CR : Hid (Calls Tryz.prog 107 #[.string ⟨y.toArray⟩] wr fun e w' => e = .returned (.tuple #[.int .i64 n, .bool true]) ∧ Below wr.heap.size wr w') := cR
        have HA2 : Hid (allN (P.take (k + 1)) = some (ns ++ [n])) := by
          show _ = _
          rw [take_snocN hx]; exact allO_snoc HA.out hr
        clear cR hx hr e0
        go_wp2_with fail
        refine CR.out.mono ?_
        rintro e w2 ⟨rfl, hb2⟩
        have HG2 := Lib.hid (HG.out.belowR hb2)
        clear hb2
        go_wp2_with (at_builtin; refine GrowI.app rfl (.tmp 26) (.tmp 28) rfl HG2.out (by omega) rfl rfl ?_; intro v' w3 hG'; have HG3 := Lib.hid hG'; clear hG')
        go_roundw
        case rel => exact ⟨k + 1, _, by omega, by go_num, by rw [List.length_append]; exact Nat.succ_le_succ hns, HA2.out, HG3.out⟩
        case measure => (simp [intOf]; try omega)
    · have ha := HA.out
      rw [List.take_of_length_le (by omega)] at ha
      have HE := Lib.hid (HN.out.trans ha)
      clear ha
      have HB2 := Lib.hid (HB1.out.trans (HG.out.2.1.mono HB1.out.size))
      have HO := Lib.hid (HG.out.own.mono HB1.out.size (Nat.le_refl _))
      go_wp2_with fail
      go_ret2
      rw [HE.out]
      exact ⟨_, rfl, HO.out, HB2.out⟩
theorem readO_some {s : List UInt8} (h : s ≠ []) {l : List Int} (ho : numsO 32 s = some l) : readO s = if sigsB l then some l else Option.none := by
  unfold readO
  rw [if_neg h, ho]
theorem readO_none {s : List UInt8} (h : s ≠ []) (ho : numsO 32 s = Option.none) : readO s = Option.none := by
  unfold readO
  rw [if_neg h, ho]
set_option maxRecDepth 100000 in
set_option maxHeartbeats 4000000 in
theorem ReadSignals_any (s : ByteArray) (hs : s.size ≤ 1048576) (w : World) (hL : LW w) : Calls Tryz.prog 11 #[.string s] w (RetOwT ((readO s.data.toList).getD []) (readO s.data.toList).isSome w) := by
  cases hse : s.toList.isEmpty
  · have hne : s.data.toList ≠ [] := fun e => by rw [ByteArray.toList_eq, e] at hse; cases hse
    have cS := splitNumbers_any s 32 hs w hL
    rcases ho : numsO 32 s.data.toList with _ | l
    · rw [ho] at cS
      have HO : Hid (readO s.data.toList = Option.none) := readO_none hne ho
      have CS : Hid (Calls Tryz.prog 56 #[.string s, .string ⟨#[32]⟩] w (RetOwT [] false w)) := cS
      clear cS ho hne
      go_enter Tryz.func11, Tryz.ntmps11
      go_wp2_with fail
      refine CS.out.mono ?_
      rintro e w1 ⟨v, rfl, how, hb1⟩
      obtain ⟨A, c, rfl, _⟩ := how.form
      have HB := Lib.hid hb1
      clear how hb1
      go_wp2_with fail
      go_ret2
      rw [HO.out]
      exact retOwT _ (GrowI.nil HB.out)
    · rw [ho] at cS
      have CS : Hid (Calls Tryz.prog 56 #[.string s, .string ⟨#[32]⟩] w (RetOwT l true w)) := cS
      have HO : Hid (readO s.data.toList = if sigsB l then some l else Option.none) := readO_some hne ho
      clear cS ho hne
      go_enter Tryz.func11, Tryz.ntmps11
      go_wp2_with fail
      refine CS.out.mono ?_
      rintro e w1 ⟨v, rfl, how, hb1⟩
      obtain ⟨A, c, rfl, hcl⟩ := how.form
      have HW := Lib.hid how
      have HB := Lib.hid hb1
      have cA := areSignals_any l _ _ _ how.rd
      clear how hb1
      cases hg : sigsB l
      all_goals
        rw [hg] at cA
        have CA := Lib.hid cA
        have HG := Lib.hid hg
        clear cA hg
        go_wp2_with (go_at_call 50; refine (CA.out).mono ?_; rintro e w' ⟨rfl, rfl⟩)
        go_ret2
        rw [HO.out, HG.out]
        first
          | exact retOwT _ (GrowI.nil HB.out)
          | exact ⟨_, rfl, HW.out, HB.out⟩
  · have HN : Hid (s.data.toList = []) := by
      have := List.isEmpty_iff.1 hse
      rwa [ByteArray.toList_eq] at this
    go_enter Tryz.func11, Tryz.ntmps11
    go_wp2_with fail
    go_ret2
    rw [HN.out]
    exact retOwT_nil w true
end Go.Proofs.YtjnkdjokbamibaaGreatDoor
/- What the library's variables hold in the worlds that the card of ReadSignals speaks of. -/
namespace Go.Proofs.YtjnkdjokbamibaaGreatDoor
open Go.RowKit
theorem starE : "*" ++ "errors.errorString" = "*errors.errorString" := by decide
theorem rowE (u : TypeId) (h : Tryz.prog.typeName? 3 u = some "*errors.errorString") : u = 166 :=
  typeName_ptr_named (nm := "errors.errorString") (by rw [starE]; kernel_rfl) (by kernel_rfl) (by decide) u (by rw [starE]; exact h)
theorem tabE : (Rows.laid_internal_strconv_uint64pow10 : DataW Unit) = Lib.tabData .u64 Lib.pow10Tab := by kernel_rfl
abbrev lwRow := Rows.fnBooksRow
theorem lw_of {W : World} (hsh : W.ShapedOpen Tryz.prog) (hL : laidMetH Tryz.prog lwRow.laid W) : LW W := by
  have h0 : laidMet Tryz.prog lwRow.laid W := by rwa [MakeChecks.laidMetH_plain _ _ _ (by kernel_rfl)] at hL
  have h2 : laidMet Tryz.prog (("internal/strconv.uint64pow10", Rows.laid_internal_strconv_uint64pow10) :: _) W := laidMet.tail (laidMet.tail h0)
  have h4 : laidMet Tryz.prog (("strconv.ErrRange", Rows.laid_strconv_ErrRange) :: _) W := laidMet.tail (laidMet.tail h2)
  have h5 : laidMet Tryz.prog (("strconv.ErrSyntax", Rows.laid_strconv_ErrSyntax) :: _) W := laidMet.tail h4
  rw [tabE] at h2
  have htab := Lib.tabIs_of_head (g := 1) (t := 151) (by kernel_rfl) (by kernel_rfl) Tryz.underlying151 Tryz.underlying69 (by kernel_rfl) (by kernel_rfl) h2
  obtain ⟨a1, s1, hv1, -, -, -⟩ := laid_sentinel (g := 3) (ti := 112) (tp := 166) h4 (by kernel_rfl) (by kernel_rfl) Tryz.underlying112 rowE Tryz.underlying166 Tryz.underlying168 rfl rfl Tryz.underlying9 (by kernel_rfl) (by kernel_rfl)
  obtain ⟨a2, s2, hv2, -, -, -⟩ := laid_sentinel (g := 2) (ti := 112) (tp := 166) h5 (by kernel_rfl) (by kernel_rfl) Tryz.underlying112 rowE Tryz.underlying166 Tryz.underlying168 rfl rfl Tryz.underlying9 (by kernel_rfl) (by kernel_rfl)
  obtain ⟨m, hm⟩ := cell_of_shapedOpen_int (P := Tryz.prog) (g := 0) (t := 3) (zero := #[.int .i64 0]) hsh (of_decide_eq_true (by kernel_rfl)) (by kernel_rfl) rfl (by kernel_rfl) (by kernel_rfl) Tryz.underlying3
  have c1 : W.cell? ⟨2, 0, Option.none⟩ = some (.iface 166 (.pointer (some a2))) := by
    have := World.var?_cell (g := 2) (by kernel_rfl) hv2 0
    simpa using this
  have c2 : W.cell? ⟨3, 0, Option.none⟩ = some (.iface 166 (.pointer (some a1))) := by
    have := World.var?_cell (g := 3) (by kernel_rfl) hv1 0
    simpa using this
  exact ⟨htab, ⟨m, hm⟩, ⟨_, c1, .inr ⟨_, _, rfl⟩⟩, ⟨_, c2, .inr ⟨_, _, rfl⟩⟩⟩
end Go.Proofs.YtjnkdjokbamibaaGreatDoor
/- The frame of a card whose walk wants the world's shape besides what the card lays. -/
namespace Go.Proofs.YtjnkdjokbamibaaGreatDoor
open Go.ChangeShapes Go.WideShapes Go.ChangeAt Go.RowKit
variable {H : Type} {enc : TypeId × Value → H}
theorem handed_shaped {a : Assume} {C : Checked} {os : Os} {f : FuncId} {fn : Func} {s : ChangeSpec} {conds : List PathCond} {apart fresh handsOn again : Bool} {X : World → Array Value → Prop}
    (hX : ∀ (w w' : World) (args : Array Value), w.heap = w'.heap → X w args → X w' args)
    (own : ownKnob C.prog.godebug = none) (started : os.Started) (noInit : C.prog.inits.idxOf? f = none) (hfn : C.prog.funcs[f]? = some fn)
    (witness : ∃ (w : World) (tape : Tape) (i : Input), w.os = os ∧ (w.forCall tape i).Shaped C.prog ∧ i.vars = [] ∧ Input.okWide C.prog (w.forCall tape i) .any w.heap.size f i ∧
      ((s.pre enc C.prog fn conds apart (w.forCall tape i).memory i.args ∧ X (w.forCall tape i).memory i.args) ∧ sizedMet enc C.prog fn (OpenSpec.ofChange s) apart (w.forCall tape i).memory i.args) ∧ a.holds C.prog (lone (Frame.enter C.prog f i.args .normal) [] (w.forCall tape i)))
    (contract : ∀ (W : World) (base : Nat) (args : Array Value) (ds gs : List (DataW H)) (before : List MemPlace),
      (∀ (j : Nat) t v, fn.params[j]? = some t → args[j]? = some v → Value.okWide C.prog W .any base t v) →
      DataW.Whole enc C.prog fn.params.toList s.vars apart W args.toList ds gs before →
      X W args → W.ShapedOpen C.prog →
      Calls C.prog f args W fun e W' => ∃ v, e = .returned v ∧ s.post enc C.prog fn apart fresh handsOn again W args v W') :
    ReturnsInHanded a C os f .any (fun w args => (s.pre enc C.prog fn conds apart w args ∧ X w args) ∧ sizedMet enc C.prog fn (OpenSpec.ofChange s) apart w args) (s.post enc C.prog fn apart fresh handsOn again) := by
  refine returnsInHanded_of_calls own started noInit witness ?_
  intro w tape i _ hsh _ hok hpre _
  obtain ⟨_, _, _, fn', hfn', _, _, _, _, hval⟩ := hok
  have e : fn' = fn := Option.some.inj (hfn'.symm.trans hfn)
  subst e
  obtain ⟨⟨⟨ds, gs, before, hw, _⟩, hx⟩, _⟩ := hpre
  have hw' := DataW.Whole.of_heap (w' := w.forCall tape i) (by rfl) hw
  refine (contract (w.forCall tape i) w.heap.size i.args ds gs before hval hw' (hX _ _ _ (by rfl) hx) hsh).mono fun e W' ⟨v, he, hp⟩ => ?_
  subst he
  exact ChangeSpec.post_blind hp
end Go.Proofs.YtjnkdjokbamibaaGreatDoor
/- Words on books in memory; the helpers of the laws on phrases and books. -/
namespace Go.Proofs.YtjnkdjokbamibaaGreatDoor
open Go.RowKit
/-- A phrase: its text and its signals. -/
abbrev Phr := ByteArray × List Int
/-- The cells of phrases: of each its text, then its slice. -/
def zipC : List ByteArray → List Value → List Value
  | t :: ts, u :: us => .string t :: u :: zipC ts us
  | _, _ => []
theorem zipC_at : ∀ (ts : List ByteArray) (us : List Value) (k : Nat) (t : ByteArray) (u : Value), ts[k]? = some t → us[k]? = some u → (zipC ts us)[k * 2]? = some (.string t) ∧ (zipC ts us)[k * 2 + 1]? = some u
  | [], _, k, t, u, h, _ => by simp at h
  | _ :: _, [], k, t, u, _, h => by simp at h
  | a :: ts, b :: us, 0, t, u, h, g => by simp at h g; subst h g; exact ⟨rfl, rfl⟩
  | a :: ts, b :: us, k + 1, t, u, h, g => by
    have := zipC_at ts us k t u (by simpa using h) (by simpa using g)
    simp only [zipC, show (k + 1) * 2 = k * 2 + 1 + 1 by omega, List.getElem?_cons_succ]
    exact this
def txts (ps : List Phr) : List ByteArray := ps.map (·.1)
def sigs (ps : List Phr) : List (List Int) := ps.map (·.2)
def TxtOk (ps : List Phr) : Prop := ∀ p ∈ ps, p.1.size ≤ 9223372036854775807
/-- The slice value v reads as phrases. -/
def RdPS (w : World) (hi : Nat) (v : Value) (ps : List Phr) : Prop := ∃ us, RowsR w hi us (sigs ps) ∧ Rd w hi 2 v ps.length (zipC (txts ps) us) ∧ TxtOk ps
theorem RdPS.form {w : World} {hi : Nat} {v : Value} {ps : List Phr} (h : RdPS w hi v ps) : ∃ A c, v = .slice A ps.length c ∧ ps.length ≤ c ∧ ps.length ≤ 9223372036854775807 := by
  obtain ⟨us, _, ⟨_, A, c, hv, h2, h3, _⟩, _⟩ := h
  exact ⟨A, c, hv, h2, by unfold maxLen at h3; omega⟩
theorem RdPS.at_ {w : World} {hi : Nat} {v : Value} {ps : List Phr} (h : RdPS w hi v ps) {k : Nat} (hk : k < ps.length) :
    ∃ b off c u t xs, v = .slice (some ⟨b, off, Option.none⟩) ps.length c ∧ b < hi ∧ ps[k]? = some (t, xs) ∧ w.cell? ⟨b, off + k * 2, Option.none⟩ = some (.string t) ∧ w.cell? ⟨b, off + k * 2 + 1, Option.none⟩ = some u ∧ RdI w hi u xs ∧ t.size ≤ 9223372036854775807 := by
  obtain ⟨us, h1, ⟨h0, A, c, hv, _, _, h4⟩, ht⟩ := h
  obtain ⟨b, off, rfl, hb, hc⟩ := h4 (by omega)
  have hl : us.length = ps.length := by have := h1.1; simpa [sigs] using this
  have hu : us[k]? = some us[k] := by simp [show k < us.length by omega]
  have hz := zipC_at (txts ps) us k ps[k].1 us[k] (by simp [txts, hk]) hu
  refine ⟨b, off, c, us[k], ps[k].1, ps[k].2, hv, hb, by simp [hk], hc _ _ hz.1, ?_, h1.2 k _ _ hu (by simp [sigs, hk]), ht _ (List.getElem_mem hk)⟩
  have := hc _ _ hz.2
  rwa [← Nat.add_assoc] at this
theorem RdPS.below {w w' : World} {hi : Nat} {v : Value} {ps : List Phr} (h : RdPS w hi v ps) {B : Nat} (hb : Below B w w') (hB : hi ≤ B) : RdPS w' hi v ps := by
  obtain ⟨us, h1, h2, h3⟩ := h; exact ⟨us, h1.below hb hB, h2.below hb hB, h3⟩
def RdP (w : World) (hi : Nat) (v : Value) (p : Phr) : Prop := ∃ u, v = .agg #[.string p.1, u] ∧ RdI w hi u p.2 ∧ p.1.size ≤ 9223372036854775807
def RdB (w : World) (hi : Nat) (v : Value) (ps : List Phr) : Prop := ∃ u, v = .agg #[u] ∧ RdPS w hi u ps
def OwP (w : World) (lo hi : Nat) (v : Value) (p : Phr) : Prop := ∃ u, v = .agg #[.string p.1, u] ∧ OwI w lo hi u p.2 ∧ p.1.size ≤ 9223372036854775807
def OwPS (w : World) (lo hi : Nat) (v : Value) (ps : List Phr) : Prop := ∃ us, RowsO w lo hi us (sigs ps) ∧ w.ownsRow lo 45 2 v ps.length (zipC (txts ps) us) ∧ TxtOk ps ∧ ∀ k, v.ownBlock = some k → k < hi
def OwB (w : World) (lo hi : Nat) (v : Value) (ps : List Phr) : Prop := ∃ u, v = .agg #[u] ∧ OwPS w lo hi u ps
theorem RdP.below {w w' : World} {hi : Nat} {v : Value} {p : Phr} (h : RdP w hi v p) {B : Nat} (hb : Below B w w') (hB : hi ≤ B) : RdP w' hi v p := by
  obtain ⟨u, h1, h2, h3⟩ := h; exact ⟨u, h1, h2.below hb hB, h3⟩
theorem RdB.below {w w' : World} {hi : Nat} {v : Value} {ps : List Phr} (h : RdB w hi v ps) {B : Nat} (hb : Below B w w') (hB : hi ≤ B) : RdB w' hi v ps := by
  obtain ⟨u, h1, h2⟩ := h; exact ⟨u, h1, h2.below hb hB⟩
theorem OwP.below {w w' : World} {lo hi : Nat} {v : Value} {p : Phr} (h : OwP w lo hi v p) {B : Nat} (hb : Below B w w') (hB : hi ≤ B) : OwP w' lo hi v p := by
  obtain ⟨u, h1, h2, h3⟩ := h; exact ⟨u, h1, h2.below hb hB, h3⟩
theorem OwPS.below {w w' : World} {lo hi : Nat} {v : Value} {ps : List Phr} (h : OwPS w lo hi v ps) {B : Nat} (hb : Below B w w') (hB : hi ≤ B) : OwPS w' lo hi v ps := by
  obtain ⟨us, h1, h2, h3, h4⟩ := h; exact ⟨us, h1.below hb hB, owns_below h2 h4 hb hB, h3, h4⟩
theorem OwB.below {w w' : World} {lo hi : Nat} {v : Value} {ps : List Phr} (h : OwB w lo hi v ps) {B : Nat} (hb : Below B w w') (hB : hi ≤ B) : OwB w' lo hi v ps := by
  obtain ⟨u, h1, h2⟩ := h; exact ⟨u, h1, h2.below hb hB⟩
theorem OwP.rd {w : World} {lo hi : Nat} {v : Value} {p : Phr} (h : OwP w lo hi v p) : RdP w hi v p := by
  obtain ⟨u, h1, h2, h3⟩ := h; exact ⟨u, h1, h2.rd, h3⟩
theorem OwPS.rd {w : World} {lo hi : Nat} {v : Value} {ps : List Phr} (h : OwPS w lo hi v ps) : RdPS w hi v ps := by
  obtain ⟨us, h1, h2, h3, h4⟩ := h; exact ⟨us, h1.rd, rd_of_owns h2 h4, h3⟩
theorem OwB.rd {w : World} {lo hi : Nat} {v : Value} {ps : List Phr} (h : OwB w lo hi v ps) : RdB w hi v ps := by
  obtain ⟨u, h1, h2⟩ := h; exact ⟨u, h1, h2.rd⟩
end Go.Proofs.YtjnkdjokbamibaaGreatDoor
/- Marks on books: each text and each signal of a book that the call has copied is overwritten. -/
namespace Go.Proofs.YtjnkdjokbamibaaGreatDoor
open Go.RowKit
theorem conv_one (z : Int) (h0 : 0 ≤ z) (h1 : z < 256) (wr : World) :
    (convert 22 9 (.slice (some ⟨wr.heap.size, 0, Option.none⟩) 1 1)).run Tryz.prog (wr.alloc (.cells #[.int .u8 z] 5)) = .ok (.string ⟨#[UInt8.ofNat z.toNat]⟩) (wr.alloc (.cells #[.int .u8 z] 5)) := by
  have hl : [UInt8.ofNat z.toNat].length = 1 := rfl
  have := run_convert_bytes_back (P := Tryz.prog) (wr.alloc (.cells #[.int .u8 z] 5)) 22 9 5 ⟨wr.heap.size, 0, Option.none⟩ 1 [UInt8.ofNat z.toNat] Tryz.underlying22 Tryz.underlying5 Tryz.underlying9 (fun j hj => by
    obtain rfl : j = 0 := by simp at hj; omega
    rw [one_cell wr (.int .u8 z) 5 0 _ rfl]
    simp
    omega)
  exact this
/-- Of what was there only blocks from lo to below hi may have turned. -/
structure KeepG (lo hi : Nat) (w w' : World) : Prop where
  os : w'.os = w.os
  tape : w'.tape = w.tape
  output : w'.output = w.output
  size : w.heap.size ≤ w'.heap.size
  block : ∀ k, k < w.heap.size → (k < lo ∨ hi ≤ k) → w'.heap[k]? = w.heap[k]?
theorem KeepG.refl (lo hi : Nat) (w : World) : KeepG lo hi w w := ⟨rfl, rfl, rfl, Nat.le_refl _, fun _ _ _ => rfl⟩
theorem KeepG.trans {lo hi : Nat} {a b c : World} (h : KeepG lo hi a b) (k : KeepG lo hi b c) : KeepG lo hi a c :=
  ⟨k.os.trans h.os, k.tape.trans h.tape, k.output.trans h.output, Nat.le_trans h.size k.size, fun i h1 h2 => (k.block i (Nat.lt_of_lt_of_le h1 h.size) h2).trans (h.block i h1 h2)⟩
theorem Keep.g {lo hi : Nat} {w w' : World} (h : Keep lo hi w w') : KeepG lo hi w w' := ⟨h.os, h.tape, h.output, Nat.le_of_eq h.size.symm, fun k _ h2 => h.block k h2⟩
theorem below_g {lo hi : Nat} {w w' : World} (h : Below w.heap.size w w') : KeepG lo hi w w' := ⟨h.os, h.tape, h.output, h.size, fun k h1 _ => h.block k h1⟩
/-- In two steps: first the blocks turn, then new ones come. -/
theorem KeepG.split {lo hi : Nat} {w w' : World} (h : KeepG lo hi w w') : ∃ m, Keep lo hi w m ∧ Below m.heap.size m w' := by
  refine ⟨{ w' with heap := w'.heap.extract 0 w.heap.size }, ⟨h.os, h.tape, h.output, ?_, fun k hk => ?_⟩, ⟨rfl, rfl, rfl, ?_, fun k hk => ?_⟩⟩
  · have := h.size; simp; omega
  · by_cases hlt : k < w.heap.size
    · rw [← h.block k hlt hk]
      show (w'.heap.extract 0 w.heap.size)[k]? = _
      rw [Array.getElem?_extract]
      have := h.size
      rw [if_pos (by omega), Nat.zero_add]
    · rw [Array.getElem?_eq_none (xs := w.heap) (by omega)]
      show (w'.heap.extract 0 w.heap.size)[k]? = _
      rw [Array.getElem?_eq_none (by simp; omega)]
  · show (w'.heap.extract 0 w.heap.size).size ≤ w'.heap.size
    simp; omega
  · show w'.heap[k]? = (w'.heap.extract 0 w.heap.size)[k]?
    have hk' : k < w.heap.size := by have h1 := h.size; simp at hk; omega
    have := h.size
    rw [Array.getElem?_extract, if_pos (by omega), Nat.zero_add]
end Go.Proofs.YtjnkdjokbamibaaGreatDoor
/- Contracts: what a cursor over bytes draws; its block alone turns, and new memory comes. -/
namespace Go.Proofs.YtjnkdjokbamibaaGreatDoor
open Go.RowKit
def bytesV (zs : List UInt8) : List Value := zs.map fun z => Value.int .u8 (z.toNat : Int)
def RdU (w : World) (hi : Nat) (v : Value) (zs : List UInt8) : Prop := Rd w hi 1 v zs.length (bytesV zs)
theorem RdU.at_ {w : World} {hi : Nat} {v : Value} {zs : List UInt8} (h : RdU w hi v zs) {k : Nat} (hk : k < zs.length) :
    ∃ (b off c : Nat) (z : Int), v = .slice (some ⟨b, off, Option.none⟩) zs.length c ∧ b < hi ∧ w.cell? ⟨b, off + k, Option.none⟩ = some (.int .u8 z) ∧ 0 ≤ z ∧ z ≤ 255 := by
  obtain ⟨_, A, c, hv, _, _, h4⟩ := h
  obtain ⟨b, off, rfl, hb, hc⟩ := h4 (by omega)
  refine ⟨b, off, c, ((zs[k]).toNat : Int), hv, hb, hc k _ (by simp [bytesV, hk]), by omega, ?_⟩
  have := UInt8.toNat_lt zs[k]
  omega
/-- C is the block of a cursor that has been asked at most m times. -/
def Cur (w : World) (C m : Nat) : Prop := ∃ (v : Value) (zs : List UInt8) (p : Nat) (s : Int), Blk w C 71 [v, .int .i64 (p : Int), .int .u64 s] ∧ RdU w C v zs ∧ p ≤ m
theorem KeepG.drawN {C D : Nat} (w : World) (n : Nat) : KeepG C D w (w.drewN n) := (keep_drewN C D w n).g
theorem KeepG.set_ {C D : Nat} {a w : World} (h : KeepG C D a w) {p : Addr} (h1 : C ≤ p.block) (h2 : p.block < D) (u : Value) : KeepG C D a (w.setCell p u) :=
  h.trans ((Keep.refl C D w).setCell h1 h2 u).g
theorem mask255 (y : Int) : 0 ≤ wrap64 (bits .and .u64 (IntKind.u64.wrap y / 1099511627776) 255) ∧ wrap64 (bits .and .u64 (IntKind.u64.wrap y / 1099511627776) 255) ≤ 255 := by
  have e := IntKind.wrap_u64 y
  obtain ⟨x, hx⟩ : ∃ x, x = IntKind.u64.wrap y / 1099511627776 := ⟨_, rfl⟩
  have hx0 : 0 ≤ x := by omega
  have hx1 : x < 18446744073709551616 := by omega
  rw [← hx]
  have h := bits_mask .u64 64 (by decide) (fun n h0 h1 => by rw [IntKind.wrap_u64]; omega) 8 (by decide) x hx0 (by omega)
  have h2 : bits .and .u64 x 255 = x % 256 := by simpa using h
  rw [h2]
  unfold wrap64
  omega
set_option maxRecDepth 100000 in
set_option maxHeartbeats 1600000 in
theorem next_any (C m : Nat) (w : World) (h : Cur w C m) (hm : m ≤ 1099511627776) :
    Calls Tryz.prog 110 #[.pointer (some ⟨C, 0, Option.none⟩)] w fun e w' => ∃ z : Int, e = .returned (.int .i64 z) ∧ 0 ≤ z ∧ z ≤ 255 ∧ Cur w' C (m + 1) ∧ KeepG C (C + 1) w w' := by
  obtain ⟨v, zs, p, s, hb, hr, hp⟩ := h
  obtain ⟨A, c, rfl, hc, hlm⟩ := Rd.form hr
  have h0 := hb.cell 0
  have h1 := hb.cell 1
  have h2 := hb.cell 2
  have hf := fun i => hb.frozen i
  by_cases hlt : p < zs.length
  · obtain ⟨b, off, c', z, hv, hbl, hcell, hz0, hz1⟩ := hr.at_ hlt
    cases hv
    have HB := Lib.hid hb
    have HR := Lib.hid hr
    clear hb hr
    go_enter Tryz.func110, Tryz.ntmps110
    go_wp2_with fail
    go_quiet (fail)
    go_wp2_with fail
    clear h0 h1 h2 hf
    have HB1 : Hid (Blk (w.drewN nq) C 71 [(.slice (some ⟨b, off, Option.none⟩) zs.length c), .int .i64 (p : Int), .int .u64 s]) := HB.out
    have h01 : (w.drewN nq).cell? ⟨C, 0, Option.none⟩ = some (.slice (some ⟨b, off, Option.none⟩) zs.length c) := HB1.out.cell 0
    have h11 : (w.drewN nq).cell? ⟨C, 1, Option.none⟩ = some (.int .i64 (p : Int)) := HB1.out.cell 1
    have h21 : (w.drewN nq).cell? ⟨C, 2, Option.none⟩ = some (.int .u64 s) := HB1.out.cell 2
    have hf1 : ∀ i, (w.drewN nq).frozen? ⟨C, i, Option.none⟩ = false := fun i => HB1.out.frozen i
    have hc1 : (w.drewN nq).cell? ⟨b, off + p, Option.none⟩ = some (.int .u8 z) := hcell
    have HR1 : Hid (RdU (w.drewN nq) C (.slice (some ⟨b, off, Option.none⟩) zs.length c) zs) := HR.out
    have HK1 : Hid (KeepG C (C + 1) w (w.drewN nq)) := KeepG.drawN _ _
    generalize (w.drewN nq) = w1 at HB1 h01 h11 h21 hf1 hc1 HR1 HK1 ⊢
    clear HB HR hcell
    go_wp2_with fail
    go_quiet (fail)
    have HB2 : Hid (Blk (w1.drewN nq) C 71 [(.slice (some ⟨b, off, Option.none⟩) zs.length c), .int .i64 (p : Int), .int .u64 s]) := HB1.out
    have h02 : (w1.drewN nq).cell? ⟨C, 0, Option.none⟩ = some (.slice (some ⟨b, off, Option.none⟩) zs.length c) := HB2.out.cell 0
    have h12 : (w1.drewN nq).cell? ⟨C, 1, Option.none⟩ = some (.int .i64 (p : Int)) := HB2.out.cell 1
    have h22 : (w1.drewN nq).cell? ⟨C, 2, Option.none⟩ = some (.int .u64 s) := HB2.out.cell 2
    have hf2 : ∀ i, (w1.drewN nq).frozen? ⟨C, i, Option.none⟩ = false := fun i => HB2.out.frozen i
    have HR2 : Hid (RdU (w1.drewN nq) C (.slice (some ⟨b, off, Option.none⟩) zs.length c) zs) := HR1.out
    have HK2 : Hid (KeepG C (C + 1) w (w1.drewN nq)) := HK1.out.trans (KeepG.drawN _ _)
    clear hc1 h01 h11 h21 hf1
    generalize (w1.drewN nq) = w2 at HB2 h02 h12 h22 hf2 HR2 HK2 ⊢
    have hp1 : (0 : Int) ≤ (p : Int) + 1 := by omega
    have hS1 : ∀ x, (w2.setCell ⟨C, 1, Option.none⟩ x).cell? ⟨C, 2, Option.none⟩ = some (.int .u64 s) := fun x => (HB2.out.set_ 1 x).cell 2
    have hS2 : ∀ x, (w2.setCell ⟨C, 1, Option.none⟩ x).frozen? ⟨C, 2, Option.none⟩ = false := fun x => (HB2.out.set_ 1 x).frozen 2
    have hB3 : ∀ e, Blk ((w2.setCell ⟨C, 1, Option.none⟩ (.int .i64 ((p : Int) + 1))).setCell ⟨C, 2, Option.none⟩ (.int .u64 e)) C 71 [(.slice (some ⟨b, off, Option.none⟩) zs.length c), .int .i64 ((p : Int) + 1), .int .u64 e] := fun e => (HB2.out.set_ 1 _).set_ 2 _
    have hT0 : ∀ e, ((w2.setCell ⟨C, 1, Option.none⟩ (.int .i64 ((p : Int) + 1))).setCell ⟨C, 2, Option.none⟩ (.int .u64 e)).cell? ⟨C, 0, Option.none⟩ = some (.slice (some ⟨b, off, Option.none⟩) zs.length c) := fun e => (hB3 e).cell 0
    have hT1 : ∀ e, ((w2.setCell ⟨C, 1, Option.none⟩ (.int .i64 ((p : Int) + 1))).setCell ⟨C, 2, Option.none⟩ (.int .u64 e)).cell? ⟨C, 1, Option.none⟩ = some (.int .i64 ((p : Int) + 1)) := fun e => (hB3 e).cell 1
    have hT2 : ∀ e, ((w2.setCell ⟨C, 1, Option.none⟩ (.int .i64 ((p : Int) + 1))).setCell ⟨C, 2, Option.none⟩ (.int .u64 e)).cell? ⟨C, 2, Option.none⟩ = some (.int .u64 e) := fun e => (hB3 e).cell 2
    have hR3 : ∀ e, RdU ((w2.setCell ⟨C, 1, Option.none⟩ (.int .i64 ((p : Int) + 1))).setCell ⟨C, 2, Option.none⟩ (.int .u64 e)) C (.slice (some ⟨b, off, Option.none⟩) zs.length c) zs := fun e => HR2.out.below (((Below.refl C w2).setCell (p := ⟨C, 1, Option.none⟩) (Nat.le_refl _) _).setCell (p := ⟨C, 2, Option.none⟩) (Nat.le_refl _) _) (Nat.le_refl _)
    have hK3 : ∀ e, KeepG C (C + 1) w ((w2.setCell ⟨C, 1, Option.none⟩ (.int .i64 ((p : Int) + 1))).setCell ⟨C, 2, Option.none⟩ (.int .u64 e)) := fun e => (HK2.out.set_ (Nat.le_refl _) (Nat.lt_succ_self _) _).set_ (Nat.le_refl _) (Nat.lt_succ_self _) _
    have HB3 := Lib.hid hB3
    have HR3 := Lib.hid hR3
    have HK3 := Lib.hid hK3
    clear hB3 hR3 hK3
    go_wp2_with fail
    go_quiet (fail)
    go_wp2_with fail
    go_ret
    exact ⟨_, rfl, hz0, hz1, ⟨_, zs, p + 1, _, HB3.out _, HR3.out _, by omega⟩, (HK3.out _).trans (KeepG.drawN _ _)⟩
  · have HB := Lib.hid hb
    have HR := Lib.hid hr
    clear hb hr
    go_enter Tryz.func110, Tryz.ntmps110
    go_wp2_with fail
    go_quiet (fail)
    go_wp2_with fail
    clear h0 h1 h2 hf
    have HB2 : Hid (Blk (w.drewN nq) C 71 [(.slice A zs.length c), .int .i64 (p : Int), .int .u64 s]) := HB.out
    have h02 : (w.drewN nq).cell? ⟨C, 0, Option.none⟩ = some (.slice A zs.length c) := HB2.out.cell 0
    have h12 : (w.drewN nq).cell? ⟨C, 1, Option.none⟩ = some (.int .i64 (p : Int)) := HB2.out.cell 1
    have h22 : (w.drewN nq).cell? ⟨C, 2, Option.none⟩ = some (.int .u64 s) := HB2.out.cell 2
    have hf2 : ∀ i, (w.drewN nq).frozen? ⟨C, i, Option.none⟩ = false := fun i => HB2.out.frozen i
    have HR2 : Hid (RdU (w.drewN nq) C (.slice A zs.length c) zs) := HR.out
    have HK2 : Hid (KeepG C (C + 1) w (w.drewN nq)) := KeepG.drawN _ _
    generalize (w.drewN nq) = w2 at HB2 h02 h12 h22 hf2 HR2 HK2 ⊢
    have hp1 : (0 : Int) ≤ (p : Int) + 1 := by omega
    have hS1 : ∀ x, (w2.setCell ⟨C, 1, Option.none⟩ x).cell? ⟨C, 2, Option.none⟩ = some (.int .u64 s) := fun x => (HB2.out.set_ 1 x).cell 2
    have hS2 : ∀ x, (w2.setCell ⟨C, 1, Option.none⟩ x).frozen? ⟨C, 2, Option.none⟩ = false := fun x => (HB2.out.set_ 1 x).frozen 2
    have hB3 : ∀ e, Blk ((w2.setCell ⟨C, 1, Option.none⟩ (.int .i64 ((p : Int) + 1))).setCell ⟨C, 2, Option.none⟩ (.int .u64 e)) C 71 [(.slice A zs.length c), .int .i64 ((p : Int) + 1), .int .u64 e] := fun e => (HB2.out.set_ 1 _).set_ 2 _
    have hT0 : ∀ e, ((w2.setCell ⟨C, 1, Option.none⟩ (.int .i64 ((p : Int) + 1))).setCell ⟨C, 2, Option.none⟩ (.int .u64 e)).cell? ⟨C, 0, Option.none⟩ = some (.slice A zs.length c) := fun e => (hB3 e).cell 0
    have hT1 : ∀ e, ((w2.setCell ⟨C, 1, Option.none⟩ (.int .i64 ((p : Int) + 1))).setCell ⟨C, 2, Option.none⟩ (.int .u64 e)).cell? ⟨C, 1, Option.none⟩ = some (.int .i64 ((p : Int) + 1)) := fun e => (hB3 e).cell 1
    have hT2 : ∀ e, ((w2.setCell ⟨C, 1, Option.none⟩ (.int .i64 ((p : Int) + 1))).setCell ⟨C, 2, Option.none⟩ (.int .u64 e)).cell? ⟨C, 2, Option.none⟩ = some (.int .u64 e) := fun e => (hB3 e).cell 2
    have hR3 : ∀ e, RdU ((w2.setCell ⟨C, 1, Option.none⟩ (.int .i64 ((p : Int) + 1))).setCell ⟨C, 2, Option.none⟩ (.int .u64 e)) C (.slice A zs.length c) zs := fun e => HR2.out.below (((Below.refl C w2).setCell (p := ⟨C, 1, Option.none⟩) (Nat.le_refl _) _).setCell (p := ⟨C, 2, Option.none⟩) (Nat.le_refl _) _) (Nat.le_refl _)
    have hK3 : ∀ e, KeepG C (C + 1) w ((w2.setCell ⟨C, 1, Option.none⟩ (.int .i64 ((p : Int) + 1))).setCell ⟨C, 2, Option.none⟩ (.int .u64 e)) := fun e => (HK2.out.set_ (Nat.le_refl _) (Nat.lt_succ_self _) _).set_ (Nat.le_refl _) (Nat.lt_succ_self _) _
    have HB3 := Lib.hid hB3
    have HR3 := Lib.hid hR3
    have HK3 := Lib.hid hK3
    clear hB3 hR3 hK3
    go_wp2_with fail
    go_quiet (fail)
    go_wp2_with fail
    go_ret
    exact ⟨_, rfl, (mask255 _).1, (mask255 _).2, ⟨_, zs, p + 1, _, HB3.out _, HR3.out _, by omega⟩, (HK3.out _).trans (KeepG.drawN _ _)⟩
theorem Cur.mono {w : World} {C m m' : Nat} (h : Cur w C m) (hm : m ≤ m') : Cur w C m' := by
  obtain ⟨v, zs, p, s, h1, h2, h3⟩ := h
  exact ⟨v, zs, p, s, h1, h2, by omega⟩
theorem Cur.lt {w : World} {C m : Nat} (h : Cur w C m) : C < w.heap.size := by
  obtain ⟨v, zs, p, s, h1, _, _⟩ := h
  exact h1.lt
theorem Cur.alloc {w : World} {C m : Nat} (h : Cur w C m) (o : Obj) : Cur (w.alloc o) C m := by
  obtain ⟨v, zs, p, s, h1, h2, h3⟩ := h
  exact ⟨v, zs, p, s, h1.alloc o, h2.below ((Below.refl _ _).alloc (by have := h1.lt; omega) _) (Nat.le_refl _), h3⟩
/-- What a call that draws leaves: a number in a range, the cursor a little further, all other blocks as they were. -/
def Drawn (C m : Nat) (w : World) (p : Int → Prop) (e : Ending) (w' : World) : Prop := ∃ z : Int, e = .returned (.int .i64 z) ∧ p z ∧ Cur w' C m ∧ KeepG C (C + 1) w w'
set_option maxHeartbeats 800000 in
theorem pick_any (n : Int) (C m : Nat) (w : World) (h : Cur w C m) (hm : m ≤ 1099511627000) (h1 : 1 ≤ n) (h2 : n ≤ 1048576) :
    Calls Tryz.prog 63 #[.pointer (some ⟨C, 0, Option.none⟩), .int .i64 n] w (Drawn C (m + 2) w (fun z => 0 ≤ z ∧ z < n)) := by
  by_cases hn : n ≤ 1
  · have H := Lib.hid h
    clear h
    go_enter Tryz.func63, Tryz.ntmps63
    go_wp2_with fail
    go_ret
    exact ⟨0, rfl, ⟨Int.le_refl _, by omega⟩, H.out.mono (by omega), KeepG.refl _ _ _⟩
  · have cN := next_any C m w h (by omega)
    have CN := Lib.hid cN
    clear cN h
    by_cases hb : 200 < n
    · go_enter Tryz.func63, Tryz.ntmps63
      go_wp2_with fail
      refine CN.out.mono ?_
      rintro e w1 ⟨z, rfl, hz0, hz1, hc1, hk1⟩
      have cM := next_any C (m + 1) w1 hc1 (by omega)
      have CM := Lib.hid cM
      have HK1 := Lib.hid hk1
      clear cM hc1 hk1
      go_wp2_with fail
      refine CM.out.mono ?_
      rintro e w2 ⟨y, rfl, hy0, hy1, hc2, hk2⟩
      have HC2 := Lib.hid hc2
      have HK2 := Lib.hid hk2
      clear hc2 hk2
      have hq0 : 0 ≤ (z * 256 + y) % n := Int.emod_nonneg _ (by omega)
      have hq1 : (z * 256 + y) % n < n := Int.emod_lt_of_pos _ (by omega)
      have hnn : n ≠ 0 := by omega
      go_wp2_with fail
      go_ret
      refine ⟨(z * 256 + y) % n, ?_, ⟨hq0, hq1⟩, HC2.out, HK1.out.trans HK2.out⟩
      simp
      try rw [Int.tmod_eq_emod_of_nonneg (by omega)]
    · go_enter Tryz.func63, Tryz.ntmps63
      go_wp2_with fail
      refine CN.out.mono ?_
      rintro e w1 ⟨z, rfl, hz0, hz1, hc1, hk1⟩
      have HC1 := Lib.hid hc1
      have HK1 := Lib.hid hk1
      clear hc1 hk1
      have hq0 : 0 ≤ z % n := Int.emod_nonneg _ (by omega)
      have hq1 : z % n < n := Int.emod_lt_of_pos _ (by omega)
      have hnn : n ≠ 0 := by omega
      go_wp2_with fail
      go_ret
      refine ⟨z % n, ?_, ⟨hq0, hq1⟩, HC1.out.mono (by omega), HK1.out⟩
      simp
      try rw [Int.tmod_eq_emod_of_nonneg (by omega)]
theorem one_any (n : Int) (C m : Nat) (w : World) (h : Cur w C m) (hm : m ≤ 1099511627000) (h1 : 1 ≤ n) (h2 : n ≤ 1048576) :
    Calls Tryz.prog 64 #[.pointer (some ⟨C, 0, Option.none⟩), .int .i64 n] w fun e w' => ∃ b : Bool, e = .returned (.bool b) ∧ Cur w' C (m + 2) ∧ KeepG C (C + 1) w w' := by
  have cN := pick_any n C m w h hm h1 h2
  have CN := Lib.hid cN
  clear cN h
  go_enter Tryz.func64, Tryz.ntmps64
  go_wp2_with fail
  refine CN.out.mono ?_
  rintro e w1 ⟨z, rfl, hz, hc1, hk1⟩
  have HC1 := Lib.hid hc1
  have HK1 := Lib.hid hk1
  clear hc1 hk1
  go_wp2_with fail
  go_ret
  exact ⟨_, rfl, HC1.out, HK1.out⟩
/-- The slice value v is not empty, lies outside block C, and reads as xs. -/
def Lst (w : World) (C : Nat) (v : Value) (xs : List Int) : Prop := 1 ≤ xs.length ∧ xs.length ≤ 1048576 ∧ ∃ b off c, v = .slice (some ⟨b, off, Option.none⟩) xs.length c ∧ b ≠ C ∧ b < w.heap.size ∧ ∀ j x, xs[j]? = some x → w.cell? ⟨b, off + j, Option.none⟩ = some (.int .i64 x)
theorem KeepG.cell {lo hi : Nat} {w w' : World} (h : KeepG lo hi w w') {b o : Nat} (hb : b < w.heap.size) (hne : b < lo ∨ hi ≤ b) : w'.cell? ⟨b, o, Option.none⟩ = w.cell? ⟨b, o, Option.none⟩ := by
  unfold World.cell?
  rw [h.block b hb hne]
theorem lst_new (w : World) (C : Nat) (xs : List Int) (hC : C < w.heap.size) (h1 : 1 ≤ xs.length) (h2 : xs.length ≤ 1048576) : Lst (w.alloc (.cells (ints xs).toArray 3)) C (.slice (some ⟨w.heap.size, 0, Option.none⟩) xs.length xs.length) xs := by
  refine ⟨h1, h2, w.heap.size, 0, _, rfl, by omega, by simp, fun j x hj => ?_⟩
  rw [show (0 : Nat) + j = j by omega, (Blk.new w 3 (ints xs).toArray).cell j]
  simp [ints, hj]
theorem among_any (xs : List Int) (v : Value) (C m : Nat) (w : World) (h : Cur w C m) (hm : m ≤ 1099511627000) (hl : Lst w C v xs) :
    Calls Tryz.prog 74 #[.pointer (some ⟨C, 0, Option.none⟩), v] w (Drawn C (m + 2) w (fun z => z ∈ xs)) := by
  obtain ⟨l1, l2, b, off, c, rfl, hbC, hbw, hcell⟩ := hl
  have cN := pick_any (xs.length : Int) C m w h hm (by omega) (by omega)
  have CN := Lib.hid cN
  have HCE := Lib.hid hcell
  clear cN h hcell
  go_enter Tryz.func74, Tryz.ntmps74
  go_wp2_with fail
  refine CN.out.mono ?_
  rintro e w1 ⟨z, rfl, ⟨hz0, hz1⟩, hc1, hk1⟩
  obtain ⟨k, rfl⟩ : ∃ k : Nat, z = (k : Int) := ⟨z.toNat, by omega⟩
  have hx : xs[k]? = some xs[k] := by simp [show k < xs.length by omega]
  have hc := (hk1.cell (o := off + k) hbw (by omega)).trans (HCE.out k _ hx)
  have HX := Lib.hid (List.mem_of_getElem? hx)
  have HC1 := Lib.hid hc1
  have HK1 := Lib.hid hk1
  clear hc1 hk1 hx
  go_wp2_with fail
  go_ret
  exact ⟨_, rfl, HX.out, HC1.out, HK1.out⟩
end Go.Proofs.YtjnkdjokbamibaaGreatDoor
