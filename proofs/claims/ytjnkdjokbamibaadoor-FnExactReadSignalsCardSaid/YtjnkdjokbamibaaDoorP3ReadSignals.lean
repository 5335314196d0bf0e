/- Texts of one claim, joined: Y6, Y7, Y8. -/
import Derived.Lib.AtoiAllMem
import Derived.Lib.AtoiErrMem
import Derived.Lib.AtoiAllCases
import Derived.Lib.SplitLaws
import Derived.Test.YtjnkdjokbamibaaDoorRows
import Derived.Stop.LaidErr
import Derived.Lib.LaidTab
import Derived.Shelf.Vars
import Derived.LaidMore
import Derived.OpenShut
import Derived.Stop.Joined
import Derived.SevenTiedAt
import Derived.Test.YtjnkdjokbamibaaDoorP2ReadSignals
/- Contracts: a number read, numbers split, ReadSignals; of the program. -/
namespace Go.Proofs.YtjnkdjokbamibaaDoor
open Go.RowKit
/-- What the library's variables hold, as far as the library's contracts ask. -/
def LW (w : World) : Prop := Lib.TabIs Tryd.prog w "internal/strconv.uint64pow10" .u64 Lib.pow10Tab ∧ (∃ m, w.cell? ⟨0, 0, Option.none⟩ = some (.int .i64 m)) ∧
  (∃ ev, w.cell? ⟨1, 0, Option.none⟩ = some ev ∧ (ev = .nilIface ∨ ∃ te pe, ev = .iface te pe)) ∧ (∃ ev, w.cell? ⟨2, 0, Option.none⟩ = some ev ∧ (ev = .nilIface ∨ ∃ te pe, ev = .iface te pe))
theorem lw_cell {w w' : World} (hb : Below w.heap.size w w') {a : Addr} {v : Value} (hc : w.cell? a = some v) : w'.cell? a = some v := (hb.cell (World.block_lt_of_cell? w a hc)).trans hc
theorem lw_tab {w w' : World} (h : Lib.TabIs Tryd.prog w "internal/strconv.uint64pow10" .u64 Lib.pow10Tab) (hb : Below w.heap.size w w') : Lib.TabIs Tryd.prog w' "internal/strconv.uint64pow10" .u64 Lib.pow10Tab := by
  obtain ⟨g, hg⟩ := Option.isSome_iff_exists.1 (show (Tryd.prog.globalNamed "internal/strconv.uint64pow10").isSome = true by kernel_rfl)
  unfold Lib.TabIs World.var? at h ⊢
  rw [hg] at h ⊢
  simp only [Option.bind_some] at h ⊢
  have hlt : g < w.heap.size := by
    rcases Nat.lt_or_ge g w.heap.size with h' | h'
    · exact h'
    · rw [Array.getElem?_eq_none h'] at h; cases h
  rw [hb.block g hlt]
  exact h
theorem LW.below {w w' : World} (h : LW w) (hb : Below w.heap.size w w') : LW w' := by
  obtain ⟨h1, ⟨m, h2⟩, ⟨e1, h3, h4⟩, ⟨e2, h5, h6⟩⟩ := h
  exact ⟨lw_tab h1 hb, ⟨m, lw_cell hb h2⟩, ⟨e1, lw_cell hb h3, h4⟩, ⟨e2, lw_cell hb h5, h6⟩⟩
theorem below_grownB (w : World) (q : Nat) (os : Array Obj) : Below w.heap.size w (Sort.grow (w.drewN q) os) := by
  refine ⟨rfl, rfl, rfl, by first | (simp [Sort.grow]; done) | (simp [Sort.grow]; omega), fun k hk => ?_⟩
  show ((w.drewN q).heap ++ os)[k]? = _
  rw [Array.getElem?_append_left (by show k < w.heap.size; omega)]
  rfl
theorem readN_ok {a : List UInt8} {v : Int} (h : Lib.atoiAll a = .ok v) : readN a = if 0 ≤ v ∧ Lib.itoa v = a then some v else Option.none := by unfold readN; rw [h]
theorem readN_not {a : List UInt8} (h : ∀ v, Lib.atoiAll a ≠ .ok v) : readN a = Option.none := by
  unfold readN
  split
  · rename_i v hv; exact absurd hv (h v)
  · rfl
set_option maxRecDepth 100000 in
set_option maxHeartbeats 4000000 in
theorem readNumber_any (s : ByteArray) (hs : s.size ≤ 1048576) (w : World) (hL : LW w) :
    Calls Tryd.prog 51 #[.string s] w fun e w' => e = .returned (.tuple #[.int .i64 ((readN s.data.toList).getD 0), .bool (readN s.data.toList).isSome]) ∧ Below w.heap.size w w' := by
  have HL := Lib.hid hL
  clear hL
  rcases hat : Lib.atoiAll s.data.toList with v | _ | _
  · obtain ⟨hv0, hv1⟩ := Lib.atoiAll_bounds hat
    have HN := Lib.hid (readN_ok hat)
    have CA := Lib.hid (Tryd.strconv_Atoi_ok s (by omega) v hat w)
    by_cases hneg : v < 0
    · have HR : Hid (readN s.data.toList = Option.none) := by
        show _ = _
        rw [HN.out, if_neg (by omega)]
      clear HN
      go_enter Tryd.func51, Tryd.ntmps51
      go_wp2_with fail
      refine CA.out.mono ?_
      rintro e w1 ⟨rfl, hw1⟩
      have HB : Hid (Below w.heap.size w w1) := by
        rcases hw1 with rfl | ⟨t, rfl⟩
        · exact Below.refl _ _
        · exact Lib.bytesWorld_below _ _ _
      clear hw1
      go_wp2_with fail
      go_ret2
      rw [HR.out]
      exact ⟨rfl, HB.out⟩
    · have hneg2 : decide (v < 0) = false := decide_eq_false hneg
      have CI := fun (w1 : World) (h : LW w1) => Tryd.strconv_Itoa v (by omega) (by omega) w1 h.1
      have HCI := Lib.hid CI
      clear CI
      have hil := Lib.itoa_length_le v (by omega) (by omega)
      cases heq : (Lib.itoa v == s.toList)
      · have HR : Hid (readN s.data.toList = Option.none) := by
          show _ = _
          have := ne_of_beq_false heq
          rw [ByteArray.toList_eq] at this
          rw [HN.out, if_neg (fun h => this h.2)]
        clear HN
        go_enter Tryd.func51, Tryd.ntmps51
        go_wp2_with fail
        refine CA.out.mono ?_
        rintro e w1 ⟨rfl, hw1⟩
        have HB : Hid (Below w.heap.size w w1) := by
          rcases hw1 with rfl | ⟨t, rfl⟩
          · exact Below.refl _ _
          · exact Lib.bytesWorld_below _ _ _
        clear hw1
        go_wp2_with fail
        refine (HCI.out w1 (HL.out.below HB.out)).mono ?_
        rintro e w2 ⟨rfl, hw2⟩
        have HB2 : Hid (Below w.heap.size w w2) := by
          obtain ⟨k, os, rfl⟩ := hw2
          exact HB.out.trans ((below_grownB w1 k os).mono HB.out.size)
        clear hw2
        go_wp2_with fail
        go_ret2
        rw [HR.out]
        exact ⟨rfl, HB2.out⟩
      · have HR : Hid (readN s.data.toList = some v) := by
          show _ = _
          have := eq_of_beq heq
          rw [ByteArray.toList_eq] at this
          rw [HN.out, if_pos ⟨by omega, this⟩]
        clear HN
        go_enter Tryd.func51, Tryd.ntmps51
        go_wp2_with fail
        refine CA.out.mono ?_
        rintro e w1 ⟨rfl, hw1⟩
        have HB : Hid (Below w.heap.size w w1) := by
          rcases hw1 with rfl | ⟨t, rfl⟩
          · exact Below.refl _ _
          · exact Lib.bytesWorld_below _ _ _
        clear hw1
        go_wp2_with fail
        refine (HCI.out w1 (HL.out.below HB.out)).mono ?_
        rintro e w2 ⟨rfl, hw2⟩
        have HB2 : Hid (Below w.heap.size w w2) := by
          obtain ⟨k, os, rfl⟩ := hw2
          exact HB.out.trans ((below_grownB w1 k os).mono HB.out.size)
        clear hw2
        go_wp2_with fail
        go_ret2
        rw [HR.out]
        exact ⟨rfl, HB2.out⟩
  · have HR := Lib.hid (readN_not (a := s.data.toList) (fun v h => by rw [hat] at h; cases h))
    obtain ⟨ev, hv, hev⟩ := HL.out.2.2.1
    have CA := Lib.hid (Any.strconv_Atoi_syntax Tryd.laysC172 s (by omega) hat ev w hv hev)
    clear hv hev
    go_enter Tryd.func51, Tryd.ntmps51
    go_wp2_with fail
    refine CA.out.mono ?_
    rintro e w1 ⟨N, rfl, hN, hc, hb1⟩
    have HB := Lib.hid hb1
    clear hN hc hb1
    go_wp2_with fail
    go_ret2
    rw [HR.out]
    exact ⟨rfl, HB.out⟩
  · have HR := Lib.hid (readN_not (a := s.data.toList) (fun v h => by rw [hat] at h; cases h))
    obtain ⟨ev, hv, hev⟩ := HL.out.2.2.2
    have CA := Lib.hid (Tryd.strconv_Atoi_range s (by omega) hat ev w hv hev)
    have hsat := Lib.atoiSat_bounds s.data.toList
    obtain ⟨sat, hst⟩ : ∃ sat, sat = Lib.atoiSat s.data.toList := ⟨_, rfl⟩
    rw [← hst] at CA hsat
    clear hv hev hst
    go_enter Tryd.func51, Tryd.ntmps51
    go_wp2_with fail
    refine CA.out.mono ?_
    rintro e w1 ⟨N, rfl, hN, hc, hb1⟩
    have HB := Lib.hid hb1
    clear hN hc hb1
    go_wp2_with fail
    go_ret2
    rw [HR.out]
    exact ⟨rfl, HB.out⟩
theorem split_txts (c : UInt8) (s : ByteArray) : (Lib.splitB ⟨#[c]⟩ 0 (Lib.countB s ⟨#[c]⟩) s).map Value.string = strsT (splitC c s.data.toList) := by
  have h := Lib.splitB_data ⟨#[c]⟩ 0 (Lib.countB s ⟨#[c]⟩) s
  have h2 : Lib.splitK (⟨#[c]⟩ : ByteArray).data.toList 0 (Lib.countB s ⟨#[c]⟩) s.data.toList = splitC c s.data.toList := splitK_C c s.data.toList
  rw [h2] at h
  unfold strsT
  rw [← h, List.map_map]
  exact List.map_congr_left fun a _ => by simp
theorem split_count (c : UInt8) (s : ByteArray) : Lib.countB s ⟨#[c]⟩ + 1 = (splitC c s.data.toList).length := by
  have h := congrArg List.length (split_txts c s)
  rw [List.length_map, Lib.splitB_all ⟨#[c]⟩ (Nat.le_refl 1) 0 _ s rfl] at h
  rw [h]; simp [strsT]
theorem rd_strs (w : World) (P : List (List UInt8)) (hl : P.length ≤ maxLen) : Rd (w.alloc (.cells (strsT P).toArray 9)) (w.heap.size + 1) 1 (.slice (some ⟨w.heap.size, 0, Option.none⟩) P.length P.length) P.length (strsT P) :=
  ⟨by simp [strsT], _, _, rfl, Nat.le_refl _, hl, fun _ => ⟨w.heap.size, 0, rfl, by omega, fun j u hu => by
    have h := (Blk.new w 9 (strsT P).toArray).cell j
    rw [Nat.zero_add, h]
    simpa using hu⟩⟩
set_option maxRecDepth 100000 in
set_option maxHeartbeats 4000000 in
theorem splitNumbers_any (s : ByteArray) (c : UInt8) (hs : s.size ≤ 1048576) (w : World) (hL : LW w) :
    Calls Tryd.prog 30 #[.string s, .string ⟨#[c]⟩] w (RetOwT ((numsO c s.data.toList).getD []) (numsO c s.data.toList).isSome w) := by
  have hs1 : (splitC c s.data.toList).length ≤ s.data.toList.length + 1 := (splitC_len c _).2
  have hs2 : s.data.toList.length = s.size := by simp
  have hml : ∀ a ∈ splitC c s.data.toList, a.length ≤ s.data.toList.length := fun a h => splitC_le h
  obtain ⟨m, hm⟩ := hL.2.1
  have cS := Tryd.strings_Split s ⟨#[c]⟩ m w (by omega) hm (Nat.le_refl 1)
  rw [split_txts, split_count] at cS
  have hN : numsO c s.data.toList = allN (splitC c s.data.toList) := rfl
  obtain ⟨P, hP⟩ : ∃ P, P = splitC c s.data.toList := ⟨_, rfl⟩
  rw [← hP] at hs1 cS hml hN
  have HN := Lib.hid hN
  have HM := Lib.hid hml
  have CS := Lib.hid cS
  have HR := Lib.hid (rd_strs w P (by unfold maxLen; omega))
  have hb1 : Below w.heap.size w (w.alloc (.cells (strsT P).toArray 9)) := (Below.refl _ _).alloc (Nat.le_refl _) _
  have hz1 : (w.alloc (.cells (strsT P).toArray 9)).heap.size = w.heap.size + 1 := by simp
  have HL := Lib.hid (hL.below hb1)
  have HB1 := Lib.hid hb1
  have hP1 : (P.length : Int) ≤ 1048577 := by omega
  clear hP hml cS hN hm hL hb1
  go_enter Tryd.func30, Tryd.ntmps30
  go_wp2_with fail
  refine CS.out.mono ?_
  rintro e w1 ⟨rfl, hw1⟩
  rw [← hw1] at HL HB1 HR hz1
  clear hw1
  go_wp2_with fail
  go_loopw [6, 15] (fun q i wr => ∃ (k : Nat) (ns : List Int), k ≤ P.length ∧ i = .int .i64 (k : Int) ∧ ns.length ≤ k ∧ Hid (allN (P.take k) = some ns) ∧ Hid (GrowI w1 w1.heap.size wr q ns)) (fun _ i _ => P.length - (intOf i).toNat)
  case atStart => exact ⟨0, [], Nat.zero_le _, rfl, Nat.le_refl _, rfl, GrowI.start w1⟩
  case round =>
    obtain ⟨k, ns, hk, rfl, hns, HA, HG⟩ := hrel
    by_cases hlt : k < P.length
    · obtain ⟨b1, o1, c1, y, hv, _, hx, hcell1⟩ := Rd.atS (Rd.below HR.out HG.out.2.1 (by omega)) hlt
      injection hv with hv1 hv2 hv3; cases hv1; clear hv2 hv3
      rw [Nat.zero_add] at hcell1
      have hy := HM.out y (List.mem_of_getElem? hx)
      have cR := readNumber_any ⟨y.toArray⟩ (by show y.toArray.size ≤ _; simp; omega) wr (HL.out.below HG.out.2.1)
      have e0 : (⟨y.toArray⟩ : ByteArray).data.toList = y := rfl
      rw [e0] at cR
      rcases hr : readN y with _ | n
      · rw [hr] at cR
        have HE := Lib.hid (HN.out.trans (allO_no hx hr))
        have CR := Lib.hid cR
        clear cR hx hr e0
        go_wp2_with fail
        refine CR.out.mono ?_
        rintro e w2 ⟨rfl, hb2⟩
        have HB2 := Lib.hid (HB1.out.trans ((HG.out.2.1.trans (hb2.mono HG.out.2.1.size)).mono HB1.out.size))
        clear hb2
        go_wp2_with fail
        go_ret2
        rw [HE.out]
        exact retOwT _ (GrowI.nil HB2.out)
      · rw [hr] at cR
        have CR : Hid (Calls Tryd.prog 51 #[.string ⟨y.toArray⟩] wr fun e w' => e = .returned (.tuple #[.int .i64 n, .bool true]) ∧ Below wr.heap.size wr w') := cR
        have HA2 : Hid (allN (P.take (k + 1)) = some (ns ++ [n])) := by
          show _ = _
          rw [take_snocN hx]; exact allO_snoc HA.out hr
        clear cR hx hr e0
        go_wp2_with fail
        refine CR.out.mono ?_
        rintro e w2 ⟨rfl, hb2⟩
        have HG2 := Lib.hid (HG.out.belowR hb2)
        clear hb2
        go_wp2_with (at_builtin; refine GrowI.app rfl (.tmp 26) (.tmp 28) rfl HG2.out (by omega) rfl rfl ?_; intro v' w3 hG'; have HG3 := Lib.hid hG'; clear hG')
        go_roundw
        case rel => exact ⟨k + 1, _, by omega, by go_num, by rw [List.length_append]; exact Nat.succ_le_succ hns, HA2.out, HG3.out⟩
        case measure => (simp [intOf]; try omega)
    · have ha := HA.out
      rw [List.take_of_length_le (by omega)] at ha
      have HE := Lib.hid (HN.out.trans ha)
      clear ha
      have HB2 := Lib.hid (HB1.out.trans (HG.out.2.1.mono HB1.out.size))
      have HO := Lib.hid (HG.out.own.mono HB1.out.size (Nat.le_refl _))
      go_wp2_with fail
      go_ret2
      rw [HE.out]
      exact ⟨_, rfl, HO.out, HB2.out⟩
theorem readO_some {s : List UInt8} (h : s ≠ []) {l : List Int} (ho : numsO 32 s = some l) : readO s = if sigsB l then some l else Option.none := by
  unfold readO
  rw [if_neg h, ho]
theorem readO_none {s : List UInt8} (h : s ≠ []) (ho : numsO 32 s = Option.none) : readO s = Option.none := by
  unfold readO
  rw [if_neg h, ho]
set_option maxRecDepth 100000 in
set_option maxHeartbeats 4000000 in
theorem ReadSignals_any (s : ByteArray) (hs : s.size ≤ 1048576) (w : World) (hL : LW w) : Calls Tryd.prog 21 #[.string s] w (RetOwT ((readO s.data.toList).getD []) (readO s.data.toList).isSome w) := by
  cases hse : s.toList.isEmpty
  · have hne : s.data.toList ≠ [] := fun e => by rw [ByteArray.toList_eq, e] at hse; cases hse
    have cS := splitNumbers_any s 32 hs w hL
    rcases ho : numsO 32 s.data.toList with _ | l
    · rw [ho] at cS
      have HO : Hid (readO s.data.toList = Option.none) := readO_none hne ho
      have CS : Hid (Calls Tryd.prog 30 #[.string s, .string ⟨#[32]⟩] w (RetOwT [] false w)) := cS
      clear cS ho hne
      go_enter Tryd.func21, Tryd.ntmps21
      go_wp2_with fail
      refine CS.out.mono ?_
      rintro e w1 ⟨v, rfl, how, hb1⟩
      obtain ⟨A, c, rfl, _⟩ := how.form
      have HB := Lib.hid hb1
      clear how hb1
      go_wp2_with fail
      go_ret2
      rw [HO.out]
      exact retOwT _ (GrowI.nil HB.out)
    · rw [ho] at cS
      have CS : Hid (Calls Tryd.prog 30 #[.string s, .string ⟨#[32]⟩] w (RetOwT l true w)) := cS
      have HO : Hid (readO s.data.toList = if sigsB l then some l else Option.none) := readO_some hne ho
      clear cS ho hne
      go_enter Tryd.func21, Tryd.ntmps21
      go_wp2_with fail
      refine CS.out.mono ?_
      rintro e w1 ⟨v, rfl, how, hb1⟩
      obtain ⟨A, c, rfl, hcl⟩ := how.form
      have HW := Lib.hid how
      have HB := Lib.hid hb1
      have cA := areSignals_any l _ _ _ how.rd
      clear how hb1
      cases hg : sigsB l
      all_goals
        rw [hg] at cA
        have CA := Lib.hid cA
        have HG := Lib.hid hg
        clear cA hg
        go_wp2_with (go_at_call 37; refine (CA.out).mono ?_; rintro e w' ⟨rfl, rfl⟩)
        go_ret2
        rw [HO.out, HG.out]
        first
          | exact retOwT _ (GrowI.nil HB.out)
          | exact ⟨_, rfl, HW.out, HB.out⟩
  · have HN : Hid (s.data.toList = []) := by
      have := List.isEmpty_iff.1 hse
      rwa [ByteArray.toList_eq] at this
    go_enter Tryd.func21, Tryd.ntmps21
    go_wp2_with fail
    go_ret2
    rw [HN.out]
    exact retOwT_nil w true
end Go.Proofs.YtjnkdjokbamibaaDoor
/- What the library's variables hold in the worlds that the card of ReadSignals speaks of. -/
namespace Go.Proofs.YtjnkdjokbamibaaDoor
open Go.RowKit
theorem starE : "*" ++ "errors.errorString" = "*errors.errorString" := by decide
theorem rowE (u : TypeId) (h : Tryd.prog.typeName? 3 u = some "*errors.errorString") : u = 135 :=
  typeName_ptr_named (nm := "errors.errorString") (by rw [starE]; kernel_rfl) (by kernel_rfl) (by decide) u (by rw [starE]; exact h)
theorem tabE : (Rows.laid_internal_strconv_uint64pow10 : DataW Unit) = Lib.tabData .u64 Lib.pow10Tab := by kernel_rfl
abbrev lwRow := Rows.fnExactReadSignalsRow
theorem lw_of {W : World} (hsh : W.ShapedOpen Tryd.prog) (hL : laidMetH Tryd.prog lwRow.laid W) : LW W := by
  have h0 : laidMet Tryd.prog lwRow.laid W := by rwa [MakeChecks.laidMetH_plain _ _ _ (by kernel_rfl)] at hL
  have h2 : laidMet Tryd.prog (("internal/strconv.uint64pow10", Rows.laid_internal_strconv_uint64pow10) :: _) W := laidMet.tail (laidMet.tail h0)
  have h4 : laidMet Tryd.prog (("strconv.ErrRange", Rows.laid_strconv_ErrRange) :: _) W := laidMet.tail (laidMet.tail h2)
  have h5 : laidMet Tryd.prog (("strconv.ErrSyntax", Rows.laid_strconv_ErrSyntax) :: _) W := laidMet.tail h4
  rw [tabE] at h2
  have htab := Lib.tabIs_of_head (g := 3) (t := 126) (by kernel_rfl) (by kernel_rfl) Tryd.underlying126 Tryd.underlying113 (by kernel_rfl) (by kernel_rfl) h2
  obtain ⟨a1, s1, hv1, -, -, -⟩ := laid_sentinel (g := 2) (ti := 83) (tp := 135) h4 (by kernel_rfl) (by kernel_rfl) Tryd.underlying83 rowE Tryd.underlying135 Tryd.underlying137 rfl rfl Tryd.underlying9 (by kernel_rfl) (by kernel_rfl)
  obtain ⟨a2, s2, hv2, -, -, -⟩ := laid_sentinel (g := 1) (ti := 83) (tp := 135) h5 (by kernel_rfl) (by kernel_rfl) Tryd.underlying83 rowE Tryd.underlying135 Tryd.underlying137 rfl rfl Tryd.underlying9 (by kernel_rfl) (by kernel_rfl)
  obtain ⟨m, hm⟩ := cell_of_shapedOpen_int (P := Tryd.prog) (g := 0) (t := 3) (zero := #[.int .i64 0]) hsh (of_decide_eq_true (by kernel_rfl)) (by kernel_rfl) rfl (by kernel_rfl) (by kernel_rfl) Tryd.underlying3
  have c1 : W.cell? ⟨1, 0, Option.none⟩ = some (.iface 135 (.pointer (some a2))) := by
    have := World.var?_cell (g := 1) (by kernel_rfl) hv2 0
    simpa using this
  have c2 : W.cell? ⟨2, 0, Option.none⟩ = some (.iface 135 (.pointer (some a1))) := by
    have := World.var?_cell (g := 2) (by kernel_rfl) hv1 0
    simpa using this
  exact ⟨htab, ⟨m, hm⟩, ⟨_, c1, .inr ⟨_, _, rfl⟩⟩, ⟨_, c2, .inr ⟨_, _, rfl⟩⟩⟩
theorem readO_len (s : List UInt8) : ((readO s).getD []).length ≤ 100 := by
  rcases h : readO s with _ | l
  · exact Nat.zero_le _
  · exact (sigL_iff.1 (readO_iff.1 h).1).1
end Go.Proofs.YtjnkdjokbamibaaDoor
/- The frame of a card whose walk wants the world's shape besides what the card lays. -/
namespace Go.Proofs.YtjnkdjokbamibaaDoor
open Go.ChangeShapes Go.WideShapes Go.ChangeAt Go.RowKit
variable {H : Type} {enc : TypeId × Value → H}
theorem handed_shaped {a : Assume} {C : Checked} {os : Os} {f : FuncId} {fn : Func} {s : ChangeSpec} {conds : List PathCond} {apart fresh handsOn again : Bool} {X : World → Array Value → Prop}
    (hX : ∀ (w w' : World) (args : Array Value), w.heap = w'.heap → X w args → X w' args)
    (own : ownKnob C.prog.godebug = none) (started : os.Started) (noInit : C.prog.inits.idxOf? f = none) (hfn : C.prog.funcs[f]? = some fn)
    (witness : ∃ (w : World) (tape : Tape) (i : Input), w.os = os ∧ (w.forCall tape i).Shaped C.prog ∧ i.vars = [] ∧ Input.okWide C.prog (w.forCall tape i) .any w.heap.size f i ∧
      ((s.pre enc C.prog fn conds apart (w.forCall tape i).memory i.args ∧ X (w.forCall tape i).memory i.args) ∧ sizedMet enc C.prog fn (OpenSpec.ofChange s) apart (w.forCall tape i).memory i.args) ∧ a.holds C.prog (lone (Frame.enter C.prog f i.args .normal) [] (w.forCall tape i)))
    (contract : ∀ (W : World) (base : Nat) (args : Array Value) (ds gs : List (DataW H)) (before : List MemPlace),
      (∀ (j : Nat) t v, fn.params[j]? = some t → args[j]? = some v → Value.okWide C.prog W .any base t v) →
      DataW.Whole enc C.prog fn.params.toList s.vars apart W args.toList ds gs before →
      X W args → W.ShapedOpen C.prog →
      Calls C.prog f args W fun e W' => ∃ v, e = .returned v ∧ s.post enc C.prog fn apart fresh handsOn again W args v W') :
    ReturnsInHanded a C os f .any (fun w args => (s.pre enc C.prog fn conds apart w args ∧ X w args) ∧ sizedMet enc C.prog fn (OpenSpec.ofChange s) apart w args) (s.post enc C.prog fn apart fresh handsOn again) := by
  refine returnsInHanded_of_calls own started noInit witness ?_
  intro w tape i _ hsh _ hok hpre _
  obtain ⟨_, _, _, fn', hfn', _, _, _, _, hval⟩ := hok
  have e : fn' = fn := Option.some.inj (hfn'.symm.trans hfn)
  subst e
  obtain ⟨⟨⟨ds, gs, before, hw, _⟩, hx⟩, _⟩ := hpre
  have hw' := DataW.Whole.of_heap (w' := w.forCall tape i) (by rfl) hw
  refine (contract (w.forCall tape i) w.heap.size i.args ds gs before hval hw' (hX _ _ _ (by rfl) hx) hsh).mono fun e W' ⟨v, he, hp⟩ => ?_
  subst he
  exact ChangeSpec.post_blind hp
end Go.Proofs.YtjnkdjokbamibaaDoor
