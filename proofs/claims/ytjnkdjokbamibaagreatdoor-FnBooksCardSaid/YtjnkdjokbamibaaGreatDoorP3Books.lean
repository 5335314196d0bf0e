/- Texts of one claim, joined: Y6, Y7, Y8, D1, D7. -/
import Derived.Lib.AtoiAllMem
import Derived.Lib.AtoiErrMem
import Derived.Lib.AtoiAllCases
import Derived.Lib.SplitLaws
import Derived.Test.YtjnkdjokbamibaaGreatDoorRows
import Derived.Stop.LaidErr
import Derived.Lib.LaidTab
import Derived.Shelf.Vars
import Derived.LaidMore
import Derived.OpenShut
import Derived.Stop.Joined
import Derived.SevenTiedAt
import Derived.Laws.OwnMore
import Derived.Laws.IdiomStrings
import Derived.Test.YtjnkdjokbamibaaGreatDoorP2Books
/- Contracts: a number read, numbers split, ReadSignals; of the program. -/
namespace Go.Proofs.YtjnkdjokbamibaaGreatDoor
open Go.RowKit
/-- What the library's variables hold, as far as the library's contracts ask. -/
def LW (w : World) : Prop := Lib.TabIs Tryz.prog w "internal/strconv.uint64pow10" .u64 Lib.pow10Tab ∧ (∃ m, w.cell? ⟨0, 0, Option.none⟩ = some (.int .i64 m)) ∧
  (∃ ev, w.cell? ⟨2, 0, Option.none⟩ = some ev ∧ (ev = .nilIface ∨ ∃ te pe, ev = .iface te pe)) ∧ (∃ ev, w.cell? ⟨3, 0, Option.none⟩ = some ev ∧ (ev = .nilIface ∨ ∃ te pe, ev = .iface te pe))
theorem lw_cell {w w' : World} (hb : Below w.heap.size w w') {a : Addr} {v : Value} (hc : w.cell? a = some v) : w'.cell? a = some v := (hb.cell (World.block_lt_of_cell? w a hc)).trans hc
theorem lw_tab {w w' : World} (h : Lib.TabIs Tryz.prog w "internal/strconv.uint64pow10" .u64 Lib.pow10Tab) (hb : Below w.heap.size w w') : Lib.TabIs Tryz.prog w' "internal/strconv.uint64pow10" .u64 Lib.pow10Tab := by
  obtain ⟨g, hg⟩ := Option.isSome_iff_exists.1 (show (Tryz.prog.globalNamed "internal/strconv.uint64pow10").isSome = true by kernel_rfl)
  unfold Lib.TabIs World.var? at h ⊢
  rw [hg] at h ⊢
  simp only [Option.bind_some] at h ⊢
  have hlt : g < w.heap.size := by
    rcases Nat.lt_or_ge g w.heap.size with h' | h'
    · exact h'
    · rw [Array.getElem?_eq_none h'] at h; cases h
  rw [hb.block g hlt]
  exact h
theorem LW.below {w w' : World} (h : LW w) (hb : Below w.heap.size w w') : LW w' := by
  obtain ⟨h1, ⟨m, h2⟩, ⟨e1, h3, h4⟩, ⟨e2, h5, h6⟩⟩ := h
  exact ⟨lw_tab h1 hb, ⟨m, lw_cell hb h2⟩, ⟨e1, lw_cell hb h3, h4⟩, ⟨e2, lw_cell hb h5, h6⟩⟩
theorem below_grownB (w : World) (q : Nat) (os : Array Obj) : Below w.heap.size w (Sort.grow (w.drewN q) os) := by
  refine ⟨rfl, rfl, rfl, by first | (simp [Sort.grow]; done) | (simp [Sort.grow]; omega), fun k hk => ?_⟩
  show ((w.drewN q).heap ++ os)[k]? = _
  rw [Array.getElem?_append_left (by show k < w.heap.size; omega)]
  rfl
theorem readN_ok {a : List UInt8} {v : Int} (h : Lib.atoiAll a = .ok v) : readN a = if 0 ≤ v ∧ Lib.itoa v = a then some v else Option.none := by unfold readN; rw [h]
theorem readN_not {a : List UInt8} (h : ∀ v, Lib.atoiAll a ≠ .ok v) : readN a = Option.none := by
  unfold readN
  split
  · rename_i v hv; exact absurd hv (h v)
  · rfl
set_option maxRecDepth 100000 in
set_option maxHeartbeats 4000000 in
theorem readNumber_any (s : ByteArray) (hs : s.size ≤ 1048576) (w : World) (hL : LW w) :
    Calls Tryz.prog 107 #[.string s] w fun e w' => e = .returned (.tuple #[.int .i64 ((readN s.data.toList).getD 0), .bool (readN s.data.toList).isSome]) ∧ Below w.heap.size w w' := by
  have HL := Lib.hid hL
  clear hL
  rcases hat : Lib.atoiAll s.data.toList with v | _ | _
  · obtain ⟨hv0, hv1⟩ := Lib.atoiAll_bounds hat
    have HN := Lib.hid (readN_ok hat)
    have CA := Lib.hid (Tryz.strconv_Atoi_ok s (by omega) v hat w)
    by_cases hneg : v < 0
    · have HR : Hid (readN s.data.toList = Option.none) := by
        show _ = _
        rw [HN.out, if_neg (by omega)]
      clear HN
      go_enter Tryz.func107, Tryz.ntmps107
      go_wp2_with fail
      refine CA.out.mono ?_
      rintro e w1 ⟨rfl, hw1⟩
      have HB : Hid (Below w.heap.size w w1) := by
        rcases hw1 with rfl | ⟨t, rfl⟩
        · exact Below.refl _ _
        · exact Lib.bytesWorld_below _ _ _
      clear hw1
      go_wp2_with fail
      go_ret2
      rw [HR.out]
      exact ⟨rfl, HB.out⟩
    · have hneg2 : decide (v < 0) = false := decide_eq_false hneg
      have CI := fun (w1 : World) (h : LW w1) => Tryz.strconv_Itoa v (by omega) (by omega) w1 h.1
      have HCI := Lib.hid CI
      clear CI
      have hil := Lib.itoa_length_le v (by omega) (by omega)
      cases heq : (Lib.itoa v == s.toList)
      · have HR : Hid (readN s.data.toList = Option.none) := by
          show _ = _
          have := ne_of_beq_false heq
          rw [ByteArray.toList_eq] at this
          rw [HN.out, if_neg (fun h => this h.2)]
        clear HN
        go_enter Tryz.func107, Tryz.ntmps107
        go_wp2_with fail
        refine CA.out.mono ?_
        rintro e w1 ⟨rfl, hw1⟩
        have HB : Hid (Below w.heap.size w w1) := by
          rcases hw1 with rfl | ⟨t, rfl⟩
          · exact Below.refl _ _
          · exact Lib.bytesWorld_below _ _ _
        clear hw1
        go_wp2_with fail
        refine (HCI.out w1 (HL.out.below HB.out)).mono ?_
        rintro e w2 ⟨rfl, hw2⟩
        have HB2 : Hid (Below w.heap.size w w2) := by
          obtain ⟨k, os, rfl⟩ := hw2
          exact HB.out.trans ((below_grownB w1 k os).mono HB.out.size)
        clear hw2
        go_wp2_with fail
        go_ret2
        rw [HR.out]
        exact ⟨rfl, HB2.out⟩
      · have HR : Hid (readN s.data.toList = some v) := by
          show _ = _
          have := eq_of_beq heq
          rw [ByteArray.toList_eq] at this
          rw [HN.out, if_pos ⟨by omega, this⟩]
        clear HN
        go_enter Tryz.func107, Tryz.ntmps107
        go_wp2_with fail
        refine CA.out.mono ?_
        rintro e w1 ⟨rfl, hw1⟩
        have HB : Hid (Below w.heap.size w w1) := by
          rcases hw1 with rfl | ⟨t, rfl⟩
          · exact Below.refl _ _
          · exact Lib.bytesWorld_below _ _ _
        clear hw1
        go_wp2_with fail
        refine (HCI.out w1 (HL.out.below HB.out)).mono ?_
        rintro e w2 ⟨rfl, hw2⟩
        have HB2 : Hid (Below w.heap.size w w2) := by
          obtain ⟨k, os, rfl⟩ := hw2
          exact HB.out.trans ((below_grownB w1 k os).mono HB.out.size)
        clear hw2
        go_wp2_with fail
        go_ret2
        rw [HR.out]
        exact ⟨rfl, HB2.out⟩
  · have HR := Lib.hid (readN_not (a := s.data.toList) (fun v h => by rw [hat] at h; cases h))
    obtain ⟨ev, hv, hev⟩ := HL.out.2.2.1
    have CA := Lib.hid (Any.strconv_Atoi_syntax Tryz.laysC172 s (by omega) hat ev w hv hev)
    clear hv hev
    go_enter Tryz.func107, Tryz.ntmps107
    go_wp2_with fail
    refine CA.out.mono ?_
    rintro e w1 ⟨N, rfl, hN, hc, hb1⟩
    have HB := Lib.hid hb1
    clear hN hc hb1
    go_wp2_with fail
    go_ret2
    rw [HR.out]
    exact ⟨rfl, HB.out⟩
  · have HR := Lib.hid (readN_not (a := s.data.toList) (fun v h => by rw [hat] at h; cases h))
    obtain ⟨ev, hv, hev⟩ := HL.out.2.2.2
    have CA := Lib.hid (Tryz.strconv_Atoi_range s (by omega) hat ev w hv hev)
    have hsat := Lib.atoiSat_bounds s.data.toList
    obtain ⟨sat, hst⟩ : ∃ sat, sat = Lib.atoiSat s.data.toList := ⟨_, rfl⟩
    rw [← hst] at CA hsat
    clear hv hev hst
    go_enter Tryz.func107, Tryz.ntmps107
    go_wp2_with fail
    refine CA.out.mono ?_
    rintro e w1 ⟨N, rfl, hN, hc, hb1⟩
    have HB := Lib.hid hb1
    clear hN hc hb1
    go_wp2_with fail
    go_ret2
    rw [HR.out]
    exact ⟨rfl, HB.out⟩
theorem split_txts (c : UInt8) (s : ByteArray) : (Lib.splitB ⟨#[c]⟩ 0 (Lib.countB s ⟨#[c]⟩) s).map Value.string = strsT (splitC c s.data.toList) := by
  have h := Lib.splitB_data ⟨#[c]⟩ 0 (Lib.countB s ⟨#[c]⟩) s
  have h2 : Lib.splitK (⟨#[c]⟩ : ByteArray).data.toList 0 (Lib.countB s ⟨#[c]⟩) s.data.toList = splitC c s.data.toList := splitK_C c s.data.toList
  rw [h2] at h
  unfold strsT
  rw [← h, List.map_map]
  exact List.map_congr_left fun a _ => by simp
theorem split_count (c : UInt8) (s : ByteArray) : Lib.countB s ⟨#[c]⟩ + 1 = (splitC c s.data.toList).length := by
  have h := congrArg List.length (split_txts c s)
  rw [List.length_map, Lib.splitB_all ⟨#[c]⟩ (Nat.le_refl 1) 0 _ s rfl] at h
  rw [h]; simp [strsT]
theorem rd_strs (w : World) (P : List (List UInt8)) (hl : P.length ≤ maxLen) : Rd (w.alloc (.cells (strsT P).toArray 9)) (w.heap.size + 1) 1 (.slice (some ⟨w.heap.size, 0, Option.none⟩) P.length P.length) P.length (strsT P) :=
  ⟨by simp [strsT], _, _, rfl, Nat.le_refl _, hl, fun _ => ⟨w.heap.size, 0, rfl, by omega, fun j u hu => by
    have h := (Blk.new w 9 (strsT P).toArray).cell j
    rw [Nat.zero_add, h]
    simpa using hu⟩⟩
set_option maxRecDepth 100000 in
set_option maxHeartbeats 4000000 in
theorem splitNumbers_any (s : ByteArray) (c : UInt8) (hs : s.size ≤ 1048576) (w : World) (hL : LW w) :
    Calls Tryz.prog 56 #[.string s, .string ⟨#[c]⟩] w (RetOwT ((numsO c s.data.toList).getD []) (numsO c s.data.toList).isSome w) := by
  have hs1 : (splitC c s.data.toList).length ≤ s.data.toList.length + 1 := (splitC_len c _).2
  have hs2 : s.data.toList.length = s.size := by simp
  have hml : ∀ a ∈ splitC c s.data.toList, a.length ≤ s.data.toList.length := fun a h => splitC_le h
  obtain ⟨m, hm⟩ := hL.2.1
  have cS := Tryz.strings_Split s ⟨#[c]⟩ m w (by omega) hm (Nat.le_refl 1)
  rw [split_txts, split_count] at cS
  have hN : numsO c s.data.toList = allN (splitC c s.data.toList) := rfl
  obtain ⟨P, hP⟩ : ∃ P, P = splitC c s.data.toList := ⟨_, rfl⟩
  rw [← hP] at hs1 cS hml hN
  have HN := Lib.hid hN
  have HM := Lib.hid hml
  have CS := Lib.hid cS
  have HR := Lib.hid (rd_strs w P (by unfold maxLen; omega))
  have hb1 : Below w.heap.size w (w.alloc (.cells (strsT P).toArray 9)) := (Below.refl _ _).alloc (Nat.le_refl _) _
  have hz1 : (w.alloc (.cells (strsT P).toArray 9)).heap.size = w.heap.size + 1 := by simp
  have HL := Lib.hid (hL.below hb1)
  have HB1 := Lib.hid hb1
  have hP1 : (P.length : Int) ≤ 1048577 := by omega
  clear hP hml cS hN hm hL hb1
  go_enter Tryz.func56, Tryz.ntmps56
  go_wp2_with fail
  refine CS.out.mono ?_
  rintro e w1 ⟨rfl, hw1⟩
  rw [← hw1] at HL HB1 HR hz1
  clear hw1
  go_wp2_with fail
  go_loopw [6, 15] (fun q i wr => ∃ (k : Nat) (ns : List Int), k ≤ P.length ∧ i = .int .i64 (k : Int) ∧ ns.length ≤ k ∧ Hid (allN (P.take k) = some ns) ∧ Hid (GrowI w1 w1.heap.size wr q ns)) (fun _ i _ => P.length - (intOf i).toNat)
  case atStart => exact ⟨0, [], Nat.zero_le _, rfl, Nat.le_refl _, rfl, GrowI.start w1⟩
  case round =>
    obtain ⟨k, ns, hk, rfl, hns, HA, HG⟩ := hrel
    by_cases hlt : k < P.length
    · obtain ⟨b1, o1, c1, y, hv, _, hx, hcell1⟩ := Rd.atS (Rd.below HR.out HG.out.2.1 (by omega)) hlt
      injection hv with hv1 hv2 hv3; cases hv1; clear hv2 hv3
      rw [Nat.zero_add] at hcell1
      have hy := HM.out y (List.mem_of_getElem? hx)
      have cR := readNumber_any ⟨y.toArray⟩ (by show y.toArray.size ≤ _; simp; omega) wr (HL.out.below HG.out.2.1)
      have e0 : (⟨y.toArray⟩ : ByteArray).data.toList = y := rfl
      rw [e0] at cR
      rcases hr : readN y with _ | n
      · rw [hr] at cR
        have HE := Lib.hid (HN.out.trans (allO_no hx hr))
        have CR := Lib.hid cR
        clear cR hx hr e0
        go_wp2_with fail
        refine CR.out.mono ?_
        rintro e w2 ⟨rfl, hb2⟩
        have HB2 := Lib.hid (HB1.out.trans ((HG.out.2.1.trans (hb2.mono HG.out.2.1.size)).mono HB1.out.size))
        clear hb2
        go_wp2_with fail
        go_ret2
        rw [HE.out]
        exact retOwT _ (GrowI.nil HB2.out)
      · rw [hr] at cR
        have CR : Hid (Calls Tryz.prog 107 #[.string ⟨y.toArray⟩] wr fun e w' => e = .returned (.tuple #[.int .i64 n, .bool true]) ∧ Below wr.heap.size wr w') := cR
        have HA2 : Hid (allN (P.take (k + 1)) = some (ns ++ [n])) := by
          show _ = _
          rw [take_snocN hx]; exact allO_snoc HA.out hr
        clear cR hx hr e0
        go_wp2_with fail
        refine CR.out.mono ?_
        rintro e w2 ⟨rfl, hb2⟩
        have HG2 := Lib.hid (HG.out.belowR hb2)
        clear hb2
        go_wp2_with (at_builtin; refine GrowI.app rfl (.tmp 26) (.tmp 28) rfl HG2.out (by omega) rfl rfl ?_; intro v' w3 hG'; have HG3 := Lib.hid hG'; clear hG')
        go_roundw
        case rel => exact ⟨k + 1, _, by omega, by go_num, by rw [List.length_append]; exact Nat.succ_le_succ hns, HA2.out, HG3.out⟩
        case measure => (simp [intOf]; try omega)
    · have ha := HA.out
      rw [List.take_of_length_le (by omega)] at ha
      have HE := Lib.hid (HN.out.trans ha)
      clear ha
      have HB2 := Lib.hid (HB1.out.trans (HG.out.2.1.mono HB1.out.size))
      have HO := Lib.hid (HG.out.own.mono HB1.out.size (Nat.le_refl _))
      go_wp2_with fail
      go_ret2
      rw [HE.out]
      exact ⟨_, rfl, HO.out, HB2.out⟩
end Go.Proofs.YtjnkdjokbamibaaGreatDoor
/- What the library's variables hold in the worlds that the card of ReadSignals speaks of. -/
namespace Go.Proofs.YtjnkdjokbamibaaGreatDoor
open Go.RowKit
theorem starE : "*" ++ "errors.errorString" = "*errors.errorString" := by decide
theorem rowE (u : TypeId) (h : Tryz.prog.typeName? 3 u = some "*errors.errorString") : u = 166 :=
  typeName_ptr_named (nm := "errors.errorString") (by rw [starE]; kernel_rfl) (by kernel_rfl) (by decide) u (by rw [starE]; exact h)
theorem tabE : (Rows.laid_internal_strconv_uint64pow10 : DataW Unit) = Lib.tabData .u64 Lib.pow10Tab := by kernel_rfl
abbrev lwRow := Rows.fnBooksRow
theorem lw_of {W : World} (hsh : W.ShapedOpen Tryz.prog) (hL : laidMetH Tryz.prog lwRow.laid W) : LW W := by
  have h0 : laidMet Tryz.prog lwRow.laid W := by rwa [MakeChecks.laidMetH_plain _ _ _ (by kernel_rfl)] at hL
  have h2 : laidMet Tryz.prog (("internal/strconv.uint64pow10", Rows.laid_internal_strconv_uint64pow10) :: _) W := laidMet.tail (laidMet.tail h0)
  have h4 : laidMet Tryz.prog (("strconv.ErrRange", Rows.laid_strconv_ErrRange) :: _) W := laidMet.tail (laidMet.tail h2)
  have h5 : laidMet Tryz.prog (("strconv.ErrSyntax", Rows.laid_strconv_ErrSyntax) :: _) W := laidMet.tail h4
  rw [tabE] at h2
  have htab := Lib.tabIs_of_head (g := 1) (t := 151) (by kernel_rfl) (by kernel_rfl) Tryz.underlying151 Tryz.underlying69 (by kernel_rfl) (by kernel_rfl) h2
  obtain ⟨a1, s1, hv1, -, -, -⟩ := laid_sentinel (g := 3) (ti := 112) (tp := 166) h4 (by kernel_rfl) (by kernel_rfl) Tryz.underlying112 rowE Tryz.underlying166 Tryz.underlying168 rfl rfl Tryz.underlying9 (by kernel_rfl) (by kernel_rfl)
  obtain ⟨a2, s2, hv2, -, -, -⟩ := laid_sentinel (g := 2) (ti := 112) (tp := 166) h5 (by kernel_rfl) (by kernel_rfl) Tryz.underlying112 rowE Tryz.underlying166 Tryz.underlying168 rfl rfl Tryz.underlying9 (by kernel_rfl) (by kernel_rfl)
  obtain ⟨m, hm⟩ := cell_of_shapedOpen_int (P := Tryz.prog) (g := 0) (t := 3) (zero := #[.int .i64 0]) hsh (of_decide_eq_true (by kernel_rfl)) (by kernel_rfl) rfl (by kernel_rfl) (by kernel_rfl) Tryz.underlying3
  have c1 : W.cell? ⟨2, 0, Option.none⟩ = some (.iface 166 (.pointer (some a2))) := by
    have := World.var?_cell (g := 2) (by kernel_rfl) hv2 0
    simpa using this
  have c2 : W.cell? ⟨3, 0, Option.none⟩ = some (.iface 166 (.pointer (some a1))) := by
    have := World.var?_cell (g := 3) (by kernel_rfl) hv1 0
    simpa using this
  exact ⟨htab, ⟨m, hm⟩, ⟨_, c1, .inr ⟨_, _, rfl⟩⟩, ⟨_, c2, .inr ⟨_, _, rfl⟩⟩⟩
end Go.Proofs.YtjnkdjokbamibaaGreatDoor
/- The frame of a card whose walk wants the world's shape besides what the card lays. -/
namespace Go.Proofs.YtjnkdjokbamibaaGreatDoor
open Go.ChangeShapes Go.WideShapes Go.ChangeAt Go.RowKit
variable {H : Type} {enc : TypeId × Value → H}
theorem handed_shaped {a : Assume} {C : Checked} {os : Os} {f : FuncId} {fn : Func} {s : ChangeSpec} {conds : List PathCond} {apart fresh handsOn again : Bool} {X : World → Array Value → Prop}
    (hX : ∀ (w w' : World) (args : Array Value), w.heap = w'.heap → X w args → X w' args)
    (own : ownKnob C.prog.godebug = none) (started : os.Started) (noInit : C.prog.inits.idxOf? f = none) (hfn : C.prog.funcs[f]? = some fn)
    (witness : ∃ (w : World) (tape : Tape) (i : Input), w.os = os ∧ (w.forCall tape i).Shaped C.prog ∧ i.vars = [] ∧ Input.okWide C.prog (w.forCall tape i) .any w.heap.size f i ∧
      ((s.pre enc C.prog fn conds apart (w.forCall tape i).memory i.args ∧ X (w.forCall tape i).memory i.args) ∧ sizedMet enc C.prog fn (OpenSpec.ofChange s) apart (w.forCall tape i).memory i.args) ∧ a.holds C.prog (lone (Frame.enter C.prog f i.args .normal) [] (w.forCall tape i)))
    (contract : ∀ (W : World) (base : Nat) (args : Array Value) (ds gs : List (DataW H)) (before : List MemPlace),
      (∀ (j : Nat) t v, fn.params[j]? = some t → args[j]? = some v → Value.okWide C.prog W .any base t v) →
      DataW.Whole enc C.prog fn.params.toList s.vars apart W args.toList ds gs before →
      X W args → W.ShapedOpen C.prog →
      Calls C.prog f args W fun e W' => ∃ v, e = .returned v ∧ s.post enc C.prog fn apart fresh handsOn again W args v W') :
    ReturnsInHanded a C os f .any (fun w args => (s.pre enc C.prog fn conds apart w args ∧ X w args) ∧ sizedMet enc C.prog fn (OpenSpec.ofChange s) apart w args) (s.post enc C.prog fn apart fresh handsOn again) := by
  refine returnsInHanded_of_calls own started noInit witness ?_
  intro w tape i _ hsh _ hok hpre _
  obtain ⟨_, _, _, fn', hfn', _, _, _, _, hval⟩ := hok
  have e : fn' = fn := Option.some.inj (hfn'.symm.trans hfn)
  subst e
  obtain ⟨⟨⟨ds, gs, before, hw, _⟩, hx⟩, _⟩ := hpre
  have hw' := DataW.Whole.of_heap (w' := w.forCall tape i) (by rfl) hw
  refine (contract (w.forCall tape i) w.heap.size i.args ds gs before hval hw' (hX _ _ _ (by rfl) hx) hsh).mono fun e W' ⟨v, he, hp⟩ => ?_
  subst he
  exact ChangeSpec.post_blind hp
end Go.Proofs.YtjnkdjokbamibaaGreatDoor
/- Words on books in memory; the helpers of the laws on phrases and books. -/
namespace Go.Proofs.YtjnkdjokbamibaaGreatDoor
open Go.RowKit
/-- A phrase: its text and its signals. -/
abbrev Phr := ByteArray × List Int
/-- The cells of phrases: of each its text, then its slice. -/
def zipC : List ByteArray → List Value → List Value
  | t :: ts, u :: us => .string t :: u :: zipC ts us
  | _, _ => []
theorem zipC_len : ∀ (ts : List ByteArray) (us : List Value), us.length = ts.length → (zipC ts us).length = ts.length * 2
  | [], [], _ => rfl
  | [], _ :: _, h => by simp at h
  | _ :: _, [], h => by simp at h
  | t :: ts, u :: us, h => by simp only [zipC, List.length_cons, zipC_len ts us (by simpa using h)]; omega
theorem zipC_at : ∀ (ts : List ByteArray) (us : List Value) (k : Nat) (t : ByteArray) (u : Value), ts[k]? = some t → us[k]? = some u → (zipC ts us)[k * 2]? = some (.string t) ∧ (zipC ts us)[k * 2 + 1]? = some u
  | [], _, k, t, u, h, _ => by simp at h
  | _ :: _, [], k, t, u, _, h => by simp at h
  | a :: ts, b :: us, 0, t, u, h, g => by simp at h g; subst h g; exact ⟨rfl, rfl⟩
  | a :: ts, b :: us, k + 1, t, u, h, g => by
    have := zipC_at ts us k t u (by simpa using h) (by simpa using g)
    simp only [zipC, show (k + 1) * 2 = k * 2 + 1 + 1 by omega, List.getElem?_cons_succ]
    exact this
theorem zipC_append : ∀ (ts : List ByteArray) (us : List Value) (t : ByteArray) (u : Value), us.length = ts.length → zipC (ts ++ [t]) (us ++ [u]) = zipC ts us ++ [.string t, u]
  | [], [], t, u, _ => rfl
  | [], _ :: _, _, _, h => by simp at h
  | _ :: _, [], _, _, h => by simp at h
  | a :: ts, b :: us, t, u, h => by simp only [List.cons_append, zipC, zipC_append ts us t u (by simpa using h)]
def txts (ps : List Phr) : List ByteArray := ps.map (·.1)
def sigs (ps : List Phr) : List (List Int) := ps.map (·.2)
def TxtOk (ps : List Phr) : Prop := ∀ p ∈ ps, p.1.size ≤ 9223372036854775807
/-- The slice value v reads as phrases. -/
def RdPS (w : World) (hi : Nat) (v : Value) (ps : List Phr) : Prop := ∃ us, RowsR w hi us (sigs ps) ∧ Rd w hi 2 v ps.length (zipC (txts ps) us) ∧ TxtOk ps
theorem RdPS.form {w : World} {hi : Nat} {v : Value} {ps : List Phr} (h : RdPS w hi v ps) : ∃ A c, v = .slice A ps.length c ∧ ps.length ≤ c ∧ ps.length ≤ 9223372036854775807 := by
  obtain ⟨us, _, ⟨_, A, c, hv, h2, h3, _⟩, _⟩ := h
  exact ⟨A, c, hv, h2, by unfold maxLen at h3; omega⟩
theorem RdPS.at_ {w : World} {hi : Nat} {v : Value} {ps : List Phr} (h : RdPS w hi v ps) {k : Nat} (hk : k < ps.length) :
    ∃ b off c u t xs, v = .slice (some ⟨b, off, Option.none⟩) ps.length c ∧ b < hi ∧ ps[k]? = some (t, xs) ∧ w.cell? ⟨b, off + k * 2, Option.none⟩ = some (.string t) ∧ w.cell? ⟨b, off + k * 2 + 1, Option.none⟩ = some u ∧ RdI w hi u xs ∧ t.size ≤ 9223372036854775807 := by
  obtain ⟨us, h1, ⟨h0, A, c, hv, _, _, h4⟩, ht⟩ := h
  obtain ⟨b, off, rfl, hb, hc⟩ := h4 (by omega)
  have hl : us.length = ps.length := by have := h1.1; simpa [sigs] using this
  have hu : us[k]? = some us[k] := by simp [show k < us.length by omega]
  have hz := zipC_at (txts ps) us k ps[k].1 us[k] (by simp [txts, hk]) hu
  refine ⟨b, off, c, us[k], ps[k].1, ps[k].2, hv, hb, by simp [hk], hc _ _ hz.1, ?_, h1.2 k _ _ hu (by simp [sigs, hk]), ht _ (List.getElem_mem hk)⟩
  have := hc _ _ hz.2
  rwa [← Nat.add_assoc] at this
theorem RdPS.below {w w' : World} {hi : Nat} {v : Value} {ps : List Phr} (h : RdPS w hi v ps) {B : Nat} (hb : Below B w w') (hB : hi ≤ B) : RdPS w' hi v ps := by
  obtain ⟨us, h1, h2, h3⟩ := h; exact ⟨us, h1.below hb hB, h2.below hb hB, h3⟩
def RdP (w : World) (hi : Nat) (v : Value) (p : Phr) : Prop := ∃ u, v = .agg #[.string p.1, u] ∧ RdI w hi u p.2 ∧ p.1.size ≤ 9223372036854775807
def RdB (w : World) (hi : Nat) (v : Value) (ps : List Phr) : Prop := ∃ u, v = .agg #[u] ∧ RdPS w hi u ps
def OwP (w : World) (lo hi : Nat) (v : Value) (p : Phr) : Prop := ∃ u, v = .agg #[.string p.1, u] ∧ OwI w lo hi u p.2 ∧ p.1.size ≤ 9223372036854775807
def OwPS (w : World) (lo hi : Nat) (v : Value) (ps : List Phr) : Prop := ∃ us, RowsO w lo hi us (sigs ps) ∧ w.ownsRow lo 45 2 v ps.length (zipC (txts ps) us) ∧ TxtOk ps ∧ ∀ k, v.ownBlock = some k → k < hi
def OwB (w : World) (lo hi : Nat) (v : Value) (ps : List Phr) : Prop := ∃ u, v = .agg #[u] ∧ OwPS w lo hi u ps
theorem RdP.below {w w' : World} {hi : Nat} {v : Value} {p : Phr} (h : RdP w hi v p) {B : Nat} (hb : Below B w w') (hB : hi ≤ B) : RdP w' hi v p := by
  obtain ⟨u, h1, h2, h3⟩ := h; exact ⟨u, h1, h2.below hb hB, h3⟩
theorem RdB.below {w w' : World} {hi : Nat} {v : Value} {ps : List Phr} (h : RdB w hi v ps) {B : Nat} (hb : Below B w w') (hB : hi ≤ B) : RdB w' hi v ps := by
  obtain ⟨u, h1, h2⟩ := h; exact ⟨u, h1, h2.below hb hB⟩
theorem OwP.below {w w' : World} {lo hi : Nat} {v : Value} {p : Phr} (h : OwP w lo hi v p) {B : Nat} (hb : Below B w w') (hB : hi ≤ B) : OwP w' lo hi v p := by
  obtain ⟨u, h1, h2, h3⟩ := h; exact ⟨u, h1, h2.below hb hB, h3⟩
theorem OwP.keep {w w' : World} {lo hi a b : Nat} {v : Value} {p : Phr} (h : OwP w lo hi v p) (hk : Keep a b w w') (hd : hi ≤ a ∨ b ≤ lo) : OwP w' lo hi v p := by
  obtain ⟨u, h1, h2, h3⟩ := h; exact ⟨u, h1, h2.keep hk hd, h3⟩
theorem OwPS.below {w w' : World} {lo hi : Nat} {v : Value} {ps : List Phr} (h : OwPS w lo hi v ps) {B : Nat} (hb : Below B w w') (hB : hi ≤ B) : OwPS w' lo hi v ps := by
  obtain ⟨us, h1, h2, h3, h4⟩ := h; exact ⟨us, h1.below hb hB, owns_below h2 h4 hb hB, h3, h4⟩
theorem OwPS.keep {w w' : World} {lo hi a b : Nat} {v : Value} {ps : List Phr} (h : OwPS w lo hi v ps) (hk : Keep a b w w') (hd : hi ≤ a ∨ b ≤ lo) : OwPS w' lo hi v ps := by
  obtain ⟨us, h1, h2, h3, h4⟩ := h; exact ⟨us, h1.keep hk hd, owns_keep h2 h4 hk hd, h3, h4⟩
theorem OwB.below {w w' : World} {lo hi : Nat} {v : Value} {ps : List Phr} (h : OwB w lo hi v ps) {B : Nat} (hb : Below B w w') (hB : hi ≤ B) : OwB w' lo hi v ps := by
  obtain ⟨u, h1, h2⟩ := h; exact ⟨u, h1, h2.below hb hB⟩
theorem OwB.keep {w w' : World} {lo hi a b : Nat} {v : Value} {ps : List Phr} (h : OwB w lo hi v ps) (hk : Keep a b w w') (hd : hi ≤ a ∨ b ≤ lo) : OwB w' lo hi v ps := by
  obtain ⟨u, h1, h2⟩ := h; exact ⟨u, h1, h2.keep hk hd⟩
theorem OwP.rd {w : World} {lo hi : Nat} {v : Value} {p : Phr} (h : OwP w lo hi v p) : RdP w hi v p := by
  obtain ⟨u, h1, h2, h3⟩ := h; exact ⟨u, h1, h2.rd, h3⟩
theorem OwPS.rd {w : World} {lo hi : Nat} {v : Value} {ps : List Phr} (h : OwPS w lo hi v ps) : RdPS w hi v ps := by
  obtain ⟨us, h1, h2, h3, h4⟩ := h; exact ⟨us, h1.rd, rd_of_owns h2 h4, h3⟩
theorem OwB.rd {w : World} {lo hi : Nat} {v : Value} {ps : List Phr} (h : OwB w lo hi v ps) : RdB w hi v ps := by
  obtain ⟨u, h1, h2⟩ := h; exact ⟨u, h1, h2.rd⟩
/-- n empty phrases: their cells. -/
def noPhr : Nat → List Value
  | 0 => []
  | n + 1 => .string { data := #[] } :: .slice Option.none 0 0 :: noPhr n
theorem noPhr_len (n : Nat) : (noPhr n).length = n * 2 := by
  induction n with
  | zero => rfl
  | succ n ih => simp only [noPhr, List.length_cons, ih]; omega
theorem noPhr_at {n j : Nat} (h : j < n) : (noPhr n)[j * 2]? = some (.string { data := #[] }) ∧ (noPhr n)[j * 2 + 1]? = some (.slice Option.none 0 0) := by
  induction n generalizing j with
  | zero => omega
  | succ n ih =>
    cases j with
    | zero => exact ⟨rfl, rfl⟩
    | succ j =>
      have := ih (j := j) (by omega)
      simp only [noPhr, show (j + 1) * 2 = j * 2 + 1 + 1 by omega, List.getElem?_cons_succ]
      exact this
theorem info_phr : (Tryz.prog.info? 45).map (fun i => (i.zero, i.size, i.bytes)) = some (some (.agg #[.string { data := #[] }, .slice Option.none 0 0]), 2, 40) := by kernel_rfl
theorem made_phr (n : Nat) : (madeCells (Value.agg #[.string { data := #[] }, .slice Option.none 0 0]).cells (n * 2)).toList = noPhr n := by
  apply List.ext_getElem?
  intro i
  by_cases h : i < n * 2
  · have h1 : (madeCells (Value.agg #[.string { data := #[] }, .slice Option.none 0 0]).cells (n * 2)).toList[i]? = some (#[Value.string { data := #[] }, .slice Option.none 0 0][i % 2]!) := by
      simp [madeCells, h, Value.cells]
    rw [h1]
    rcases Nat.mod_two_eq_zero_or_one i with e | e
    · have := (noPhr_at (n := n) (j := i / 2) (by omega)).1
      rw [show i / 2 * 2 = i by omega] at this
      rw [this, e]; rfl
    · have := (noPhr_at (n := n) (j := i / 2) (by omega)).2
      rw [show i / 2 * 2 + 1 = i by omega] at this
      rw [this, e]; rfl
  · rw [List.getElem?_eq_none (by simp [madeCells]; omega), List.getElem?_eq_none (by rw [noPhr_len]; omega)]
/-- The room of n phrases, behind a name. -/
def phrRoom (n : Nat) : Array Value := madeCells (Value.agg #[.string { data := #[] }, .slice Option.none 0 0]).cells (n * 2)
theorem set_pair {A : List Value} {k m : Nat} {x y : Value} (h : 0 < m) (hl : A.length = k * 2) : ((A ++ noPhr m).set (k * 2) x).set (k * 2 + 1) y = (A ++ [x, y]) ++ noPhr (m - 1) := by
  obtain ⟨q, rfl⟩ : ∃ q, m = q + 1 := ⟨m - 1, by omega⟩
  rw [List.set_append_right _ _ (by omega), List.set_append_right _ _ (by omega), hl, Nat.sub_self, show k * 2 + 1 - k * 2 = 1 by omega]
  simp [noPhr]
end Go.Proofs.YtjnkdjokbamibaaGreatDoor
/- Marks on books: each text and each signal of a book that the call has copied is overwritten. -/
namespace Go.Proofs.YtjnkdjokbamibaaGreatDoor
open Go.RowKit
theorem conv_one (z : Int) (h0 : 0 ≤ z) (h1 : z < 256) (wr : World) :
    (convert 22 9 (.slice (some ⟨wr.heap.size, 0, Option.none⟩) 1 1)).run Tryz.prog (wr.alloc (.cells #[.int .u8 z] 5)) = .ok (.string ⟨#[UInt8.ofNat z.toNat]⟩) (wr.alloc (.cells #[.int .u8 z] 5)) := by
  have hl : [UInt8.ofNat z.toNat].length = 1 := rfl
  have := run_convert_bytes_back (P := Tryz.prog) (wr.alloc (.cells #[.int .u8 z] 5)) 22 9 5 ⟨wr.heap.size, 0, Option.none⟩ 1 [UInt8.ofNat z.toNat] Tryz.underlying22 Tryz.underlying5 Tryz.underlying9 (fun j hj => by
    obtain rfl : j = 0 := by simp at hj; omega
    rw [one_cell wr (.int .u8 z) 5 0 _ rfl]
    simp
    omega)
  exact this
/-- Of what was there only blocks from lo to below hi may have turned. -/
structure KeepG (lo hi : Nat) (w w' : World) : Prop where
  os : w'.os = w.os
  tape : w'.tape = w.tape
  output : w'.output = w.output
  size : w.heap.size ≤ w'.heap.size
  block : ∀ k, k < w.heap.size → (k < lo ∨ hi ≤ k) → w'.heap[k]? = w.heap[k]?
theorem KeepG.refl (lo hi : Nat) (w : World) : KeepG lo hi w w := ⟨rfl, rfl, rfl, Nat.le_refl _, fun _ _ _ => rfl⟩
theorem KeepG.trans {lo hi : Nat} {a b c : World} (h : KeepG lo hi a b) (k : KeepG lo hi b c) : KeepG lo hi a c :=
  ⟨k.os.trans h.os, k.tape.trans h.tape, k.output.trans h.output, Nat.le_trans h.size k.size, fun i h1 h2 => (k.block i (Nat.lt_of_lt_of_le h1 h.size) h2).trans (h.block i h1 h2)⟩
theorem Keep.g {lo hi : Nat} {w w' : World} (h : Keep lo hi w w') : KeepG lo hi w w' := ⟨h.os, h.tape, h.output, Nat.le_of_eq h.size.symm, fun k _ h2 => h.block k h2⟩
theorem below_g {lo hi : Nat} {w w' : World} (h : Below w.heap.size w w') : KeepG lo hi w w' := ⟨h.os, h.tape, h.output, h.size, fun k h1 _ => h.block k h1⟩
/-- In two steps: first the blocks turn, then new ones come. -/
theorem KeepG.split {lo hi : Nat} {w w' : World} (h : KeepG lo hi w w') : ∃ m, Keep lo hi w m ∧ Below m.heap.size m w' := by
  refine ⟨{ w' with heap := w'.heap.extract 0 w.heap.size }, ⟨h.os, h.tape, h.output, ?_, fun k hk => ?_⟩, ⟨rfl, rfl, rfl, ?_, fun k hk => ?_⟩⟩
  · have := h.size; simp; omega
  · by_cases hlt : k < w.heap.size
    · rw [← h.block k hlt hk]
      show (w'.heap.extract 0 w.heap.size)[k]? = _
      rw [Array.getElem?_extract]
      have := h.size
      rw [if_pos (by omega), Nat.zero_add]
    · rw [Array.getElem?_eq_none (xs := w.heap) (by omega)]
      show (w'.heap.extract 0 w.heap.size)[k]? = _
      rw [Array.getElem?_eq_none (by simp; omega)]
  · show (w'.heap.extract 0 w.heap.size).size ≤ w'.heap.size
    simp; omega
  · show w'.heap[k]? = (w'.heap.extract 0 w.heap.size)[k]?
    have hk' : k < w.heap.size := by have h1 := h.size; simp at hk; omega
    have := h.size
    rw [Array.getElem?_extract, if_pos (by omega), Nat.zero_add]
theorem rows_far {w : World} {lo hi g : Nat} {us : List Value} {xss : List (List Int)} {cur : Array Value} {e : TypeId} {q : Nat × Nat} (h : RowsO w lo hi us xss) (hg : w.heap[g]? = some (.cells cur e q)) (he : e ≠ 3) (i : Nat) (x : Value) : RowsO (w.setCell ⟨g, i, Option.none⟩ x) lo hi us xss := by
  refine ⟨h.1, fun j u xs hu hx => ?_, h.2.2⟩
  have h1 := h.2.1 j u xs hu hx
  refine h1.only (b := some g) ((Only.refl _ _).setCell (p := ⟨g, i, Option.none⟩) rfl _) (fun g2 hg2 e2 => ?_)
  cases e2
  rcases h1.1.2 with ⟨rfl, _⟩ | ⟨g3, cap, cur3, rfl, _, hg3, _⟩
  · cases hg2
  · cases hg2
    rw [hg] at hg3
    cases hg3
    exact he rfl
end Go.Proofs.YtjnkdjokbamibaaGreatDoor
