/- Texts of one claim, joined: Y3. -/
import Derived.Test.YtjnkdjokbamibaaDoorShelf
import Derived.Laws.OwnMore
import Derived.Laws.IdiomStrings
import Derived.Deep.RegionLaw
import Derived.Lib.ItoaLen
import Derived.Test.YtjnkdjokbamibaaDoorP1SignalsText
/- Contracts: numbers in decimal, lists of numbers as texts; of the reference and of the program. -/
namespace Go.Proofs.YtjnkdjokbamibaaDoor
open Go.RowKit
/-- A slice of one byte as a text, wherever the byte lies. -/
theorem conv_at {w : World} {b : Nat} (z : Int) (h0 : 0 ≤ z) (h1 : z < 256) (hc : w.cell? ⟨b, 0, Option.none⟩ = some (.int .u8 z)) : (convert 79 9 (.slice (some ⟨b, 0, Option.none⟩) 1 1)).run Tryd.prog w = .ok (.string ⟨#[UInt8.ofNat z.toNat]⟩) w := by
  have := run_convert_bytes_back (P := Tryd.prog) w 79 9 5 ⟨b, 0, Option.none⟩ 1 [UInt8.ofNat z.toNat] Tryd.underlying79 Tryd.underlying5 Tryd.underlying9 (fun j hj => by
    obtain rfl : j = 0 := by simp at hj; omega
    rw [Go.WideShapes.add_plain, Nat.zero_add, hc]
    simp
    omega)
  exact this
theorem conv_new (z : Int) (h0 : 0 ≤ z) (h1 : z < 256) (wr : World) : (convert 79 9 (.slice (some ⟨wr.heap.size, 0, Option.none⟩) 1 1)).run Tryd.prog (wr.alloc (.cells #[.int .u8 z] 5)) = .ok (.string ⟨#[UInt8.ofNat z.toNat]⟩) (wr.alloc (.cells #[.int .u8 z] 5)) :=
  conv_at z h0 h1 ((Blk.new wr 5 #[.int .u8 z]).cell 0)
theorem dig_lt {u : Nat} (h : u < 10) : Lib.decDigits u = [UInt8.ofNat (48 + u)] := by rw [Lib.decDigits, dif_pos h]
theorem dig_ge {u : Nat} (h : ¬ u < 10) : Lib.decDigits u = Lib.decDigits (u / 10) ++ [UInt8.ofNat (48 + u % 10)] := by rw [Lib.decDigits, dif_neg h]
set_option maxRecDepth 100000 in
set_option maxHeartbeats 2000000 in
theorem l1Num_any : ∀ (u : Nat), u < 1000000 → ∀ (w : World), Calls Tryd.prog 47 #[.int .i64 (u : Int)] w fun e w' => e = .returned (.string ⟨(Lib.decDigits u).toArray⟩) ∧ Below w.heap.size w w' := by
  intro u
  induction u using Nat.strongRecOn with
  | _ u ih =>
    intro hu w
    by_cases h10 : u < 10
    · have hcv := fun wr' => conv_new (48 + (u : Int)) (by omega) (by omega) wr'
      have HD := Lib.hid (dig_lt h10)
      have hbx : Below w.heap.size w (w.alloc (.cells #[.int .u8 (48 + (u : Int))] 5)) := (Below.refl _ _).alloc (Nat.le_refl _) _
      clear ih
      go_enter Tryd.func47, Tryd.ntmps47
      go_wp2
      go_ret
      exact ⟨ret_val (by rw [HD.out]; simp), hbx⟩
    · obtain ⟨q, hq⟩ : ∃ q, q = u / 10 := ⟨_, rfl⟩
      obtain ⟨r, hr⟩ : ∃ r, r = u % 10 := ⟨_, rfl⟩
      have hrl : r < 10 := by omega
      have hw1 : IntKind.i64.wrap ((u : Int) / 10) = (q : Int) := by rw [IntKind.wrap_i64]; omega
      have hm1 : (u : Int).tmod 10 = (r : Int) := by rw [Int.tmod_eq_emod_of_nonneg (by omega)]; omega
      have hw2 : IntKind.i64.wrap (48 + (r : Int)) = 48 + (r : Int) := by rw [IntKind.wrap_i64]; omega
      have hw3 : IntKind.u8.wrap (48 + (r : Int)) = 48 + (r : Int) := by rw [IntKind.wrap_u8]; omega
      have hc2 := fun (wr : World) (b : Nat) (hc : wr.cell? ⟨b, 0, Option.none⟩ = some (.int .u8 (48 + (r : Int)))) => conv_at (48 + (r : Int)) (by omega) (by omega) hc
      have hcv := fun wr' => conv_new (48 + (r : Int)) (by omega) (by omega) wr'
      have HC2 := Lib.hid hc2
      have hdd := dig_ge h10
      rw [← hq, ← hr] at hdd
      have HD := Lib.hid hdd
      have IH := Lib.hid (ih q (by omega) (by omega))
      have hcell : (w.alloc (.cells #[.int .u8 (48 + (r : Int))] 5)).drew.cell? ⟨w.heap.size, 0, Option.none⟩ = some (.int .u8 (48 + (r : Int))) := (Blk.new w 5 #[.int .u8 (48 + (r : Int))]).cell 0
      have HCELL := Lib.hid hcell
      have h10n : ¬ ((u : Int) < 10) := by omega
      have hdl : (Lib.decDigits q).length ≤ 20 := by rw [Lib.decDigits_length]; exact Lib.nDigits_le20 q (by omega)
      have hlen : ¬ (9223372036854775807 < (Lib.decDigits q).length + 1) := by omega
      have hcd := HC2.out _ _ HCELL.out
      have HSTR : Hid ((⟨(Lib.decDigits q).toArray⟩ : ByteArray) ++ ⟨#[UInt8.ofNat (48 + (r : Int)).toNat]⟩ = ⟨(Lib.decDigits u).toArray⟩) := by
        show _ = _
        rw [HD.out, show (48 + (r : Int)).toNat = 48 + r by omega]; simp [ByteArray.ext_iff]
      have hbd : Below w.heap.size w w.drew := (Below.refl _ _).drew
      have hbe : Below w.heap.size w (w.alloc (.cells #[.int .u8 (48 + (r : Int))] 5)).drew := ((Below.refl _ _).alloc (Nat.le_refl _) _).drew
      clear ih hc2 hcell hdd hq hr
      go_enter Tryd.func47, Tryd.ntmps47
      go_wp2_with fail
      go_region_law (first
        | ((go_simp; go_at_call 47; (with_reducible refine (IH.out _).mono ?_); rintro e w2 ⟨rfl, hb2⟩; (first | (have hcv2 := HC2.out w2 w.heap.size ((hb2.cell (p := ⟨w.heap.size, 0, Option.none⟩) (by simp)).trans HCELL.out)) | skip))))
      all_goals
        go_wp2_with fail
        go_ret
        refine ⟨ret_val (congrArg Value.string HSTR.out), ?_⟩
        first
          | exact (hbd.trans (hb2.mono (Nat.le_refl _))).alloc (Nat.le_trans hbd.size hb2.size) _
          | exact hbe.trans (hb2.mono hbe.size)
theorem info_str : (Tryd.prog.info? 9).map (fun i => (i.zero, i.size, i.bytes)) = some (some (.string { data := #[] }), 1, 16) := by kernel_rfl
/-- n empty texts. -/
def noStr (n : Nat) : List Value := List.replicate n (.string { data := #[] })
theorem make_strs (n : Nat) (hn : n ≤ 1048576) (w : World) :
    (Instr.makeSlice 46 (.int .i64 (n : Int)) (.int .i64 (n : Int))).run Tryd.prog w = .ok (.slice (some ⟨w.heap.size, 0, Option.none⟩) n n) (w.alloc (.cells (noStr n).toArray 9)) := by
  obtain ⟨i, hi, hz0, hz1, hz2⟩ := info_parts info_str
  have h := run_make_rowN (P := Tryd.prog) 46 9 i (.string { data := #[] }) Tryd.underlying46 hi hz0 .i64 .i64 n n (Nat.le_refl _) (by rw [hz2]; omega) (by omega) w
  rw [h, hz1]
  have e : madeCells (Value.string { data := #[] }).cells (n * 1) = (noStr n).toArray := by
    apply Array.ext
    · simp [madeCells, noStr]
    · intro j h1 h2
      simp [madeCells, noStr, Value.cells, Nat.mod_one]
  rw [e]
/-- The texts of numbers. -/
def numB (n : Int) : ByteArray := ⟨(Lib.itoa n).toArray⟩
def strs (l : List Int) : List Value := l.map fun n => Value.string (numB n)
theorem strs_set {l : List Int} {k m : Nat} {u : Value} (hk : k = l.length) (h : 0 < m) : (strs l ++ noStr m).set k u = (strs l ++ [u]) ++ noStr (m - 1) := by
  obtain ⟨q, rfl⟩ : ∃ q, m = q + 1 := ⟨m - 1, by omega⟩
  have := set_mid (strs l) (noStr q) (Value.string { data := #[] }) u
  rw [show (strs l).length = k by rw [hk]; simp [strs]] at this
  rw [show noStr (q + 1) = Value.string { data := #[] } :: noStr q from rfl, this]; simp
set_option maxRecDepth 100000 in
set_option maxHeartbeats 2000000 in
theorem joinNumbers_any (l : List Int) (c : UInt8) (v : Value) (hi : Nat) (w : World) (h : RdI w hi v l) (hh : hi ≤ w.heap.size) (hl : l.length ≤ 1000) (hr : ∀ n ∈ l, 0 ≤ n ∧ n ≤ 63) :
    Calls Tryd.prog 38 #[v, .string ⟨#[c]⟩] w fun e w' => e = .returned (.string ⟨(numsT c l).toArray⟩) ∧ Below w.heap.size w w' := by
  obtain ⟨A, cc, rfl, hc, hm⟩ := Rd.form h
  have H := Lib.hid h
  have HR := Lib.hid hr
  clear h hr
  have hmk := make_strs l.length (by omega)
  go_enter Tryd.func38, Tryd.ntmps38
  go_wp2
  go_loopw [13] (fun i wr => ∃ k : Nat, k ≤ l.length ∧ i = .int .i64 (k : Int) ∧ Hid (Blk wr w.heap.size 9 (strs (l.take k) ++ noStr (l.length - k))) ∧ Hid (Below w.heap.size w wr)) (fun i _ => l.length - (intOf i).toNat)
  case atStart => exact ⟨0, Nat.zero_le _, rfl, by have h := Blk.new w 9 (noStr l.length).toArray; show Blk _ _ _ _; simpa [strs] using h, (Below.refl _ _).alloc (Nat.le_refl _) _⟩
  case round =>
    obtain ⟨k, hk, rfl, hblk, hbr⟩ := hrel
    clear hmk
    have hlw := hblk.out.lt
    by_cases hlt : k < l.length
    · obtain ⟨b1, o1, c1, y, hv, _, hx, hcell1⟩ := Rd.at_ (RdI.below H.out hbr.out (by omega)) hlt
      cases hv
      have hy := HR.out y (List.mem_of_getElem? hx)
      obtain ⟨m, rfl⟩ : ∃ m : Nat, y = (m : Int) := ⟨y.toNat, by omega⟩
      have HX := Lib.hid hx
      have hsl : (strs (l.take k)).length = k := by simp [strs]; omega
      have hcell3 := hblk.out.cell k
      rw [List.getElem?_append_right (by omega), hsl, Nat.sub_self] at hcell3
      obtain ⟨q, hq⟩ : ∃ q, l.length - k = q + 1 := ⟨l.length - k - 1, by omega⟩
      rw [hq] at hcell3
      have hcell4 : wr.cell? ⟨w.heap.size, k, Option.none⟩ = some (.string { data := #[] }) := hcell3
      have hfr := hblk.out.frozen k
      have HS := Lib.hid (hblk.out.set_ k (.string (numB (m : Int))))
      have HB := Lib.hid (hbr.out.setCell (p := ⟨w.heap.size, k, Option.none⟩) (Nat.le_refl _) (.string (numB (m : Int))))
      have HSL := Lib.hid hsl
      have CI := Lib.hid (Tryd.strconv_Itoa_small m (by omega) wr)
      clear hx hsl hcell3 hq
      go_wp2_with fail
      refine CI.out.mono ?_
      rintro e w2 ⟨rfl, hw2⟩
      subst hw2
      go_wp2_with fail
      go_roundw
      case rel =>
        have e1 : (⟨(Lib.decDigits m).toArray⟩ : ByteArray) = numB (m : Int) := by unfold numB; rw [Lib.itoa_nonneg]
        rw [e1]
        refine ⟨k + 1, by omega, by go_num, ?_, HB.out⟩
        have h1 := HS.out
        rw [strs_set (by simp; omega) (by omega)] at h1
        show Blk _ _ _ _
        rw [take_snocI HX.out, show l.length - (k + 1) = l.length - k - 1 by omega]
        simpa [strs] using h1
      case measure => (simp [intOf]; try omega)
    · obtain rfl : k = l.length := by omega
      have hb2 := hblk.out
      rw [List.take_of_length_le (Nat.le_refl _), Nat.sub_self, show noStr 0 = [] from rfl, List.append_nil] at hb2
      have hJ := Tryd.strings_Join w.heap.size 0 l.length (l.map numB) ⟨#[c]⟩ wr (fun j x hj => by
        rw [Nat.zero_add, hb2.cell]
        rw [List.getElem?_map] at hj
        unfold strs
        rw [List.getElem?_map]
        cases hl : l[j]? with
        | none => rw [hl] at hj; cases hj
        | some n => rw [hl] at hj; cases hj; rfl) hlw (by rw [List.length_map]; omega) (by rw [List.length_map]; exact Nat.le_refl _) (by
          have e : (l.map numB).map (·.data.toList) = l.map Lib.itoa := by rw [List.map_map]; exact List.map_congr_left fun n _ => by simp [numB]
          rw [e, show (⟨#[c]⟩ : ByteArray).data.toList = [c] from rfl, joinC_join]
          have := numsT_len (c := c) HR.out
          unfold numsT at this; omega)
      have e : (l.map numB).map (·.data.toList) = l.map Lib.itoa := by rw [List.map_map]; exact List.map_congr_left fun n _ => by simp [numB]
      rw [e, show (⟨#[c]⟩ : ByteArray).data.toList = [c] from rfl, joinC_join, List.length_map] at hJ
      have HJ := Lib.hid hJ
      clear hJ hb2 e
      go_wp2_with fail
      refine HJ.out.mono ?_
      rintro e w2 ⟨rfl, hb2⟩
      have HB2 := Lib.hid (hbr.out.trans (hb2.mono hbr.out.size))
      clear hb2
      go_wp2_with fail
      go_ret
      exact ⟨rfl, HB2.out⟩
set_option maxRecDepth 100000 in
set_option maxHeartbeats 2000000 in
theorem sgLine_any (l : List Int) (v : Value) (hi : Nat) (w : World) (h : RdI w hi v l) (hh : hi ≤ w.heap.size) (hl : l.length ≤ 1000) (hr : ∀ n ∈ l, 0 ≤ n ∧ n ≤ 63) :
    Calls Tryd.prog 36 #[v] w fun e w' => e = .returned (.string ⟨(numsT 32 l).toArray⟩) ∧ Below w.heap.size w w' := by
  obtain ⟨A, cc, rfl, hc, hm⟩ := Rd.form h
  have H := Lib.hid h
  have HR := Lib.hid hr
  clear h hr
  go_enter Tryd.func36, Tryd.ntmps36
  go_wp2
  go_loopw [3, 8] (fun s i wr => ∃ k : Nat, k ≤ l.length ∧ i = .int .i64 (k : Int) ∧ s = .string ⟨(numsT 32 (l.take k)).toArray⟩ ∧ Hid (Below w.heap.size w wr)) (fun _ i _ => l.length - (intOf i).toNat)
  case atStart => exact ⟨0, Nat.zero_le _, rfl, rfl, Below.refl _ _⟩
  case round =>
    obtain ⟨k, hk, rfl, rfl, hbr⟩ := hrel
    by_cases hlt : k < l.length
    · obtain ⟨b1, o1, c1, y, hv, _, hx, hcell1⟩ := Rd.at_ (RdI.below H.out hbr.out hh) hlt
      cases hv
      have hy := HR.out y (List.mem_of_getElem? hx)
      obtain ⟨m, rfl⟩ : ∃ m : Nat, y = (m : Int) := ⟨y.toNat, by omega⟩
      have HX := Lib.hid hx
      have hnl := numsT_len (c := 32) (l := l.take k) (fun n hn => HR.out n (List.mem_of_mem_take hn))
      rw [List.length_take] at hnl
      have hil := itoa_len hy.1 hy.2
      rw [Lib.itoa_nonneg] at hil
      have CN := Lib.hid (l1Num_any m (by omega) wr)
      obtain ⟨T, hT⟩ : ∃ T, T = numsT 32 (l.take k) := ⟨_, rfl⟩
      obtain ⟨D, hD⟩ : ∃ D, D = Lib.decDigits m := ⟨_, rfl⟩
      rw [← hT] at hnl ⊢
      rw [← hD] at CN hil
      have HT := Lib.hid hT
      have HD := Lib.hid hD
      have hT1 : T.length ≤ 3000 := by omega
      have hD1 : D.length ≤ 2 := hil.2
      clear hx hT hD hnl hil
      rcases Nat.eq_zero_or_pos k with h0 | h0
      · have hg : decide (0 < k) = false := decide_eq_false (by omega)
        have H0 := Lib.hid h0
        clear h0
        go_wp2_with fail
        refine CN.out.mono ?_
        rintro e w2 ⟨rfl, hb2⟩
        have HB := Lib.hid (hbr.out.trans (hb2.mono hbr.out.size))
        clear hb2
        go_wp2_with fail
        go_roundw
        case rel =>
          refine ⟨k + 1, by omega, by go_num, ?_, HB.out⟩
          have e1 : T = [] := by rw [HT.out, H0.out]; rfl
          rw [take_snocI HX.out, numsT_snoc, if_pos (by rw [H0.out]; rfl), Lib.itoa_nonneg, ← HD.out, e1]
          simp [ByteArray.ext_iff]
        case measure => (simp [intOf]; try omega)
      · have hg : decide (0 < k) = true := decide_eq_true (by omega)
        go_wp2_with fail
        refine CN.out.mono ?_
        rintro e w2 ⟨rfl, hb2⟩
        have HB := Lib.hid (hbr.out.trans (hb2.mono hbr.out.size))
        clear hb2
        go_wp2_with fail
        go_roundw
        case rel =>
          refine ⟨k + 1, by omega, by go_num, ?_, HB.out⟩
          have e1 : l.take k ≠ [] := by intro e; have := congrArg List.length e; rw [List.length_take, List.length_nil] at this; omega
          rw [take_snocI HX.out, numsT_snoc, if_neg e1, Lib.itoa_nonneg, ← HD.out, ← HT.out]
          simp [ByteArray.ext_iff]
        case measure => (simp [intOf]; try omega)
    · obtain rfl : k = l.length := by omega
      go_wp2_with fail
      go_ret
      exact ⟨ret_val (by rw [List.take_of_length_le (Nat.le_refl _)]; rfl), hbr.out⟩
/-- The text of a list of signals, if it is one. -/
def lineV (l : List Int) : Value := if sigsB l then .tuple #[.string ⟨(numsT 32 l).toArray⟩, .bool true] else .tuple #[.string ⟨#[]⟩, .bool false]
theorem lineV_form (l : List Int) : ∃ p q, lineV l = .tuple #[.string p, .bool q] := by unfold lineV; split <;> exact ⟨_, _, rfl⟩
theorem lineV_yes {l : List Int} (h : sigsB l = true) : lineV l = .tuple #[.string ⟨(numsT 32 l).toArray⟩, .bool true] := by unfold lineV; rw [if_pos h]
theorem lineV_no {l : List Int} (h : sigsB l = false) : lineV l = .tuple #[.string ⟨#[]⟩, .bool false] := by unfold lineV; rw [h]; rfl
theorem SignalsText_any (l : List Int) (v : Value) (hi : Nat) (w : World) (h : RdI w hi v l) (hh : hi ≤ w.heap.size) : Calls Tryd.prog 14 #[v] w fun e w' => e = .returned (lineV l) ∧ Below w.heap.size w w' := by
  have H := Lib.hid h
  clear h
  have cB := areSignals_any l v hi w H.out
  cases hs : sigsB l
  · rw [hs] at cB
    have CB := Lib.hid cB
    have HV := Lib.hid (lineV_no hs)
    clear cB hs
    go_enter Tryd.func14, Tryd.ntmps14
    go_wp2_with fail
    refine CB.out.mono ?_
    rintro e _ ⟨rfl, rfl⟩
    go_wp2_with fail
    go_ret2
    exact ⟨ret_val HV.out.symm, Below.refl _ _⟩
  · rw [hs] at cB
    have CB := Lib.hid cB
    have HV := Lib.hid (lineV_yes hs)
    have hq := sigL_iff.1 hs
    have CJ := Lib.hid (joinNumbers_any l 32 v hi w H.out hh (by omega) hq.2)
    clear cB hs hq
    go_enter Tryd.func14, Tryd.ntmps14
    go_wp2_with fail
    refine CB.out.mono ?_
    rintro e _ ⟨rfl, rfl⟩
    go_wp2_with fail
    refine CJ.out.mono ?_
    rintro e w2 ⟨rfl, hb2⟩
    have HB := Lib.hid hb2
    clear hb2
    go_wp2_with fail
    go_ret2
    exact ⟨ret_val HV.out.symm, HB.out⟩
theorem sSignalsText_any (l : List Int) (v : Value) (hi : Nat) (w : World) (h : RdI w hi v l) (hh : hi ≤ w.heap.size) : Calls Tryd.prog 12 #[v] w fun e w' => e = .returned (lineV l) ∧ Below w.heap.size w w' := by
  have H := Lib.hid h
  clear h
  have cB := sgList_any l v hi w H.out
  cases hs : sigsB l
  · rw [hs] at cB
    have CB := Lib.hid cB
    have HV := Lib.hid (lineV_no hs)
    clear cB hs
    go_enter Tryd.func12, Tryd.ntmps12
    go_wp2_with fail
    refine CB.out.mono ?_
    rintro e _ ⟨rfl, rfl⟩
    go_wp2_with fail
    go_ret2
    exact ⟨ret_val HV.out.symm, Below.refl _ _⟩
  · rw [hs] at cB
    have CB := Lib.hid cB
    have HV := Lib.hid (lineV_yes hs)
    have hq := sigL_iff.1 hs
    have CJ := Lib.hid (sgLine_any l v hi w H.out hh (by omega) hq.2)
    clear cB hs hq
    go_enter Tryd.func12, Tryd.ntmps12
    go_wp2_with fail
    refine CB.out.mono ?_
    rintro e _ ⟨rfl, rfl⟩
    go_wp2_with fail
    refine CJ.out.mono ?_
    rintro e w2 ⟨rfl, hb2⟩
    have HB := Lib.hid hb2
    clear hb2
    go_wp2_with fail
    go_ret2
    exact ⟨ret_val HV.out.symm, HB.out⟩
end Go.Proofs.YtjnkdjokbamibaaDoor
