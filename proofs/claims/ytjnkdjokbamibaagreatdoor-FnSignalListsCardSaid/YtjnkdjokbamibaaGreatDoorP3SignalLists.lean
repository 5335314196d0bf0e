/- Texts of one claim, joined: Y3, Y5. -/
import Derived.Test.YtjnkdjokbamibaaGreatDoorShelf
import Derived.Laws.OwnMore
import Derived.Laws.IdiomStrings
import Derived.Deep.RegionLaw
import Derived.Lib.ItoaLen
import Derived.Test.YtjnkdjokbamibaaGreatDoorP2SignalLists
/- Contracts: numbers in decimal, lists of numbers as texts; of the reference and of the program. -/
namespace Go.Proofs.YtjnkdjokbamibaaGreatDoor
open Go.RowKit
/-- A slice of one byte as a text, wherever the byte lies. -/
theorem conv_at {w : World} {b : Nat} (z : Int) (h0 : 0 ≤ z) (h1 : z < 256) (hc : w.cell? ⟨b, 0, Option.none⟩ = some (.int .u8 z)) : (convert 22 9 (.slice (some ⟨b, 0, Option.none⟩) 1 1)).run Tryz.prog w = .ok (.string ⟨#[UInt8.ofNat z.toNat]⟩) w := by
  have := run_convert_bytes_back (P := Tryz.prog) w 22 9 5 ⟨b, 0, Option.none⟩ 1 [UInt8.ofNat z.toNat] Tryz.underlying22 Tryz.underlying5 Tryz.underlying9 (fun j hj => by
    obtain rfl : j = 0 := by simp at hj; omega
    rw [Go.WideShapes.add_plain, Nat.zero_add, hc]
    simp
    omega)
  exact this
theorem conv_new (z : Int) (h0 : 0 ≤ z) (h1 : z < 256) (wr : World) : (convert 22 9 (.slice (some ⟨wr.heap.size, 0, Option.none⟩) 1 1)).run Tryz.prog (wr.alloc (.cells #[.int .u8 z] 5)) = .ok (.string ⟨#[UInt8.ofNat z.toNat]⟩) (wr.alloc (.cells #[.int .u8 z] 5)) :=
  conv_at z h0 h1 ((Blk.new wr 5 #[.int .u8 z]).cell 0)
theorem dig_lt {u : Nat} (h : u < 10) : Lib.decDigits u = [UInt8.ofNat (48 + u)] := by rw [Lib.decDigits, dif_pos h]
theorem dig_ge {u : Nat} (h : ¬ u < 10) : Lib.decDigits u = Lib.decDigits (u / 10) ++ [UInt8.ofNat (48 + u % 10)] := by rw [Lib.decDigits, dif_neg h]
set_option maxRecDepth 100000 in
set_option maxHeartbeats 2000000 in
theorem l1Num_any : ∀ (u : Nat), u < 1000000 → ∀ (w : World), Calls Tryz.prog 104 #[.int .i64 (u : Int)] w fun e w' => e = .returned (.string ⟨(Lib.decDigits u).toArray⟩) ∧ Below w.heap.size w w' := by
  intro u
  induction u using Nat.strongRecOn with
  | _ u ih =>
    intro hu w
    by_cases h10 : u < 10
    · have hcv := fun wr' => conv_new (48 + (u : Int)) (by omega) (by omega) wr'
      have HD := Lib.hid (dig_lt h10)
      have hbx : Below w.heap.size w (w.alloc (.cells #[.int .u8 (48 + (u : Int))] 5)) := (Below.refl _ _).alloc (Nat.le_refl _) _
      clear ih
      go_enter Tryz.func104, Tryz.ntmps104
      go_wp2
      go_ret
      exact ⟨ret_val (by rw [HD.out]; simp), hbx⟩
    · obtain ⟨q, hq⟩ : ∃ q, q = u / 10 := ⟨_, rfl⟩
      obtain ⟨r, hr⟩ : ∃ r, r = u % 10 := ⟨_, rfl⟩
      have hrl : r < 10 := by omega
      have hw1 : IntKind.i64.wrap ((u : Int) / 10) = (q : Int) := by rw [IntKind.wrap_i64]; omega
      have hm1 : (u : Int).tmod 10 = (r : Int) := by rw [Int.tmod_eq_emod_of_nonneg (by omega)]; omega
      have hw2 : IntKind.i64.wrap (48 + (r : Int)) = 48 + (r : Int) := by rw [IntKind.wrap_i64]; omega
      have hw3 : IntKind.u8.wrap (48 + (r : Int)) = 48 + (r : Int) := by rw [IntKind.wrap_u8]; omega
      have hc2 := fun (wr : World) (b : Nat) (hc : wr.cell? ⟨b, 0, Option.none⟩ = some (.int .u8 (48 + (r : Int)))) => conv_at (48 + (r : Int)) (by omega) (by omega) hc
      have hcv := fun wr' => conv_new (48 + (r : Int)) (by omega) (by omega) wr'
      have HC2 := Lib.hid hc2
      have hdd := dig_ge h10
      rw [← hq, ← hr] at hdd
      have HD := Lib.hid hdd
      have IH := Lib.hid (ih q (by omega) (by omega))
      have hcell : (w.alloc (.cells #[.int .u8 (48 + (r : Int))] 5)).drew.cell? ⟨w.heap.size, 0, Option.none⟩ = some (.int .u8 (48 + (r : Int))) := (Blk.new w 5 #[.int .u8 (48 + (r : Int))]).cell 0
      have HCELL := Lib.hid hcell
      have h10n : ¬ ((u : Int) < 10) := by omega
      have hdl : (Lib.decDigits q).length ≤ 20 := by rw [Lib.decDigits_length]; exact Lib.nDigits_le20 q (by omega)
      have hlen : ¬ (9223372036854775807 < (Lib.decDigits q).length + 1) := by omega
      have hcd := HC2.out _ _ HCELL.out
      have HSTR : Hid ((⟨(Lib.decDigits q).toArray⟩ : ByteArray) ++ ⟨#[UInt8.ofNat (48 + (r : Int)).toNat]⟩ = ⟨(Lib.decDigits u).toArray⟩) := by
        show _ = _
        rw [HD.out, show (48 + (r : Int)).toNat = 48 + r by omega]; simp [ByteArray.ext_iff]
      have hbd : Below w.heap.size w w.drew := (Below.refl _ _).drew
      have hbe : Below w.heap.size w (w.alloc (.cells #[.int .u8 (48 + (r : Int))] 5)).drew := ((Below.refl _ _).alloc (Nat.le_refl _) _).drew
      clear ih hc2 hcell hdd hq hr
      go_enter Tryz.func104, Tryz.ntmps104
      go_wp2_with fail
      go_region_law (first
        | ((go_simp; go_at_call 104; (with_reducible refine (IH.out _).mono ?_); rintro e w2 ⟨rfl, hb2⟩; (first | (have hcv2 := HC2.out w2 w.heap.size ((hb2.cell (p := ⟨w.heap.size, 0, Option.none⟩) (by simp)).trans HCELL.out)) | skip))))
      all_goals
        go_wp2_with fail
        go_ret
        refine ⟨ret_val (congrArg Value.string HSTR.out), ?_⟩
        first
          | exact (hbd.trans (hb2.mono (Nat.le_refl _))).alloc (Nat.le_trans hbd.size hb2.size) _
          | exact hbe.trans (hb2.mono hbe.size)
theorem info_str : (Tryz.prog.info? 9).map (fun i => (i.zero, i.size, i.bytes)) = some (some (.string { data := #[] }), 1, 16) := by kernel_rfl
/-- n empty texts. -/
def noStr (n : Nat) : List Value := List.replicate n (.string { data := #[] })
theorem make_strs (n : Nat) (hn : n ≤ 1048576) (w : World) :
    (Instr.makeSlice 81 (.int .i64 (n : Int)) (.int .i64 (n : Int))).run Tryz.prog w = .ok (.slice (some ⟨w.heap.size, 0, Option.none⟩) n n) (w.alloc (.cells (noStr n).toArray 9)) := by
  obtain ⟨i, hi, hz0, hz1, hz2⟩ := info_parts info_str
  have h := run_make_rowN (P := Tryz.prog) 81 9 i (.string { data := #[] }) Tryz.underlying81 hi hz0 .i64 .i64 n n (Nat.le_refl _) (by rw [hz2]; omega) (by omega) w
  rw [h, hz1]
  have e : madeCells (Value.string { data := #[] }).cells (n * 1) = (noStr n).toArray := by
    apply Array.ext
    · simp [madeCells, noStr]
    · intro j h1 h2
      simp [madeCells, noStr, Value.cells, Nat.mod_one]
  rw [e]
/-- The texts of numbers. -/
def numB (n : Int) : ByteArray := ⟨(Lib.itoa n).toArray⟩
def strs (l : List Int) : List Value := l.map fun n => Value.string (numB n)
theorem strs_set {l : List Int} {k m : Nat} {u : Value} (hk : k = l.length) (h : 0 < m) : (strs l ++ noStr m).set k u = (strs l ++ [u]) ++ noStr (m - 1) := by
  obtain ⟨q, rfl⟩ : ∃ q, m = q + 1 := ⟨m - 1, by omega⟩
  have := set_mid (strs l) (noStr q) (Value.string { data := #[] }) u
  rw [show (strs l).length = k by rw [hk]; simp [strs]] at this
  rw [show noStr (q + 1) = Value.string { data := #[] } :: noStr q from rfl, this]; simp
set_option maxRecDepth 100000 in
set_option maxHeartbeats 2000000 in
theorem joinNumbers_any (l : List Int) (c : UInt8) (v : Value) (hi : Nat) (w : World) (h : RdI w hi v l) (hh : hi ≤ w.heap.size) (hl : l.length ≤ 1000) (hr : ∀ n ∈ l, 0 ≤ n ∧ n ≤ 63) :
    Calls Tryz.prog 51 #[v, .string ⟨#[c]⟩] w fun e w' => e = .returned (.string ⟨(numsT c l).toArray⟩) ∧ Below w.heap.size w w' := by
  obtain ⟨A, cc, rfl, hc, hm⟩ := Rd.form h
  have H := Lib.hid h
  have HR := Lib.hid hr
  clear h hr
  have hmk := make_strs l.length (by omega)
  go_enter Tryz.func51, Tryz.ntmps51
  go_wp2
  go_loopw [13] (fun i wr => ∃ k : Nat, k ≤ l.length ∧ i = .int .i64 (k : Int) ∧ Hid (Blk wr w.heap.size 9 (strs (l.take k) ++ noStr (l.length - k))) ∧ Hid (Below w.heap.size w wr)) (fun i _ => l.length - (intOf i).toNat)
  case atStart => exact ⟨0, Nat.zero_le _, rfl, by have h := Blk.new w 9 (noStr l.length).toArray; show Blk _ _ _ _; simpa [strs] using h, (Below.refl _ _).alloc (Nat.le_refl _) _⟩
  case round =>
    obtain ⟨k, hk, rfl, hblk, hbr⟩ := hrel
    clear hmk
    have hlw := hblk.out.lt
    by_cases hlt : k < l.length
    · obtain ⟨b1, o1, c1, y, hv, _, hx, hcell1⟩ := Rd.at_ (RdI.below H.out hbr.out (by omega)) hlt
      cases hv
      have hy := HR.out y (List.mem_of_getElem? hx)
      obtain ⟨m, rfl⟩ : ∃ m : Nat, y = (m : Int) := ⟨y.toNat, by omega⟩
      have HX := Lib.hid hx
      have hsl : (strs (l.take k)).length = k := by simp [strs]; omega
      have hcell3 := hblk.out.cell k
      rw [List.getElem?_append_right (by omega), hsl, Nat.sub_self] at hcell3
      obtain ⟨q, hq⟩ : ∃ q, l.length - k = q + 1 := ⟨l.length - k - 1, by omega⟩
      rw [hq] at hcell3
      have hcell4 : wr.cell? ⟨w.heap.size, k, Option.none⟩ = some (.string { data := #[] }) := hcell3
      have hfr := hblk.out.frozen k
      have HS := Lib.hid (hblk.out.set_ k (.string (numB (m : Int))))
      have HB := Lib.hid (hbr.out.setCell (p := ⟨w.heap.size, k, Option.none⟩) (Nat.le_refl _) (.string (numB (m : Int))))
      have HSL := Lib.hid hsl
      have CI := Lib.hid (Tryz.strconv_Itoa_small m (by omega) wr)
      clear hx hsl hcell3 hq
      go_wp2_with fail
      refine CI.out.mono ?_
      rintro e w2 ⟨rfl, hw2⟩
      subst hw2
      go_wp2_with fail
      go_roundw
      case rel =>
        have e1 : (⟨(Lib.decDigits m).toArray⟩ : ByteArray) = numB (m : Int) := by unfold numB; rw [Lib.itoa_nonneg]
        rw [e1]
        refine ⟨k + 1, by omega, by go_num, ?_, HB.out⟩
        have h1 := HS.out
        rw [strs_set (by simp; omega) (by omega)] at h1
        show Blk _ _ _ _
        rw [take_snocI HX.out, show l.length - (k + 1) = l.length - k - 1 by omega]
        simpa [strs] using h1
      case measure => (simp [intOf]; try omega)
    · obtain rfl : k = l.length := by omega
      have hb2 := hblk.out
      rw [List.take_of_length_le (Nat.le_refl _), Nat.sub_self, show noStr 0 = [] from rfl, List.append_nil] at hb2
      have hJ := Tryz.strings_Join w.heap.size 0 l.length (l.map numB) ⟨#[c]⟩ wr (fun j x hj => by
        rw [Nat.zero_add, hb2.cell]
        rw [List.getElem?_map] at hj
        unfold strs
        rw [List.getElem?_map]
        cases hl : l[j]? with
        | none => rw [hl] at hj; cases hj
        | some n => rw [hl] at hj; cases hj; rfl) hlw (by rw [List.length_map]; omega) (by rw [List.length_map]; exact Nat.le_refl _) (by
          have e : (l.map numB).map (·.data.toList) = l.map Lib.itoa := by rw [List.map_map]; exact List.map_congr_left fun n _ => by simp [numB]
          rw [e, show (⟨#[c]⟩ : ByteArray).data.toList = [c] from rfl, joinC_join]
          have := numsT_len (c := c) HR.out
          unfold numsT at this; omega)
      have e : (l.map numB).map (·.data.toList) = l.map Lib.itoa := by rw [List.map_map]; exact List.map_congr_left fun n _ => by simp [numB]
      rw [e, show (⟨#[c]⟩ : ByteArray).data.toList = [c] from rfl, joinC_join, List.length_map] at hJ
      have HJ := Lib.hid hJ
      clear hJ hb2 e
      go_wp2_with fail
      refine HJ.out.mono ?_
      rintro e w2 ⟨rfl, hb2⟩
      have HB2 := Lib.hid (hbr.out.trans (hb2.mono hbr.out.size))
      clear hb2
      go_wp2_with fail
      go_ret
      exact ⟨rfl, HB2.out⟩
set_option maxRecDepth 100000 in
set_option maxHeartbeats 2000000 in
theorem sgLine_any (l : List Int) (v : Value) (hi : Nat) (w : World) (h : RdI w hi v l) (hh : hi ≤ w.heap.size) (hl : l.length ≤ 1000) (hr : ∀ n ∈ l, 0 ≤ n ∧ n ≤ 63) :
    Calls Tryz.prog 53 #[v] w fun e w' => e = .returned (.string ⟨(numsT 32 l).toArray⟩) ∧ Below w.heap.size w w' := by
  obtain ⟨A, cc, rfl, hc, hm⟩ := Rd.form h
  have H := Lib.hid h
  have HR := Lib.hid hr
  clear h hr
  go_enter Tryz.func53, Tryz.ntmps53
  go_wp2
  go_loopw [3, 8] (fun s i wr => ∃ k : Nat, k ≤ l.length ∧ i = .int .i64 (k : Int) ∧ s = .string ⟨(numsT 32 (l.take k)).toArray⟩ ∧ Hid (Below w.heap.size w wr)) (fun _ i _ => l.length - (intOf i).toNat)
  case atStart => exact ⟨0, Nat.zero_le _, rfl, rfl, Below.refl _ _⟩
  case round =>
    obtain ⟨k, hk, rfl, rfl, hbr⟩ := hrel
    by_cases hlt : k < l.length
    · obtain ⟨b1, o1, c1, y, hv, _, hx, hcell1⟩ := Rd.at_ (RdI.below H.out hbr.out hh) hlt
      cases hv
      have hy := HR.out y (List.mem_of_getElem? hx)
      obtain ⟨m, rfl⟩ : ∃ m : Nat, y = (m : Int) := ⟨y.toNat, by omega⟩
      have HX := Lib.hid hx
      have hnl := numsT_len (c := 32) (l := l.take k) (fun n hn => HR.out n (List.mem_of_mem_take hn))
      rw [List.length_take] at hnl
      have hil := itoa_len hy.1 hy.2
      rw [Lib.itoa_nonneg] at hil
      have CN := Lib.hid (l1Num_any m (by omega) wr)
      obtain ⟨T, hT⟩ : ∃ T, T = numsT 32 (l.take k) := ⟨_, rfl⟩
      obtain ⟨D, hD⟩ : ∃ D, D = Lib.decDigits m := ⟨_, rfl⟩
      rw [← hT] at hnl ⊢
      rw [← hD] at CN hil
      have HT := Lib.hid hT
      have HD := Lib.hid hD
      have hT1 : T.length ≤ 3000 := by omega
      have hD1 : D.length ≤ 2 := hil.2
      clear hx hT hD hnl hil
      rcases Nat.eq_zero_or_pos k with h0 | h0
      · have hg : decide (0 < k) = false := decide_eq_false (by omega)
        have H0 := Lib.hid h0
        clear h0
        go_wp2_with fail
        refine CN.out.mono ?_
        rintro e w2 ⟨rfl, hb2⟩
        have HB := Lib.hid (hbr.out.trans (hb2.mono hbr.out.size))
        clear hb2
        go_wp2_with fail
        go_roundw
        case rel =>
          refine ⟨k + 1, by omega, by go_num, ?_, HB.out⟩
          have e1 : T = [] := by rw [HT.out, H0.out]; rfl
          rw [take_snocI HX.out, numsT_snoc, if_pos (by rw [H0.out]; rfl), Lib.itoa_nonneg, ← HD.out, e1]
          simp [ByteArray.ext_iff]
        case measure => (simp [intOf]; try omega)
      · have hg : decide (0 < k) = true := decide_eq_true (by omega)
        go_wp2_with fail
        refine CN.out.mono ?_
        rintro e w2 ⟨rfl, hb2⟩
        have HB := Lib.hid (hbr.out.trans (hb2.mono hbr.out.size))
        clear hb2
        go_wp2_with fail
        go_roundw
        case rel =>
          refine ⟨k + 1, by omega, by go_num, ?_, HB.out⟩
          have e1 : l.take k ≠ [] := by intro e; have := congrArg List.length e; rw [List.length_take, List.length_nil] at this; omega
          rw [take_snocI HX.out, numsT_snoc, if_neg e1, Lib.itoa_nonneg, ← HD.out, ← HT.out]
          simp [ByteArray.ext_iff]
        case measure => (simp [intOf]; try omega)
    · obtain rfl : k = l.length := by omega
      go_wp2_with fail
      go_ret
      exact ⟨ret_val (by rw [List.take_of_length_le (Nat.le_refl _)]; rfl), hbr.out⟩
/-- The text of a list of signals, if it is one. -/
def lineV (l : List Int) : Value := if sigsB l then .tuple #[.string ⟨(numsT 32 l).toArray⟩, .bool true] else .tuple #[.string ⟨#[]⟩, .bool false]
theorem lineV_yes {l : List Int} (h : sigsB l = true) : lineV l = .tuple #[.string ⟨(numsT 32 l).toArray⟩, .bool true] := by unfold lineV; rw [if_pos h]
theorem lineV_no {l : List Int} (h : sigsB l = false) : lineV l = .tuple #[.string ⟨#[]⟩, .bool false] := by unfold lineV; rw [h]; rfl
theorem SignalsText_any (l : List Int) (v : Value) (hi : Nat) (w : World) (h : RdI w hi v l) (hh : hi ≤ w.heap.size) : Calls Tryz.prog 7 #[v] w fun e w' => e = .returned (lineV l) ∧ Below w.heap.size w w' := by
  have H := Lib.hid h
  clear h
  have cB := areSignals_any l v hi w H.out
  cases hs : sigsB l
  · rw [hs] at cB
    have CB := Lib.hid cB
    have HV := Lib.hid (lineV_no hs)
    clear cB hs
    go_enter Tryz.func7, Tryz.ntmps7
    go_wp2_with fail
    refine CB.out.mono ?_
    rintro e _ ⟨rfl, rfl⟩
    go_wp2_with fail
    go_ret2
    exact ⟨ret_val HV.out.symm, Below.refl _ _⟩
  · rw [hs] at cB
    have CB := Lib.hid cB
    have HV := Lib.hid (lineV_yes hs)
    have hq := sigL_iff.1 hs
    have CJ := Lib.hid (joinNumbers_any l 32 v hi w H.out hh (by omega) hq.2)
    clear cB hs hq
    go_enter Tryz.func7, Tryz.ntmps7
    go_wp2_with fail
    refine CB.out.mono ?_
    rintro e _ ⟨rfl, rfl⟩
    go_wp2_with fail
    refine CJ.out.mono ?_
    rintro e w2 ⟨rfl, hb2⟩
    have HB := Lib.hid hb2
    clear hb2
    go_wp2_with fail
    go_ret2
    exact ⟨ret_val HV.out.symm, HB.out⟩
theorem sSignalsText_any (l : List Int) (v : Value) (hi : Nat) (w : World) (h : RdI w hi v l) (hh : hi ≤ w.heap.size) : Calls Tryz.prog 8 #[v] w fun e w' => e = .returned (lineV l) ∧ Below w.heap.size w w' := by
  have H := Lib.hid h
  clear h
  have cB := sgList_any l v hi w H.out
  cases hs : sigsB l
  · rw [hs] at cB
    have CB := Lib.hid cB
    have HV := Lib.hid (lineV_no hs)
    clear cB hs
    go_enter Tryz.func8, Tryz.ntmps8
    go_wp2_with fail
    refine CB.out.mono ?_
    rintro e _ ⟨rfl, rfl⟩
    go_wp2_with fail
    go_ret2
    exact ⟨ret_val HV.out.symm, Below.refl _ _⟩
  · rw [hs] at cB
    have CB := Lib.hid cB
    have HV := Lib.hid (lineV_yes hs)
    have hq := sigL_iff.1 hs
    have CJ := Lib.hid (sgLine_any l v hi w H.out hh (by omega) hq.2)
    clear cB hs hq
    go_enter Tryz.func8, Tryz.ntmps8
    go_wp2_with fail
    refine CB.out.mono ?_
    rintro e _ ⟨rfl, rfl⟩
    go_wp2_with fail
    refine CJ.out.mono ?_
    rintro e w2 ⟨rfl, hb2⟩
    have HB := Lib.hid hb2
    clear hb2
    go_wp2_with fail
    go_ret2
    exact ⟨ret_val HV.out.symm, HB.out⟩
end Go.Proofs.YtjnkdjokbamibaaGreatDoor
/- Contracts: a text cut at a byte, a number read, ReadSignals; of the reference. -/
namespace Go.Proofs.YtjnkdjokbamibaaGreatDoor
open Go.RowKit
abbrev strsT (xs : List (List UInt8)) : List Value := xs.map fun a => Value.string ⟨a.toArray⟩
/-- v is a row of texts that has been appended to since the world w. -/
def GrowS (w : World) (B : Nat) (wr : World) (v : Value) (xs : List (List UInt8)) : Prop := wr.ownsRow B 9 1 v xs.length (strsT xs) ∧ Below B w wr ∧ B ≤ wr.heap.size
theorem GrowS.start (w : World) : GrowS w w.heap.size w (.slice Option.none 0 0) [] := ⟨World.ownsRow_nil _ _ _ _, Below.refl _ _, Nat.le_refl _⟩
theorem GrowS.rd {w wr : World} {B : Nat} {v : Value} {xs : List (List UInt8)} (h : GrowS w B wr v xs) : Rd wr wr.heap.size 1 v xs.length (strsT xs) := rd_of_owns h.1 fun k hk => (h.1.lt k hk).2
theorem GrowS.app {w wr : World} {B : Nat} {v : Value} {xs : List (List UInt8)} {ops : Array Oper} {rest : List Oper} {o : Oper} {a : Act} {Q : Exit → Act → World → Prop} {y : ByteArray} (hgd : o.guard = Option.none) (s x : Operand)
    (ho : o.op = .call { callee := .builtin .append, args := #[s, x], argTypes := #[81, 81] }) (hG : GrowS w B wr v xs) (hlen : xs.length < 1099511627776)
    (hs : a.eval s = v) (hx : a.eval x = .slice (some ⟨wr.heap.size, 0, Option.none⟩) 1 1)
    (h : ∀ v' w', GrowS w B w' v' (xs ++ [y.data.toList]) → wpList Tryz.prog ops Q rest (a.put o.dst v') w') : wpList Tryz.prog ops Q (o :: rest) a (wr.alloc (.cells #[.string y] 9)) := by
  obtain ⟨i, hi, hz0, hz1, hz2⟩ := info_parts info_str
  refine wpList_append_own _ hgd s x 81 ho B 9 i (.string { data := #[] }) 1 16 Tryz.underlying81 hi hz0 hz1 hz2 rfl (by decide) v xs.length (strsT xs) hs (hG.1.alloc _) ⟨wr.heap.size, 0, Option.none⟩ 1 1 [.string y] hx rfl
    (one_cell _ _ _) (by intro u hu; simp at hu; subst hu; rfl) (by unfold maxLen; omega) (by omega) (by simp; have := hG.2.2; omega) ?_
  intro v' w' hown hgr _
  refine h v' w' ⟨?_, ?_, ?_⟩
  · simpa [strsT] using hown
  · exact (hG.2.1.alloc hG.2.2 _).grown hgr (by simp; have := hG.2.2; omega) (fun k hk => ((hG.1.alloc (.cells #[.string y] 9)).lt k hk).1)
  · have h1 := hgr.size; have h2 := hG.2.2; simp at h1; omega
def RetRdS (xs : List (List UInt8)) (w : World) (e : Ending) (w' : World) : Prop := ∃ v, e = .returned v ∧ Rd w' w'.heap.size 1 v xs.length (strsT xs) ∧ Below w.heap.size w w'
def RetGrS (xs : List (List UInt8)) (w : World) (e : Ending) (w' : World) : Prop := ∃ v, e = .returned v ∧ GrowS w w.heap.size w' v xs
theorem Rd.atS {w : World} {hi : Nat} {v : Value} {n : Nat} {xs : List (List UInt8)} (h : Rd w hi 1 v n (strsT xs)) {k : Nat} (hk : k < n) :
    ∃ b off c y, v = .slice (some ⟨b, off, Option.none⟩) n c ∧ b < hi ∧ xs[k]? = some y ∧ w.cell? ⟨b, off + k, Option.none⟩ = some (.string ⟨y.toArray⟩) := by
  obtain ⟨h0, A, c, h1, _, _, h4⟩ := h
  obtain ⟨b, off, rfl, hb, hc⟩ := h4 (by omega)
  have hl : xs.length = n := by simpa using h0
  have hx : xs[k]? = some (xs[k]'(by omega)) := List.getElem?_eq_getElem (by omega)
  exact ⟨b, off, c, _, h1, hb, hx, hc k _ (by rw [List.getElem?_map, hx]; rfl)⟩
theorem ext_mid (s : ByteArray) (m k : Nat) : (s.extract m k).data.toList = (s.data.toList.take k).drop m := by
  simp [ByteArray.data_extract, List.drop_take]
theorem split_hit {s : ByteArray} {c : UInt8} {k m : Nat} {o : List (List UInt8)} (hk : k < s.size) (h : splitC c (s.data.toList.take k) = o ++ [(s.data.toList.take k).drop m]) (hc : s[k].toNat = c.toNat) :
    splitC c (s.data.toList.take (k + 1)) = (o ++ [(s.extract m k).data.toList]) ++ [(s.data.toList.take (k + 1)).drop (k + 1)] := by
  have h1 := splitC_snoc (b := s[k]) h
  rw [if_pos (UInt8.toNat_inj.1 hc)] at h1
  have e : (s.data.toList.take (k + 1)).drop (k + 1) = [] := List.drop_eq_nil_of_le (by rw [List.length_take]; omega)
  rw [e, take_snoc s k hk, h1, ext_mid]
theorem split_miss {s : ByteArray} {c : UInt8} {k m : Nat} {o : List (List UInt8)} (hk : k < s.size) (hm : m ≤ k) (h : splitC c (s.data.toList.take k) = o ++ [(s.data.toList.take k).drop m]) (hc : ¬ s[k].toNat = c.toNat) :
    splitC c (s.data.toList.take (k + 1)) = o ++ [(s.data.toList.take (k + 1)).drop m] := by
  have h1 := splitC_snoc (b := s[k]) h
  rw [if_neg (fun e => hc (by rw [e]))] at h1
  have hl : k ≤ s.data.toList.length := by simp; omega
  rw [take_snoc s k hk, h1, List.drop_append_of_le_length (by rw [List.length_take]; omega)]
theorem split_end {s : ByteArray} {c : UInt8} {k m : Nat} {o : List (List UInt8)} (hk : ¬ k < s.size) (h : splitC c (s.data.toList.take k) = o ++ [(s.data.toList.take k).drop m]) :
    splitC c s.data.toList = o ++ [(s.extract m s.size).data.toList] := by
  rw [ext_mid, List.take_of_length_le (by simp)]
  rwa [List.take_of_length_le (by simp; omega)] at h
set_option maxRecDepth 100000 in
set_option maxHeartbeats 2000000 in
theorem l1Split_own (s : ByteArray) (c : UInt8) (hs : s.size ≤ 1099511627000) (w : World) : Calls Tryz.prog 98 #[.string s, .int .u8 (c.toNat : Int)] w (RetGrS (splitC c s.data.toList) w) := by
  go_enter Tryz.func98, Tryz.ntmps98
  go_wp2
  go_loopw [5, 6, 7] (fun q f i wr => ∃ (k m : Nat) (o : List (List UInt8)), k ≤ s.size ∧ m ≤ k ∧ f = .int .i64 (m : Int) ∧ i = .int .i64 (k : Int) ∧ o.length ≤ k ∧ Hid (splitC c (s.data.toList.take k) = o ++ [(s.data.toList.take k).drop m]) ∧ Hid (GrowS w w.heap.size wr q o)) (fun _ _ i _ => s.size - (intOf i).toNat)
  case atStart => exact ⟨0, 0, [], Nat.zero_le _, Nat.le_refl _, rfl, rfl, Nat.le_refl _, rfl, GrowS.start w⟩
  case round =>
    obtain ⟨k, m, o, hk, hm, rfl, rfl, ho, HS, HG⟩ := hrel
    by_cases hlt : k < s.size
    · by_cases hc : s[k].toNat = c.toNat
      · have hcz : ((s[k].toNat : Int) == (c.toNat : Int)) = true := by rw [hc]; exact beq_self_eq_true _
        have HC := Lib.hid hc
        clear hc
        go_wp2_with (at_builtin; refine GrowS.app rfl (.tmp 19) (.tmp 24) rfl HG.out (by omega) rfl rfl ?_; intro v' w1 hG'; have HG1 := Lib.hid hG'; clear hG')
        go_roundw
        case rel => exact ⟨k + 1, k + 1, _, by omega, Nat.le_refl _, by go_num, by go_num, by rw [List.length_append]; exact Nat.succ_le_succ ho, split_hit hlt HS.out HC.out, HG1.out⟩
        case measure => (simp [intOf]; try omega)
      · have hcz : ((s[k].toNat : Int) == (c.toNat : Int)) = false := by rw [beq_eq_false_iff_ne]; omega
        have HC := Lib.hid hc
        clear hc
        go_wp2_with fail
        go_roundw
        case rel => exact ⟨k + 1, m, o, by omega, by omega, rfl, by go_num, by omega, split_miss hlt hm HS.out HC.out, HG.out⟩
        case measure => (simp [intOf]; try omega)
    · have HE := Lib.hid (split_end hlt HS.out)
      go_wp2_with (at_builtin; refine GrowS.app rfl (.tmp 28) (.tmp 32) rfl HG.out (by omega) rfl rfl ?_; intro v' w1 hG'; have HG1 := Lib.hid hG'; clear hG')
      go_ret
      exact ⟨_, rfl, by rw [HE.out]; exact HG1.out⟩
theorem l1Split_any (s : ByteArray) (c : UInt8) (hs : s.size ≤ 1099511627000) (w : World) : Calls Tryz.prog 98 #[.string s, .int .u8 (c.toNat : Int)] w (RetRdS (splitC c s.data.toList) w) :=
  (l1Split_own s c hs w).mono fun _ _ ⟨v, h1, h2⟩ => ⟨v, h1, h2.rd, h2.2.1⟩
theorem readR_out {a : List UInt8} (h : ¬ (1 ≤ a.length ∧ a.length ≤ 6)) : readR a = -1 := by
  unfold readR
  rw [inB_false (by omega)]
  rfl
theorem readR_lead {a : List UInt8} (h : a.head? = some 48) (h1 : 1 < a.length) : readR a = -1 := by
  unfold readR
  rw [decide_eq_true h, decide_eq_true h1]
  simp
theorem readR_no {s : ByteArray} {k : Nat} (h : k < s.size) (h1 : ¬ (48 ≤ s[k].toNat ∧ s[k].toNat ≤ 57)) : readR s.data.toList = -1 := by
  have : s.data.toList.all isDig = false := by
    rw [List.all_eq_false]
    refine ⟨s[k], List.getElem_mem (l := s.data.toList) (by simpa using h), ?_⟩
    unfold isDig
    rw [Bool.and_eq_true, decide_eq_true_eq, decide_eq_true_eq]
    exact h1
  unfold readR
  rw [this]
  simp
theorem readR_yes {a : List UInt8} (h : 1 ≤ a.length ∧ a.length ≤ 6) (h0 : ¬ (a.head? = some 48 ∧ 1 < a.length)) (hd : a.all isDig = true) : readR a = decV a := by
  unfold readR
  rw [inB_iff.2 (by omega), hd]
  have : (decide (a.head? = some 48) && decide (1 < a.length)) = false := by
    rw [Bool.and_eq_false_iff, decide_eq_false_iff_not, decide_eq_false_iff_not]
    exact Decidable.not_and_iff_or_not.1 h0
  rw [this]
  rfl
theorem head_byte {s : ByteArray} (h : 0 < s.size) : s.data.toList.head? = some s[0] := by
  rw [List.head?_eq_getElem?, List.getElem?_eq_getElem (by simpa using h)]; rfl
set_option maxRecDepth 100000 in
set_option maxHeartbeats 2000000 in
theorem l1Read_any (s : ByteArray) (hs : s.size ≤ 1099511627000) (w : World) : Calls Tryz.prog 99 #[.string s] w fun e w' => e = .returned (.int .i64 (readR s.data.toList)) ∧ w = w' := by
  by_cases h1 : 1 ≤ s.size ∧ s.size ≤ 6
  · have cI := l1In_any (s.size : Int) 1 6 w
    rw [inB_iff.2 (by omega)] at cI
    have CI := Lib.hid cI
    clear cI
    by_cases h0 : s[0].toNat = 48 ∧ 1 < s.size
    · have HR : Hid (readR s.data.toList = -1) := readR_lead (by rw [head_byte (by omega)]; exact congrArg some (UInt8.toNat_inj.1 h0.1)) (by simpa using h0.2)
      have hz : ((s[0].toNat : Int) == 48) = true := by rw [h0.1]; rfl
      have hl : decide (1 < s.size) = true := decide_eq_true h0.2
      obtain ⟨h00, h01⟩ := h0
      obtain ⟨h10, h11⟩ := h1
      go_enter Tryz.func99, Tryz.ntmps99
      go_wp2_with (go_at_call 108; refine (CI.out).mono ?_; rintro e w' ⟨rfl, rfl⟩)
      go_ret
      exact ⟨ret_int HR.out.symm, rfl⟩
    · have HY : Hid (s.data.toList.all isDig = true → readR s.data.toList = decV s.data.toList) := fun hd => readR_yes (by simpa using h1) (by
        rw [head_byte (by omega)]
        rintro ⟨e1, e2⟩
        injection e1 with e1
        exact h0 ⟨by rw [e1]; rfl, by simpa using e2⟩) hd
      obtain ⟨h10, h11⟩ := h1
      go_enter Tryz.func99, Tryz.ntmps99
      go_wp2_with (go_at_call 108; refine (CI.out).mono ?_; rintro e w' ⟨rfl, rfl⟩)
      all_goals
        go_loop [3, 4] (fun n i => ∃ k : Nat, k ≤ s.size ∧ i = .int .i64 (k : Int) ∧ n = .int .i64 (decV (s.data.toList.take k)) ∧ Hid ((s.data.toList.take k).all isDig = true)) (fun _ i => s.size - (intOf i).toNat)
        case atStart => exact ⟨0, Nat.zero_le _, rfl, rfl, rfl⟩
        case round =>
          obtain ⟨k, hk, rfl, rfl, HD⟩ := hrel
          have hbd := decV_bd k (s.data.toList.take k) (by rw [List.length_take]; omega) HD.out
          have hle : (10 : Int) ^ (s.data.toList.take k).length ≤ 10 ^ 6 := by
            exact_mod_cast Nat.pow_le_pow_right (by omega) (by rw [List.length_take]; omega)
          obtain ⟨z, hz⟩ : ∃ z, z = decV (s.data.toList.take k) := ⟨_, rfl⟩
          rw [← hz] at hbd ⊢
          have HZ := Lib.hid hz
          have hz0 := hbd.1
          have hz1 : z < 1000000 := by omega
          clear hz hbd hle
          by_cases hlt : k < s.size
          · by_cases hd : 48 ≤ s[k].toNat ∧ s[k].toNat ≤ 57
            · have HS : Hid ((s.data.toList.take (k + 1)).all isDig = true ∧ 10 * z + ((s[k].toNat : Int) - 48) = decV (s.data.toList.take (k + 1))) := by
                constructor
                · rw [take_snoc s k hlt, List.all_append, HD.out]
                  simp [isDig, hd.1, hd.2]
                · rw [take_snoc s k hlt, decV_snoc, ← HZ.out]
              obtain ⟨hd0, hd1⟩ := hd
              have hw3 : IntKind.u8.wrap ((s[k].toNat : Int) - 48) = (s[k].toNat : Int) - 48 := by rw [IntKind.wrap_u8]; omega
              go_wp2_with fail
              go_round
              case rel => exact ⟨k + 1, by omega, by go_num, by rw [← HS.out.2], HS.out.1⟩
              case measure => (simp [intOf]; try omega)
            · have HN := Lib.hid (readR_no hlt hd)
              go_wp2_with fail
              all_goals first
                | (exfalso; omega)
                | (go_ret; exact ⟨ret_int HN.out.symm, rfl⟩)
          · have HE : Hid (readR s.data.toList = z) := by
              have h2 := HD.out
              have h3 := HZ.out
              rw [List.take_of_length_le (by simp; omega)] at h2 h3
              exact (HY.out h2).trans h3.symm
            go_wp2_with fail
            go_ret
            exact ⟨ret_int HE.out.symm, rfl⟩
  · have cI := l1In_any (s.size : Int) 1 6 w
    rw [inB_false (by omega)] at cI
    have CI := Lib.hid cI
    clear cI
    have HR : Hid (readR s.data.toList = -1) := readR_out (by simpa using h1)
    clear h1
    go_enter Tryz.func99, Tryz.ntmps99
    go_wp2_with (go_at_call 108; refine (CI.out).mono ?_; rintro e w' ⟨rfl, rfl⟩)
    go_ret
    exact ⟨ret_int HR.out.symm, rfl⟩
theorem refO_in {s : List UInt8} (h : s ≠ []) {q : List Int} (hq : q = (splitC 32 s).map readR) {g t : Bool} (hg : sigsB q = g) (ht : g = true → decide (numsT 32 q = s) = t) :
    refO s = if g && t then some q else Option.none := by
  unfold refO
  rw [if_neg h, ← hq, hg]
  cases g
  · rfl
  · rw [ht rfl]
theorem split_take {α β : Type} (f : α → β) {xs : List α} {k : Nat} {y : α} (h : xs[k]? = some y) : (xs.take (k + 1)).map f = (xs.take k).map f ++ [f y] := by rw [take_snocN h, List.map_append]; rfl
theorem dec_of_beq {a b : List UInt8} {t : Bool} (h : (a == b) = t) : decide (a = b) = t := by
  cases t
  · exact decide_eq_false (ne_of_beq_false h)
  · exact decide_eq_true (eq_of_beq h)
theorem splitC_le {c : UInt8} : ∀ {l : List UInt8} {a : List UInt8}, a ∈ splitC c l → a.length ≤ l.length := by
  intro l
  induction l with
  | nil => intro a h; simp [splitC] at h; subst h; exact Nat.le_refl _
  | cons b r ih =>
    intro a h
    unfold splitC at h
    split at h
    · rcases List.mem_cons.1 h with rfl | h
      · exact Nat.zero_le _
      · have := ih h; simp; omega
    · split at h
      · rename_i hs; exact absurd hs (splitC_ne c r)
      · rename_i x q hs
        rcases List.mem_cons.1 h with rfl | h
        · have := ih (a := x) (by rw [hs]; exact List.mem_cons_self)
          simp; omega
        · have := ih (a := a) (by rw [hs]; exact List.mem_cons_of_mem _ h)
          simp; omega
set_option maxRecDepth 100000 in
set_option maxHeartbeats 2000000 in
theorem sgParse_any (s : ByteArray) (hs : s.size ≤ 1048576) (w : World) : Calls Tryz.prog 66 #[.string s] w (RetOwT ((refO s.data.toList).getD []) (refO s.data.toList).isSome w) := by
  have hs1 : (splitC 32 s.data.toList).length ≤ s.data.toList.length + 1 := (splitC_len 32 _).2
  have hs2 : s.data.toList.length = s.size := by simp
  have hml : ∀ a ∈ splitC 32 s.data.toList, a.length ≤ s.data.toList.length := fun a h => splitC_le h
  have cS := l1Split_any s 32 (by omega) w
  obtain ⟨P, hP⟩ : ∃ P, P = splitC 32 s.data.toList := ⟨_, rfl⟩
  rw [← hP] at hs1 cS hml
  have HP := Lib.hid hP
  have HM := Lib.hid hml
  have CS : Hid (Calls Tryz.prog 98 #[.string s, .int .u8 32] w (RetRdS P w)) := cS
  clear hP hml cS
  cases hse : s.toList.isEmpty
  · have HN : Hid (s.data.toList ≠ []) := fun e => by rw [ByteArray.toList_eq, e] at hse; cases hse
    go_enter Tryz.func66, Tryz.ntmps66
    go_wp2_with fail
    refine CS.out.mono ?_
    rintro e w1 ⟨vp, rfl, hrd, hb1⟩
    obtain ⟨A, c, rfl, hc, hm⟩ := Rd.form hrd
    have HR := Lib.hid hrd
    have HB1 := Lib.hid hb1
    clear hrd hb1
    go_wp2_with fail
    go_loopw [4, 12] (fun q i wr => ∃ k : Nat, k ≤ P.length ∧ i = .int .i64 (k : Int) ∧ Hid (GrowI w1 w1.heap.size wr q ((P.take k).map readR))) (fun _ i _ => P.length - (intOf i).toNat)
    case atStart => exact ⟨0, Nat.zero_le _, rfl, GrowI.start w1⟩
    case round =>
      obtain ⟨k, hk, rfl, HG⟩ := hrel
      by_cases hlt : k < P.length
      · obtain ⟨b1, o1, c1, y, hv, _, hx, hcell1⟩ := Rd.atS (Rd.below HR.out HG.out.2.1 (Nat.le_refl _)) hlt
        injection hv with hv1 hv2 hv3; cases hv1; clear hv2 hv3
        have hy := HM.out y (List.mem_of_getElem? hx)
        have HS := Lib.hid (split_take readR hx)
        have cR : Calls Tryz.prog 99 #[.string ⟨y.toArray⟩] wr fun e w' => e = .returned (.int .i64 (readR y)) ∧ wr = w' := l1Read_any ⟨y.toArray⟩ (by show y.toArray.size ≤ _; simp; omega) wr
        have CR := Lib.hid cR
        have hln : ((P.take k).map readR).length ≤ P.length := by simp; omega
        clear hx cR
        go_wp2_with (first | (go_at_call 99; refine (CR.out).mono ?_; rintro e w' ⟨rfl, rfl⟩) | (at_builtin; refine GrowI.app rfl (.tmp 16) (.tmp 19) rfl HG.out (by omega) rfl rfl ?_; intro v' w2 hG'; have HG1 := Lib.hid hG'; clear hG'))
        go_roundw
        case rel => exact ⟨k + 1, by omega, by go_num, by rw [HS.out]; exact HG1.out⟩
        case measure => (simp [intOf]; try omega)
      · have hg := HG.out
        rw [List.take_of_length_le (by omega)] at hg
        obtain ⟨q, hq⟩ : ∃ q, q = P.map readR := ⟨_, rfl⟩
        rw [← hq] at hg
        have hql : q.length ≤ P.length := by rw [hq, List.length_map]; exact Nat.le_refl _
        rw [HP.out] at hq
        have HQ := Lib.hid hq
        have hrd := hg.own.rd
        have how := hg.own
        have hbw : Below w.heap.size w wr := HB1.out.trans (hg.2.1.mono HB1.out.size)
        have HBW := Lib.hid hbw
        have HOW := Lib.hid (how.mono HB1.out.size (Nat.le_refl _))
        obtain ⟨A2, c2, rfl, hc2, hm2⟩ := Rd.form hrd
        have HRD := Lib.hid hrd
        clear hg hq hrd how hbw HG
        have cL := sgList_any q _ _ _ HRD.out
        cases hg : sigsB q
        · rw [hg] at cL
          have HO := Lib.hid (refO_in HN.out HQ.out (t := true) hg (fun h => by cases h))
          have CL := Lib.hid cL
          clear cL hg
          go_wp2_with (go_at_call 52; refine (CL.out).mono ?_; rintro e w' ⟨rfl, rfl⟩)
          go_ret2
          rw [HO.out]
          exact retOwT _ (GrowI.nil HBW.out)
        · rw [hg] at cL
          have hsl := sigL_iff.1 hg
          have cN := sgLine_any q _ _ _ HRD.out (Nat.le_refl _) (by omega) hsl.2
          have CL := Lib.hid cL
          have CN := Lib.hid cN
          cases ht : (numsT 32 q == s.toList)
          all_goals
            have hd := ht
            rw [ByteArray.toList_eq] at hd
            have hd := dec_of_beq hd
            have HO := Lib.hid (refO_in HN.out HQ.out hg (fun _ => hd))
            clear hd cL cN hg hsl
            go_wp2_with (first | (go_at_call 52; refine (CL.out).mono ?_; rintro e w' ⟨rfl, rfl⟩) | (go_at_call 53; refine CN.out.mono ?_; rintro e w3 ⟨rfl, hb3⟩; have HB3 := Lib.hid hb3; clear hb3))
            go_ret2
            rw [HO.out]
            first
              | exact retOwT _ (GrowI.nil (HBW.out.trans (HB3.out.mono HBW.out.size)))
              | exact ⟨_, rfl, ((HOW.out.below HB3.out (Nat.le_refl _)).mono (Nat.le_refl _) HB3.out.size), HBW.out.trans (HB3.out.mono HBW.out.size)⟩
  · have HN : Hid (s.data.toList = []) := by
      have := List.isEmpty_iff.1 hse
      rwa [ByteArray.toList_eq] at this
    go_enter Tryz.func66, Tryz.ntmps66
    go_wp2_with fail
    go_ret2
    rw [HN.out]
    exact retOwT_nil w true
set_option maxRecDepth 100000 in
set_option maxHeartbeats 2000000 in
theorem sReadSignals_any (s : ByteArray) (hs : s.size ≤ 1048576) (w : World) : Calls Tryz.prog 20 #[.string s] w (RetOwT ((readO s.data.toList).getD []) (readO s.data.toList).isSome w) := by
  rw [← refO_eq]
  obtain ⟨xs, hxs⟩ : ∃ xs, xs = (refO s.data.toList).getD [] := ⟨_, rfl⟩
  obtain ⟨b, hb⟩ : ∃ b, b = (refO s.data.toList).isSome := ⟨_, rfl⟩
  have cP := sgParse_any s hs w
  rw [← hxs, ← hb] at cP ⊢
  have CP := Lib.hid cP
  clear cP hxs hb
  go_enter Tryz.func20, Tryz.ntmps20
  go_wp2_with fail
  refine CP.out.mono ?_
  rintro e w1 ⟨v, rfl, how, hbw⟩
  obtain ⟨A, c, rfl, hc⟩ := how.form
  have HOW := Lib.hid how
  clear how
  go_wp2_with fail
  go_ret2
  exact ⟨_, rfl, HOW.out, hbw⟩
end Go.Proofs.YtjnkdjokbamibaaGreatDoor
