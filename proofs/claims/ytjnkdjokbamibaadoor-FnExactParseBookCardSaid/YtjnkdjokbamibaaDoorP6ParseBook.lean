/- Texts of one claim, joined: Y2, Y9, Y10, Y11, S, Y4. -/
import Derived.Test.YtjnkdjokbamibaaDoorShelf
import Derived.Shelf.Strings.BuilderK
import Derived.Deep.RegionLaw
import Derived.Test.YtjnkdjokbamibaaDoorP5ParseBook
/- Plain laws on the texts of books: the text of a book is read back, and nothing else is. -/
namespace Go.Proofs.YtjnkdjokbamibaaDoor
open Go.RowKit
def lineT (p : Phr) : List UInt8 := p.1.data.toList ++ 32 :: numsT 45 p.2
def bookT (ps : List Phr) : List UInt8 := (ps.map fun p => lineT p ++ [10]).flatten
def linesO (s : List UInt8) : Option (List (List UInt8)) := if s = [] then some [] else if Lib.hasSuffix s [10] then some (splitC 10 (Lib.trimSuffix s [10])) else Option.none
def lineO (line : List UInt8) : Option Phr := match numsO 45 (Lib.cut line [32]).2.1 with
  | some l => some (⟨(Lib.cut line [32]).1.toArray⟩, l)
  | Option.none => Option.none
def bookO (s : List UInt8) : Option (List Phr) := match linesO s with
  | some ls => match allO lineO ls with
    | some b => if bookB b then some b else Option.none
    | Option.none => Option.none
  | Option.none => Option.none
theorem joinC_flat (c : UInt8) : ∀ {ls : List (List UInt8)}, ls ≠ [] → joinC c ls ++ [c] = (ls.map (· ++ [c])).flatten
  | [], h => absurd rfl h
  | [a], _ => by simp [joinC]
  | a :: b :: r, _ => by
    have ih := joinC_flat c (ls := b :: r) (by simp)
    rw [joinC_cons _ _ (by simp), List.map_cons, List.flatten_cons, ← ih]
    simp
theorem bookT_join {ps : List Phr} (h : ps ≠ []) : bookT ps = joinC 10 (ps.map lineT) ++ [10] := by
  rw [joinC_flat 10 (by simpa using h)]
  unfold bookT
  rw [List.map_map]; rfl
theorem suffix_snoc (a : List UInt8) (c : UInt8) : Lib.hasSuffix (a ++ [c]) [c] = true ∧ Lib.trimSuffix (a ++ [c]) [c] = a := by
  have h : Lib.hasSuffix (a ++ [c]) [c] = true := by
    unfold Lib.hasSuffix
    rw [List.isSuffixOf_iff_suffix]
    exact List.suffix_append _ _
  refine ⟨h, ?_⟩
  unfold Lib.trimSuffix
  rw [h, if_pos rfl]
  simp
theorem suffix_of {s : List UInt8} {c : UInt8} (h : Lib.hasSuffix s [c] = true) : s = Lib.trimSuffix s [c] ++ [c] := by
  have h0 := h
  unfold Lib.hasSuffix at h
  rw [List.isSuffixOf_iff_suffix] at h
  obtain ⟨a, rfl⟩ := h
  rw [(suffix_snoc a c).2]
theorem lineO_text {line : List UInt8} {p : Phr} (h : lineO line = some p) : lineT p = line ∧ True := by
  refine ⟨?_, trivial⟩
  unfold lineO at h
  rcases cut_or 32 line with ⟨_, hc⟩ | ⟨a, r, rfl, _, hc⟩
  · rw [hc] at h
    simp [numsO, splitC, allO, readN, Lib.atoiAll] at h
  · rw [hc] at h
    cases hn : numsO 45 r with
    | none => simp [hn] at h
    | some l =>
      simp [hn] at h
      subst h
      unfold lineT
      rw [nums_text hn]
theorem phr_text {p : Phr} (h : phrOk p = true) : 1 ≤ p.1.data.toList.length ∧ p.1.data.toList.length ≤ 12 ∧ ∀ b ∈ p.1.data.toList, 97 ≤ b.toNat ∧ b.toNat ≤ 122 := by
  unfold phrOk phraseB smallB at h
  simp only [Bool.and_eq_true, decide_eq_true_eq, List.all_eq_true] at h
  exact ⟨h.1.1.1, h.1.1.2, h.1.2⟩
theorem phr_sigs {p : Phr} (h : phrOk p = true) : 1 ≤ p.2.length ∧ p.2.length ≤ 3 ∧ ∀ n ∈ p.2, 1 ≤ n ∧ n ≤ 60 := by
  unfold phrOk sigOk allB at h
  simp only [Bool.and_eq_true, inB_iff, List.all_eq_true] at h
  have h1 := h.2.1
  exact ⟨by omega, by omega, fun n hn => h.2.2 n hn⟩
theorem phr_no {p : Phr} (h : phrOk p = true) {c : UInt8} (hc : c.toNat < 97) : c ∉ p.1.data.toList := fun hm => by have := (phr_text h).2.2 c hm; omega
theorem phr_63 {p : Phr} (h : phrOk p = true) : ∀ n ∈ p.2, 0 ≤ n ∧ n ≤ 63 := fun n hn => by have := (phr_sigs h).2.2 n hn; omega
theorem phr_ne {p : Phr} (h : phrOk p = true) : p.2 ≠ [] := fun e => by have := (phr_sigs h).1; rw [e] at this; simp at this
theorem line_no {p : Phr} (h : phrOk p = true) : 10 ∉ lineT p := by
  unfold lineT
  intro hm
  rcases List.mem_append.1 hm with hm | hm
  · exact phr_no h (by decide) hm
  · rcases List.mem_cons.1 hm with hm | hm
    · cases hm
    · exact numsT_no (by decide) (.inl (by decide)) (phr_63 h) hm
theorem text_lineO {p : Phr} (h : phrOk p = true) : lineO (lineT p) = some p := by
  unfold lineO lineT
  rw [cut_hit _ (phr_no h (by decide))]
  simp only [text_nums (c := 45) (by decide) (phr_ne h) (phr_63 h)]
theorem book_ne {ps : List Phr} (h : bookB ps = true) : ps ≠ [] := fun e => by have := bookB_len h; rw [e] at this; simp at this
theorem book_lines {ps : List Phr} (h : bookB ps = true) : splitC 10 (joinC 10 (ps.map lineT)) = ps.map lineT := by
  refine split_join (by simpa using book_ne h) (fun a ha => ?_)
  obtain ⟨p, hp, rfl⟩ := List.mem_map.1 ha
  exact line_no (bookB_phr h hp)
theorem bookO_iff {s : List UInt8} {b : List Phr} : bookO s = some b ↔ bookB b = true ∧ bookT b = s := by
  constructor
  · intro h
    unfold bookO at h
    cases hl : linesO s with
    | none => rw [hl] at h; cases h
    | some ls =>
      rw [hl] at h
      cases ha : allO lineO ls with
      | none => simp [ha] at h
      | some q =>
        simp only [ha] at h
        split at h
        · rename_i hb
          cases h
          refine ⟨hb, ?_⟩
          have hm := (allO_inv (P := fun _ => True) (fun a n hn => lineO_text hn) ha).1
          unfold linesO at hl
          split at hl
          · cases hl
            have : b = [] := by simpa using hm
            exact absurd this (book_ne hb)
          · split at hl
            · rename_i hs
              cases hl
              rw [bookT_join (book_ne hb), hm, join_split]
              exact (suffix_of hs).symm
            · cases hl
        · cases h
  · rintro ⟨h1, rfl⟩
    have h2 := suffix_snoc (joinC 10 (b.map lineT)) 10
    unfold bookO linesO
    rw [bookT_join (book_ne h1), if_neg (by simp), h2.1, if_pos rfl, h2.2, book_lines h1]
    simp only [allO_map (fun p hp => text_lineO (bookB_phr h1 hp)), h1, if_true]
/-- As the reference reads a line, and a book. -/
def refLine (line : List UInt8) : Option Phr := match splitC 32 line with
  | [a, r] => some (⟨a.toArray⟩, (splitC 45 r).map readR)
  | _ => Option.none
def refB (s : List UInt8) : Option (List Phr) := if 41 < (splitC 10 s).length then Option.none else match allO refLine (splitC 10 s).dropLast with
  | some b => if bookB b && decide (bookT b = s) then some b else Option.none
  | Option.none => Option.none
theorem text_refLine {p : Phr} (h : phrOk p = true) : refLine (lineT p) = some p := by
  unfold refLine lineT
  rw [splitC_hit _ (phr_no h (by decide)), splitC_no (numsT_no (by decide) (.inl (by decide)) (phr_63 h))]
  simp only [nums_parts (c := 45) (by decide) (phr_ne h) (phr_63 h), map_readR (phr_63 h)]
theorem refB_eq (s : List UInt8) : refB s = bookO s := by
  apply Option.ext
  intro b
  rw [bookO_iff]
  unfold refB
  constructor
  · intro h
    split at h
    · cases h
    · split at h
      · split at h
        · rename_i hc
          rw [Bool.and_eq_true, decide_eq_true_eq] at hc
          cases h; exact hc
        · cases h
      · cases h
  · rintro ⟨h1, rfl⟩
    have hb := bookB_len h1
    have hs : splitC 10 (bookT b) = b.map lineT ++ [[]] := by
      rw [bookT_join (book_ne h1), show joinC 10 (b.map lineT) ++ [10] = joinC 10 (b.map lineT ++ [[]]) by rw [joinC_snoc, if_neg (by simpa using book_ne h1)]]
      refine split_join (by simp) (fun a ha => ?_)
      rcases List.mem_append.1 ha with ha | ha
      · obtain ⟨p, hp, rfl⟩ := List.mem_map.1 ha
        exact line_no (bookB_phr h1 hp)
      · simp at ha; subst ha; simp
    rw [hs, if_neg (by simp; omega), List.dropLast_concat, allO_map (fun p hp => text_refLine (bookB_phr h1 hp))]
    simp [h1]
end Go.Proofs.YtjnkdjokbamibaaDoor
/- Contracts: the lines of a text; of the program. -/
namespace Go.Proofs.YtjnkdjokbamibaaDoor
open Go.RowKit
def RetRdST (xs : List (List UInt8)) (b : Bool) (w : World) (e : Ending) (w' : World) : Prop := ∃ v, e = .returned (.tuple #[v, .bool b]) ∧ Rd w' w'.heap.size 1 v xs.length (strsT xs) ∧ Below w.heap.size w w'
theorem rd_nilS (w : World) (hi : Nat) : Rd w hi 1 (.slice Option.none 0 0) 0 (strsT []) := ⟨rfl, _, _, rfl, Nat.le_refl _, Nat.zero_le _, fun h => absurd h (by omega)⟩
theorem linesO_some {s : List UInt8} (h : s ≠ []) (hf : Lib.hasSuffix s [10] = true) : linesO s = some (splitC 10 (Lib.trimSuffix s [10])) := by
  unfold linesO; rw [if_neg h, if_pos hf]
theorem linesO_none {s : List UInt8} (h : s ≠ []) (hf : Lib.hasSuffix s [10] = false) : linesO s = Option.none := by
  unfold linesO; rw [if_neg h, if_neg (by rw [hf]; decide)]
set_option maxRecDepth 100000 in
set_option maxHeartbeats 4000000 in
theorem linesOf_any (s : ByteArray) (hs : s.size ≤ 1048576) (w : World) (hL : LW w) : Calls Tryd.prog 28 #[.string s] w (RetRdST ((linesO s.data.toList).getD []) (linesO s.data.toList).isSome w) := by
  cases hse : s.toList.isEmpty
  · have hne : s.data.toList ≠ [] := fun e => by rw [ByteArray.toList_eq, e] at hse; cases hse
    have cC := Tryd.strings_CutSuffix s ⟨#[10]⟩ w (by omega)
    have eT : (⟨#[10]⟩ : ByteArray).data.toList = [10] := rfl
    rw [eT] at cC
    cases hf : Lib.hasSuffix s.data.toList [10]
    · rw [hf] at cC
      have HO := Lib.hid (linesO_none hne hf)
      have CC := Lib.hid cC
      clear cC hf hne
      go_enter Tryd.func28, Tryd.ntmps28
      go_wp2_with fail
      refine CC.out.mono ?_
      rintro e w1 ⟨rfl, hw1⟩
      subst hw1
      go_wp2_with fail
      go_ret2
      rw [HO.out]
      exact ⟨_, rfl, rd_nilS _ _, Below.refl _ _⟩
    · rw [hf] at cC
      have HO := Lib.hid (linesO_some hne hf)
      have hsf := suffix_of hf
      have hlt : (Lib.trimSuffix s.data.toList [10]).length ≤ s.size := by
        have := congrArg List.length hsf
        simp at this; omega
      obtain ⟨T, hT⟩ : ∃ T, T = Lib.trimSuffix s.data.toList [10] := ⟨_, rfl⟩
      rw [← hT] at cC HO hlt
      have CC := Lib.hid cC
      obtain ⟨m, hm⟩ := hL.2.1
      have hts : (⟨T.toArray⟩ : ByteArray).size = T.length := by show T.toArray.size = _; simp
      have cS := Tryd.strings_Split ⟨T.toArray⟩ ⟨#[10]⟩ m w (by omega) hm (Nat.le_refl 1)
      have e0 : (⟨T.toArray⟩ : ByteArray).data.toList = T := rfl
      rw [split_txts, split_count, e0] at cS
      have CS := Lib.hid cS
      have hsl := (splitC_len 10 T).2
      have HR := Lib.hid (rd_strs w (splitC 10 T) (by unfold maxLen; omega))
      have HB : Hid (Below w.heap.size w (w.alloc (.cells (strsT (splitC 10 T)).toArray 9))) := (Below.refl _ _).alloc (Nat.le_refl _) _
      have hz1 : (w.alloc (.cells (strsT (splitC 10 T)).toArray 9)).heap.size = w.heap.size + 1 := by simp
      have HZ := Lib.hid hz1
      clear cC cS hf hne hsf hT hm e0 eT hz1
      go_enter Tryd.func28, Tryd.ntmps28
      go_wp2_with fail
      refine CC.out.mono ?_
      rintro e w1 ⟨rfl, hw1⟩
      subst hw1
      go_wp2_with fail
      refine CS.out.mono ?_
      rintro e w1 ⟨rfl, hw1⟩
      rw [← hw1] at HR HB HZ
      clear hw1
      go_wp2_with fail
      go_ret2
      rw [HO.out]
      exact ⟨_, rfl, HR.out.mono (by rw [HZ.out]; exact Nat.le_refl _), HB.out⟩
  · have HN : Hid (s.data.toList = []) := by
      have := List.isEmpty_iff.1 hse
      rwa [ByteArray.toList_eq] at this
    go_enter Tryd.func28, Tryd.ntmps28
    go_wp2_with fail
    go_ret2
    rw [HN.out]
    exact ⟨_, rfl, rd_nilS _ _, Below.refl _ _⟩
end Go.Proofs.YtjnkdjokbamibaaDoor
/- Towards ParseBook of the program: one line of a text. -/
namespace Go.Proofs.YtjnkdjokbamibaaDoor
open Go.RowKit
theorem cut_le (l : List UInt8) : (Lib.cut l [32]).1.length ≤ l.length ∧ (Lib.cut l [32]).2.1.length ≤ l.length := by
  rcases cut_or 32 l with ⟨_, h⟩ | ⟨a, r, h1, _, h⟩
  · rw [h]; exact ⟨Nat.le_refl _, Nat.zero_le _⟩
  · rw [h]; have := congrArg List.length h1; simp at this; exact ⟨by show a.length ≤ _; omega, by show r.length ≤ _; omega⟩
theorem lineO_some {l : List UInt8} {x : List Int} (h : numsO 45 (Lib.cut l [32]).2.1 = some x) : lineO l = some (⟨(Lib.cut l [32]).1.toArray⟩, x) := by unfold lineO; rw [h]
theorem lineO_none {l : List UInt8} (h : numsO 45 (Lib.cut l [32]).2.1 = Option.none) : lineO l = Option.none := by unfold lineO; rw [h]
theorem bookO_no {s : List UInt8} (h : linesO s = Option.none) : bookO s = Option.none := by unfold bookO; rw [h]
theorem bookO_bad {s : List UInt8} {ls : List (List UInt8)} (h : linesO s = some ls) (g : allO lineO ls = Option.none) : bookO s = Option.none := by unfold bookO; rw [h]; simp only [g]
theorem bookO_end {s : List UInt8} {ls : List (List UInt8)} {b : List Phr} (h : linesO s = some ls) (g : allO lineO ls = some b) : bookO s = if bookB b then some b else Option.none := by unfold bookO; rw [h]; simp only [g]
theorem linesO_le {s : List UInt8} {ls : List (List UInt8)} (h : linesO s = some ls) : ls.length ≤ s.length + 1 ∧ ∀ l ∈ ls, l.length ≤ s.length := by
  unfold linesO at h
  split at h
  · cases h; exact ⟨Nat.zero_le _, fun l hl => by cases hl⟩
  · split at h
    · rename_i hf
      have h1 := congrArg List.length (suffix_of hf)
      simp at h1
      cases h
      have h2 := (splitC_len 10 (Lib.trimSuffix s [10])).2
      exact ⟨by omega, fun l hl => by have := splitC_le hl; omega⟩
    · cases h
end Go.Proofs.YtjnkdjokbamibaaDoor
/- Contracts: ParseBook of the program. -/
namespace Go.Proofs.YtjnkdjokbamibaaDoor
open Go.RowKit
theorem lineO_cut {l a r : List UInt8} {f : Bool} {x : List Int} (hc : Lib.cut l [32] = (a, r, f)) (h : numsO 45 r = some x) : lineO l = some (⟨a.toArray⟩, x) := by
  have := lineO_some (l := l) (x := x) (by rw [hc]; exact h)
  rw [hc] at this; exact this
theorem lineO_cutn {l a r : List UInt8} {f : Bool} (hc : Lib.cut l [32] = (a, r, f)) (h : numsO 45 r = Option.none) : lineO l = Option.none := lineO_none (by rw [hc]; exact h)
theorem take_snocL {α : Type} {p : List α} {k : Nat} {a : α} (h : p[k]? = some a) : p.take (k + 1) = p.take k ++ [a] := by rw [List.take_add_one, h]; rfl
set_option maxRecDepth 100000 in
set_option maxHeartbeats 4000000 in
theorem ParseBook_any (s : ByteArray) (hs : s.size ≤ 1048576) (w : World) (hL : LW w) : Calls Tryd.prog 8 #[.string s] w (RetOwBT ((bookO s.data.toList).getD []) (bookO s.data.toList).isSome w) := by
  have HL := Lib.hid hL
  clear hL
  obtain ⟨wa, hwa⟩ : ∃ x, x = w.alloc (.cells #[.slice Option.none 0 0] 24) := ⟨_, rfl⟩
  have hb0 : Below w.heap.size w wa := by rw [hwa]; exact (Below.refl _ _).alloc (Nat.le_refl _) _
  have hR0 : Blk wa w.heap.size 24 [.slice Option.none 0 0] := by rw [hwa]; exact Blk.new w 24 #[.slice Option.none 0 0]
  have cl := linesOf_any s hs wa (HL.out.below hb0)
  rcases hl : linesO s.data.toList with _ | P
  · rw [hl] at cl
    have HO := Lib.hid (bookO_no hl)
    have CL := Lib.hid cl
    have HB0 := Lib.hid hb0
    have HR0 := Lib.hid hR0
    clear cl hl hb0 hR0
    go_enter Tryd.func8, Tryd.ntmps8
    go_wp2_with fail
    rw [← hwa]
    refine CL.out.mono ?_
    rintro e w1 ⟨v, rfl, hrd, hb1⟩
    have hr1 := HR0.out.below hb1 HR0.out.lt
    have hrc := hr1.cell 0
    have hrf := hr1.frozen 0
    have c10 := (hr1.set_ 0 (.slice Option.none 0 0)).cell 0
    have HLX := Lib.hid ((HB0.out.trans (hb1.mono HB0.out.size)).setCell (p := ⟨w.heap.size, 0, Option.none⟩) (Nat.le_refl _) (.slice Option.none 0 0))
    clear hrd hb1 hr1
    go_wp2_with fail
    refine bodyPost_ret (v := .tuple #[.agg #[.slice Option.none 0 0], .bool false]) (by simp [results, Tryd.results8, go_sem, c10]) rfl ?_
    exact ⟨_, by rw [HO.out]; rfl, by rw [HO.out]; exact owPS_nil _ _ _, HLX.out⟩
  · rw [hl] at cl
    have CL : Hid (Calls Tryd.prog 28 #[.string s] wa (RetRdST P true wa)) := cl
    obtain ⟨hP1, hP2⟩ := linesO_le hl
    have hs2 : s.data.toList.length = s.size := by simp
    have HM := Lib.hid hP2
    have HLN := Lib.hid hl
    have HB0 := Lib.hid hb0
    have HR0 := Lib.hid hR0
    have hsa : w.heap.size < wa.heap.size := hR0.lt
    clear cl hl hb0 hR0 hP2
    go_enter Tryd.func8, Tryd.ntmps8
    go_wp2_with fail
    rw [← hwa]
    clear hwa
    refine CL.out.mono ?_
    rintro e w1 ⟨v, rfl, hrd, hb1⟩
    obtain ⟨A, c, rfl, hc, hm⟩ := Rd.form hrd
    have hs1 : wa.heap.size ≤ w1.heap.size := hb1.size
    obtain ⟨w2, hw2⟩ : ∃ x, x = w1.alloc (.cells #[.slice Option.none 0 0] 24) := ⟨_, rfl⟩
    have hb2 : Below w1.heap.size w1 w2 := by rw [hw2]; exact (Below.refl _ _).alloc (Nat.le_refl _) _
    have hX2 : Blk w2 w1.heap.size 24 [.slice Option.none 0 0] := by rw [hw2]; exact Blk.new w1 _ _
    have hz2 : w2.heap.size = w1.heap.size + 1 := by rw [hw2]; simp
    have HX2 := Lib.hid hX2
    have HR2 := Lib.hid ((HR0.out.below hb1 hsa).below hb2 (by omega))
    have HRD := Lib.hid (hrd.below hb2 (Nat.le_refl _))
    have HB2 := Lib.hid ((HB0.out.trans (hb1.mono (by omega))).trans (hb2.mono (by omega)))
    have HW2 := Lib.hid hw2
    clear hrd hb1 hb2 hX2 hw2 HB0 HR0 CL
    go_wp2_with fail
    rw [← HW2.out]
    clear HW2
    go_loopw [24] (fun i wr => ∃ (k : Nat) (ps : List Phr) (A5 : Option Addr) (c5 : Nat), k ≤ P.length ∧ i = .int .i64 (k : Int) ∧ ps.length ≤ k ∧ Hid (allO lineO (P.take k) = some ps) ∧ Hid (OwPS wr w2.heap.size wr.heap.size (.slice A5 ps.length c5) ps) ∧ Hid (Blk wr w1.heap.size 24 [.slice A5 ps.length c5]) ∧ Hid (Below w1.heap.size w2 wr)) (fun i _ => P.length - (intOf i).toNat)
    case atStart => exact ⟨0, [], Option.none, 0, Nat.zero_le _, rfl, Nat.le_refl _, rfl, owPS_nil _ _ _, HX2.out, Below.refl _ _⟩
    case round =>
      obtain ⟨k, ps, A5, c5, hk, rfl, hps, HA, HO, HX, HBq⟩ := hrel
      have hsq : w2.heap.size ≤ wr.heap.size := HBq.out.size
      have hbw : Below w.heap.size w wr := HB2.out.trans (HBq.out.mono (by omega))
      have hRq := HR2.out.below HBq.out (by omega)
      have hlw := HL.out.below hbw
      have HBW := Lib.hid hbw
      have HRQ := Lib.hid hRq
      clear hbw hRq HX2
      by_cases hlt : k < P.length
      · obtain ⟨b1, o1, c1, y, hv, _, hx, hcell1⟩ := Rd.atS (Rd.below HRD.out HBq.out (Nat.le_refl _)) hlt
        injection hv with hv1 hv2 hv3; cases hv1; clear hv2 hv3
        have hy := HM.out y (List.mem_of_getElem? hx)
        have hcl := cut_le y
        obtain ⟨a1, r1, f1, hct⟩ : ∃ a r f, Lib.cut y [32] = (a, r, f) := ⟨_, _, _, rfl⟩
        obtain ⟨m, hm0⟩ := hlw.2.1
        have cC := Tryd.strings_Cut ⟨y.toArray⟩ ⟨#[32]⟩ m wr (by show y.toArray.size < _; simp; omega) hm0
        have e0 : (⟨y.toArray⟩ : ByteArray).data.toList = y := rfl
        have e1 : (⟨#[32]⟩ : ByteArray).data.toList = [32] := rfl
        rw [e0, e1, hct] at cC
        rw [hct] at hcl
        have ha1 : a1.length ≤ y.length := hcl.1
        have hr1 : r1.length ≤ y.length := hcl.2
        have CC := Lib.hid cC
        have HLW := Lib.hid hlw
        have hts : (⟨a1.toArray⟩ : ByteArray).size ≤ 9223372036854775807 := by show a1.toArray.size ≤ _; simp; omega
        have cN := fun (wx : World) (h : LW wx) => splitNumbers_any ⟨r1.toArray⟩ 45 (by show r1.toArray.size ≤ _; simp; omega) wx h
        have e2 : (⟨r1.toArray⟩ : ByteArray).data.toList = r1 := rfl
        rw [e2] at cN
        clear cC hcl hlw hm0 e0 e1 e2
        rcases hn : numsO 45 r1 with _ | x
        · rw [hn] at cN
          have CN := Lib.hid cN
          have HE := Lib.hid (bookO_bad HLN.out (allO_no hx (lineO_cutn hct hn)))
          clear cN hn hct hx
          go_wp2_with fail
          refine CC.out.mono ?_
          rintro e w3 ⟨rfl, n3, hw3⟩
          have hb3 : Below wr.heap.size wr w3 := by rw [hw3]; exact bel_drewN _ _ _
          have HR3 := Lib.hid (HRQ.out.below hb3 (by omega))
          have HB3 := Lib.hid (HBW.out.trans (hb3.mono (by omega)))
          have hs3 := hb3.size
          clear hw3 hb3 HRQ HBW
          go_wp2_with fail
          refine (CN.out w3 (HL.out.below HB3.out)).mono ?_
          rintro e w4 ⟨v4, rfl, how, hb4⟩
          obtain ⟨A4, c4, rfl, _⟩ := how.form
          have hr4 := HR3.out.below hb4 (by omega)
          have hrc := hr4.cell 0
          have hrf := hr4.frozen 0
          have c10 := (hr4.set_ 0 (.slice Option.none 0 0)).cell 0
          have HLX := Lib.hid ((HB3.out.trans (hb4.mono (by omega))).setCell (p := ⟨w.heap.size, 0, Option.none⟩) (Nat.le_refl _) (.slice Option.none 0 0))
          clear how hb4 hr4
          go_wp2_with fail
          refine bodyPost_ret (v := .tuple #[.agg #[.slice Option.none 0 0], .bool false]) (by simp [results, Tryd.results8, go_sem, c10]) rfl ?_
          exact ⟨_, by rw [HE.out]; rfl, by rw [HE.out]; exact owPS_nil _ _ _, HLX.out⟩
        · rw [hn] at cN
          have CN : Hid (∀ wx, LW wx → Calls Tryd.prog 30 #[.string ⟨r1.toArray⟩, .string ⟨#[45]⟩] wx (RetOwT x true wx)) := cN
          have HA2 : Hid (allO lineO (P.take (k + 1)) = some (ps ++ [(⟨a1.toArray⟩, x)])) := by
            show _ = _
            rw [take_snocL hx]; exact allO_snoc HA.out (lineO_cut hct hn)
          clear cN hn hct hx
          go_wp2_with fail
          refine CC.out.mono ?_
          rintro e w3 ⟨rfl, n3, hw3⟩
          have hb3 : Below wr.heap.size wr w3 := by rw [hw3]; exact bel_drewN _ _ _
          have hs3 : w3.heap.size = wr.heap.size := by rw [hw3]; rfl
          have HB3 := Lib.hid hb3
          clear hw3 hb3
          go_wp2_with fail
          refine (CN.out w3 (HLW.out.below HB3.out)).mono ?_
          rintro e w4 ⟨v4, rfl, how, hb4⟩
          obtain ⟨A4, c4, rfl, _⟩ := how.form
          have hb4' : Below wr.heap.size wr w4 := HB3.out.trans (hb4.mono (by omega))
          have hX4 := HX.out.below hb4' (by omega)
          have hxc := hX4.cell 0
          have HB4 := Lib.hid hb4'
          have HW4 := Lib.hid (how.mono (show wr.heap.size ≤ w3.heap.size by omega) (Nat.le_refl _))
          have HG := Lib.hid (growO_of HO.out (Below.refl _ _) hsq)
          have HTS := Lib.hid hts
          clear how hb4 hb4' hX4 hts
          go_wp2_with (at_builtin; refine GrowO.app rfl (.tmp 43) (.tmp 47) rfl HG.out HB4.out HW4.out HTS.out (by omega) rfl rfl rfl ?_; intro v' w6 hG' hfr hsz6; obtain ⟨A6, c6, hv6, _⟩ := hG'.form; subst hv6; have hX6 := HX.out.below hG'.2.2.1 (show w1.heap.size < w2.heap.size by omega); have hxc6 := hX6.cell 0; have hxf6 := hX6.frozen 0; have HX6 := Lib.hid hX6; have HG6 := Lib.hid hG'; clear hG' hfr hX6)
          have hl1 : (ps ++ [((⟨a1.toArray⟩ : ByteArray), x)]).length = ps.length + 1 := by simp
          have HO7 : Hid (OwPS (w6.setCell ⟨w1.heap.size, 0, Option.none⟩ (.slice A6 (ps.length + 1) c6)) w2.heap.size (w6.setCell ⟨w1.heap.size, 0, Option.none⟩ (.slice A6 (ps.length + 1) c6)).heap.size (.slice A6 (ps ++ [((⟨a1.toArray⟩ : ByteArray), x)]).length c6) (ps ++ [((⟨a1.toArray⟩ : ByteArray), x)])) :=
            (HG6.out.own.far HX6.out (.slice A6 (ps.length + 1) c6)).mono (Nat.le_refl _) (by rw [World.size_setCell]; exact Nat.le_refl _)
          have HX7 : Hid (Blk (w6.setCell ⟨w1.heap.size, 0, Option.none⟩ (.slice A6 (ps.length + 1) c6)) w1.heap.size 24 [.slice A6 (ps ++ [((⟨a1.toArray⟩ : ByteArray), x)]).length c6]) := by
            show Blk _ _ _ _
            rw [hl1]; exact HX6.out.set_ 0 _
          have HB7 : Hid (Below w1.heap.size w2 (w6.setCell ⟨w1.heap.size, 0, Option.none⟩ (.slice A6 (ps.length + 1) c6))) := (HBq.out.trans (HG6.out.2.2.1.mono (by omega))).setCell (p := ⟨w1.heap.size, 0, Option.none⟩) (Nat.le_refl _) _
          go_roundw
          case rel => exact ⟨k + 1, ps ++ [((⟨a1.toArray⟩ : ByteArray), x)], A6, c6, by omega, by go_num, by rw [hl1]; omega, HA2, HO7, HX7, HB7⟩
          case measure => (simp [intOf]; try omega)
      · have ha := HA.out
        rw [List.take_of_length_le (by omega)] at ha
        have HE := Lib.hid (bookO_end HLN.out ha)
        have hxc := HX.out.cell 0
        have cB := IsBook_any ps (.agg #[.slice A5 ps.length c5]) wr.heap.size wr ⟨_, rfl, HO.out.rd⟩ (Nat.le_refl _)
        clear ha
        cases hbk : bookB ps
        · rw [hbk] at cB
          have HE2 : Hid (bookO s.data.toList = Option.none) := by
            show _ = _
            rw [HE.out, hbk]; rfl
          have CB := Lib.hid cB
          clear cB hbk HE
          go_wp2_with fail
          refine CB.out.mono ?_
          rintro e w3 ⟨rfl, hb3⟩
          have hr4 := HRQ.out.below hb3 (by omega)
          have hrc := hr4.cell 0
          have hrf := hr4.frozen 0
          have c10 := (hr4.set_ 0 (.slice Option.none 0 0)).cell 0
          have HLX := Lib.hid ((HBW.out.trans (hb3.mono (by omega))).setCell (p := ⟨w.heap.size, 0, Option.none⟩) (Nat.le_refl _) (.slice Option.none 0 0))
          clear hb3 hr4
          go_wp2_with fail
          refine bodyPost_ret (v := .tuple #[.agg #[.slice Option.none 0 0], .bool false]) (by simp [results, Tryd.results8, go_sem, c10]) rfl ?_
          exact ⟨_, by rw [HE2.out]; rfl, by rw [HE2.out]; exact owPS_nil _ _ _, HLX.out⟩
        · rw [hbk] at cB
          have HE2 : Hid (bookO s.data.toList = some ps) := by
            show _ = _
            rw [HE.out, hbk]; rfl
          have CB := Lib.hid cB
          clear cB hbk HE
          go_wp2_with fail
          refine CB.out.mono ?_
          rintro e w3 ⟨rfl, hb3⟩
          have hr4 := HRQ.out.below hb3 (by omega)
          have hrc := hr4.cell 0
          have hrf := hr4.frozen 0
          have hx4 := HX.out.below hb3 (by omega)
          have hxc4 := hx4.cell 0
          have c10 := (hr4.set_ 0 (.slice A5 ps.length c5)).cell 0
          have HLX := Lib.hid ((HBW.out.trans (hb3.mono (by omega))).setCell (p := ⟨w.heap.size, 0, Option.none⟩) (Nat.le_refl _) (.slice A5 ps.length c5))
          have HOX := Lib.hid (((HO.out.below hb3 (Nat.le_refl _)).far hr4 (.slice A5 ps.length c5)).mono (show w.heap.size ≤ w2.heap.size by omega) (show wr.heap.size ≤ (w3.setCell ⟨w.heap.size, 0, Option.none⟩ (.slice A5 ps.length c5)).heap.size by have := hb3.size; simpa [World.setCell] using this))
          clear hb3 hr4 hx4
          go_wp2_with fail
          refine bodyPost_ret (v := .tuple #[.agg #[.slice A5 ps.length c5], .bool true]) (by simp [results, Tryd.results8, go_sem, c10]) rfl ?_
          exact ⟨_, by rw [HE2.out]; rfl, by rw [HE2.out]; exact HOX.out, HLX.out⟩
end Go.Proofs.YtjnkdjokbamibaaDoor
/- The library's strings.Builder at this dump: its contracts, laid by hand (the numbers of functions and types put in their places). -/
namespace Go.Proofs.YtjnkdjokbamibaaDoor
open Go Go.RowKit
/-- A builder of the call's own that holds the bytes l. -/
def Bld (B b : Nat) (l : List UInt8) (w : World) : Prop := Lib.IsBuilder 81 5 B b (Lib.byteCells l) w
end Go.Proofs.YtjnkdjokbamibaaDoor
/- Contracts: the texts of books; of the reference and of the program. -/
namespace Go.Proofs.YtjnkdjokbamibaaDoor
open Go.RowKit
theorem bookT_snoc {ps : List Phr} {k : Nat} {p : Phr} (h : ps[k]? = some p) : bookT (ps.take (k + 1)) = bookT (ps.take k) ++ (p.1.data.toList ++ 32 :: numsT 45 p.2 ++ [10]) := by
  unfold bookT
  rw [take_snocN h, List.map_append, List.flatten_append]
  simp [lineT]
theorem bldAt_below {B b : Nat} {p : Value} {l : List Value} {w w' : World} (h : Lib.BuilderAt 81 5 B b p l w) (hb : Below w.heap.size w w') : Lib.BuilderAt 81 5 B b p l w' := by
  obtain ⟨h1, v, h2, h3, h4⟩ := h
  exact ⟨h1, v, (hb.block b (Array.getElem?_eq_some_iff.1 h2).1).trans h2, owns_below h3 (fun k hk => (h3.lt k hk).2) hb (Nat.le_refl _), h4⟩
theorem Bld.below {B b : Nat} {l : List UInt8} {w w' : World} (h : Bld B b l w) (hb : Below w.heap.size w w') : Bld B b l w' := by
  rcases h with h | h
  · exact .inl (bldAt_below h hb)
  · exact .inr (bldAt_below h hb)
theorem bookT_le : ∀ {q : List Phr}, (∀ p ∈ q, phrOk p = true) → (bookT q).length ≤ 23 * q.length := by
  intro q
  induction q with
  | nil => intro _; simp [bookT]
  | cons p r ih =>
    intro hq
    have h1 := phr_text (hq p (by simp))
    have h2 := phr_sigs (hq p (by simp))
    have h3 := numsT_len (c := 45) (phr_63 (hq p (by simp)))
    have ih := ih (fun x hx => hq x (by simp [hx]))
    unfold bookT at ih ⊢
    rw [List.map_cons, List.flatten_cons, List.length_append]
    unfold lineT at ih ⊢
    simp only [List.length_append, List.length_cons, List.length_nil] at ih ⊢
    omega
theorem take_sub {ps : List Phr} (h : bookB ps = true) (k : Nat) : (bookT (ps.take k)).length ≤ 1000 := by
  have h1 := bookB_len h
  have h2 : ∀ p ∈ ps.take k, phrOk p = true := fun p hp => bookB_phr h (List.mem_of_mem_take hp)
  have h3 := bookT_le h2
  rw [List.length_take] at h3
  omega
set_option maxRecDepth 100000 in
set_option maxHeartbeats 4000000 in
theorem bkText_any (ps : List Phr) (v : Value) (hi : Nat) (w : World) (h : RdB w hi v ps) (hh : hi ≤ w.heap.size) (hbk : bookB ps = true) :
    Calls Tryd.prog 27 #[v] w fun e w' => e = .returned (.string ⟨(bookT ps).toArray⟩) ∧ Below w.heap.size w w' := by
  obtain ⟨a, rfl, ha⟩ := h
  obtain ⟨A, c, rfl, hc, hm⟩ := ha.form
  have hba : Below w.heap.size w (w.alloc (.cells #[.slice A ps.length c] 24)) := (Below.refl _ _).alloc (Nat.le_refl _) _
  have HB := Lib.hid hba
  have HA := Lib.hid (ha.below hba hh)
  have hsz1 : hi ≤ (w.alloc (.cells #[.slice A ps.length c] 24)).heap.size := by simp; omega
  clear ha hba
  have HBK := Lib.hid hbk
  clear hbk
  go_enter Tryd.func27, Tryd.ntmps27
  go_wp2_with fail
  go_loopw [3, 11] (fun s i wr => ∃ k : Nat, k ≤ ps.length ∧ i = .int .i64 (k : Int) ∧ s = .string ⟨(bookT (ps.take k)).toArray⟩ ∧ Hid (Below (w.heap.size + 1) (w.alloc (.cells #[.slice A ps.length c] 24)) wr) ∧ w.heap.size + 1 ≤ wr.heap.size) (fun _ i _ => ps.length - (intOf i).toNat)
  case atStart => exact ⟨0, Nat.zero_le _, rfl, rfl, Below.refl _ _, by simp⟩
  case round =>
    obtain ⟨k, hk, rfl, rfl, hbr, hs⟩ := hrel
    by_cases hlt : k < ps.length
    · obtain ⟨b2, o2, c2, a2, t, xs, hv, hb2, hx, hcell2, hcell3, hra, hta⟩ := (HA.out.below hbr.out (by omega)).at_ hlt
      cases hv
      obtain ⟨A2, cc2, rfl, hcc2, hmm2⟩ := Rd.form hra
      have hok := bookB_phr HBK.out (List.mem_of_getElem? hx)
      have htl : t.size ≤ 12 := (phr_text hok).2.1
      have hxl : xs.length ≤ 3 := (phr_sigs hok).2.1
      have h63 : ∀ n ∈ xs, 0 ≤ n ∧ n ≤ 63 := phr_63 hok
      have H63 := Lib.hid h63
      have hbl := take_sub HBK.out k
      have HX := Lib.hid hx
      have HRA := Lib.hid hra
      have hbx : Below wr.heap.size wr (wr.alloc (.cells #[.string t, .slice A2 xs.length cc2] 49)) := (Below.refl _ _).alloc (Nat.le_refl _) _
      have q0 : (wr.alloc (.cells #[.string t, .slice A2 xs.length cc2] 49)).cell? ⟨wr.heap.size, 0, Option.none⟩ = some (.string t) := (Blk.new wr 49 #[.string t, .slice A2 xs.length cc2]).cell 0
      have q1 : (wr.alloc (.cells #[.string t, .slice A2 xs.length cc2] 49)).cell? ⟨wr.heap.size, 1, Option.none⟩ = some (.slice A2 xs.length cc2) := (Blk.new wr 49 #[.string t, .slice A2 xs.length cc2]).cell 1
      obtain ⟨wx, hwx⟩ : ∃ wx, wx = wr.alloc (.cells #[.string t, .slice A2 xs.length cc2] 49) := ⟨_, rfl⟩
      rw [← hwx] at hbx q0 q1
      have HWX := Lib.hid hwx
      obtain ⟨PRE, hPRE⟩ : ∃ PRE, PRE = bookT (ps.take k) ++ (t.data.toList ++ [32]) := ⟨_, rfl⟩
      have hpl : PRE.length ≤ 1100 := by rw [hPRE, List.length_append, List.length_append]; have : t.data.toList.length = t.size := by rw [Array.length_toList]; rfl
                                         rw [this]; simp; omega
      have HPRE := Lib.hid hPRE
      have HSTR : Hid ((⟨(bookT (ps.take k)).toArray⟩ : ByteArray) ++ (t ++ ⟨#[32]⟩) = ⟨PRE.toArray⟩) := by
        show _ = _
        rw [hPRE]; simp [ByteArray.ext_iff]
      have HXS := Lib.hid (RdI.below HRA.out hbx (by omega))
      have HBX := Lib.hid (hbr.out.trans (hbx.mono hs))
      have hsx := hbx.size
      clear hx hra hok h63 hwx hPRE hbx
      go_wp2_with fail
      rw [← HWX.out, HSTR.out]
      clear HWX q0 q1
      go_loopw [3, 23] (fun s i wq => ∃ j : Nat, j ≤ xs.length ∧ i = .int .i64 (j : Int) ∧ s = .string ⟨(PRE ++ numsT 45 (xs.take j)).toArray⟩ ∧ Hid (Below wx.heap.size wx wq)) (fun _ i _ => xs.length - (intOf i).toNat)
      case atStart => exact ⟨0, Nat.zero_le _, rfl, by rw [List.take_zero, show numsT 45 [] = [] from rfl, List.append_nil], Below.refl _ _⟩
      case round =>
        obtain ⟨j, hj, rfl, rfl, hbr2⟩ := hrel
        by_cases hltj : j < xs.length
        · obtain ⟨b1, o1, c1, y, hv, _, hy, hcell1⟩ := Rd.at_ (RdI.below HXS.out hbr2.out (by omega)) hltj
          cases hv
          have hyb := H63.out y (List.mem_of_getElem? hy)
          obtain ⟨m, rfl⟩ : ∃ m : Nat, y = (m : Int) := ⟨y.toNat, by omega⟩
          have HY := Lib.hid hy
          have hnl := numsT_len (c := 45) (l := xs.take j) (fun n hn => H63.out n (List.mem_of_mem_take hn))
          rw [List.length_take] at hnl
          have hil := itoa_len hyb.1 hyb.2
          rw [Lib.itoa_nonneg] at hil
          have CN := Lib.hid (l1Num_any m (by omega) wr)
          obtain ⟨T, hT⟩ : ∃ T, T = PRE ++ numsT 45 (xs.take j) := ⟨_, rfl⟩
          obtain ⟨D, hD⟩ : ∃ D, D = Lib.decDigits m := ⟨_, rfl⟩
          have hT1 : T.length ≤ 3000 := by rw [hT, List.length_append]; omega
          rw [← hT]
          rw [← hD] at CN hil
          have HT := Lib.hid hT
          have HD := Lib.hid hD
          have hD1 : D.length ≤ 2 := hil.2
          clear hy hT hD hnl hil
          rcases Nat.eq_zero_or_pos j with h0 | h0
          · have hg : decide (0 < j) = false := decide_eq_false (by omega)
            have H0 := Lib.hid h0
            clear h0
            go_wp2_with fail
            refine CN.out.mono ?_
            rintro e w2 ⟨rfl, hb2⟩
            have HB := Lib.hid (hbr2.out.trans (hb2.mono hbr2.out.size))
            clear hb2
            go_wp2_with fail
            go_roundw
            case rel =>
              refine ⟨j + 1, by omega, by go_num, ?_, HB.out⟩
              have e1 : xs.take j = [] := by rw [H0.out]; rfl
              rw [take_snocI HY.out, numsT_snoc, if_pos e1, Lib.itoa_nonneg, ← HD.out, HT.out, e1, show numsT 45 [] = [] from rfl, List.append_nil]
              simp [ByteArray.ext_iff]
            case measure => (simp [intOf]; try omega)
          · have hg : decide (0 < j) = true := decide_eq_true (by omega)
            go_wp2_with fail
            refine CN.out.mono ?_
            rintro e w2 ⟨rfl, hb2⟩
            have HB := Lib.hid (hbr2.out.trans (hb2.mono hbr2.out.size))
            clear hb2
            go_wp2_with fail
            go_roundw
            case rel =>
              refine ⟨j + 1, by omega, by go_num, ?_, HB.out⟩
              have e1 : xs.take j ≠ [] := by intro e; have := congrArg List.length e; rw [List.length_take, List.length_nil] at this; omega
              rw [take_snocI HY.out, numsT_snoc, if_neg e1, Lib.itoa_nonneg, ← HD.out, HT.out]
              simp [ByteArray.ext_iff]
            case measure => (simp [intOf]; try omega)
        · obtain rfl : j = xs.length := by omega
          have hfn := numsT_len (c := 45) (l := xs.take xs.length) (fun n hn => H63.out n (List.mem_of_mem_take hn))
          rw [List.length_take] at hfn
          obtain ⟨T, hT⟩ : ∃ T, T = PRE ++ numsT 45 (xs.take xs.length) := ⟨_, rfl⟩
          have hT1 : T.length ≤ 3000 := by rw [hT, List.length_append]; omega
          rw [← hT]
          have HT := Lib.hid hT
          have HBF := Lib.hid (HBX.out.trans (hbr2.out.mono (by omega)))
          have hsf := hbr2.out.size
          clear hT hfn
          go_wp2_with fail
          go_roundw
          case rel =>
            refine ⟨k + 1, by omega, by go_num, ?_, HBF.out, by omega⟩
            rw [bookT_snoc HX.out, HT.out, HPRE.out, List.take_of_length_le (Nat.le_refl _)]
            simp [ByteArray.ext_iff]
          case measure => (simp [intOf]; try omega)
    · obtain rfl : k = ps.length := by omega
      have HBR := Lib.hid (HB.out.trans (hbr.out.mono (by omega)))
      go_wp2_with fail
      go_ret
      exact ⟨ret_val (by first | rfl | (rw [List.take_of_length_le (Nat.le_refl _)]; rfl)), HBR.out⟩
end Go.Proofs.YtjnkdjokbamibaaDoor
