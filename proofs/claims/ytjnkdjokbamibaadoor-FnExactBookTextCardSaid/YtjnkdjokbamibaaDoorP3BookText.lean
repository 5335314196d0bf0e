/- Texts of one claim, joined: O3, D2, Y1, C1, K, D3, E1, D4. -/
import Derived.Deep.SlicePairs
import Derived.Lib.SmallJoins
import Derived.StillTailTactics
import Derived.Lib.SplitLaws
import Derived.Lib.AtoiAll
import Derived.Lib.ItoaMem
import Derived.Lib.Join
import Derived.Deep.QuietTactic
import Derived.BigQuiet
import Derived.Test.YtjnkdjokbamibaaDoorP2BookText
/- What a book and a phrase that read as data look like in memory. -/
namespace Go.Proofs.YtjnkdjokbamibaaDoor
set_option maxRecDepth 100000
open Go.ChangeShapes Go.WideShapes Go.ChangeAt Go.RowKit Go.Deep
theorem open_agg1 {H : Type} {enc : TypeId × Value → H} {P : Program} {w : World} {base : Nat} {spare : Nat → Bool} {held : Bool} {r : Reach} {b0 : Nat} {t : TypeId} {f0 : Field} {v : Value} {d : DataW H} {p : List MemPlace}
    (hs : P.underlying t = some (.struct #[f0])) (hC : P.cellsOf t = 1) (ho : f0.offset = 0) (hk : P.cellsOf f0.type = 1) (hv : Value.okWide P w r b0 t v) (h : DataW.Trod enc P w base spare held t v d p) :
    ∃ v0 y0 n, v = .agg #[v0] ∧ DataW.trod enc P w base spare held n f0.type [v0] = some y0 := by
  obtain ⟨cs, rfl, hsz⟩ := okWide_struct hs hv
  obtain ⟨c0, rfl⟩ : ∃ c0, cs = #[c0] := by
    match cs, hsz.trans hC with
    | ⟨[c]⟩, _ => exact ⟨c, rfl⟩
  obtain ⟨fuel, hf⟩ := h
  obtain ⟨y0, n, _, _, h0⟩ := trod_struct1 hs hf
  exact ⟨c0, y0, n, rfl, by simpa [Value.cells, ho, hk] using h0⟩
theorem zipC_inv : ∀ (ts : List ByteArray) (us : List Value) (j : Nat) (u : Value), (zipC ts us)[j]? = some u → (∃ i t, j = i * 2 ∧ ts[i]? = some t ∧ u = .string t) ∨ (∃ i, j = i * 2 + 1 ∧ us[i]? = some u)
  | [], us, j, u, h => by simp [zipC] at h
  | t :: ts, [], j, u, h => by simp [zipC] at h
  | t :: ts, v :: us, 0, u, h => by simp [zipC] at h; exact .inl ⟨0, t, rfl, rfl, h.symm⟩
  | t :: ts, v :: us, 1, u, h => by simp [zipC] at h; exact .inr ⟨0, rfl, by simp [h]⟩
  | t :: ts, v :: us, j + 2, u, h => by
    simp only [zipC, List.getElem?_cons_succ] at h
    rcases zipC_inv ts us j u h with ⟨i, t', rfl, h1, h2⟩ | ⟨i, rfl, h1⟩
    · exact .inl ⟨i + 1, t', by omega, by simpa using h1, h2⟩
    · exact .inr ⟨i + 1, by omega, by simpa using h1⟩
theorem open_phrS {H : Type} {enc : TypeId × Value → H} {w : World} {spare : Nat → Bool} {held : Bool} {fuel : Nat} {v : Value} {x : DataW H × List MemPlace}
    (h : DataW.trod enc Tryd.prog w 0 spare held fuel 36 [v] = some x) : ∃ ps, RdPS w w.heap.size v ps := by
  rcases open_slice_pairs Tryd.underlying36 Tryd.underlying76 (by kernel_rfl) rfl rfl (by kernel_rfl) (by kernel_rfl) h with ⟨hv, _⟩ | ⟨a, len, cap, m, n, V0, V1, D0, D1, P0, P1, hv, _, hl, hm, hmm, _, hcell⟩
  · simp only [List.cons.injEq, and_true] at hv
    subst hv
    exact ⟨[], [], ⟨rfl, fun i u xs hu _ => by simp at hu⟩, ⟨rfl, Option.none, 0, rfl, Nat.le_refl _, Nat.zero_le _, fun h => absurd h (by simp)⟩, fun p hp => by cases hp⟩
  · simp only [List.cons.injEq, and_true] at hv
    subst hv
    have hlm : len ≤ m := by rw [hmm]; split <;> omega
    have hk : ∀ i, ∃ p : Phr, i < len → w.cell? (a.add (i * 2)) = some (.string p.1) ∧ w.cell? (a.add (i * 2 + 1)) = some (V1 i) ∧ RdI w w.heap.size (V1 i) p.2 ∧ p.1.size ≤ 9223372036854775807 := by
      intro i
      by_cases hi : i < len
      · obtain ⟨h0, h1, h2, h3⟩ := hcell i (by omega)
        obtain ⟨s, e, _, hs⟩ := DataW.trod_string Tryd.underlying9 h2
        obtain ⟨xs, hxs⟩ := open_intS h3
        have e' : V0 i = .string s := by simpa using e
        exact ⟨(s, xs), fun _ => ⟨by rw [h0, e'], h1, hxs, by unfold maxLen at hs; show s.size ≤ _; omega⟩⟩
      · exact ⟨(⟨#[]⟩, []), fun h => absurd h hi⟩
    obtain ⟨F, hF⟩ : ∃ F : Nat → Phr, ∀ i, i < len → w.cell? (a.add (i * 2)) = some (.string (F i).1) ∧ w.cell? (a.add (i * 2 + 1)) = some (V1 i) ∧ RdI w w.heap.size (V1 i) (F i).2 ∧ (F i).1.size ≤ 9223372036854775807 :=
      ⟨fun i => Classical.choose (hk i), fun i => Classical.choose_spec (hk i)⟩
    clear hk
    have hzl : (zipC (txts ((List.range len).map F)) ((List.range len).map V1)).length = len * 2 := by rw [zipC_len _ _ (by simp [txts])]; simp [txts]
    refine ⟨(List.range len).map F, (List.range len).map V1, ⟨by simp [sigs], fun i u xs hu hx => ?_⟩, ⟨by rw [hzl]; simp, some a, cap, by simp, by simpa using hl, hm, fun hpos => ?_⟩, fun p hp => ?_⟩
    · have hi : i < len := by
        rcases Nat.lt_or_ge i len with h | h
        · exact h
        · rw [List.getElem?_eq_none (by simp; exact h)] at hu; cases hu
      simp [hi] at hu
      simp [sigs, hi] at hx
      rw [← hu, ← hx]; exact (hF i hi).2.2.1
    · have hpos' : 0 < len := by simpa using hpos
      obtain ⟨b, off, ha, hlt⟩ := spot_of (hF 0 hpos').1
      have ha' : a = ⟨b, off, Option.none⟩ := by simpa [Addr.add] using ha
      subst ha'
      refine ⟨b, off, rfl, hlt, fun j u hu => ?_⟩
      rcases zipC_inv _ _ _ _ hu with ⟨i, t, rfl, h1, rfl⟩ | ⟨i, rfl, h1⟩
      · have hi : i < len := by
          rcases Nat.lt_or_ge i len with h | h
          · exact h
          · rw [List.getElem?_eq_none (by simp [txts]; exact h)] at h1; cases h1
        simp [txts, hi] at h1
        have := (hF i hi).1
        rw [add_plain, h1] at this; exact this
      · have hi : i < len := by
          rcases Nat.lt_or_ge i len with h | h
          · exact h
          · rw [List.getElem?_eq_none (by simp; exact h)] at h1; cases h1
        simp [hi] at h1
        have := (hF i hi).2.1
        rw [add_plain, h1] at this; exact this
    · rw [List.mem_map] at hp
      obtain ⟨i, hi, rfl⟩ := hp
      exact (hF i (List.mem_range.1 hi)).2.2.2
theorem open_book {H : Type} {enc : TypeId × Value → H} {w : World} {spare : Nat → Bool} {held : Bool} {r : Reach} {b0 : Nat} {v : Value} {d : DataW H} {p : List MemPlace}
    (hv : Value.okWide Tryd.prog w r b0 38 v) (h : DataW.Trod enc Tryd.prog w 0 spare held 38 v d p) : ∃ ps, RdB w w.heap.size v ps := by
  obtain ⟨v0, y0, n, rfl, h0⟩ := open_agg1 Tryd.underlying38 (by kernel_rfl) rfl (by kernel_rfl) hv h
  obtain ⟨ps, hps⟩ := open_phrS h0
  exact ⟨ps, v0, rfl, hps⟩
end Go.Proofs.YtjnkdjokbamibaaDoor
/- Comparisons of phrases and books, by the helpers of the laws. -/
namespace Go.Proofs.YtjnkdjokbamibaaDoor
open Go.RowKit
theorem eqPhrase_sameB (p : Phr) (v u : Value) (hi hj : Nat) (w : World) (h : RdP w hi v p) (g : RdP w hj u p) (hh : hi ≤ w.heap.size := by omega) (hg : hj ≤ w.heap.size := by omega) :
    Calls Tryd.prog 55 #[v, u] w fun e w' => e = .returned (.bool true) ∧ Below w.heap.size w w' := by
  obtain ⟨a, rfl, ha, hta⟩ := h
  obtain ⟨b, rfl, hb, htb⟩ := g
  have hba : Below w.heap.size w ((w.alloc (.cells #[.string p.1, a] 49)).alloc (.cells #[.string p.1, b] 49)) := ((Below.refl _ _).alloc (Nat.le_refl _) _).alloc (by simp) _
  have HA := Lib.hid (ha.below hba hh)
  have HB := Lib.hid (hb.below hba hg)
  clear ha hb
  go_enter Tryd.func55, Tryd.ntmps55
  go_wp2_with fail
  refine (eqIntS_sameB p.2 a b hi hj _ HA.out HB.out).mono ?_
  rintro e w4 ⟨rfl, hb4⟩
  have hbz := hba.trans (hb4.mono (by simp; omega))
  clear hba hb4
  go_wp2_with fail
  go_ret
  exact ⟨rfl, hbz⟩
set_option maxRecDepth 100000 in
set_option maxHeartbeats 400000 in
theorem eqPhraseS_sameB (ps : List Phr) (v u : Value) (hi hj : Nat) (w : World) (h : RdPS w hi v ps) (g : RdPS w hj u ps) (hh : hi ≤ w.heap.size := by omega) (hg : hj ≤ w.heap.size := by omega) :
    Calls Tryd.prog 32 #[v, u] w fun e w' => e = .returned (.bool true) ∧ Below w.heap.size w w' := by
  obtain ⟨A, c, rfl, hc, hm⟩ := h.form
  obtain ⟨A', c', rfl, hc', hm'⟩ := g.form
  have H := Lib.hid h
  have G := Lib.hid g
  clear h g
  go_enter Tryd.func32, Tryd.ntmps32
  go_wp2
  go_loopw [5] (fun i wr => ∃ k : Nat, k ≤ ps.length ∧ i = .int .i64 k ∧ Below w.heap.size w wr) (fun i _ => ps.length - (intOf i).toNat)
  case atStart => exact ⟨0, Nat.zero_le _, rfl, Below.refl _ _⟩
  case round =>
    obtain ⟨k, hk, rfl, hbr⟩ := hrel
    by_cases hlt : k < ps.length
    · obtain ⟨b1, o1, c1, a, t, xs, hv, _, hx, hcell1, hcell2, hra, hta⟩ := (H.out.below hbr hh).at_ hlt
      cases hv
      obtain ⟨b2, o2, c2, b, t', xs', hv, _, hx', hcell3, hcell4, hrb, htb⟩ := (G.out.below hbr hg).at_ hlt
      cases hv
      rw [hx] at hx'
      cases hx'
      have HA : Hid (RdP wr hi (.agg #[.string t, a]) (t, xs)) := ⟨a, rfl, hra, hta⟩
      have HB : Hid (RdP wr hj (.agg #[.string t, b]) (t, xs)) := ⟨b, rfl, hrb, htb⟩
      have hs := hbr.size
      clear hx hra hrb
      go_wp2
      go_still_tail 8, (by kernel_rfl)
      change wpList _ _ _ _ _ wr.drew
      have hbd : Below w.heap.size w wr.drew := hbr.drew
      have HA' : Hid (RdP wr.drew hi (.agg #[.string t, a]) (t, xs)) := HA.out
      have HB' : Hid (RdP wr.drew hj (.agg #[.string t, b]) (t, xs)) := HB.out
      have hs' : w.heap.size ≤ wr.drew.heap.size := hs
      revert hbd HA' HB' hs'
      clear hcell1 hcell2 hcell3 hcell4 HA HB
      generalize wr.drew = w2
      intro hbd HA' HB' hs'
      go_wp2_with fail
      refine (eqPhrase_sameB (t, xs) _ _ hi hj _ HA'.out HB'.out (by omega) (by omega)).mono ?_
      rintro e w4 ⟨rfl, hb4⟩
      have hbz := hbd.trans (hb4.mono hs')
      clear hbd hb4
      go_wp2_with fail
      go_roundw
      case rel => exact ⟨k + 1, by omega, by go_num, hbz⟩
      case measure => simp [intOf]; omega
    · go_wp2
      go_ret
      exact ⟨rfl, hbr⟩
theorem eqBook_sameB (ps : List Phr) (v u : Value) (hi hj : Nat) (w : World) (h : RdB w hi v ps) (g : RdB w hj u ps) (hh : hi ≤ w.heap.size := by omega) (hg : hj ≤ w.heap.size := by omega) :
    Calls Tryd.prog 9 #[v, u] w fun e w' => e = .returned (.bool true) ∧ Below w.heap.size w w' := by
  obtain ⟨a, rfl, ha⟩ := h
  obtain ⟨b, rfl, hb⟩ := g
  have hba : Below w.heap.size w ((w.alloc (.cells #[a] 24)).alloc (.cells #[b] 24)) := ((Below.refl _ _).alloc (Nat.le_refl _) _).alloc (by simp) _
  have HA := Lib.hid (ha.below hba hh)
  have HB := Lib.hid (hb.below hba hg)
  clear ha hb
  go_enter Tryd.func9, Tryd.ntmps9
  go_wp2_with fail
  refine (eqPhraseS_sameB ps a b hi hj _ HA.out HB.out (by simp; omega) (by simp; omega)).mono ?_
  rintro e w4 ⟨rfl, hb4⟩
  have hbz := hba.trans (hb4.mono (by simp; omega))
  clear hba hb4
  go_wp2_with fail
  go_ret
  exact ⟨rfl, hbz⟩
end Go.Proofs.YtjnkdjokbamibaaDoor
/- Plain laws on texts: what is cut at a byte and joined again; numbers in decimal. -/
namespace Go.Proofs.YtjnkdjokbamibaaDoor
/-- Texts joined by a byte. -/
def joinC (c : UInt8) : List (List UInt8) → List UInt8
  | [] => []
  | [a] => a
  | a :: b :: r => a ++ c :: joinC c (b :: r)
theorem joinC_cons (c : UInt8) (a : List UInt8) {r : List (List UInt8)} (h : r ≠ []) : joinC c (a :: r) = a ++ c :: joinC c r := by
  cases r with
  | nil => exact absurd rfl h
  | cons b q => rfl
theorem joinC_join (c : UInt8) : ∀ xs : List (List UInt8), Lib.join xs [c] = joinC c xs
  | [] => rfl
  | [a] => Lib.join_one a [c]
  | a :: b :: r => by
    rw [joinC, ← joinC_join c (b :: r), Lib.join_cons, Lib.join_cons]
    simp [Lib.joinTail]
/-- Numbers in decimal, joined. -/
def numsT (c : UInt8) (l : List Int) : List UInt8 := joinC c (l.map Lib.itoa)
theorem itoa_len {n : Int} (h0 : 0 ≤ n) (h1 : n ≤ 63) : 1 ≤ (Lib.itoa n).length ∧ (Lib.itoa n).length ≤ 2 := by
  have : ∀ m : Fin 64, 1 ≤ (Lib.itoa ((m.val : Nat) : Int)).length ∧ (Lib.itoa ((m.val : Nat) : Int)).length ≤ 2 := by decide +kernel
  have h := this ⟨n.toNat, by omega⟩
  rwa [show ((n.toNat : Nat) : Int) = n by omega] at h
theorem numsT_len {c : UInt8} {l : List Int} (h : ∀ n ∈ l, 0 ≤ n ∧ n ≤ 63) : (numsT c l).length ≤ 3 * l.length := by
  unfold numsT
  induction l with
  | nil => simp [joinC]
  | cons n r ih =>
    have h1 := itoa_len (h n (by simp)).1 (h n (by simp)).2
    have ih := ih (fun x hx => h x (by simp [hx]))
    cases r with
    | nil => simp [joinC]; omega
    | cons m q =>
      rw [List.map_cons, joinC_cons _ _ (by simp)]
      simp only [List.length_append, List.length_cons] at ih ⊢
      omega
/-- As the texts are written: a number more. -/
theorem joinC_snoc (c : UInt8) : ∀ (xs : List (List UInt8)) (a : List UInt8), joinC c (xs ++ [a]) = if xs = [] then a else joinC c xs ++ c :: a
  | [], a => rfl
  | [x], a => by simp [joinC]
  | x :: y :: r, a => by
    have ih := joinC_snoc c (y :: r) a
    rw [if_neg (by simp)] at ih ⊢
    rw [List.cons_append, joinC_cons c x (by simp), ih]
    show x ++ c :: (joinC c (y :: r) ++ c :: a) = (x ++ c :: joinC c (y :: r)) ++ c :: a
    simp
theorem numsT_snoc (c : UInt8) (l : List Int) (n : Int) : numsT c (l ++ [n]) = if l = [] then Lib.itoa n else numsT c l ++ c :: Lib.itoa n := by
  unfold numsT
  rw [List.map_append, List.map_cons, List.map_nil, joinC_snoc]
  by_cases h : l = []
  · subst h; rfl
  · rw [if_neg h, if_neg (by simpa using h)]
end Go.Proofs.YtjnkdjokbamibaaDoor
/- Contracts of the comparisons of lists and of their beginnings, of the program and of the reference. -/
namespace Go.Proofs.YtjnkdjokbamibaaDoor
open Go.RowKit
/-- A slice cut off at its end. -/
theorem Rd.cut {w : World} {hi n c : Nat} {A : Option Addr} {xs : List Value} (h : Rd w hi 1 (.slice A n c) n xs) {k : Nat} (hk : k ≤ n) : Rd w hi 1 (.slice A k c) k (xs.take k) := by
  obtain ⟨h0, A', c', hv, h1, h2, h3⟩ := h
  cases hv
  refine ⟨by rw [List.length_take]; omega, A, c, rfl, by omega, h2, fun hp => ?_⟩
  obtain ⟨b, off, hA, hb, hc⟩ := h3 (by omega)
  refine ⟨b, off, hA, hb, fun j u hu => hc j u ?_⟩
  rw [List.getElem?_take] at hu
  split at hu
  · exact hu
  · cases hu
theorem RdI.cut {w : World} {hi c : Nat} {A : Option Addr} {xs : List Int} (h : RdI w hi (.slice A xs.length c) xs) {k : Nat} (hk : k ≤ xs.length) : RdI w hi (.slice A k c) (xs.take k) := by
  have h1 := Rd.cut h hk
  have hl : (xs.take k).length = k := by rw [List.length_take]; omega
  unfold RdI
  rw [hl]
  simpa [ints] using h1
set_option maxHeartbeats 400000 in
theorem l1Same_any (xs ys : List Int) (v u : Value) (hi hj : Nat) (w : World) (h : RdI w hi v xs) (g : RdI w hj u ys) : Calls Tryd.prog 66 #[v, u] w fun e w' => e = .returned (.bool (decide (xs = ys))) ∧ ∃ n, w' = w.drewN n := by
  obtain ⟨A, c, rfl, hc, hm⟩ := Rd.form h
  obtain ⟨A', c', rfl, hc', hm'⟩ := Rd.form g
  have H := Lib.hid h
  have G := Lib.hid g
  clear h g
  by_cases hl : xs.length = ys.length
  · have HL := Lib.hid hl
    rw [← hl]
    rw [← hl] at hc' hm'
    clear hl
    go_enter Tryd.func66, Tryd.ntmps66
    go_wp2
    go_loopw [13] (fun i wr => ∃ k : Nat, k ≤ xs.length ∧ i = .int .i64 k ∧ Hid (xs.take k = ys.take k) ∧ ∃ n, wr = w.drewN n) (fun i _ => xs.length - (intOf i).toNat)
    case atStart => exact ⟨0, Nat.zero_le _, rfl, rfl, 0, rfl⟩
    case round =>
      obtain ⟨k, hk, rfl, heq, n, rfl⟩ := hrel
      by_cases hlt : k < xs.length
      · obtain ⟨b1, o1, c1, x, hv, _, hx, hcell1⟩ := Rd.at_ H.out hlt
        cases hv
        obtain ⟨b2, o2, c2, y, hv, _, hy, hcell2⟩ := Rd.at_ G.out (by rw [← HL.out]; exact hlt)
        have HX := Lib.hid hx
        have HY := Lib.hid hy
        injection hv with hv1 hv2 hv3
        subst hv1
        clear hx hy hv2 hv3
        by_cases hxy : x = y
        · subst hxy
          go_wp2
          go_quiet (fail)
          go_wp2
          go_roundw
          case rel => exact ⟨k + 1, by omega, by go_num, eq_take HX.out HY.out heq.out, _, rfl⟩
          case measure => simp [intOf]; omega
        · have hbe : (x == y) = false := by simpa using hxy
          have hbn : (x != y) = true := by simpa using hxy
          go_wp2
          go_quiet (fail)
          go_wp2
          go_ret
          exact ⟨ret_bool (eq_no HX.out HY.out hxy).symm, _, World.drewN_drewN _ _ _⟩
      · go_wp2
        go_ret
        exact ⟨ret_bool (eq_full hlt HL.out heq.out).symm, _, rfl⟩
  · have hne : (((xs.length : Nat) : Int) != ((ys.length : Nat) : Int)) = true := by rw [bne_iff_ne]; omega
    go_enter Tryd.func66, Tryd.ntmps66
    go_wp2
    go_ret
    refine ⟨ret_bool ?_, 0, rfl⟩
    symm; rw [decide_eq_false_iff_not]; rintro rfl; exact hl rfl
set_option maxHeartbeats 400000 in
theorem slicesEqual_any (xs ys : List Int) (v u : Value) (hi hj : Nat) (w : World) (h : RdI w hi v xs) (g : RdI w hj u ys) : Calls Tryd.prog 74 #[v, u] w fun e w' => e = .returned (.bool (decide (xs = ys))) ∧ ∃ n, w' = w.drewN n := by
  obtain ⟨A, c, rfl, hc, hm⟩ := Rd.form h
  obtain ⟨A', c', rfl, hc', hm'⟩ := Rd.form g
  have H := Lib.hid h
  have G := Lib.hid g
  clear h g
  by_cases hl : xs.length = ys.length
  · have HL := Lib.hid hl
    rw [← hl]
    rw [← hl] at hc' hm'
    clear hl
    go_enter Tryd.func74, Tryd.ntmps74
    go_wp2
    go_loopw [13] (fun i wr => ∃ k : Nat, k ≤ xs.length ∧ i = .int .i64 k ∧ Hid (xs.take k = ys.take k) ∧ ∃ n, wr = w.drewN n) (fun i _ => xs.length - (intOf i).toNat)
    case atStart => exact ⟨0, Nat.zero_le _, rfl, rfl, 0, rfl⟩
    case round =>
      obtain ⟨k, hk, rfl, heq, n, rfl⟩ := hrel
      by_cases hlt : k < xs.length
      · obtain ⟨b1, o1, c1, x, hv, _, hx, hcell1⟩ := Rd.at_ H.out hlt
        cases hv
        obtain ⟨b2, o2, c2, y, hv, _, hy, hcell2⟩ := Rd.at_ G.out (by rw [← HL.out]; exact hlt)
        have HX := Lib.hid hx
        have HY := Lib.hid hy
        injection hv with hv1 hv2 hv3
        subst hv1
        clear hx hy hv2 hv3
        by_cases hxy : x = y
        · subst hxy
          go_wp2
          go_quiet (fail)
          go_wp2
          go_roundw
          case rel => exact ⟨k + 1, by omega, by go_num, eq_take HX.out HY.out heq.out, _, rfl⟩
          case measure => simp [intOf]; omega
        · have hbe : (x == y) = false := by simpa using hxy
          have hbn : (x != y) = true := by simpa using hxy
          go_wp2
          go_quiet (fail)
          go_wp2
          go_ret
          exact ⟨ret_bool (eq_no HX.out HY.out hxy).symm, _, World.drewN_drewN _ _ _⟩
      · go_wp2
        go_ret
        exact ⟨ret_bool (eq_full hlt HL.out heq.out).symm, _, rfl⟩
  · have hne : (((xs.length : Nat) : Int) != ((ys.length : Nat) : Int)) = true := by rw [bne_iff_ne]; omega
    go_enter Tryd.func74, Tryd.ntmps74
    go_wp2
    go_ret
    refine ⟨ret_bool ?_, 0, rfl⟩
    symm; rw [decide_eq_false_iff_not]; rintro rfl; exact hl rfl
end Go.Proofs.YtjnkdjokbamibaaDoor
/- A drawn region whose operations only read old memory and whose calls may lay new memory: one walk in the order of the text serves every order. Facts on worlds that came later. -/
namespace Go.Proofs.YtjnkdjokbamibaaDoor
open Go Go.RowKit
/-- A world in which all below block B is as in w. -/
structure LaterW (B : Nat) (w : World) where
  val : World
  bel : Below B w val
instance laterSome {B : Nat} {w : World} : Nonempty (LaterW B w) := ⟨⟨w, Below.refl _ _⟩⟩
theorem wp_region_later {P : Program} {id : Nat} {Q : Exit → Act → World → Prop} {a : Act} {w : World} {l : List Oper} (B : Nat) (hm : P.follows .mixedOrders = true) (hB : Region.lexB .any l.toArray = true)
    (h : wpQuiet P l.toArray (fun w' => ∃ x : LaterW B w, w' = x.val) (fun a' => ∀ w', (∃ x : LaterW B w, w' = x.val) → Q .normal a' w') l a) : (Code.region id l.toArray true).wp P Q a w :=
  wp_region_quiet (C := fun w' => ∃ x : LaterW B w, w' = x.val) hm hB ⟨⟨_, bel_drewN B w 1⟩, rfl⟩ (by simpa using h)
theorem later_nil {P : Program} {ops : Array Oper} {C : World → Prop} {B : Nat} {w : World} {a : Act} {Q : Act → World → Prop}
    (h : ∀ w', Below B w w' → Q a w') : wpQuiet P ops C (fun a' => ∀ w', (∃ x : LaterW B w, w' = x.val) → Q a' w') [] a :=
  wpQuiet_nil fun _ ⟨x, e⟩ => e ▸ h _ x.bel
theorem later_of {P : Program} {f : FuncId} {args : Array Value} {B : Nat} {w : World} {x : LaterW B w} {v : Value} (hB : B ≤ w.heap.size)
    (h : Calls P f args x.val fun e w' => e = .returned v ∧ Below x.val.heap.size x.val w') : Calls P f args x.val fun e w'' => e = .returned v ∧ ∃ y : LaterW B w, w'' = y.val :=
  h.mono fun _ w' ⟨he, hb⟩ => ⟨he, ⟨w', x.bel.trans (hb.mono (by have := x.bel.size; omega))⟩, rfl⟩
theorem later_same {P : Program} {f : FuncId} {args : Array Value} {B : Nat} {w : World} {x : LaterW B w} {v : Value}
    (h : Calls P f args x.val fun e w' => e = .returned v ∧ x.val = w') : Calls P f args x.val fun e w'' => e = .returned v ∧ ∃ y : LaterW B w, w'' = y.val :=
  h.mono fun _ _ ⟨he, hb⟩ => ⟨he, x, hb.symm⟩
theorem later_cell {B : Nat} {w : World} {b o : Nat} {v : Value} (h : w.cell? ⟨b, o, Option.none⟩ = some v) (hb : b < B) : ∀ x : LaterW B w, x.val.cell? ⟨b, o, Option.none⟩ = some v :=
  fun x => (x.bel.cell (p := ⟨b, o, Option.none⟩) hb).trans h
end Go.Proofs.YtjnkdjokbamibaaDoor
/- Contracts of the tests whether a book is valid, of the reference. -/
namespace Go.Proofs.YtjnkdjokbamibaaDoor
open Go.RowKit
def sigOk (xs : List Int) : Bool := inB xs.length 1 3 && allB xs 1 60
theorem bkSignals_any (xs : List Int) (v : Value) (hi : Nat) (w : World) (h : RdI w hi v xs) : Calls Tryd.prog 45 #[v] w fun e w' => e = .returned (.bool (sigOk xs)) ∧ w = w' := by
  obtain ⟨A, c, hv, hc, hm⟩ := Rd.form h
  have H := Lib.hid h
  clear h
  unfold sigOk
  cases hl : inB xs.length 1 3
  · rw [Bool.false_and]
    subst hv
    go_enter Tryd.func45, Tryd.ntmps45
    go_wp2_with (first | (go_at_call 43; refine (l1In_any _ _ _ _).mono ?_; rintro e w' ⟨rfl, rfl⟩) | (go_at_call 57; refine (l1All_any xs _ _ _ hi _ H.out).mono ?_; rintro e w' ⟨rfl, rfl⟩))
    go_ret
    exact ⟨rfl, rfl⟩
  · rw [Bool.true_and]
    subst hv
    go_enter Tryd.func45, Tryd.ntmps45
    go_wp2_with (first | (go_at_call 43; refine (l1In_any _ _ _ _).mono ?_; rintro e w' ⟨rfl, rfl⟩) | (go_at_call 57; refine (l1All_any xs _ _ _ hi _ H.out).mono ?_; rintro e w' ⟨rfl, rfl⟩))
    go_ret
    exact ⟨rfl, rfl⟩
/-- The place of the phrase with some signals. -/
def sigIx (ps : List Phr) (xs : List Int) : Option Nat := ps.findIdx? fun p => decide (p.2 = xs)
def ixI : Option Nat → Int
  | some i => (i : Int)
  | Option.none => -1
theorem findIdx_take {α : Type} {f : α → Bool} {l : List α} {k : Nat} (h : ∀ j, j < k → ∀ x, l[j]? = some x → f x = false) {x : α} (hx : l[k]? = some x) (hf : f x = true) : l.findIdx? f = some k := by
  induction l generalizing k with
  | nil => simp at hx
  | cons a r ih =>
    rw [List.findIdx?_cons]
    cases k with
    | zero => simp at hx; subst hx; rw [hf]; rfl
    | succ k =>
      have ha : f a = false := h 0 (by omega) a rfl
      rw [ha]
      have := ih (k := k) (fun j hj x hx => h (j + 1) (by omega) x (by simpa using hx)) (by simpa using hx)
      rw [this]; rfl
theorem findIdx_none {α : Type} {f : α → Bool} {l : List α} (h : ∀ (j : Nat) (x : α), l[j]? = some x → f x = false) : l.findIdx? f = Option.none := by
  rw [List.findIdx?_eq_none_iff]
  intro x hx
  obtain ⟨j, hj⟩ := List.getElem?_of_mem hx
  exact h j x hj
set_option maxHeartbeats 800000 in
theorem bkOf_any (ps : List Phr) (xs : List Int) (v u : Value) (hi hj : Nat) (w : World) (h : RdB w hi v ps) (g : RdI w hj u xs) (hh : hi ≤ w.heap.size) (hg : hj ≤ w.heap.size) :
    Calls Tryd.prog 46 #[v, u] w fun e w' => e = .returned (.int .i64 (ixI (sigIx ps xs))) ∧ Below w.heap.size w w' := by
  obtain ⟨a, rfl, ha⟩ := h
  obtain ⟨A, c, rfl, hc, hm⟩ := ha.form
  have hba : Below w.heap.size w (w.alloc (.cells #[.slice A ps.length c] 24)) := (Below.refl _ _).alloc (Nat.le_refl _) _
  have H := Lib.hid ha
  have G := Lib.hid g
  clear ha g
  go_enter Tryd.func46, Tryd.ntmps46
  go_wp2_with fail
  go_loopw [10] (fun i wr => ∃ k : Nat, k ≤ ps.length ∧ i = .int .i64 k ∧ Hid (∀ j, j < k → ∀ x, ps[j]? = some x → decide (x.2 = xs) = false) ∧ Below w.heap.size w wr) (fun i _ => ps.length - (intOf i).toNat)
  case atStart => exact ⟨0, Nat.zero_le _, rfl, fun j hj => by omega, hba⟩
  case round =>
    obtain ⟨k, hk, rfl, hno, hbr⟩ := hrel
    by_cases hlt : k < ps.length
    · obtain ⟨b1, o1, c1, a, t, ys, hv, hb1, hx, hcell1, hcell2, hra, hta⟩ := (H.out.below hbr hh).at_ hlt
      cases hv
      obtain ⟨A2, c2, rfl, hc2, hm2⟩ := Rd.form hra
      have hs := hbr.size
      have hb2 : Below w.heap.size w (wr.alloc (.cells #[.string t, .slice A2 ys.length c2] 49)) := hbr.alloc hs _
      have HA := Lib.hid (hra.below ((Below.refl wr.heap.size wr).alloc (Nat.le_refl _) (.cells #[.string t, .slice A2 ys.length c2] 49)) (by omega))
      have HX := Lib.hid hx
      clear hra hx
      by_cases hys : ys = xs
      · have HYS := Lib.hid hys
        clear hys
        go_wp2_with fail
        refine (l1Same_any ys xs _ _ hi hj _ HA.out (Rd.below G.out hb2 hg)).mono ?_
        rw [decide_eq_true HYS.out]
        rintro e w' ⟨rfl, n, rfl⟩
        go_wp2_with fail
        go_ret
        refine ⟨ret_int ?_, hb2.trans (bel_drewN _ _ _)⟩
        unfold sigIx
        rw [findIdx_take (fun j hj x hx => hno.out j hj x hx) HX.out (decide_eq_true HYS.out)]
        rfl
      · have HYS : Hid (decide (ys = xs) = false) := decide_eq_false hys
        clear hys
        go_wp2_with fail
        refine (l1Same_any ys xs _ _ hi hj _ HA.out (Rd.below G.out hb2 hg)).mono ?_
        rw [HYS.out]
        rintro e w' ⟨rfl, n, rfl⟩
        go_wp2_with fail
        go_roundw
        case rel => exact ⟨k + 1, by omega, by go_num, fun j hj x hx => by
          by_cases e : j = k
          · subst e; rw [HX.out] at hx; cases hx; exact HYS.out
          · exact hno.out j (by omega) x hx, hb2.trans (bel_drewN _ _ _)⟩
        case measure => simp [intOf]; omega
    · obtain rfl : k = ps.length := by omega
      go_wp2_with fail
      go_ret
      refine ⟨ret_int ?_, hbr⟩
      unfold sigIx
      rw [findIdx_none (fun j x hx => hno.out j (List.getElem?_eq_some_iff.1 hx).1 x hx)]
      rfl
def ltT (a b : ByteArray) : Bool := Op.bytesLess a.toList b.toList
def phrOk (p : Phr) : Bool := phraseB p.1.data.toList && sigOk p.2
/-- Is the phrase at j fine, and fine behind those before it? -/
def goodAt (ps : List Phr) (j : Nat) : Bool := match ps[j]? with
  | some p => phrOk p && ((match j with | 0 => true | i + 1 => match ps[i]? with | some q => ltT q.1 p.1 | Option.none => true) && (sigIx ps p.2 == some j))
  | Option.none => true
def goodB (ps : List Phr) : Bool := (List.range ps.length).all fun j => goodAt ps j
def bookB (ps : List Phr) : Bool := inB ps.length 1 40 && goodB ps
theorem goodB_no {ps : List Phr} {k : Nat} (hk : k < ps.length) (h : goodAt ps k = false) : goodB ps = false := by
  unfold goodB; rw [List.all_eq_false]; exact ⟨k, List.mem_range.2 hk, by simp [h]⟩
theorem goodB_yes {ps : List Phr} (h : ∀ j, j < ps.length → goodAt ps j = true) : goodB ps = true := by
  unfold goodB; rw [List.all_eq_true]; intro j hj; exact h j (List.mem_range.1 hj)
theorem goodAt_phr {ps : List Phr} {k : Nat} {p : Phr} (hp : ps[k]? = some p) (h : phrOk p = false) : goodAt ps k = false := by unfold goodAt; rw [hp]; simp [h]
theorem goodAt_lt {ps : List Phr} {k : Nat} {p q : Phr} (hp : ps[k + 1]? = some p) (hq : ps[k]? = some q) (h : ltT q.1 p.1 = false) : goodAt ps (k + 1) = false := by unfold goodAt; rw [hp]; simp [hq, h]
theorem goodAt_ix {ps : List Phr} {k : Nat} {p : Phr} (hp : ps[k]? = some p) (h : sigIx ps p.2 ≠ some k) : goodAt ps k = false := by unfold goodAt; rw [hp]; simp [h]
theorem goodAt_0 {ps : List Phr} {p : Phr} (hp : ps[0]? = some p) (h : phrOk p = true) (h2 : sigIx ps p.2 = some 0) : goodAt ps 0 = true := by unfold goodAt; rw [hp]; simp [h, h2]
theorem goodAt_s {ps : List Phr} {k : Nat} {p q : Phr} (hp : ps[k + 1]? = some p) (hq : ps[k]? = some q) (h : phrOk p = true) (h1 : ltT q.1 p.1 = true) (h2 : sigIx ps p.2 = some (k + 1)) : goodAt ps (k + 1) = true := by unfold goodAt; rw [hp]; simp [h, h1, h2, hq]
theorem ixI_ne {o : Option Nat} {k : Nat} (h : o ≠ some k) : (ixI o != (k : Int)) = true := by
  rw [bne_iff_ne]; intro e; apply h
  cases o with
  | none => simp only [ixI] at e; omega
  | some i => simp only [ixI] at e; congr 1; omega
theorem ixI_eq {o : Option Nat} {k : Nat} (h : o = some k) : (ixI o != (k : Int)) = false := by subst h; simp [ixI]
end Go.Proofs.YtjnkdjokbamibaaDoor
/- Plain laws: the tables of how many ways there are from each place on; their bounds. -/
namespace Go.Proofs.YtjnkdjokbamibaaDoor
/-- Phrases that fit at one place have lengths of their own. -/
def Apart (fit : Phr → Bool) (len : Phr → Nat) (r : Nat) (ps : List Phr) : Prop :=
  ps.Pairwise (fun p q => fit p = true → fit q = true → len p ≠ len q) ∧ ∀ p ∈ ps, fit p = true → 1 ≤ len p ∧ len p ≤ r
theorem Apart.take {fit : Phr → Bool} {len : Phr → Nat} {r : Nat} {ps : List Phr} (h : Apart fit len r ps) (j : Nat) : Apart fit len r (ps.take j) :=
  ⟨h.1.sublist (List.take_sublist j ps), fun p hp => h.2 p (List.mem_of_mem_take hp)⟩
end Go.Proofs.YtjnkdjokbamibaaDoor
/- Contracts of the tests whether a book is valid, of the reference. -/
namespace Go.Proofs.YtjnkdjokbamibaaDoor
open Go.RowKit
theorem bookB_no {ps : List Phr} {k : Nat} (hk : k < ps.length) (h : goodAt ps k = false) : bookB ps = false := by unfold bookB; rw [goodB_no hk h, Bool.and_false]
set_option maxRecDepth 100000 in
set_option maxHeartbeats 4000000 in
theorem bkGood_any (ps : List Phr) (v : Value) (hi : Nat) (w : World) (h : RdB w hi v ps) (hh : hi ≤ w.heap.size) :
    Calls Tryd.prog 26 #[v] w fun e w' => e = .returned (.bool (bookB ps)) ∧ Below w.heap.size w w' := by
  obtain ⟨a, rfl, ha⟩ := h
  obtain ⟨A, c, rfl, hc, hm⟩ := ha.form
  have hba : Below w.heap.size w (w.alloc (.cells #[.slice A ps.length c] 24)) := (Below.refl _ _).alloc (Nat.le_refl _) _
  have HBA := Lib.hid hba
  have H := Lib.hid (ha.below hba hh)
  have hbox : (w.alloc (.cells #[.slice A ps.length c] 24)).cell? ⟨w.heap.size, 0, Option.none⟩ = some (.slice A ps.length c) := (Blk.new w 24 #[.slice A ps.length c]).cell 0
  have HBOX := Lib.hid hbox
  clear ha hba hbox
  go_enter Tryd.func26, Tryd.ntmps26
  go_wp2_with fail
  go_loopw [8] (fun i wr => ∃ k : Nat, k ≤ ps.length ∧ i = .int .i64 k ∧ Hid (∀ j, j < k → goodAt ps j = true) ∧ Below (w.heap.size + 1) (w.alloc (.cells #[.slice A ps.length c] 24)) wr) (fun i _ => ps.length - (intOf i).toNat)
  case atStart => exact ⟨0, Nat.zero_le _, rfl, fun j hj => by omega, Below.refl _ _⟩
  case round =>
    obtain ⟨k, hk, rfl, hup, hbr⟩ := hrel
    have hs : w.heap.size + 1 ≤ wr.heap.size := by have := hbr.size; simpa using this
    have hboxr : wr.cell? ⟨w.heap.size, 0, Option.none⟩ = some (.slice A ps.length c) := (hbr.cell (p := ⟨w.heap.size, 0, Option.none⟩) (by show w.heap.size < _; omega)).trans HBOX.out
    by_cases hlt : k < ps.length
    · obtain ⟨b1, o1, c1, a, t, xs, hv, hb1, hx, hcell1, hcell2, hra, hta⟩ := (H.out.below hbr (by omega)).at_ hlt
      cases hv
      obtain ⟨A2, c2, rfl, hc2, hm2⟩ := Rd.form hra
      have HX := Lib.hid hx
      have HBR := Lib.hid (HBA.out.trans (hbr.mono (by omega)))
      have hbw1 : Below (w.heap.size + 1) (w.alloc (.cells #[.slice (some ⟨b1, o1, Option.none⟩) ps.length c] 24)) (wr.alloc (.cells #[.string t, .slice A2 xs.length c2] 49)) := hbr.alloc hs _
      have HBR2 := Lib.hid hbw1
      have hra2 := hra.below ((Below.refl wr.heap.size wr).alloc (Nat.le_refl _) (.cells #[.string t, .slice A2 xs.length c2] 49)) (by omega)
      have HRA := Lib.hid hra2
      have HPS : Hid (RdB (wr.alloc (.cells #[.string t, .slice A2 xs.length c2] 49)) hi (.agg #[.slice (some ⟨b1, o1, Option.none⟩) ps.length c]) ps) := ⟨_, rfl, H.out.below hbw1 (by omega)⟩
      have HPQ : Hid (RdPS (wr.alloc (.cells #[.string t, .slice A2 xs.length c2] 49)) hi (.slice (some ⟨b1, o1, Option.none⟩) ps.length c) ps) := H.out.below hbw1 (by omega)
      have hlat := fun {b o : Nat} {u : Value} (hq : (wr.alloc (.cells #[.string t, .slice A2 xs.length c2] 49)).cell? ⟨b, o, Option.none⟩ = some u) (hb : b < wr.heap.size + 1) => later_cell (B := wr.heap.size + 1) hq hb
      have l0 := hlat ((Blk.new wr 49 #[.string t, .slice A2 xs.length c2]).cell 0) (by omega)
      have l1 := hlat ((Blk.new wr 49 #[.string t, .slice A2 xs.length c2]).cell 1) (by omega)
      have lb := hlat ((hbw1.cell (p := ⟨w.heap.size, 0, Option.none⟩) (by show w.heap.size < _; omega)).trans HBOX.out) (by omega)
      clear hlat hra hra2 hx hbw1 hbr hboxr
      have hxs : wr.heap.size + 1 ≤ (wr.alloc (.cells #[.string t, .slice A2 xs.length c2] 49)).heap.size := by simp
      have HXS := Lib.hid hxs
      clear hxs
      have cT := fun x : LaterW (wr.heap.size + 1) (wr.alloc (.cells #[.string t, .slice A2 xs.length c2] 49)) => bkPhraseText_any t (by unfold maxLen; omega) x.val
      have cS := fun x : LaterW (wr.heap.size + 1) (wr.alloc (.cells #[.string t, .slice A2 xs.length c2] 49)) => bkSignals_any xs (.slice A2 xs.length c2) hi x.val (HRA.out.below x.bel (by omega))
      have cO := fun x : LaterW (wr.heap.size + 1) (wr.alloc (.cells #[.string t, .slice A2 xs.length c2] 49)) => bkOf_any ps xs (.agg #[.slice (some ⟨b1, o1, Option.none⟩) ps.length c]) (.slice A2 xs.length c2) hi hi x.val (HPS.out.below x.bel (by omega)) (HRA.out.below x.bel (by omega)) (by have := x.bel.size; have := HXS.out; omega) (by have := x.bel.size; have := HXS.out; omega)
      cases hp1 : phraseB t.data.toList
      · rw [hp1] at cT
        have CT := Lib.hid cT
        clear cT cS cO
        go_wp2_with fail
        refine wp_region_later (wr.heap.size + 1) (by kernel_rfl) (by kernel_rfl) ?_; (repeat (go_big_quiet_step ((go_at_call 44; exact later_same (CT.out _))))); refine later_nil ?_; intro w2 hb2
        go_wp2_with fail
        go_ret
        exact ⟨ret_bool (bookB_no hlt (goodAt_phr HX.out (by unfold phrOk; rw [hp1]; rfl))).symm, (HBA.out.trans (HBR2.out.mono (by omega))).trans (hb2.mono (by omega))⟩
      · cases hp2 : sigOk xs
        · rw [hp1] at cT
          rw [hp2] at cS
          have CT := Lib.hid cT
          have CS := Lib.hid cS
          clear cT cS cO
          go_wp2_with fail
          refine wp_region_later (wr.heap.size + 1) (by kernel_rfl) (by kernel_rfl) ?_; (repeat (go_big_quiet_step ((first | (go_at_call 44; exact later_same (CT.out _)) | (go_at_call 45; exact later_same (CS.out _)))))); refine later_nil ?_; intro w2 hb2
          go_wp2_with fail
          go_ret
          exact ⟨ret_bool (bookB_no hlt (goodAt_phr HX.out (by unfold phrOk; rw [hp1, hp2]; rfl))).symm, (HBA.out.trans (HBR2.out.mono (by omega))).trans (hb2.mono (by omega))⟩
        · have HP : Hid (phrOk (t, xs) = true) := by show phrOk (t, xs) = true; unfold phrOk; rw [hp1, hp2]; rfl
          rw [hp1] at cT
          rw [hp2] at cS
          have CT := Lib.hid cT
          have CS := Lib.hid cS
          have CO := Lib.hid cO
          clear cT cS cO
          rcases Nat.eq_zero_or_pos k with h0 | hpos
          · have hk0 : decide (0 < k) = false := by rw [decide_eq_false_iff_not]; omega
            have H0 := Lib.hid h0
            clear h0
            by_cases hix : sigIx ps xs = some k
            · have hne := ixI_eq hix
              have HIX := Lib.hid hix
              clear hix
              go_wp2_with fail
              refine wp_region_later (wr.heap.size + 1) (by kernel_rfl) (by kernel_rfl) ?_; (repeat (go_big_quiet_step ((first | (go_at_call 44; exact later_same (CT.out _)) | (go_at_call 45; exact later_same (CS.out _)) | (go_at_call 46; exact later_of (HXS.out) (CO.out _)))))); refine later_nil ?_; intro w2 hb2
              go_wp2_with fail
              go_roundw
              case rel => exact ⟨k + 1, by omega, by go_num, fun j hj => by
                obtain rfl : k = 0 := H0.out
                obtain rfl : j = 0 := by omega
                exact goodAt_0 HX.out HP.out HIX.out, HBR2.out.trans (hb2.mono (by omega))⟩
              case measure => simp [intOf]; omega
            · have hne := ixI_ne hix
              go_wp2_with fail
              refine wp_region_later (wr.heap.size + 1) (by kernel_rfl) (by kernel_rfl) ?_; (repeat (go_big_quiet_step ((first | (go_at_call 44; exact later_same (CT.out _)) | (go_at_call 45; exact later_same (CS.out _)) | (go_at_call 46; exact later_of (HXS.out) (CO.out _)))))); refine later_nil ?_; intro w2 hb2
              go_wp2_with fail
              go_ret
              exact ⟨ret_bool (bookB_no hlt (goodAt_ix HX.out hix)).symm, (HBA.out.trans (HBR2.out.mono (by omega))).trans (hb2.mono (by omega))⟩
          · have hk0 : decide (0 < k) = true := by rw [decide_eq_true_eq]; omega
            obtain ⟨b3, o3, c3, a3, q, ys, hv, hb3, hq, hcq, _, _, hqs⟩ := (HPQ.out).at_ (show k - 1 < ps.length by omega)
            cases hv
            have lq := later_cell (B := wr.heap.size + 1) hcq (by omega)
            have hi1 : (0 : Int) ≤ (k : Int) - 1 := by omega
            have hi2 : (k : Int) - 1 < (ps.length : Int) := by omega
            have hi3 : ((k : Int) - 1).toNat = k - 1 := by omega
            have HQ : Hid (ps[k - 1]? = some (q, ys)) := hq
            clear hq hcq
            have HK : Hid (∃ m, k = m + 1) := ⟨k - 1, by omega⟩
            cases hlt2 : ltT q t
            · have hl1 : Op.bytesLess q.toList t.toList = false := hlt2
              go_wp2_with fail
              refine wp_region_later (wr.heap.size + 1) (by kernel_rfl) (by kernel_rfl) ?_; (repeat (go_big_quiet_step ((first | (go_at_call 44; exact later_same (CT.out _)) | (go_at_call 45; exact later_same (CS.out _)) | (go_at_call 46; exact later_of (HXS.out) (CO.out _)))))); refine later_nil ?_; intro w2 hb2
              go_wp2_with fail
              go_ret
              refine ⟨ret_bool ?_, (HBA.out.trans (HBR2.out.mono (by omega))).trans (hb2.mono (by omega))⟩
              obtain ⟨m, rfl⟩ := HK.out
              exact (bookB_no hlt (goodAt_lt HX.out HQ.out hlt2)).symm
            · have hl1 : Op.bytesLess q.toList t.toList = true := hlt2
              by_cases hix : sigIx ps xs = some k
              · have hne := ixI_eq hix
                have HIX := Lib.hid hix
                clear hix
                go_wp2_with fail
                refine wp_region_later (wr.heap.size + 1) (by kernel_rfl) (by kernel_rfl) ?_; (repeat (go_big_quiet_step ((first | (go_at_call 44; exact later_same (CT.out _)) | (go_at_call 45; exact later_same (CS.out _)) | (go_at_call 46; exact later_of (HXS.out) (CO.out _)))))); refine later_nil ?_; intro w2 hb2
                go_wp2_with fail
                go_roundw
                case rel => exact ⟨k + 1, by omega, by go_num, fun j hj => by
                  by_cases e : j = k
                  · subst e
                    obtain ⟨m, rfl⟩ := HK.out
                    exact goodAt_s HX.out HQ.out HP.out hlt2 HIX.out
                  · exact hup.out j (by omega), HBR2.out.trans (hb2.mono (by omega))⟩
                case measure => simp [intOf]; omega
              · have hne := ixI_ne hix
                go_wp2_with fail
                refine wp_region_later (wr.heap.size + 1) (by kernel_rfl) (by kernel_rfl) ?_; (repeat (go_big_quiet_step ((first | (go_at_call 44; exact later_same (CT.out _)) | (go_at_call 45; exact later_same (CS.out _)) | (go_at_call 46; exact later_of (HXS.out) (CO.out _)))))); refine later_nil ?_; intro w2 hb2
                go_wp2_with fail
                go_ret
                exact ⟨ret_bool (bookB_no hlt (goodAt_ix HX.out hix)).symm, (HBA.out.trans (HBR2.out.mono (by omega))).trans (hb2.mono (by omega))⟩
    · obtain rfl : k = ps.length := by omega
      go_wp2_with (go_at_call 43; refine (l1In_any _ _ _ _).mono ?_; rintro e w' ⟨rfl, rfl⟩)
      go_ret
      refine ⟨ret_bool ?_, HBA.out.trans (hbr.mono (by omega))⟩
      unfold bookB
      rw [goodB_yes hup.out, Bool.and_true]
end Go.Proofs.YtjnkdjokbamibaaDoor
