/- What a book and a phrase that read as data look like in memory. -/
import Derived.Test.YtabiobjcfopakaaO
import Derived.Test.YtabiobjcfopakaaD1
import Derived.Deep.SlicePairs
import Derived.Lib.SmallJoins
namespace Go.Proofs.Ytabiobjcfopakaa
set_option maxRecDepth 100000
open Go.ChangeShapes Go.WideShapes Go.ChangeAt Go.RowKit Go.Deep
theorem open_agg1 {H : Type} {enc : TypeId × Value → H} {P : Program} {w : World} {base : Nat} {spare : Nat → Bool} {held : Bool} {r : Reach} {b0 : Nat} {t : TypeId} {f0 : Field} {v : Value} {d : DataW H} {p : List MemPlace}
    (hs : P.underlying t = some (.struct #[f0])) (hC : P.cellsOf t = 1) (ho : f0.offset = 0) (hk : P.cellsOf f0.type = 1) (hv : Value.okWide P w r b0 t v) (h : DataW.Trod enc P w base spare held t v d p) :
    ∃ v0 y0 n, v = .agg #[v0] ∧ DataW.trod enc P w base spare held n f0.type [v0] = some y0 := by
  obtain ⟨cs, rfl, hsz⟩ := okWide_struct hs hv
  obtain ⟨c0, rfl⟩ : ∃ c0, cs = #[c0] := by
    match cs, hsz.trans hC with
    | ⟨[c]⟩, _ => exact ⟨c, rfl⟩
  obtain ⟨fuel, hf⟩ := h
  obtain ⟨y0, n, _, _, h0⟩ := trod_struct1 hs hf
  exact ⟨c0, y0, n, rfl, by simpa [Value.cells, ho, hk] using h0⟩
theorem zipC_inv : ∀ (ts : List ByteArray) (us : List Value) (j : Nat) (u : Value), (zipC ts us)[j]? = some u → (∃ i t, j = i * 2 ∧ ts[i]? = some t ∧ u = .string t) ∨ (∃ i, j = i * 2 + 1 ∧ us[i]? = some u)
  | [], us, j, u, h => by simp [zipC] at h
  | t :: ts, [], j, u, h => by simp [zipC] at h
  | t :: ts, v :: us, 0, u, h => by simp [zipC] at h; exact .inl ⟨0, t, rfl, rfl, h.symm⟩
  | t :: ts, v :: us, 1, u, h => by simp [zipC] at h; exact .inr ⟨0, rfl, by simp [h]⟩
  | t :: ts, v :: us, j + 2, u, h => by
    simp only [zipC, List.getElem?_cons_succ] at h
    rcases zipC_inv ts us j u h with ⟨i, t', rfl, h1, h2⟩ | ⟨i, rfl, h1⟩
    · exact .inl ⟨i + 1, t', by omega, by simpa using h1, h2⟩
    · exact .inr ⟨i + 1, by omega, by simpa using h1⟩
theorem open_phrS {H : Type} {enc : TypeId × Value → H} {w : World} {spare : Nat → Bool} {held : Bool} {fuel : Nat} {v : Value} {x : DataW H × List MemPlace}
    (h : DataW.trod enc Try.prog w 0 spare held fuel 40 [v] = some x) : ∃ ps, RdPS w w.heap.size v ps := by
  rcases open_slice_pairs Try.underlying40 Try.underlying73 (by kernel_rfl) rfl rfl (by kernel_rfl) (by kernel_rfl) h with ⟨hv, _⟩ | ⟨a, len, cap, m, n, V0, V1, D0, D1, P0, P1, hv, _, hl, hm, hmm, _, hcell⟩
  · simp only [List.cons.injEq, and_true] at hv
    subst hv
    exact ⟨[], [], ⟨rfl, fun i u xs hu _ => by simp at hu⟩, ⟨rfl, Option.none, 0, rfl, Nat.le_refl _, Nat.zero_le _, fun h => absurd h (by simp)⟩, fun p hp => by cases hp⟩
  · simp only [List.cons.injEq, and_true] at hv
    subst hv
    have hlm : len ≤ m := by rw [hmm]; split <;> omega
    have hk : ∀ i, ∃ p : Phr, i < len → w.cell? (a.add (i * 2)) = some (.string p.1) ∧ w.cell? (a.add (i * 2 + 1)) = some (V1 i) ∧ RdI w w.heap.size (V1 i) p.2 ∧ p.1.size ≤ 9223372036854775807 := by
      intro i
      by_cases hi : i < len
      · obtain ⟨h0, h1, h2, h3⟩ := hcell i (by omega)
        obtain ⟨s, e, _, hs⟩ := DataW.trod_string Try.underlying9 h2
        obtain ⟨xs, hxs⟩ := open_intS h3
        have e' : V0 i = .string s := by simpa using e
        exact ⟨(s, xs), fun _ => ⟨by rw [h0, e'], h1, hxs, by unfold maxLen at hs; show s.size ≤ _; omega⟩⟩
      · exact ⟨(⟨#[]⟩, []), fun h => absurd h hi⟩
    obtain ⟨F, hF⟩ : ∃ F : Nat → Phr, ∀ i, i < len → w.cell? (a.add (i * 2)) = some (.string (F i).1) ∧ w.cell? (a.add (i * 2 + 1)) = some (V1 i) ∧ RdI w w.heap.size (V1 i) (F i).2 ∧ (F i).1.size ≤ 9223372036854775807 :=
      ⟨fun i => Classical.choose (hk i), fun i => Classical.choose_spec (hk i)⟩
    clear hk
    have hzl : (zipC (txts ((List.range len).map F)) ((List.range len).map V1)).length = len * 2 := by rw [zipC_len _ _ (by simp [txts])]; simp [txts]
    refine ⟨(List.range len).map F, (List.range len).map V1, ⟨by simp [sigs], fun i u xs hu hx => ?_⟩, ⟨by rw [hzl]; simp, some a, cap, by simp, by simpa using hl, hm, fun hpos => ?_⟩, fun p hp => ?_⟩
    · have hi : i < len := by
        rcases Nat.lt_or_ge i len with h | h
        · exact h
        · rw [List.getElem?_eq_none (by simp; exact h)] at hu; cases hu
      simp [hi] at hu
      simp [sigs, hi] at hx
      rw [← hu, ← hx]; exact (hF i hi).2.2.1
    · have hpos' : 0 < len := by simpa using hpos
      obtain ⟨b, off, ha, hlt⟩ := spot_of (hF 0 hpos').1
      have ha' : a = ⟨b, off, Option.none⟩ := by simpa [Addr.add] using ha
      subst ha'
      refine ⟨b, off, rfl, hlt, fun j u hu => ?_⟩
      rcases zipC_inv _ _ _ _ hu with ⟨i, t, rfl, h1, rfl⟩ | ⟨i, rfl, h1⟩
      · have hi : i < len := by
          rcases Nat.lt_or_ge i len with h | h
          · exact h
          · rw [List.getElem?_eq_none (by simp [txts]; exact h)] at h1; cases h1
        simp [txts, hi] at h1
        have := (hF i hi).1
        rw [add_plain, h1] at this; exact this
      · have hi : i < len := by
          rcases Nat.lt_or_ge i len with h | h
          · exact h
          · rw [List.getElem?_eq_none (by simp; exact h)] at h1; cases h1
        simp [hi] at h1
        have := (hF i hi).2.1
        rw [add_plain, h1] at this; exact this
    · rw [List.mem_map] at hp
      obtain ⟨i, hi, rfl⟩ := hp
      exact (hF i (List.mem_range.1 hi)).2.2.2
theorem open_book {H : Type} {enc : TypeId × Value → H} {w : World} {spare : Nat → Bool} {held : Bool} {r : Reach} {b0 : Nat} {v : Value} {d : DataW H} {p : List MemPlace}
    (hv : Value.okWide Try.prog w r b0 42 v) (h : DataW.Trod enc Try.prog w 0 spare held 42 v d p) : ∃ ps, RdB w w.heap.size v ps := by
  obtain ⟨v0, y0, n, rfl, h0⟩ := open_agg1 Try.underlying42 (by kernel_rfl) rfl (by kernel_rfl) hv h
  obtain ⟨ps, hps⟩ := open_phrS h0
  exact ⟨ps, v0, rfl, hps⟩
theorem open_phrase {H : Type} {enc : TypeId × Value → H} {w : World} {spare : Nat → Bool} {held : Bool} {r : Reach} {b0 : Nat} {v : Value} {d : DataW H} {p : List MemPlace}
    (hv : Value.okWide Try.prog w r b0 73 v) (h : DataW.Trod enc Try.prog w 0 spare held 73 v d p) : ∃ x, RdP w w.heap.size v x := by
  obtain ⟨v0, v1, y0, y1, n, rfl, _, _, h0, h1⟩ := Go.Joins.open_agg2 Try.underlying73 (by kernel_rfl) (by kernel_rfl) hv h
  obtain ⟨s, e, _, hs⟩ := DataW.trod_string Try.underlying9 h0
  obtain ⟨xs, hxs⟩ := open_intS h1
  have e' : v0 = .string s := by simpa using e
  subst e'
  exact ⟨(s, xs), v1, rfl, hxs, by unfold maxLen at hs; show s.size ≤ _; omega⟩
end Go.Proofs.Ytabiobjcfopakaa
