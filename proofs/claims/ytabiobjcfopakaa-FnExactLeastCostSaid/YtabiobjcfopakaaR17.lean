/- Contracts: LeastLengths and LeastCost of the reference. -/
import Derived.Test.YtabiobjcfopakaaR16
namespace Go.Proofs.Ytabiobjcfopakaa
open Go.RowKit
theorem flat_inj : ∀ (lev : List (Nat × Nat × List Nat)), (flatG lev).Nodup → ∀ (l d l' d' : Nat) (x x' : Nat × Nat × List Nat) (g : Nat), lev[l]? = some x → lev[l']? = some x' → x.2.2[d]? = some g → x'.2.2[d']? = some g → l = l' ∧ d = d'
  | [], _, l, d, l', d', x, x', g, h, _, _, _ => by simp at h
  | y :: lev, hn, l, d, l', d', x, x', g, h1, h2, h3, h4 => by
    have hf : flatG (y :: lev) = y.2.2 ++ flatG lev := by simp [flatG]
    rw [hf, List.nodup_append] at hn
    have hmem : ∀ (k : Nat) (z : Nat × Nat × List Nat), lev[k]? = some z → ∀ b ∈ z.2.2, b ∈ flatG lev := fun k z hz b hb => by
      unfold flatG; rw [List.mem_flatMap]; exact ⟨z, List.mem_of_getElem? hz, hb⟩
    cases l with
    | zero =>
      rw [List.getElem?_cons_zero] at h1; cases h1
      cases l' with
      | zero =>
        rw [List.getElem?_cons_zero] at h2; cases h2
        have := (List.getElem?_inj (i := d) (j := d') (List.getElem?_eq_some_iff.1 h3).1 hn.1).1 (by rw [h3, h4])
        exact ⟨rfl, this⟩
      | succ l' =>
        rw [List.getElem?_cons_succ] at h2
        exact absurd rfl (hn.2.2 g (List.mem_of_getElem? h3) g (hmem l' x' h2 g (List.mem_of_getElem? h4)))
    | succ l =>
      rw [List.getElem?_cons_succ] at h1
      cases l' with
      | zero =>
        rw [List.getElem?_cons_zero] at h2; cases h2
        exact absurd rfl (hn.2.2 g (List.mem_of_getElem? h4) g (hmem l x h1 g (List.mem_of_getElem? h3)))
      | succ l' =>
        rw [List.getElem?_cons_succ] at h2
        have := flat_inj lev hn.2.1 l d l' d' x x' g h1 h2 h3 h4
        exact ⟨by omega, this.2⟩
/-- A newly made table holds noughts. -/
theorem TabNew.tbl {Z : List Int} {r L : Nat} {w0 w : World} {T : Nat} (h : TabNew Z r L w0 w T) : ∃ k0 ck lev, Tbl w T w0.heap.size k0 ck Z r L lev (fun _ _ _ => 0) ∧ (∀ g ∈ flatG lev, T < g ∧ g < w.heap.size) ∧ w0.heap.size < T ∧ Below w0.heap.size w0 w := by
  obtain ⟨K, ck, lev, hT, hblk, hrest, hll, how, hlv, hbl⟩ := h
  obtain ⟨k0, rfl, cur0, hcur0⟩ : ∃ k0, K = some ⟨k0, 0, Option.none⟩ ∧ ∃ cur, w.heap[k0]? = some (.cells cur 61 (0, 0)) := by
    rcases how.2 with ⟨_, e⟩ | ⟨g, cap, cur, e, _, hg, _⟩
    · omega
    · cases e; exact ⟨g, rfl, cur, hg⟩
  have hlev : ∀ l, l ≤ L → ∃ x, lev[l]? = some x ∧ levAt lev l = x := by
    intro l hl
    have h1 := List.getElem?_eq_getElem (l := lev) (i := l) (by omega)
    exact ⟨lev[l], h1, by unfold levAt; rw [List.getD_eq_getElem?_getD, h1]; rfl⟩
  have hg : ∀ l d, l ≤ L → d ≤ Z.length → ∃ x g, lev[l]? = some x ∧ levAt lev l = x ∧ x.2.2[d]? = some g ∧ gAt lev l d = g := by
    intro l d hl hd
    obtain ⟨x, h1, h2⟩ := hlev l hl
    have hlen := (hlv.ok x (List.mem_of_getElem? h1)).len
    have h3 := List.getElem?_eq_getElem (l := x.2.2) (i := d) (by omega)
    exact ⟨x, x.2.2[d], h1, h2, h3, by unfold gAt; rw [h2, List.getD_eq_getElem?_getD, h3]; rfl⟩
  have hmem : ∀ l d, l ≤ L → d ≤ Z.length → gAt lev l d ∈ flatG lev := by
    intro l d hl hd
    obtain ⟨x, g, h1, _, h3, h4⟩ := hg l d hl hd
    rw [h4]; unfold flatG; rw [List.mem_flatMap]
    exact ⟨x, List.mem_of_getElem? h1, List.mem_of_getElem? h3⟩
  have hzero : ∀ g ∈ flatG lev, Blk w g 3 (ints (List.replicate (Z.length + 1) 0)) := by
    intro g hgm
    unfold flatG at hgm
    rw [List.mem_flatMap] at hgm
    obtain ⟨x, hx, hgx⟩ := hgm
    exact (hlv.ok x hx).zero g hgx
  refine ⟨k0, ck, lev, ⟨hblk, hrest, fun l hl => ?_, fun l d hl hd => ?_, fun l d hl hd => ?_, hmem, fun l d l' d' hl hd hl' hd' e => ?_, fun g hgm => ?_⟩, hlv.range, hT, hbl⟩
  · obtain ⟨x, h1, h2⟩ := hlev l hl
    have h3 := how.cells (g := k0) rfl l (lvV (Z.length + 1) x) (by rw [List.getElem?_map, h1]; rfl)
    have hadd : (⟨k0, 0, Option.none⟩ : Addr).add l = ⟨k0, 0 + l, Option.none⟩ := by unfold Addr.add; split <;> simp_all
    rw [hadd, Nat.zero_add] at h3
    rw [h2]; exact h3
  · obtain ⟨x, g, h1, h2, h3, h4⟩ := hg l d hl hd
    obtain ⟨cur, hc, ht⟩ := (hlv.ok x (List.mem_of_getElem? h1)).row
    rw [h2, h4]
    have h5 := congrArg (fun l : List Value => l[d]?) ht
    simp only [List.getElem?_map, h3, List.getElem?_take] at h5
    rw [if_pos (by omega)] at h5
    rw [cell_of_row w x.1 d cur 29 (0, 0) hc]
    simpa using h5
  · have := hzero _ (hmem l d hl hd)
    rw [show (List.range (Z.length + 1)).map (fun _ => (0 : Int)) = List.replicate (Z.length + 1) 0 by rw [List.map_const']; simp]
    exact this
  · obtain ⟨x, g, h1, _, h3, h4⟩ := hg l d hl hd
    obtain ⟨x', g', h1', _, h3', h4'⟩ := hg l' d' hl' hd'
    rw [h4, h4'] at e
    subst e
    exact flat_inj lev hlv.nodup l d l' d' x x' g h1 h1' h3 h3'
  · have hz := hzero g hgm
    have hr := hlv.range g hgm
    refine ⟨by omega, by omega, hz.heap_ne hcur0 (by decide), fun l hl => ?_⟩
    obtain ⟨x, h1, h2⟩ := hlev l hl
    obtain ⟨cur, hc, _⟩ := (hlv.ok x (List.mem_of_getElem? h1)).row
    rw [h2]
    exact hz.heap_ne hc (by decide)
/-- All blocks of the table lie below N. -/
structure TLt (N T Rb k0 : Nat) (Z : List Int) (L : Nat) (lev : List (Nat × Nat × List Nat)) : Prop where
  t : T < N
  rb : Rb < N
  k : k0 < N
  lv : ∀ l, l ≤ L → (levAt lev l).1 < N
  g : ∀ l d, l ≤ L → d ≤ Z.length → gAt lev l d < N
theorem Tbl.tlt {w : World} {T Rb k0 ck : Nat} {Z : List Int} {r L : Nat} {lev : List (Nat × Nat × List Nat)} {f : Nat → Nat → Nat → Int} (h : Tbl w T Rb k0 ck Z r L lev f) : TLt w.heap.size T Rb k0 Z L lev :=
  ⟨h.blk.lt, h.rest.lt, World.block_lt_of_cell? w _ (h.outer 0 (Nat.zero_le _)), fun l hl => World.block_lt_of_cell? w _ (h.mid l 0 hl (Nat.zero_le _)), fun l d hl hd => (h.rows l d hl hd).lt⟩
theorem Tbl.same {w w' : World} {T Rb k0 ck N : Nat} {Z : List Int} {r L : Nat} {lev : List (Nat × Nat × List Nat)} {f : Nat → Nat → Nat → Int} (h : Tbl w T Rb k0 ck Z r L lev f) (hl : TLt N T Rb k0 Z L lev) (hb : Below N w w') : Tbl w' T Rb k0 ck Z r L lev f :=
  ⟨h.blk.below hb hl.t, h.rest.below hb hl.rb, fun l h1 => (hb.cell (p := ⟨k0, l, Option.none⟩) hl.k).trans (h.outer l h1), fun l d h1 h2 => (hb.cell (p := ⟨(levAt lev l).1, d, Option.none⟩) (hl.lv l h1)).trans (h.mid l d h1 h2), fun l d h1 h2 => (h.rows l d h1 h2).below hb (hl.g l d h1 h2), h.mem, h.inj, h.far⟩
theorem FrG.bel {gs : List Nat} {w w' : World} {B : Nat} (h : FrG gs w w') (hg : ∀ g ∈ gs, B ≤ g) : Below B w w' := ⟨h.os, h.tape, h.output, Nat.le_of_eq h.size.symm, fun k hk => h.block k (fun hm => by have := hg k hm; omega)⟩
end Go.Proofs.Ytabiobjcfopakaa
