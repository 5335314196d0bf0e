/- Contracts: the table of the reference, newly made. -/
import Derived.Test.YtabiobjcfopakaaR12
namespace Go.Proofs.Ytabiobjcfopakaa
open Go.RowKit
abbrev slN (g n : Nat) : Value := .slice (some ⟨g, 0, Option.none⟩) n n
/-- What is left of the weights from each index on. -/
def restL (Z : List Int) : List Int := (List.range (Z.length + 1)).map fun j => sumW (Z.drop j)
theorem restL_len (Z : List Int) : (restL Z).length = Z.length + 1 := by simp [restL]
theorem restL_at {Z : List Int} {j : Nat} (h : j ≤ Z.length) : (restL Z)[j]? = some (sumW (Z.drop j)) := by unfold restL; rw [List.getElem?_map, List.getElem?_range (by omega)]; rfl
/-- Blocks of other types than some have not turned. -/
structure Frs (ts : List TypeId) (w w' : World) : Prop where
  os : w'.os = w.os
  tape : w'.tape = w.tape
  output : w'.output = w.output
  size : w.heap.size ≤ w'.heap.size
  block : ∀ (k : Nat) (c : Array Value) (e : TypeId) (fz : Nat × Nat), w.heap[k]? = some (.cells c e fz) → e ∉ ts → w'.heap[k]? = some (.cells c e fz)
theorem Frs.refl (ts : List TypeId) (w : World) : Frs ts w w := ⟨rfl, rfl, rfl, Nat.le_refl _, fun _ _ _ _ h _ => h⟩
theorem Frs.trans {ts : List TypeId} {a b c : World} (h : Frs ts a b) (k : Frs ts b c) : Frs ts a c :=
  ⟨k.os.trans h.os, k.tape.trans h.tape, k.output.trans h.output, Nat.le_trans h.size k.size, fun i x e fz h1 h2 => k.block i x e fz (h.block i x e fz h1 h2) h2⟩
theorem frs_alloc (ts : List TypeId) (w : World) (o : Obj) : Frs ts w (w.alloc o) :=
  ⟨rfl, rfl, rfl, by simp, fun k c e fz h _ => by
    have hk : k < w.heap.size := (Array.getElem?_eq_some_iff.1 h).1
    exact (Below.heap_alloc w o k hk).trans h⟩
theorem frs_grown {ts : List TypeId} {w w' : World} {B size n : Nat} {t : TypeId} {v : Value} {xs : List Value} (h : w.ownsRow B t size v n xs) (hg : w.grownBy w' v.ownBlock) (ht : t ∈ ts) : Frs ts w w' :=
  ⟨hg.os, hg.tape, hg.output, hg.size, fun k c e fz hk he => by
    refine (hg.block k (Array.getElem?_eq_some_iff.1 hk).1 fun e2 => ?_).trans hk
    rcases h.2 with ⟨rfl, _⟩ | ⟨g, cap, cur, rfl, _, hgg, _⟩
    · cases e2
    · cases e2
      rw [hgg] at hk
      cases hk
      exact he ht⟩
theorem frs_set {ts : List TypeId} {w : World} {S : Nat} {t : TypeId} {cs : List Value} {i : Nat} {u : Value} (h : Blk w S t cs) (ht : t ∈ ts) : Frs ts w (w.setCell ⟨S, i, Option.none⟩ u) :=
  ⟨rfl, rfl, rfl, by simp [World.setCell], fun k c e fz hk he => by
    refine (Below.heap_setCell w _ u k (fun e2 => ?_)).trans hk
    have e3 : k = S := e2
    subst e3
    unfold Blk at h
    rw [h] at hk
    cases hk
    exact he ht⟩
theorem Blk.frs {ts : List TypeId} {w w' : World} {g : Nat} {t : TypeId} {cs : List Value} (h : Blk w g t cs) (hf : Frs ts w w') (ht : t ∉ ts) : Blk w' g t cs := hf.block _ _ _ _ h ht
/-- One level of the table: its rows lie in the blocks gs. -/
structure LevOk (w : World) (n1 : Nat) (x : Nat × Nat × List Nat) : Prop where
  len : x.2.2.length = n1
  row : ∃ cur : Array Value, w.heap[x.1]? = some (.cells cur 29 (0, 0)) ∧ cur.toList.take n1 = x.2.2.map fun g => slN g n1
  zero : ∀ g ∈ x.2.2, Blk w g 3 (ints (List.replicate n1 0))
theorem LevOk.frs {ts : List TypeId} {w w' : World} {n1 : Nat} {x : Nat × Nat × List Nat} (h : LevOk w n1 x) (hf : Frs ts w w') (h1 : 3 ∉ ts) (h2 : 29 ∉ ts) : LevOk w' n1 x := by
  obtain ⟨cur, hc, ht⟩ := h.row
  exact ⟨h.len, ⟨cur, hf.block _ _ _ _ hc h2, ht⟩, fun g hg => (h.zero g hg).frs hf h1⟩
theorem LevOk.below {B : Nat} {w w' : World} {n1 : Nat} {x : Nat × Nat × List Nat} (h : LevOk w n1 x) (hb : Below B w w') (hx : w.heap.size ≤ B) : LevOk w' n1 x := by
  obtain ⟨cur, hc, ht⟩ := h.row
  exact ⟨h.len, ⟨cur, (hb.block _ (by have := (Array.getElem?_eq_some_iff.1 hc).1; omega)).trans hc, ht⟩, fun g hg => (h.zero g hg).below hb (by have := (h.zero g hg).lt; omega)⟩
def lvV (n1 : Nat) (x : Nat × Nat × List Nat) : Value := .slice (some ⟨x.1, 0, Option.none⟩) n1 x.2.1
def flatG (lev : List (Nat × Nat × List Nat)) : List Nat := lev.flatMap fun x => x.2.2
structure Levs (w : World) (T n1 : Nat) (lev : List (Nat × Nat × List Nat)) : Prop where
  ok : ∀ x ∈ lev, LevOk w n1 x
  nodup : (flatG lev).Nodup
  range : ∀ g ∈ flatG lev, T < g ∧ g < w.heap.size
theorem Levs.nil (w : World) (T n1 : Nat) : Levs w T n1 [] := ⟨by simp, by simp [flatG], by simp [flatG]⟩
theorem flatG_snoc (lev : List (Nat × Nat × List Nat)) (x : Nat × Nat × List Nat) : flatG (lev ++ [x]) = flatG lev ++ x.2.2 := by simp [flatG]
theorem Levs.frs {ts : List TypeId} {w w' : World} {T n1 : Nat} {lev : List (Nat × Nat × List Nat)} (h : Levs w T n1 lev) (hf : Frs ts w w') (h1 : 3 ∉ ts) (h2 : 29 ∉ ts) : Levs w' T n1 lev :=
  ⟨fun x hx => (h.ok x hx).frs hf h1 h2, h.nodup, fun g hg => ⟨(h.range g hg).1, by have := (h.range g hg).2; have := hf.size; omega⟩⟩
theorem Levs.snoc {w w' : World} {T n1 : Nat} {lev : List (Nat × Nat × List Nat)} {x : Nat × Nat × List Nat} (h : Levs w T n1 lev) (hT : T < w.heap.size) (hb : Below w.heap.size w w') (hx : LevOk w' n1 x) (hn : x.2.2.Nodup) (hr : ∀ g ∈ x.2.2, w.heap.size ≤ g) : Levs w' T n1 (lev ++ [x]) := by
  refine ⟨fun y hy => ?_, ?_, fun g hg => ?_⟩
  · rcases List.mem_append.1 hy with h1 | h1
    · exact (h.ok y h1).below hb (Nat.le_refl _)
    · rw [List.mem_singleton] at h1; rw [h1]; exact hx
  · rw [flatG_snoc, List.nodup_append]
    refine ⟨h.nodup, hn, fun a ha b hbb e => ?_⟩
    have h1 := (h.range a ha).2
    have h2 := hr b hbb
    omega
  · rw [flatG_snoc, List.mem_append] at hg
    rcases hg with h1 | h1
    · have := h.range g h1
      have := hb.size
      omega
    · have := hr g h1
      have := (hx.zero g h1).lt
      omega
theorem Blk.heap_ne {w : World} {g h : Nat} {t t' : TypeId} {cs : List Value} {cur : Array Value} {fz : Nat × Nat} (hb : Blk w g t cs) (hh : w.heap[h]? = some (.cells cur t' fz)) (ht : t ≠ t') : g ≠ h := by
  rintro rfl
  unfold Blk at hb
  rw [hb] at hh
  cases hh
  exact ht rfl
end Go.Proofs.Ytabiobjcfopakaa
