/- Texts of one claim, joined: T3, T4, T5, T6, R3, T11, U2, T12, U6. -/
import Derived.Deep.Onto
import Derived.Test.YtjnkdjokbamibaaP4CodeWords
/- Typed rows: slices of numbers and phrases of a drawn book, of which only the kind of the cells is known. -/
namespace Go.Proofs.Ytjnkdjokbamibaa
open Go.RowKit
/-- A slice of p to 1000 numbers in a row of numbers from block lo on; what it holds is of no matter. -/
def IntSl (w : World) (lo p : Nat) (u : Value) : Prop :=
  (u = .slice Option.none 0 0 ∧ p = 0) ∨ ∃ (b n c : Nat) (cur : Array Value), u = .slice (some ⟨b, 0, Option.none⟩) n c ∧ lo ≤ b ∧ (p ≤ n ∧ n ≤ 1000 ∧ n ≤ c) ∧ c ≤ 9223372036854775807 ∧ w.heap[b]? = some (.cells cur 3 (0, 0)) ∧ ∀ j, j < n → ∃ z : Int, cur[j]? = some (.int .i64 z)
/-- Rows of numbers stay rows of numbers. -/
def IntsKept (lo : Nat) (w w' : World) : Prop := ∀ (b : Nat) (cur : Array Value), lo ≤ b → w.heap[b]? = some (.cells cur 3 (0, 0)) → ∃ cur' : Array Value, w'.heap[b]? = some (.cells cur' 3 (0, 0)) ∧ ∀ (j : Nat) (z : Int), cur[j]? = some (.int .i64 z) → ∃ z' : Int, cur'[j]? = some (.int .i64 z')
theorem IntsKept.same {lo : Nat} {w w' : World} (h : ∀ (b : Nat) (cur : Array Value), lo ≤ b → w.heap[b]? = some (.cells cur 3 (0, 0)) → w'.heap[b]? = w.heap[b]?) : IntsKept lo w w' := fun b cur hb hg => ⟨cur, (h b cur hb hg).trans hg, fun _ z hz => ⟨z, hz⟩⟩
theorem IntsKept.refl (lo : Nat) (w : World) : IntsKept lo w w := .same fun _ _ _ _ => rfl
theorem IntsKept.trans {lo : Nat} {a b c : World} (h : IntsKept lo a b) (g : IntsKept lo b c) : IntsKept lo a c := fun k cur hk hg => by
  obtain ⟨c1, h1, h2⟩ := h k cur hk hg
  obtain ⟨c2, g1, g2⟩ := g k c1 hk h1
  refine ⟨c2, g1, fun j z hz => ?_⟩
  obtain ⟨z1, hz1⟩ := h2 j z hz
  exact g2 j z1 hz1
theorem IntsKept.keepG {lo C : Nat} {w w' : World} (h : KeepG C (C + 1) w w') (hC : C < lo) : IntsKept lo w w' := .same fun b _ hb hg => h.block b (Array.getElem?_eq_some_iff.1 hg).1 (by omega)
theorem IntsKept.below {lo : Nat} {w w' : World} (h : Below w.heap.size w w') : IntsKept lo w w' := .same fun b _ _ hg => h.block b (Array.getElem?_eq_some_iff.1 hg).1
theorem IntsKept.alloc {lo : Nat} {w w' : World} (h : IntsKept lo w w') (o : Obj) : IntsKept lo w (w'.alloc o) := h.trans (.below ((Below.refl _ _).alloc (Nat.le_refl _) _))
/-- A store into a row of another kind. -/
theorem IntsKept.far {lo : Nat} {w : World} {p : Addr} {u : Value} (h : ∀ cur, w.heap[p.block]? ≠ some (.cells cur 3 (0, 0))) : IntsKept lo w (w.setCell p u) := .same fun b cur _ hg => Below.heap_setCell w p u b (fun e => h cur (by rw [← e]; exact hg))
theorem IntsKept.setInt {lo : Nat} {w : World} {b i : Nat} (z : Int) : IntsKept lo w (w.setCell ⟨b, i, Option.none⟩ (.int .i64 z)) := fun k cur hk hg => by
  by_cases e : k = b
  · subst e
    refine ⟨cur.setIfInBounds i (.int .i64 z), heap_setCell_same w k i cur 3 (.int .i64 z) hg, fun j y hy => ?_⟩
    by_cases e2 : i = j
    · subst e2
      have hl := (Array.getElem?_eq_some_iff.1 hy).1
      exact ⟨z, by simp [hl]⟩
    · exact ⟨y, by rw [Array.getElem?_setIfInBounds, if_neg e2]; exact hy⟩
  · exact ⟨cur, (Below.heap_setCell w ⟨b, i, Option.none⟩ _ k e).trans hg, fun _ y hy => ⟨y, hy⟩⟩
theorem IntSl.kept {lo p : Nat} {w w' : World} {u : Value} (h : IntSl w lo p u) (hk : IntsKept lo w w') : IntSl w' lo p u := by
  rcases h with h0 | ⟨b, n, c, cur, rfl, hb, hn, hc, hg, hz⟩
  · exact .inl h0
  · obtain ⟨cur', h1, h2⟩ := hk b cur hb hg
    refine .inr ⟨b, n, c, cur', rfl, hb, hn, hc, h1, fun j hj => ?_⟩
    obtain ⟨z, hz1⟩ := hz j hj
    exact h2 j z hz1
theorem IntSl.nil (w : World) (lo : Nat) : IntSl w lo 0 (.slice Option.none 0 0) := .inl ⟨rfl, rfl⟩
theorem IntSl.own {w : World} {lo p : Nat} {v : Value} {xs : List Int} (h : w.ownsRow lo 3 1 v xs.length (ints xs)) (hp : p ≤ xs.length) (hx : xs.length ≤ 1000) : IntSl w lo p v := by
  rcases h.2 with ⟨rfl, hz⟩ | ⟨g, cap, cur, rfl, hl, hg, hn, hm, hs, ht⟩
  · exact .inl ⟨rfl, by omega⟩
  · refine .inr ⟨g, xs.length, cap, cur, rfl, hl, ⟨hp, hx, hn⟩, by unfold maxLen at hm; omega, hg, fun j hj => ⟨xs[j], ?_⟩⟩
    have h1 : (ints xs)[j]? = some (.int .i64 xs[j]) := by simp [ints, hj]
    rw [← ht, List.getElem?_take, if_pos (by omega)] at h1
    simpa using h1
theorem IntSl.zero {w : World} {lo p : Nat} {u : Value} (h : IntSl w lo p u) : IntSl w lo 0 u := by
  rcases h with ⟨rfl, _⟩ | ⟨b, n, c, cur, h1, h2, h3, h4⟩
  · exact .inl ⟨rfl, rfl⟩
  · exact .inr ⟨b, n, c, cur, h1, h2, ⟨Nat.zero_le _, h3.2⟩, h4⟩
theorem IntSl.form {w : World} {lo p : Nat} {u : Value} (h : IntSl w lo p u) : ∃ A n c, u = .slice A n c ∧ p ≤ n ∧ n ≤ 1000 := by
  rcases h with ⟨rfl, h0⟩ | ⟨b, n, c, cur, rfl, _, h3, _⟩
  · exact ⟨_, _, _, rfl, by omega, by omega⟩
  · exact ⟨_, _, _, rfl, h3.1, h3.2.1⟩
theorem IntSl.rd {w : World} {lo p : Nat} {u : Value} (h : IntSl w lo p u) : ∃ xs : List Int, RdI w w.heap.size u xs := by
  rcases h with ⟨rfl, _⟩ | ⟨b, n, c, cur, rfl, hb, hn, hc, hg, hz⟩
  · exact ⟨[], (owI_nil w 0 w.heap.size).rd⟩
  · have hz' : ∃ f : Nat → Int, ∀ j, j < n → cur[j]? = some (.int .i64 (f j)) := by
      refine ⟨fun j => if h : j < n then Classical.choose (hz j h) else 0, fun j hj => ?_⟩
      dsimp only
      rw [dif_pos hj]
      exact Classical.choose_spec (hz j hj)
    obtain ⟨f, hf⟩ := hz'
    have hl : ((List.range n).map f).length = n := by simp
    refine ⟨(List.range n).map f, by simp, some ⟨b, 0, Option.none⟩, c, by rw [hl], by rw [hl]; exact hn.2.2, by unfold maxLen; omega, fun _ => ⟨b, 0, rfl, (Array.getElem?_eq_some_iff.1 hg).1, fun j x hx => ?_⟩⟩
    rw [show (0 : Nat) + j = j by omega, cell_of_row w b j cur 3 (0, 0) hg]
    unfold ints at hx
    rw [List.map_map, List.getElem?_map] at hx
    by_cases hj : j < n
    · rw [List.getElem?_range hj] at hx
      rw [hf j hj]
      exact hx
    · rw [List.getElem?_eq_none (by simp; omega)] at hx; cases hx
/-- A row of n phrases of the call's own, of which only the kind is known. -/
def BookR (w : World) (lo p : Nat) (v : Value) (n : Nat) : Prop := ∃ (ts : List ByteArray) (us : List Value), ts.length = n ∧ us.length = n ∧ w.ownsRow lo 40 2 v n (zipC ts us) ∧ (∀ t ∈ ts, t.size ≤ 1000) ∧ ∀ u ∈ us, IntSl w lo p u
theorem BookR.nil (w : World) (lo p : Nat) : BookR w lo p (.slice Option.none 0 0) 0 := ⟨[], [], rfl, rfl, World.ownsRow_nil _ _ _ _, by simp, by simp⟩
theorem BookR.step {w w' : World} {lo p C n : Nat} {v : Value} (h : BookR w lo p v n) (hk : KeepG C (C + 1) w w') (hC : C < lo) : BookR w' lo p v n := by
  obtain ⟨ts, us, h1, h2, h3, h4, h5⟩ := h
  exact ⟨ts, us, h1, h2, owns_keepG h3 hk hC, h4, fun u hu => (h5 u hu).kept (.keepG hk hC)⟩
theorem BookR.zero {w : World} {lo p n : Nat} {v : Value} (h : BookR w lo p v n) : BookR w lo 0 v n := by
  obtain ⟨ts, us, h1, h2, h3, h4, h5⟩ := h
  exact ⟨ts, us, h1, h2, h3, h4, fun u hu => (h5 u hu).zero⟩
theorem BookR.rd {w : World} {lo p n : Nat} {v : Value} (h : BookR w lo p v n) : ∃ ps : List Phr, ps.length = n ∧ RdPS w w.heap.size v ps := by
  classical
  obtain ⟨ts, us, h1, h2, h3, h4, h5⟩ := h
  have hx : ∃ f : Value → List Int, ∀ u ∈ us, RdI w w.heap.size u (f u) := by
    refine ⟨fun u => if h : u ∈ us then Classical.choose (h5 u h).rd else [], fun u hu => ?_⟩
    dsimp only
    rw [dif_pos hu]
    exact Classical.choose_spec (h5 u hu).rd
  obtain ⟨f, hf⟩ := hx
  have ht : txts (ts.zip (us.map f)) = ts := by unfold txts; rw [List.map_fst_zip]; simp; omega
  have hs : sigs (ts.zip (us.map f)) = us.map f := by unfold sigs; rw [List.map_snd_zip]; simp; omega
  have hl : (ts.zip (us.map f)).length = n := by simp; omega
  refine ⟨ts.zip (us.map f), hl, us, ⟨by rw [hs]; simp, fun i u xs hu hx => ?_⟩, ?_, fun p hp => ?_⟩
  · rw [hs, List.getElem?_map, hu] at hx
    cases hx
    exact hf u (List.mem_of_getElem? hu)
  · rw [ht, hl]
    exact rd_of_owns h3 (fun k hk => (h3.lt k hk).2)
  · have := h4 p.1 (List.of_mem_zip hp).1
    omega
end Go.Proofs.Ytjnkdjokbamibaa
/- A drawn book's row: a phrase is appended; a text, a slice of signals is stored. -/
namespace Go.Proofs.Ytjnkdjokbamibaa
open Go.RowKit
/-- Blocks that are no rows of phrases stand. -/
def FrP (w w' : World) : Prop := ∀ (k : Nat) (c : Array Value) (e : TypeId) (fz : Nat × Nat), w.heap[k]? = some (.cells c e fz) → e ≠ 40 → w'.heap[k]? = some (.cells c e fz)
theorem Blk.frP {w w' : World} {g : Nat} {t : TypeId} {cs : List Value} (h : Blk w g t cs) (hf : FrP w w') (h1 : t ≠ 40) : Blk w' g t cs := hf _ _ _ _ h h1
theorem FrP.ints {w w' : World} (h : FrP w w') (lo : Nat) : IntsKept lo w w' := .same fun b cur _ hg => (h b cur 3 (0, 0) hg (by decide)).trans hg.symm
theorem two_cells (w : World) (u v : Value) (t : TypeId) (j : Nat) (x : Value) (h : [u, v][j]? = some x) : (w.alloc (.cells #[u, v] t)).cell? ((⟨w.heap.size, 0, Option.none⟩ : Addr).add j) = some x := by
  rw [Go.WideShapes.add_plain, show (0 : Nat) + j = j by omega, (Blk.new w t #[u, v]).cell j]
  exact h
theorem BookR.app {wr : World} {lo p n : Nat} {v : Value} {t : ByteArray} {A : Option Addr} {n1 c1 : Nat} {ops : Array Oper} {rest : List Oper} {o : Oper} {a : Act} {Q : Exit → Act → World → Prop} (hgd : o.guard = Option.none) (s x : Operand)
    (ho : o.op = .call { callee := .builtin .append, args := #[s, x], argTypes := #[26, 26] }) (hG : BookR wr lo p v n) (hlo : lo ≤ wr.heap.size) (hu : IntSl wr lo p (.slice A n1 c1)) (ht : t.size ≤ 1000) (hlen : n < 1000000)
    (hs : a.eval s = v) (hx : a.eval x = .slice (some ⟨wr.heap.size, 0, Option.none⟩) 1 1)
    (h : ∀ v' w', BookR w' lo p v' (n + 1) → Below lo wr w' → FrP wr w' → wr.heap.size ≤ w'.heap.size → wpList Try.prog ops Q rest (a.put o.dst v') w') : wpList Try.prog ops Q (o :: rest) a (wr.alloc (.cells #[.string t, .slice A n1 c1] 40)) := by
  obtain ⟨i, hi, hz0, hz1, hz2⟩ := info_parts info_phr
  obtain ⟨ts, us, h1, h2, h3, h4, h5⟩ := hG
  refine wpList_append_own _ hgd s x 26 ho lo 40 i (.agg #[.string { data := #[] }, .slice Option.none 0 0]) 2 40 Try.underlying26 hi hz0 hz1 hz2 rfl (by decide) v n (zipC ts us) hs (h3.alloc _) ⟨wr.heap.size, 0, Option.none⟩ 1 1 [.string t, .slice A n1 c1] hx rfl
    (two_cells _ _ _ _) (by intro u hu; simp at hu; rcases hu with rfl | rfl <;> rfl) (by unfold maxLen; omega) (by omega) (by simp; omega) ?_
  intro v' w' hown hgr _
  have hsz := hgr.size
  have hsz2 : wr.heap.size + 1 ≤ w'.heap.size := by simpa using hsz
  have hfar : ∀ g, g < wr.heap.size → v.ownBlock ≠ some g → w'.heap[g]? = wr.heap[g]? := fun g hg hne => (hgr.block g (by simp; omega) (fun e => hne e.symm)).trans (Below.heap_alloc wr _ g hg)
  have hfr : FrP wr w' := by
    intro k cs e fz hk e1
    have hlt := (Array.getElem?_eq_some_iff.1 hk).1
    rw [hfar k hlt (fun hv => ?_)]
    · exact hk
    · rcases h3.2 with ⟨rfl, _⟩ | ⟨g, cap, cur, rfl, _, hg, _⟩
      · cases hv
      · cases hv
        rw [hk] at hg
        cases hg
        exact e1 rfl
  have hb' : Below lo wr w' := ((Below.refl lo wr).alloc hlo _).grown hgr (by simp; omega) (fun k hk => ((h3.alloc (.cells #[.string t, .slice A n1 c1] 40)).lt k hk).1)
  refine h v' w' ⟨ts ++ [t], us ++ [.slice A n1 c1], by simp [h1], by simp [h2], ?_, fun t' ht' => ?_, fun u hu' => ?_⟩ hb' hfr (by omega)
  · rw [zipC_append ts us t _ (by omega)]
    simpa using hown
  · rw [List.mem_append, List.mem_singleton] at ht'
    rcases ht' with ht' | rfl
    · exact h4 _ ht'
    · exact ht
  · rw [List.mem_append, List.mem_singleton] at hu'
    rcases hu' with hu' | rfl
    · exact (h5 _ hu').kept (hfr.ints lo)
    · exact hu.kept (hfr.ints lo)
theorem BookR.pos {w : World} {lo p n : Nat} {v : Value} (h : BookR w lo p v n) (hn : 0 < n) : ∃ g c, v = .slice (some ⟨g, 0, Option.none⟩) n c ∧ lo ≤ g ∧ ∃ cur, w.heap[g]? = some (.cells cur 40 (0, 0)) := by
  obtain ⟨ts, us, h1, h2, h3, h4, h5⟩ := h
  rcases h3.2 with ⟨_, e⟩ | ⟨g, cap, cur, hv, hl, hg, _⟩
  · omega
  · exact ⟨g, cap, hv, hl, cur, hg⟩
theorem BookR.form {w : World} {lo p n : Nat} {v : Value} (h : BookR w lo p v n) : ∃ A c, v = .slice A n c := by
  obtain ⟨ps, h1, h2⟩ := h.rd
  obtain ⟨A, c, h3, _⟩ := h2.form
  exact ⟨A, c, by rw [h3, h1]⟩
theorem BookR.at_ {w : World} {lo p n g c : Nat} (h : BookR w lo p (.slice (some ⟨g, 0, Option.none⟩) n c) n) {j : Nat} (hj : j < n) :
    ∃ (t : ByteArray) (u : Value), w.cell? ⟨g, j * 2, Option.none⟩ = some (.string t) ∧ w.cell? ⟨g, j * 2 + 1, Option.none⟩ = some u ∧ IntSl w lo p u ∧ t.size ≤ 1000 ∧ w.frozen? ⟨g, j * 2, Option.none⟩ = false ∧ w.frozen? ⟨g, j * 2 + 1, Option.none⟩ = false := by
  obtain ⟨ts, us, h1, h2, h3, h4, h5⟩ := h
  have ht : ts[j]? = some ts[j] := by simp [show j < ts.length by omega]
  have hu : us[j]? = some us[j] := by simp [show j < us.length by omega]
  have hz := zipC_at ts us j _ _ ht hu
  exact ⟨ts[j], us[j], (h3.cellAt _ (by omega)).trans hz.1, (h3.cellAt _ (by omega)).trans hz.2, h5 _ (List.mem_of_getElem? hu), h4 _ (List.mem_of_getElem? ht), h3.frozenAt _, h3.frozenAt _⟩
/-- A store elsewhere. -/
theorem BookR.far {w : World} {lo k n : Nat} {v : Value} (h : BookR w lo k v n) {p : Addr} {u : Value} {cur : Array Value} {e : TypeId} {fz : Nat × Nat} (hg : w.heap[p.block]? = some (.cells cur e fz)) (he : e ≠ 40 ∨ v.ownBlock ≠ some p.block) (hk : IntsKept lo w (w.setCell p u)) : BookR (w.setCell p u) lo k v n := by
  obtain ⟨ts, us, h1, h2, h3, h4, h5⟩ := h
  refine ⟨ts, us, h1, h2, ⟨h3.1, ?_⟩, h4, fun u' hu' => (h5 u' hu').kept hk⟩
  rcases h3.2 with h6 | ⟨g, cap, cur', rfl, hl, hg', rest⟩
  · exact .inl h6
  · have hne : g ≠ p.block := by
      rintro rfl
      rcases he with he | he
      · rw [hg] at hg'; cases hg'; exact he rfl
      · exact he rfl
    exact .inr ⟨g, cap, cur', rfl, hl, (Below.heap_setCell w p u g hne).trans hg', rest⟩
end Go.Proofs.Ytjnkdjokbamibaa
/- Contracts: drawn texts of phrases; a drawn book. -/
namespace Go.Proofs.Ytjnkdjokbamibaa
open Go.RowKit
/-- The slice value v has n strings, outside block C. -/
def LstS (w : World) (C : Nat) (v : Value) (n : Nat) : Prop := 1 ≤ n ∧ n ≤ 1000 ∧ ∃ b c, v = .slice (some ⟨b, 0, Option.none⟩) n c ∧ b ≠ C ∧ b < w.heap.size ∧ ∀ j, j < n → ∃ t : ByteArray, w.cell? ⟨b, j, Option.none⟩ = some (.string t) ∧ t.size ≤ 1000
/-- A row of 26 texts at block b. -/
def TxtR (w : World) (b : Nat) : Prop := ∃ cs : List Value, Blk w b 9 cs ∧ cs.length = 26 ∧ ∀ u ∈ cs, ∃ t : ByteArray, u = .string t ∧ t.size ≤ 1000
theorem TxtR.lst {w : World} {b C : Nat} (h : TxtR w b) (hb : b ≠ C) : LstS w C (.slice (some ⟨b, 0, Option.none⟩) 26 26) 26 := by
  obtain ⟨cs, h1, h2, h3⟩ := h
  refine ⟨by omega, by omega, b, 26, rfl, hb, h1.lt, fun j hj => ?_⟩
  have hx : cs[j]? = some cs[j] := List.getElem?_eq_getElem (by omega)
  obtain ⟨t, e, ht⟩ := h3 _ (List.mem_of_getElem? hx)
  exact ⟨t, by rw [h1.cell j, hx, e], ht⟩
theorem TxtR.at_ {w : World} {b : Nat} (h : TxtR w b) {j : Nat} (hj : j < 26) : ∃ t : ByteArray, w.cell? ⟨b, j, Option.none⟩ = some (.string t) ∧ t.size ≤ 1000 := by
  obtain ⟨cs, h1, h2, h3⟩ := h
  have hx : cs[j]? = some cs[j] := List.getElem?_eq_getElem (by omega)
  obtain ⟨t, e, ht⟩ := h3 _ (List.mem_of_getElem? hx)
  exact ⟨t, by rw [h1.cell j, hx, e], ht⟩
theorem Blk.keepG {w w' : World} {g C : Nat} {t : TypeId} {cs : List Value} (h : Blk w g t cs) (hk : KeepG C (C + 1) w w') (hg : g ≠ C) : Blk w' g t cs := (hk.block g h.lt (by omega)).trans h
/-- A book is being made: the result's box, the book's box, the row of phrases, the row of texts, the cursor. -/
structure BkS (w : World) (C m : Nat) (wr : World) (v : Value) (n : Nat) : Prop where
  res : Blk wr w.heap.size 28 [.slice Option.none 0 0]
  box : Blk wr (w.heap.size + 1) 28 [v]
  txt : TxtR wr (w.heap.size + 2)
  row : BookR wr (w.heap.size + 2) 1 v n
  cur : Cur wr C m
  keep : KeepG C (C + 1) w wr
theorem BkS.le {w wr : World} {C m n : Nat} {v : Value} (h : BkS w C m wr v n) : w.heap.size + 2 < wr.heap.size := by
  obtain ⟨cs, h1, _⟩ := h.txt
  exact h1.lt
theorem BkS.step {w wr w' : World} {C m m' n : Nat} {v : Value} (h : BkS w C m wr v n) (hC : C < w.heap.size) (hc : Cur w' C m') (hk : KeepG C (C + 1) wr w') : BkS w C m' w' v n := by
  obtain ⟨cs, h1, h2⟩ := h.txt
  exact ⟨h.res.keepG hk (by omega), h.box.keepG hk (by omega), ⟨cs, h1.keepG hk (by omega), h2⟩, h.row.step hk (by omega), hc, h.keep.trans hk⟩
theorem BkS.mono {w wr : World} {C m m' n : Nat} {v : Value} (h : BkS w C m wr v n) (hm : m ≤ m') : BkS w C m' wr v n := ⟨h.res, h.box, h.txt, h.row, h.cur.mono hm, h.keep⟩
theorem BkS.alloc {w wr : World} {C m n : Nat} {v : Value} (h : BkS w C m wr v n) (hC : C < w.heap.size) (o : Obj) : BkS w C m (wr.alloc o) v n := h.step hC (h.cur.alloc o) ((KeepG.refl _ _ _).alloc o)
/-- The row is stored into the book's box. -/
theorem BkS.put {w wr w8 : World} {C m n k : Nat} {v v8 : Value} (h : BkS w C m wr v n) (hC : C < w.heap.size) (hb : BookR w8 (w.heap.size + 2) 1 v8 k) (hB : Below (w.heap.size + 2) wr w8) (hf : FrP wr w8) : BkS w C m (w8.setCell ⟨w.heap.size + 1, 0, Option.none⟩ v8) v8 k := by
  obtain ⟨cs, h1, h2⟩ := h.txt
  have hx := h.box.below hB (by omega)
  have hb1 : Below w.heap.size wr (w8.setCell ⟨w.heap.size + 1, 0, Option.none⟩ v8) := (hB.mono (by omega)).setCell (p := ⟨w.heap.size + 1, 0, Option.none⟩) (show w.heap.size ≤ w.heap.size + 1 by omega) _
  have ht : Blk w8 (w.heap.size + 2) 9 cs := h1.frP hf (by decide)
  exact ⟨(h.res.below hB (by omega)).far (p := ⟨w.heap.size + 1, 0, Option.none⟩) (by show w.heap.size ≠ w.heap.size + 1; omega) _, hx.set_ 0 v8, ⟨cs, ht.far (p := ⟨w.heap.size + 1, 0, Option.none⟩) (by show w.heap.size + 2 ≠ w.heap.size + 1; omega) _, h2⟩,
    hb.far (p := ⟨w.heap.size + 1, 0, Option.none⟩) hx (.inl (by decide)) (.far fun cur e => by rw [show w8.heap[w.heap.size + 1]? = _ from hx] at e; cases e), h.cur.fresh hb1 hC, h.keep.fresh (hb1)⟩
/-- A drawn book. -/
def BkD (w : World) (C m : Nat) (w' : World) (v : Value) (n : Nat) : Prop := BookR w' (w.heap.size + 2) 1 v n ∧ Cur w' C m ∧ KeepG C (C + 1) w w'
theorem BkS.done {w wr : World} {C m n : Nat} {v u : Value} (h : BkS w C m wr v n) (hC : C < w.heap.size) : BkD w C m (wr.setCell ⟨w.heap.size, 0, Option.none⟩ u) v n := by
  have hb : Below w.heap.size wr (wr.setCell ⟨w.heap.size, 0, Option.none⟩ u) := (Below.refl _ _).setCell (p := ⟨w.heap.size, 0, Option.none⟩) (Nat.le_refl _) _
  exact ⟨h.row.far (p := ⟨w.heap.size, 0, Option.none⟩) h.res (.inl (by decide)) (.far fun cur e => by rw [show wr.heap[w.heap.size]? = _ from h.res] at e; cases e), h.cur.fresh hb hC, h.keep.fresh hb⟩
/-- A phrase with its signals is being made, in the box X. -/
structure XS (w0 : World) (C m X : Nat) (t : ByteArray) (wr : World) (v : Value) (xs : List Int) : Prop where
  box : Blk wr X 40 [.string t, v]
  row : wr.ownsRow (X + 1) 3 1 v xs.length (ints xs)
  cur : Cur wr C m
  keep : KeepG C (C + 1) w0 wr
theorem XS.step {w0 wr w' : World} {C m m' X : Nat} {t : ByteArray} {v : Value} {xs : List Int} (h : XS w0 C m X t wr v xs) (hC : C < X) (hc : Cur w' C m') (hk : KeepG C (C + 1) wr w') : XS w0 C m' X t w' v xs :=
  ⟨h.box.keepG hk (by omega), owns_keepG h.row hk (by omega), hc, h.keep.trans hk⟩
theorem XS.mono {w0 wr : World} {C m m' X : Nat} {t : ByteArray} {v : Value} {xs : List Int} (h : XS w0 C m X t wr v xs) (hm : m ≤ m') : XS w0 C m' X t wr v xs := ⟨h.box, h.row, h.cur.mono hm, h.keep⟩
theorem XS.gr {w0 wr : World} {C m X : Nat} {t : ByteArray} {v : Value} {xs : List Int} (h : XS w0 C m X t wr v xs) : GrowI wr (X + 1) wr v xs := ⟨h.row, Below.refl _ _, by have := h.box.lt; omega⟩
theorem XS.own {w0 wr : World} {C m X : Nat} {t : ByteArray} {v : Value} {xs : List Int} (h : XS w0 C m X t wr v xs) : OwI wr (X + 1) wr.heap.size v xs := ⟨h.row, fun k hk => (h.row.lt k hk).2⟩
/-- One signal more, and it is stored into the box. -/
theorem XS.put {w0 wr w' : World} {C m X : Nat} {t : ByteArray} {v v' : Value} {xs ys : List Int} (h : XS w0 C m X t wr v xs) (hC : C < X) (hX : w0.heap.size ≤ X) (hG : GrowI wr (X + 1) w' v' ys) : XS w0 C m X t (w'.setCell ⟨X, 1, Option.none⟩ v') v' ys := by
  have h1 : Blk w' X 40 [.string t, v] := h.box.below hG.2.1 (by omega)
  have hb : Below X wr (w'.setCell ⟨X, 1, Option.none⟩ v') := (hG.2.1.mono (show X ≤ X + 1 by omega)).setCell (p := ⟨X, 1, Option.none⟩) (Nat.le_refl X) _
  exact ⟨h1.set_ 1 v', ownsRow_setCell_below (a := ⟨X, 1, Option.none⟩) hG.1 (show X < X + 1 by omega) _, h.cur.fresh hb hC, h.keep.fresh (hb.mono hX)⟩
end Go.Proofs.Ytjnkdjokbamibaa
/- Contracts: books of many phrases. -/
namespace Go.Proofs.Ytjnkdjokbamibaa
open Go.RowKit
theorem BookR.below {w w' : World} {lo p n : Nat} {v : Value} (h : BookR w lo p v n) (hb : Below w.heap.size w w') : BookR w' lo p v n := by
  obtain ⟨ts, us, h1, h2, h3, h4, h5⟩ := h
  exact ⟨ts, us, h1, h2, owns_below h3 (fun k hk => (h3.lt k hk).2) hb (Nat.le_refl _), h4, fun u hu => (h5 u hu).kept (.below hb)⟩
theorem BookR.lo {w : World} {lo lo' p n : Nat} {v : Value} (h : BookR w lo p v n) (hl : lo' ≤ lo) : BookR w lo' p v n := by
  obtain ⟨ts, us, h1, h2, h3, h4, h5⟩ := h
  refine ⟨ts, us, h1, h2, World.ownsRow.mono h3 hl, h4, fun u hu => ?_⟩
  rcases h5 u hu with h6 | ⟨b, n, c, cur, g1, g2, g3⟩
  · exact .inl h6
  · exact .inr ⟨b, n, c, cur, g1, by omega, g3⟩
theorem IntSl.alloc {w : World} {lo p : Nat} {u : Value} (h : IntSl w lo p u) (o : Obj) : IntSl (w.alloc o) lo p u := h.kept ((IntsKept.refl _ _).alloc o)
theorem BookR.alloc {w : World} {lo p n : Nat} {v : Value} (h : BookR w lo p v n) (o : Obj) : BookR (w.alloc o) lo p v n := h.below ((Below.refl _ _).alloc (Nat.le_refl _) _)
theorem intsl_lit {w : World} {lo g n : Nat} {arr : Array Value} (xs : List Int) (ha : arr.toList = ints xs) (hg : g = w.heap.size) (hn : n = xs.length) (hlo : lo ≤ w.heap.size) (hx : xs.length ≤ 1000) (hp : 1 ≤ xs.length) : IntSl (w.alloc (.cells arr 3)) lo 1 (.slice (some ⟨g, 0, Option.none⟩) n n) := by
  subst hg hn
  have hb := Blk.new w 3 arr
  refine .inr ⟨w.heap.size, xs.length, xs.length, arr, rfl, hlo, ⟨hp, hx, Nat.le_refl _⟩, by omega, hb, fun j hj => ⟨xs[j], ?_⟩⟩
  have h1 : arr.toList[j]? = some (.int .i64 xs[j]) := by rw [ha]; unfold ints; rw [List.getElem?_map, List.getElem?_eq_getElem hj]; rfl
  simpa using h1
/-- Many phrases are being made: the result's box, the book's box, the row. -/
structure MpS (w : World) (wr : World) (v : Value) (n : Nat) : Prop where
  res : Blk wr w.heap.size 28 [.slice Option.none 0 0]
  box : Blk wr (w.heap.size + 1) 28 [v]
  row : BookR wr (w.heap.size + 2) 1 v n
  keep : Below w.heap.size w wr
theorem MpS.alloc {w wr : World} {v : Value} {n : Nat} (h : MpS w wr v n) (o : Obj) : MpS w (wr.alloc o) v n := by
  have hb : Below wr.heap.size wr (wr.alloc o) := (Below.refl _ _).alloc (Nat.le_refl _) _
  exact ⟨h.res.below hb h.res.lt, h.box.below hb h.box.lt, h.row.alloc o, h.keep.trans (hb.mono h.keep.size)⟩
theorem MpS.put {w wr w8 : World} {n k : Nat} {v v8 : Value} (h : MpS w wr v n) (hb : BookR w8 (w.heap.size + 2) 1 v8 k) (hB : Below (w.heap.size + 2) wr w8) : MpS w (w8.setCell ⟨w.heap.size + 1, 0, Option.none⟩ v8) v8 k := by
  have hx := h.box.below hB (by omega)
  exact ⟨(h.res.below hB (by omega)).far (p := ⟨w.heap.size + 1, 0, Option.none⟩) (by show w.heap.size ≠ w.heap.size + 1; omega) _, hx.set_ 0 v8,
    hb.far (p := ⟨w.heap.size + 1, 0, Option.none⟩) hx (.inl (by decide)) (.far fun cur e => by rw [show w8.heap[w.heap.size + 1]? = _ from hx] at e; cases e),
    h.keep.trans ((hB.mono (by omega)).setCell (p := ⟨w.heap.size + 1, 0, Option.none⟩) (show w.heap.size ≤ w.heap.size + 1 by omega) _)⟩
theorem MpS.done {w wr : World} {n : Nat} {v u : Value} (h : MpS w wr v n) : BookR (wr.setCell ⟨w.heap.size, 0, Option.none⟩ u) (w.heap.size + 2) 1 v n ∧ Below w.heap.size w (wr.setCell ⟨w.heap.size, 0, Option.none⟩ u) := by
  exact ⟨h.row.far (p := ⟨w.heap.size, 0, Option.none⟩) h.res (.inl (by decide)) (.far fun cur e => by rw [show wr.heap[w.heap.size]? = _ from h.res] at e; cases e), h.keep.setCell (p := ⟨w.heap.size, 0, Option.none⟩) (Nat.le_refl _) _⟩
end Go.Proofs.Ytjnkdjokbamibaa
/- Plain laws: the words of a canonical code are a code; words written are read back, and words read are written back. -/
namespace Go.Proofs.Ytjnkdjokbamibaa
open Go.RowKit
theorem digL_pre (r : Nat) : ∀ (d n k : Nat), (digL r n (k + d)).take k = digL r (n / r ^ d) k
  | 0, n, k => by rw [Nat.add_zero, Nat.pow_zero, Nat.div_one, List.take_of_length_le (by rw [digL_len]; exact Nat.le_refl _)]
  | d + 1, n, k => by
    rw [show k + (d + 1) = (k + d) + 1 by omega, digL, List.take_append_of_le_length (by rw [digL_len]; omega), digL_pre r d (n / r) k, Nat.div_div_eq_div_mul, Nat.pow_succ, Nat.mul_comm]
theorem digL_inj {r : Nat} (hr : 1 ≤ r) : ∀ (k n m : Nat), n < r ^ k → m < r ^ k → digL r n k = digL r m k → n = m
  | 0, n, m, hn, hm, _ => by rw [Nat.pow_zero] at hn hm; omega
  | k + 1, n, m, hn, hm, he => by
    rw [digL, digL] at he
    have h1 := List.append_inj he (by rw [digL_len, digL_len])
    have h2 : n % r = m % r := by
      have := h1.2
      simp only [List.cons.injEq, and_true] at this
      omega
    rw [Nat.pow_succ] at hn hm
    have h3 := digL_inj hr k (n / r) (m / r) (Nat.div_lt_of_lt_mul (by rw [Nat.mul_comm]; exact hn)) (Nat.div_lt_of_lt_mul (by rw [Nat.mul_comm]; exact hm)) h1.1
    rw [← Nat.div_add_mod n r, ← Nat.div_add_mod m r, h2, h3]
theorem digL_all {r : Nat} (hr : 1 ≤ r) : ∀ (k n : Nat), ∀ d ∈ digL r n k, 0 ≤ d ∧ d < (r : Int)
  | 0, _, d, h => by simp [digL] at h
  | k + 1, n, d, h => by
    rw [digL, List.mem_append] at h
    rcases h with h | h
    · exact digL_all hr k _ d h
    · rw [List.mem_singleton] at h
      subst h
      have := Nat.mod_lt n (show 0 < r by omega)
      omega
/-- The sum over some indices. -/
def kraftI (ls : List Int) (r m : Nat) (is : List Nat) : Nat := (is.map fun i => r ^ (m - (ls.getD i 0).toNat)).sum
theorem kraftI_snoc {ls : List Int} {r m : Nat} {is : List Nat} {i : Nat} : kraftI ls r m (is ++ [i]) = kraftI ls r m is + r ^ (m - (ls.getD i 0).toNat) := by unfold kraftI; rw [List.map_append, List.sum_append]; simp
theorem range_getD (ls : List Int) : (List.range ls.length).map (fun i => ls.getD i 0) = ls := by
  refine List.ext_getElem (by simp) fun i h1 h2 => ?_
  simp [List.getD_eq_getElem?_getD, h2]
theorem kraftI_range {ls : List Int} {r m : Nat} : kraftI ls r m (List.range ls.length) = kraftN r m ls := by
  unfold kraftI kraftN
  have := congrArg (List.map fun l : Int => r ^ (m - l.toNat)) (range_getD ls)
  rw [List.map_map] at this
  rw [← this]; rfl
/-- What holds of the words so far: each one's number, and none begins another. -/
structure CanJ (ls : List Int) (r m : Nat) (is : List Nat) (s : CanS) : Prop where
  len : s.rows.length = ls.length
  sum : s.next * r ^ (m - s.last) = kraftI ls r m is
  word : ∀ i ∈ is, ∃ N, s.rows[i]? = some (digL r N (ls.getD i 0).toNat) ∧ N < r ^ (ls.getD i 0).toNat ∧ (ls.getD i 0).toNat ≤ s.last ∧ (N + 1) * r ^ (s.last - (ls.getD i 0).toNat) ≤ s.next
  last : 1 ≤ s.last ∧ s.last ≤ m
  apart : ∀ i ∈ is, ∀ k ∈ is, i ≠ k → ∀ x y, s.rows[i]? = some x → s.rows[k]? = some y → begB x y = false
theorem CanJ.start {ls : List Int} {r m : Nat} (hm : 1 ≤ m) : CanJ ls r m [] (canRun ls r []) :=
  ⟨by simp [canRun_nil], by simp [canRun_nil, kraftI], by simp, ⟨Nat.le_refl _, hm⟩, by simp⟩
theorem CanJ.step {ls : List Int} {r m : Nat} (hr : 2 ≤ r) {is : List Nat} {j : Nat} {s : CanS} (h : CanJ ls r m is s) (hj : j ∉ is) (hjl : j < ls.length) (h1 : s.last ≤ (ls.getD j 0).toNat) (h2 : (ls.getD j 0).toNat ≤ m)
    (hk : kraftI ls r m (is ++ [j]) ≤ r ^ m) : CanJ ls r m (is ++ [j]) (canStep ls r s j) := by
  obtain ⟨l, hl⟩ : ∃ l, l = (ls.getD j 0).toNat := ⟨_, rfl⟩
  obtain ⟨N, hN⟩ : ∃ N, N = s.next * r ^ (l - s.last) := ⟨_, rfl⟩
  have hst : canStep ls r s j = ⟨N + 1, l, s.rows.set j (digL r N l)⟩ := by unfold canStep; rw [hN, hl]
  rw [← hl] at h1 h2
  have hp : ∀ e, 1 ≤ r ^ e := fun e => Nat.one_le_pow _ _ (by omega)
  have hsum : (N + 1) * r ^ (m - l) = kraftI ls r m (is ++ [j]) := by
    rw [kraftI_snoc, ← h.sum, Nat.add_mul, Nat.one_mul, ← hl, hN, Nat.mul_assoc, ← Nat.pow_add, show l - s.last + (m - l) = m - s.last by omega]
  have hNl : N < r ^ l := by
    rw [← hsum] at hk
    have e : r ^ m = r ^ l * r ^ (m - l) := by rw [← Nat.pow_add]; congr 1; omega
    rw [e] at hk
    have := Nat.le_of_mul_le_mul_right hk (hp (m - l))
    omega
  rw [hst]
  have hold : ∀ i ∈ is, (s.rows.set j (digL r N l))[i]? = s.rows[i]? := fun i hi => List.getElem?_set_ne (by rintro rfl; exact hj hi)
  have hnew : (s.rows.set j (digL r N l))[j]? = some (digL r N l) := List.getElem?_set_self (by rw [h.len]; exact hjl)
  have hup : ∀ i ∈ is, ∀ M, s.rows[i]? = some (digL r M (ls.getD i 0).toNat) → M < r ^ (ls.getD i 0).toNat → (ls.getD i 0).toNat ≤ s.last → (M + 1) * r ^ (s.last - (ls.getD i 0).toNat) ≤ s.next → (M + 1) * r ^ (l - (ls.getD i 0).toNat) ≤ N := by
    intro i _ M _ _ h5 h6
    have := Nat.mul_le_mul_right (r ^ (l - s.last)) h6
    rw [Nat.mul_assoc, ← Nat.pow_add, ← hN, show s.last - (ls.getD i 0).toNat + (l - s.last) = l - (ls.getD i 0).toNat by omega] at this
    exact this
  refine ⟨by simp [h.len], hsum, ?_, ⟨by show 1 ≤ l; have := h.last; omega, h2⟩, ?_⟩
  · intro i hi
    rcases List.mem_append.1 hi with hi | hi
    · obtain ⟨M, h3, h4, h5, h6⟩ := h.word i hi
      refine ⟨M, by rw [hold i hi]; exact h3, h4, by show _ ≤ l; omega, ?_⟩
      have := hup i hi M h3 h4 h5 h6
      show (M + 1) * r ^ (l - (ls.getD i 0).toNat) ≤ N + 1
      omega
    · rw [List.mem_singleton] at hi
      subst hi
      rw [← hl]
      exact ⟨N, hnew, hNl, Nat.le_refl _, by rw [Nat.sub_self, Nat.pow_zero, Nat.mul_one]; exact Nat.le_refl _⟩
  · have hno : ∀ i ∈ is, ∀ x, s.rows[i]? = some x → begB x (digL r N l) = false ∧ begB (digL r N l) x = false := by
      intro i hi x hx
      obtain ⟨M, h3, h4, h5, h6⟩ := h.word i hi
      rw [h3] at hx
      cases hx
      have h7 := hup i hi M h3 h4 h5 h6
      obtain ⟨q, hq⟩ : ∃ q, q = (ls.getD i 0).toNat := ⟨_, rfl⟩
      rw [← hq] at h3 h4 h5 h6 h7 ⊢
      have hdiv : M + 1 ≤ N / r ^ (l - q) := (Nat.le_div_iff_mul_le (hp _)).2 h7
      have hlt : N / r ^ (l - q) < r ^ q := Nat.div_lt_of_lt_mul (by rw [Nat.mul_comm, ← Nat.pow_add, show q + (l - q) = l by omega]; exact hNl)
      have hne : digL r M q ≠ digL r (N / r ^ (l - q)) q := fun e => by
        have := digL_inj (by omega) q _ _ h4 hlt e
        omega
      have hpre : ¬ digL r M q <+: digL r N l := fun hpr => by
        have h8 := List.prefix_iff_eq_take.1 hpr
        rw [digL_len] at h8
        have h9 := digL_pre r (l - q) N q
        rw [show q + (l - q) = l by omega] at h9
        rw [h9] at h8
        exact hne h8
      refine ⟨?_, ?_⟩
      · cases e : begB (digL r M q) (digL r N l)
        · rfl
        · exact absurd (begB_iff.1 e) hpre
      · cases e : begB (digL r N l) (digL r M q)
        · rfl
        · have h8 := begB_iff.1 e
          have h9 := h8.length_le
          rw [digL_len, digL_len] at h9
          have h10 := h8.eq_of_length (by rw [digL_len, digL_len]; omega)
          exact absurd (by rw [h10]; exact List.prefix_refl _) hpre
    intro i hi k hk' hne x y hx hy
    rcases List.mem_append.1 hi with ha | ha
    · rcases List.mem_append.1 hk' with hc | hc
      · rw [hold i ha] at hx
        rw [hold k hc] at hy
        exact h.apart i ha k hc hne x y hx hy
      · rw [List.mem_singleton] at hc
        rw [hold i ha] at hx
        rw [hc, hnew] at hy
        cases hy
        exact (hno i ha x hx).1
    · rw [List.mem_singleton] at ha
      rcases List.mem_append.1 hk' with hc | hc
      · rw [ha, hnew] at hx
        rw [hold k hc] at hy
        cases hx
        exact (hno k hc y hy).2
      · rw [List.mem_singleton] at hc
        exact absurd (ha.trans hc.symm) hne
theorem CanJ.run {ls : List Int} {r m : Nat} (hr : 2 ≤ r) (hm : 1 ≤ m) : ∀ (n : Nat) (is : List Nat), is.length = n → is.Nodup → (∀ i ∈ is, i < ls.length ∧ 1 ≤ ls.getD i 0 ∧ ls.getD i 0 ≤ (m : Int)) → is.Pairwise (fun x y => ls.getD x 0 ≤ ls.getD y 0) → kraftI ls r m is ≤ r ^ m →
    CanJ ls r m is (canRun ls r is)
  | 0, is, hl, _, _, _, _ => by
    obtain rfl := List.eq_nil_of_length_eq_zero hl
    exact CanJ.start hm
  | n + 1, is, hl, hn, hi, hs, hk => by
    obtain ⟨js, j, rfl⟩ : ∃ js j, is = js ++ [j] := ⟨is.dropLast, is.getLast (by intro e; rw [e] at hl; simp at hl), (List.dropLast_concat_getLast _).symm⟩
    have hk0 := hk
    rw [kraftI_snoc] at hk0
    rw [List.pairwise_append] at hs
    rw [List.nodup_append] at hn
    have hi' : ∀ i ∈ js, i < ls.length ∧ 1 ≤ ls.getD i 0 ∧ ls.getD i 0 ≤ (m : Int) := fun i h => hi i (by simp [h])
    have ih := CanJ.run hr hm n js (by simpa using hl) hn.1 hi' hs.1 (by omega)
    have hj := hi j (by simp)
    have hbd := canRun_bd (ls := ls) (r := r) (by omega) n js (by simpa using hl) hs.1 (fun i h => (hi' i h).2.1)
    rw [canRun_snoc]
    refine ih.step hr (fun h => hn.2.2 j h j (by simp) rfl) hj.1 ?_ (by omega) hk
    rcases hbd.2.2 with rfl | ⟨i, h1, h2⟩
    · rw [canRun_nil]; show 1 ≤ _; omega
    · have := hs.2.2 i (List.mem_of_getLast? h1) j (by simp)
      omega
theorem kraftI_perm {ls : List Int} {r m : Nat} {is js : List Nat} (h : is.Perm js) : kraftI ls r m is = kraftI ls r m js := by unfold kraftI; exact (h.map _).sum_nat
theorem mostI_le (ls : List Int) : ∀ i, i < ls.length → ls.getD i 0 ≤ mostI ls := by
  intro i hi
  unfold mostI
  refine (mostI_mem ls 0).2 _ ?_
  rw [List.getD_eq_getElem?_getD, List.getElem?_eq_getElem hi]
  exact List.getElem_mem hi
/-- What the words of a canonical code are. -/
theorem canonL_ok {ls : List Int} {r : Nat} (hl : 1 ≤ ls.length) (h : allB ls 1 6 = true) (hr : 2 ≤ r) (hk : kraftN r (mostI ls).toNat ls ≤ r ^ (mostI ls).toNat) : CanJ ls r (mostI ls).toNat (grpN ls ls.length 1 6) (canRun ls r (grpN ls ls.length 1 6)) := by
  have ho := order_grp h ls.length (Nat.le_refl _)
  have hp := orderBy_perm (pLen ls) ls.length
  rw [ho] at hp
  have hn := orderBy_nodup (pLen ls) ls.length
  rw [ho] at hn
  have hm := mostI_le ls
  have h0 := allB_at h (i := 0) (by omega)
  have hm0 := hm 0 (by omega)
  refine CanJ.run hr (by omega) _ _ rfl hn (fun i hi => ?_) (grpN_sorted _ _ _ _) (by rw [kraftI_perm hp, kraftI_range]; exact hk)
  have hi2 := grpN_mem hi
  have h1 := allB_at h hi2.1
  have h2 := hm i hi2.1
  exact ⟨hi2.1, h1.1, by omega⟩
theorem canonL_at {ls : List Int} {r : Nat} (h : allB ls 1 6 = true) (hr : 2 ≤ r) (hk : kraftN r (mostI ls).toNat ls ≤ r ^ (mostI ls).toNat) {i : Nat} (hi : i < ls.length) :
    ∃ N, (canonL ls r)[i]? = some (digL r N (ls.getD i 0).toNat) := by
  have hj := canonL_ok (by omega) h hr hk
  have ho := order_grp h ls.length (Nat.le_refl _)
  obtain ⟨N, h1, _⟩ := hj.word i (by rw [← ho]; exact orderBy_mem hi)
  exact ⟨N, h1⟩
theorem canonL_code {ls : List Int} {r : Nat} (hl : lengthsB ls = true) (hr : 2 ≤ r) (hr2 : r ≤ 60) (hk : kraftN r (mostI ls).toNat ls ≤ r ^ (mostI ls).toNat) : codeB (canonL ls r) = true := by
  unfold lengthsB at hl
  rw [Bool.and_eq_true] at hl
  obtain ⟨h1, h⟩ := hl
  have h1' := inB_iff.1 h1
  have hj := canonL_ok (by omega) h hr hk
  have ho := order_grp h ls.length (Nat.le_refl _)
  unfold codeB
  rw [canonL_len, h1]
  simp only [Bool.true_and, Bool.and_eq_true, List.all_eq_true]
  refine ⟨fun x hx => ?_, noClash_iff.2 fun i k x y hne hx hy => ?_⟩
  · obtain ⟨i, hi, rfl⟩ := List.getElem_of_mem hx
    rw [canonL_len] at hi
    obtain ⟨N, hN⟩ := canonL_at h hr hk hi
    rw [List.getElem?_eq_getElem (by rw [canonL_len]; exact hi)] at hN
    rw [Option.some.inj hN]
    have h2 := allB_at h hi
    refine wordOk_yes (inB_iff.2 (by rw [digL_len]; omega)) ?_
    unfold allB
    rw [List.all_eq_true]
    intro d hd
    have := digL_all (by omega) _ _ d hd
    exact inB_iff.2 (by omega)
  · have hi := (List.getElem?_eq_some_iff.1 hx).1
    have hk' := (List.getElem?_eq_some_iff.1 hy).1
    rw [canonL_len] at hi hk'
    exact hj.apart i (by rw [← ho]; exact orderBy_mem hi) k (by rw [← ho]; exact orderBy_mem hk') hne x y hx hy
/-- Words written one after the other are read back. -/
theorem read_write {code : List (List Int)} (h : codeB code = true) : ∀ (is : List Int), allB is 0 ((code.length : Int) - 1) = true → readW code (wordsI code is) = some is
  | [], _ => rfl
  | i :: is, hi => by
    unfold allB at hi
    rw [List.all_cons, Bool.and_eq_true] at hi
    have h1 := inB_iff.1 hi.1
    obtain ⟨k, rfl⟩ := Int.eq_ofNat_of_zero_le h1.1
    have hk : k < code.length := by omega
    have hx : code[k]? = some code[k] := List.getElem?_eq_getElem hk
    obtain ⟨x, hxe⟩ : ∃ x, x = code[k] := ⟨_, rfl⟩
    rw [← hxe] at hx
    have hp := code_pos h (List.mem_of_getElem? hx)
    have hw : wordsI code ((k : Int) :: is) = x ++ wordsI code is := by unfold wordsI; rw [List.flatMap_cons]; simp [List.getD_eq_getElem?_getD, hx]
    have hb : begB x (x ++ wordsI code is) = true := begB_iff.2 (List.prefix_append _ _)
    have hix : ixC code (x ++ wordsI code is) = some k := by
      cases e : ixC code (x ++ wordsI code is) with
      | none =>
        unfold ixC at e
        rw [List.findIdx?_eq_none_iff] at e
        have := e x (List.mem_of_getElem? hx)
        rw [hb] at this; cases this
      | some j =>
        obtain ⟨y, hy, hby, _⟩ := ixC_some e
        rw [code_one h hy hx hby hb]
    rw [hw, readW_step h hix hx (by rw [List.length_append]; omega), List.drop_left, read_write h is (by unfold allB; exact hi.2)]
    rfl
/-- Words read are written back. -/
theorem write_read {code : List (List Int)} (h : codeB code = true) : ∀ (n : Nat) (ds L : List Int), ds.length ≤ n → readW code ds = some L → wordsI code L = ds ∧ allB L 0 ((code.length : Int) - 1) = true
  | _, [], L, _, e => by
    rw [readW_nil] at e; cases e
    exact ⟨rfl, rfl⟩
  | 0, d :: ds, L, hl, _ => by simp at hl
  | n + 1, d :: ds, L, hl, e => by
    cases hi : ixC code (d :: ds) with
    | none => rw [readW_none hi (by simp)] at e; cases e
    | some i =>
      obtain ⟨x, hx, hb, hlt⟩ := ixC_some hi
      have hp := code_pos h (List.mem_of_getElem? hx)
      rw [readW_step h hi hx (by simp)] at e
      cases hr : readW code ((d :: ds).drop x.length) with
      | none => rw [hr] at e; cases e
      | some M =>
        rw [hr] at e
        simp only [Option.map_some, Option.some.injEq] at e
        subst e
        obtain ⟨h1, h2⟩ := write_read h n _ M (by rw [List.length_drop]; omega) hr
        obtain ⟨t, ht⟩ := begB_iff.1 hb
        refine ⟨?_, ?_⟩
        · have : wordsI code ((i : Int) :: M) = x ++ wordsI code M := by unfold wordsI; rw [List.flatMap_cons]; simp [List.getD_eq_getElem?_getD, hx]
          rw [this, h1, ← ht, List.drop_left]
        · unfold allB at h2 ⊢
          rw [List.all_cons, h2, Bool.and_true]
          exact inB_iff.2 (by omega)
theorem words_digB {code : List (List Int)} (h : codeB code = true) {is : List Int} (hl : is.length ≤ 30) : digB (wordsI code is) = true := by
  obtain ⟨_, hw⟩ := codeB_len h
  have h1 := wordsI_len (fun j x hx => (hw j x hx).1.2) is
  unfold digB
  rw [Bool.and_eq_true]
  refine ⟨decide_eq_true (by omega), ?_⟩
  unfold allB wordsI
  rw [List.all_eq_true]
  intro d hd
  rw [List.mem_flatMap] at hd
  obtain ⟨i, _, hd⟩ := hd
  rw [List.getD_eq_getElem?_getD] at hd
  cases e : code[i.toNat]? with
  | none => rw [e] at hd; simp at hd
  | some x =>
    rw [e] at hd
    have := (hw _ x e).2
    unfold allB at this
    rw [List.all_eq_true] at this
    exact this d hd
end Go.Proofs.Ytjnkdjokbamibaa
/- Contracts: drawn codes of words. -/
namespace Go.Proofs.Ytjnkdjokbamibaa
open Go.RowKit
/-- A row of n slices of numbers of the call's own, of which only the kind is known. -/
def WordR (w : World) (lo p : Nat) (v : Value) (n : Nat) : Prop := ∃ us : List Value, us.length = n ∧ w.ownsRow lo 35 1 v n us ∧ ∀ u ∈ us, IntSl w lo p u
theorem WordR.step {w w' : World} {lo p C n : Nat} {v : Value} (h : WordR w lo p v n) (hk : KeepG C (C + 1) w w') (hC : C < lo) : WordR w' lo p v n := by
  obtain ⟨us, h1, h2, h3⟩ := h
  exact ⟨us, h1, owns_keepG h2 hk hC, fun u hu => (h3 u hu).kept (.keepG hk hC)⟩
theorem WordR.below {w w' : World} {lo p n : Nat} {v : Value} (h : WordR w lo p v n) (hb : Below w.heap.size w w') : WordR w' lo p v n := by
  obtain ⟨us, h1, h2, h3⟩ := h
  exact ⟨us, h1, owns_below h2 (fun k hk => (h2.lt k hk).2) hb (Nat.le_refl _), fun u hu => (h3 u hu).kept (.below hb)⟩
theorem WordR.zero {w : World} {lo p n : Nat} {v : Value} (h : WordR w lo p v n) : WordR w lo 0 v n := by
  obtain ⟨us, h1, h2, h3⟩ := h
  exact ⟨us, h1, h2, fun u hu => (h3 u hu).zero⟩
theorem WordR.lo {w : World} {lo lo' p n : Nat} {v : Value} (h : WordR w lo p v n) (hl : lo' ≤ lo) : WordR w lo' p v n := by
  obtain ⟨us, h1, h2, h3⟩ := h
  refine ⟨us, h1, World.ownsRow.mono h2 hl, fun u hu => ?_⟩
  rcases h3 u hu with h6 | ⟨b, n, c, cur, g1, g2, g3⟩
  · exact .inl h6
  · exact .inr ⟨b, n, c, cur, g1, by omega, g3⟩
theorem WordR.rd {w : World} {lo p n : Nat} {v : Value} (h : WordR w lo p v n) : ∃ xss : List (List Int), xss.length = n ∧ RdII w w.heap.size v xss := by
  classical
  obtain ⟨us, h1, h2, h3⟩ := h
  have hx : ∃ f : Value → List Int, ∀ u ∈ us, RdI w w.heap.size u (f u) := by
    refine ⟨fun u => if h : u ∈ us then Classical.choose (h3 u h).rd else [], fun u hu => ?_⟩
    dsimp only
    rw [dif_pos hu]
    exact Classical.choose_spec (h3 u hu).rd
  obtain ⟨f, hf⟩ := hx
  refine ⟨us.map f, by simp [h1], us, ⟨by simp, fun i u xs hu hx => ?_⟩, ?_⟩
  · rw [List.getElem?_map, hu] at hx
    cases hx
    exact hf u (List.mem_of_getElem? hu)
  · rw [List.length_map, h1]
    exact rd_of_owns h2 (fun k hk => (h2.lt k hk).2)
theorem WordR.pos {w : World} {lo p n : Nat} {v : Value} (h : WordR w lo p v n) (hn : 0 < n) : ∃ g c, v = .slice (some ⟨g, 0, Option.none⟩) n c ∧ lo ≤ g := by
  obtain ⟨us, h1, h2, h3⟩ := h
  rcases h2.2 with ⟨_, e⟩ | ⟨g, cap, cur, hv, hl, _⟩
  · omega
  · exact ⟨g, cap, hv, hl⟩
theorem WordR.form {w : World} {lo p n : Nat} {v : Value} (h : WordR w lo p v n) : ∃ A c, v = .slice A n c := by
  obtain ⟨xss, h1, h2⟩ := h.rd
  obtain ⟨A, c, h3, _⟩ := h2.form
  exact ⟨A, c, by rw [h3, h1]⟩
theorem WordR.at_ {w : World} {lo p n g c : Nat} (h : WordR w lo p (.slice (some ⟨g, 0, Option.none⟩) n c) n) {j : Nat} (hj : j < n) :
    ∃ A k d, w.cell? ⟨g, j, Option.none⟩ = some (.slice A k d) ∧ p ≤ k ∧ k ≤ 1000 ∧ IntSl w lo p (.slice A k d) := by
  obtain ⟨us, h1, h2, h3⟩ := h
  have hu : us[j]? = some us[j] := List.getElem?_eq_getElem (by omega)
  have hI := h3 _ (List.mem_of_getElem? hu)
  obtain ⟨A, k, d, he, h6, h7⟩ := hI.form
  exact ⟨A, k, d, by rw [h2.cellAt j (by omega), hu, he], h6, h7, by rw [he] at hI; exact hI⟩
theorem WordR.of {w : World} {lo hi : Nat} {v : Value} {xss : List (List Int)} {p : Nat} (h : OwII w lo hi v xss) (hp : ∀ xs ∈ xss, p ≤ xs.length ∧ xs.length ≤ 1000) : WordR w lo p v xss.length := by
  obtain ⟨us, h1, h2, h3⟩ := h
  refine ⟨us, h1.1, h2, fun u hu => ?_⟩
  obtain ⟨i, hi, rfl⟩ := List.getElem_of_mem hu
  have hl := h1.1
  have hx : xss[i]? = some xss[i] := List.getElem?_eq_getElem (by omega)
  have h4 := h1.2.1 i us[i] xss[i] (List.getElem?_eq_getElem hi) hx
  have h5 := hp _ (List.mem_of_getElem? hx)
  exact IntSl.own h4.1 h5.1 h5.2
/-- A store into a row of numbers. -/
theorem WordR.int {w : World} {lo p n b : Nat} {v : Value} {cur : Array Value} (h : WordR w lo p v n) (hg : w.heap[b]? = some (.cells cur 3 (0, 0))) (i : Nat) (z : Int) : WordR (w.setCell ⟨b, i, Option.none⟩ (.int .i64 z)) lo p v n := by
  obtain ⟨us, h1, h2, h3⟩ := h
  refine ⟨us, h1, ⟨h2.1, ?_⟩, fun u hu => (h3 u hu).kept (.setInt z)⟩
  rcases h2.2 with h6 | ⟨g, cap, cur', rfl, hl, hg', rest⟩
  · exact .inl h6
  · have hne : g ≠ b := by rintro rfl; rw [hg] at hg'; cases hg'
    exact .inr ⟨g, cap, cur', rfl, hl, (Below.heap_setCell w ⟨b, i, Option.none⟩ _ g hne).trans hg', rest⟩
/-- One slice more. -/
theorem WordR.app {wr : World} {lo p n g : Nat} {v : Value} {A : Option Addr} {n1 c1 : Nat} {ops : Array Oper} {rest : List Oper} {o : Oper} {a : Act} {Q : Exit → Act → World → Prop} (hgd : o.guard = Option.none) (s x : Operand)
    (ho : o.op = .call { callee := .builtin .append, args := #[s, x], argTypes := #[61, 61] }) (hG : WordR wr lo p v n) (hlo : lo ≤ wr.heap.size) (hu : IntSl wr lo p (.slice A n1 c1)) (hlen : n < 1000000)
    (hs : a.eval s = v) (hg : g = wr.heap.size) (hx : a.eval x = .slice (some ⟨g, 0, Option.none⟩) 1 1)
    (h : ∀ v' w', WordR w' lo p v' (n + 1) → Below lo wr w' → wpList Try.prog ops Q rest (a.put o.dst v') w') : wpList Try.prog ops Q (o :: rest) a (wr.alloc (.cells #[.slice A n1 c1] 35)) := by
  subst hg
  obtain ⟨i, hi, hz0, hz1, hz2⟩ := info_parts info_ints
  obtain ⟨us, h1, h3, h5⟩ := hG
  refine wpList_append_own _ hgd s x 61 ho lo 35 i (.slice Option.none 0 0) 1 24 Try.underlying61 hi hz0 hz1 hz2 rfl (by decide) v n us hs (h3.alloc _) ⟨wr.heap.size, 0, Option.none⟩ 1 1 [.slice A n1 c1] hx rfl
    (one_cell _ _ _) (by intro u hu; simp at hu; subst hu; rfl) (by unfold maxLen; omega) (by omega) (by simp; omega) ?_
  intro v' w' hown hgr _
  have hsz := hgr.size
  have hsz2 : wr.heap.size + 1 ≤ w'.heap.size := by simpa using hsz
  have hfar : ∀ g, g < wr.heap.size → v.ownBlock ≠ some g → w'.heap[g]? = wr.heap[g]? := fun g hg hne => (hgr.block g (by simp; omega) (fun e => hne e.symm)).trans (Below.heap_alloc wr _ g hg)
  have hk : IntsKept lo wr w' := .same fun b cur hb hgb => hfar b (Array.getElem?_eq_some_iff.1 hgb).1 (fun hv => by
    rcases h3.2 with ⟨rfl, _⟩ | ⟨g, cap, cur', rfl, _, hg, _⟩
    · cases hv
    · cases hv
      rw [hgb] at hg
      cases hg)
  have hb' : Below lo wr w' := ((Below.refl lo wr).alloc hlo _).grown hgr (by simp; omega) (fun k hk => ((h3.alloc (.cells #[.slice A n1 c1] 35)).lt k hk).1)
  refine h v' w' ⟨us ++ [.slice A n1 c1], by simp [h1], by simpa using hown, fun u hu' => ?_⟩ hb'
  rw [List.mem_append, List.mem_singleton] at hu'
  rcases hu' with hu' | rfl
  · exact (h5 _ hu').kept hk
  · exact hu.kept hk
theorem wordR_lit {w : World} {lo p g n : Nat} {arr : Array Value} (hg : g = w.heap.size) (hn : n = arr.size) (hl : lo ≤ w.heap.size) (hx : n ≤ 1000) (h : ∀ u ∈ arr.toList, IntSl w lo p u) : WordR (w.alloc (.cells arr 35)) lo p (.slice (some ⟨g, 0, Option.none⟩) n n) n := by
  subst hg hn
  refine ⟨arr.toList, by simp, World.ownsRow_lit w arr arr.size hl (by unfold maxLen; omega) (by omega), fun u hu => (h u hu).alloc _⟩
/-- A code is being drawn. -/
def WdS (w : World) (C m p : Nat) (wr : World) (v : Value) (n : Nat) : Prop := WordR wr w.heap.size p v n ∧ Cur wr C m ∧ KeepG C (C + 1) w wr
theorem WdS.step {w wr w' : World} {C m m' p n : Nat} {v : Value} (h : WdS w C m p wr v n) (hC : C < w.heap.size) (hc : Cur w' C m') (hk : KeepG C (C + 1) wr w') : WdS w C m' p w' v n := ⟨h.1.step hk hC, hc, h.2.2.trans hk⟩
theorem WdS.mono {w wr : World} {C m m' p n : Nat} {v : Value} (h : WdS w C m p wr v n) (hm : m ≤ m') : WdS w C m' p wr v n := ⟨h.1, h.2.1.mono hm, h.2.2⟩
theorem WdS.le {w wr : World} {C m p n : Nat} {v : Value} (h : WdS w C m p wr v n) : w.heap.size ≤ wr.heap.size := h.2.2.size
theorem WdS.alloc {w wr : World} {C m p n : Nat} {v : Value} (h : WdS w C m p wr v n) (hC : C < w.heap.size) (o : Obj) : WdS w C m p (wr.alloc o) v n := h.step hC (h.2.1.alloc o) ((KeepG.refl _ _ _).alloc o)
theorem WdS.fresh {w wr w' : World} {C m p n k : Nat} {v v' : Value} (h : WdS w C m p wr v n) (hC : C < w.heap.size) (hr : WordR w' w.heap.size p v' k) (hb : Below w.heap.size wr w') : WdS w C m p w' v' k := ⟨hr, h.2.1.fresh hb hC, h.2.2.fresh hb⟩
theorem canB_parts {ls : List Int} {r : Int} (h : canB ls r = true) : (1 ≤ ls.length ∧ ls.length ≤ 20) ∧ allB ls 1 6 = true ∧ (2 ≤ r ∧ r ≤ 60) ∧ kraftN r.toNat (mostI ls).toNat ls ≤ r.toNat ^ (mostI ls).toNat := by
  unfold canB at h
  rw [Bool.and_eq_true, Bool.and_eq_true, decide_eq_true_eq] at h
  have h1 := lengthsB_iff.1 h.1.1
  have h2 := inB_iff.1 h.1.2
  exact ⟨h1.1, h1.2, h2, by have := h.2; omega⟩
theorem canR_pos {ls : List Int} {r : Int} (h : canB ls r = true) : 1 ≤ (canR ls r).length ∧ (canR ls r).length = ls.length := by
  have h1 := canB_parts h
  unfold canR
  rw [if_pos h, canonL_len]
  omega
theorem canR_at {ls : List Int} {r : Int} (h : canB ls r = true) {i : Nat} (hi : i < ls.length) : ∃ N, (canR ls r)[i]? = some (digL r.toNat N (ls.getD i 0).toNat) ∧ 1 ≤ ls.getD i 0 ∧ ls.getD i 0 ≤ 6 := by
  obtain ⟨_, h2, h3, h4⟩ := canB_parts h
  unfold canR
  rw [if_pos h]
  obtain ⟨N, hN⟩ := canonL_at h2 (by omega) h4 hi
  have := allB_at h2 hi
  exact ⟨N, hN, this.1, this.2⟩
theorem canR_word {ls : List Int} {r : Int} (h : canB ls r = true) : ∀ xs ∈ canR ls r, 1 ≤ xs.length ∧ xs.length ≤ 1000 := by
  intro xs hx
  obtain ⟨i, hi, he⟩ := List.getElem_of_mem hx
  obtain ⟨N, h1, h2⟩ := canR_at h (i := i) (by have := (canR_pos h).2; omega)
  rw [List.getElem?_eq_getElem hi, he] at h1
  cases h1
  rw [digL_len]
  omega
set_option maxRecDepth 100000 in
set_option maxHeartbeats 8000000 in
theorem wordsCode_any (C m : Nat) (w : World) (h : Cur w C m) (hm : m ≤ 1099511600000) :
    Calls Try.prog 109 #[.pointer (some ⟨C, 0, Option.none⟩)] w fun e w' => ∃ v n, e = .returned v ∧ 1 ≤ n ∧ n ≤ 22 ∧ WdS w C (m + 300) 0 w' v n := by
  have HC := Lib.hid h.lt
  have hC1 := HC.out
  have cl := Lib.hid (lengths_any C m w h hm)
  clear h
  go_enter Try.func109, Try.ntmps109
  go_wp2_with fail
  refine cl.out.mono ?_
  rintro e w1 ⟨v1, ls, rfl, hls, hd1⟩
  obtain ⟨A1, c1, rfl⟩ := hd1.form
  have D1 := Lib.hid hd1
  clear hd1 cl
  have c2 := Lib.hid (pick_any 3 C _ w1 D1.out.2.1 (by omega) (by omega) (by omega))
  go_wp2_with fail
  refine c2.out.mono ?_
  rintro e w2 ⟨z2, rfl, ⟨hz20, hz21⟩, hc2, hk2⟩
  have D2 := Lib.hid (D1.out.step HC.out hc2 hk2)
  clear hc2 hk2 c2 D1
  have hle2 := D2.out.le
  have c3 := sCanonicalCode_any ls (2 + z2) _ _ w2 D2.out.rd (Nat.le_refl _)
  cases hcb : canB ls (2 + z2)
  · rw [hcb] at c3
    have C3 := Lib.hid c3
    clear c3 hcb
    go_wp2_with fail
    refine C3.out.mono ?_
    rintro e w3 ⟨v3, rfl, _, hb3⟩
    have hle3 := hb3.size
    have hc3 : Cur w3 C (m + 210) := (D2.out.2.1.fresh hb3 (by omega)).mono (by omega)
    have hk3 : KeepG C (C + 1) w w3 := D2.out.2.2.trans (below_g hb3)
    have i1 := intsl_lit (w := w3) (lo := w.heap.size) (g := w3.heap.size) (n := 1) (arr := #[.int .i64 0]) [0] rfl rfl rfl (by omega) (by simp) (by simp)
    have i2 := intsl_lit (w := (w3.alloc (.cells #[.int .i64 0] 3))) (lo := w.heap.size) (g := w3.heap.size + 1) (n := 2) (arr := #[.int .i64 1, .int .i64 0]) [1, 0] rfl (by simp) rfl (by simp; omega) (by simp) (by simp)
    have i3 := intsl_lit (w := ((w3.alloc (.cells #[.int .i64 0] 3)).alloc (.cells #[.int .i64 1, .int .i64 0] 3))) (lo := w.heap.size) (g := w3.heap.size + 1 + 1) (n := 2) (arr := #[.int .i64 1, .int .i64 1]) [1, 1] rfl (by simp) rfl (by simp; omega) (by simp) (by simp)
    have D5 : Hid (WdS w C (m + 210) 1 ((((w3.alloc (.cells #[.int .i64 0] 3)).alloc (.cells #[.int .i64 1, .int .i64 0] 3)).alloc (.cells #[.int .i64 1, .int .i64 1] 3)).alloc (.cells #[.slice (some ⟨w3.heap.size, 0, Option.none⟩) 1 1, .slice (some ⟨w3.heap.size + 1, 0, Option.none⟩) 2 2, .slice (some ⟨w3.heap.size + 1 + 1, 0, Option.none⟩) 2 2] 35)) (.slice (some ⟨w3.heap.size + 1 + 1 + 1, 0, Option.none⟩) 3 3) 3) := by
      refine ⟨wordR_lit (by simp) rfl (by simp; omega) (by omega) (fun u hu => ?_), (((hc3.alloc _).alloc _).alloc _).alloc _, (((hk3.alloc _).alloc _).alloc _).alloc _⟩
      simp at hu
      rcases hu with rfl | rfl | rfl
      · exact (i1.alloc _).alloc _
      · exact i2.alloc _
      · exact i3
    clear C3 hb3 hc3 hk3 i1 i2 i3 D2
    go_wp2_with fail
    generalize ((((w3.alloc (.cells #[.int .i64 0] 3)).alloc (.cells #[.int .i64 1, .int .i64 0] 3)).alloc (.cells #[.int .i64 1, .int .i64 1] 3)).alloc (.cells #[.slice (some ⟨w3.heap.size, 0, Option.none⟩) 1 1, .slice (some ⟨w3.heap.size + 1, 0, Option.none⟩) 2 2, .slice (some ⟨w3.heap.size + 1 + 1, 0, Option.none⟩) 2 2] 35)) = w5 at D5 ⊢
    have c6 := Lib.hid (pick_any 3 C _ w5 D5.out.2.1 (by omega) (by omega) (by omega))
    go_wp2_with fail
    refine c6.out.mono ?_
    rintro e w6 ⟨z6, rfl, ⟨hz60, hz61⟩, hc6, hk6⟩
    obtain ⟨k6, h6e⟩ : ∃ k : Nat, z6 = (k : Int) := ⟨z6.toNat, by omega⟩
    subst h6e
    have hkn : k6 < 3 := by omega
    have D7 : Hid (WdS w C (m + 212) 1 w6 (.slice (some ⟨w3.heap.size + 1 + 1 + 1, 0, Option.none⟩) 3 3) 3) := (D5.out.step hC1 hc6 hk6).mono (by omega)
    obtain ⟨A7, k7, d7, hcell7, hk71, hk7b, hI7⟩ := D7.out.1.at_ hkn
    clear hc6 hk6 c6 D5
    have c8 := Lib.hid (pick_any 24 C _ w6 D7.out.2.1 (by omega) (by omega) (by omega))
    go_wp2_with fail
    refine c8.out.mono ?_
    rintro e w8 ⟨z8, rfl, ⟨hz80, hz81⟩, hc8, hk8⟩
    have D8 : Hid (WdS w C (m + 214) 1 w8 (.slice (some ⟨w3.heap.size + 1 + 1 + 1, 0, Option.none⟩) 3 3) 3) := (D7.out.step hC1 hc8 hk8).mono (by omega)
    have HI8 := Lib.hid (hI7.kept (IntsKept.keepG hk8 hC1))
    have hle8 := D8.out.le
    clear hc8 hk8 c8 hI7 hcell7 D7
    have hzz : z8 = 0 ∨ z8 = 1 ∨ z8 = 2 ∨ 3 ≤ z8 := by omega
    rcases hzz with rfl | rfl | rfl | hz3
    · have hl9 : Lst (w8.alloc (.cells #[.int .i64 (-1), .int .i64 59, .int .i64 60] 3)) C (.slice (some ⟨w8.heap.size, 0, Option.none⟩) 3 3) [-1, 59, 60] := lst_new w8 C [-1, 59, 60] D8.out.2.1.lt (by simp) (by simp)
      have c9 := Lib.hid (among_any _ _ C _ _ (D8.out.2.1.alloc _) (by omega) hl9)
      clear hl9
      have HI9 := Lib.hid (HI8.out.alloc (.cells #[.int .i64 (-1), .int .i64 59, .int .i64 60] 3))
      go_wp2_with fail
      refine c9.out.mono ?_
      rintro e w9 ⟨z9, rfl, _, hc9, hk9⟩
      have D9 : Hid (WdS w C (m + 216) 1 w9 (.slice (some ⟨w3.heap.size + 1 + 1 + 1, 0, Option.none⟩) 3 3) 3) := ((D8.out.alloc hC1 _).step hC1 hc9 hk9).mono (by omega)
      have hI9 := HI9.out.kept (IntsKept.keepG hk9 hC1)
      clear hc9 hk9 c9 D8
      rcases hI9 with ⟨h0, h1⟩ | ⟨b, n2, c2, cur2, hv2, hlb, ⟨hp2, hx2, hnc2⟩, hcm2, hgb, hz2⟩
      · omega
      cases hv2
      obtain ⟨y0, hy0⟩ := hz2 0 (by omega)
      have h0k : 0 < k7 := by omega
      have BB : Blk w9 b 3 cur2.toList := by unfold Blk; simpa using hgb
      have hy9 := BB.cell 0
      have hf9 := BB.frozen 0
      have h7 : cur2.toList[0]? = some (.int .i64 y0) := by simpa using hy0
      rw [h7] at hy9
      have hbl : Below w.heap.size w9 (w9.setCell ⟨b, 0, Option.none⟩ (.int .i64 z9)) := (Below.refl _ _).setCell (p := ⟨b, 0, Option.none⟩) hlb _
      have HD := Lib.hid (D9.out.fresh hC1 (D9.out.1.int hgb 0 z9) hbl)
      clear hz2 BB h7 hgb D9 HI9 HI8 hbl hy0
      go_wp2_with fail
      go_ret
      exact ⟨_, 3, rfl, (by omega), by omega, HD.out.1.zero, HD.out.2.1.mono (by omega), HD.out.2.2⟩
    · obtain ⟨xs, hxs⟩ := HI8.out.rd
      obtain ⟨A8, d8, hv8, _⟩ := Rd.form hxs
      have hxl : xs.length ≤ 1000 := by injection hv8 with _ h2 _; omega
      clear hv8
      have c9 := Lib.hid (l1Own_any xs _ _ w8 hxs (Nat.le_refl _) (by omega))
      clear hxs
      go_wp2_with fail
      refine c9.out.mono ?_
      rintro e w9 ⟨v9, rfl, ho9, hb9⟩
      obtain ⟨A9, e9, rfl, _⟩ := ho9.form
      have HI9 := Lib.hid (IntSl.own (p := 0) (World.ownsRow.mono ho9.1 hle8) (Nat.zero_le _) hxl)
      have D9 : Hid (WdS w C (m + 214) 0 w9 (.slice (some ⟨w3.heap.size + 1 + 1 + 1, 0, Option.none⟩) 3 3) 3) := ⟨D8.out.1.zero.below hb9, D8.out.2.1.fresh hb9 (by omega), D8.out.2.2.trans (below_g hb9)⟩
      have hle9 := D9.out.le
      clear ho9 hb9 c9 D8 HI8
      go_wp2_with (at_builtin; refine WordR.app rfl (.tmp 43) (.tmp 46) rfl D9.out.1 hle9 HI9.out (by omega) rfl rfl rfl ?_; intro v10 w10 hw10 hb10; have HD := Lib.hid (D9.out.fresh hC1 hw10 hb10); obtain ⟨A10, c10, hv10⟩ := hw10.form; clear hw10 hb10; subst hv10)
      go_ret
      exact ⟨_, 3 + 1, rfl, by omega, by omega, HD.out.1, HD.out.2.1.mono (by omega), HD.out.2.2⟩
    · have D9 : Hid (WdS w C (m + 214) 0 w8 (.slice (some ⟨w3.heap.size + 1 + 1 + 1, 0, Option.none⟩) 3 3) 3) := ⟨D8.out.1.zero, D8.out.2⟩
      clear D8 HI8
      go_wp2_with (at_builtin; refine WordR.app rfl (.tmp 50) (.tmp 51) rfl D9.out.1 hle8 (IntSl.nil _ _) (by omega) rfl rfl rfl ?_; intro v10 w10 hw10 hb10; have HD := Lib.hid (D9.out.fresh hC1 hw10 hb10); obtain ⟨A10, c10, hv10⟩ := hw10.form; clear hw10 hb10; subst hv10)
      go_ret
      exact ⟨_, 3 + 1, rfl, by omega, by omega, HD.out.1, HD.out.2.1.mono (by omega), HD.out.2.2⟩
    · have e0 : (z8 == 0) = false := by simp; omega
      have e1 : (z8 == 1) = false := by simp; omega
      have e2 : (z8 == 2) = false := by simp; omega
      clear HI8
      go_wp2_with fail
      go_ret
      exact ⟨_, 3, rfl, (by omega), by omega, D8.out.1.zero, D8.out.2.1.mono (by omega), D8.out.2.2⟩
  · rw [hcb] at c3
    have C3 := Lib.hid c3
    have HCB := Lib.hid hcb
    clear c3 hcb
    go_wp2_with fail
    refine C3.out.mono ?_
    rintro e w5 ⟨v3, rfl, ho3, hb3⟩
    have hle3 := hb3.size
    have hcl := canR_size ls (2 + z2)
    have hcp := (canR_pos HCB.out).1
    have hw3 := WordR.of ho3 (canR_word HCB.out)
    obtain ⟨n5, hn5⟩ : ∃ n, n = (canR ls (2 + z2)).length := ⟨_, rfl⟩
    rw [← hn5] at hw3 hcl hcp
    obtain ⟨g5, c5, rfl, _⟩ := hw3.pos (by omega)
    have hn51 : 1 ≤ n5 := hcp
    have hn52 : n5 ≤ 20 := hcl.2
    have D6 : Hid (WdS w C (m + 210) 1 w5 (.slice (some ⟨g5, 0, Option.none⟩) n5 c5) n5) := ⟨hw3.lo hle2, (D2.out.2.1.fresh hb3 (by omega)).mono (by omega), D2.out.2.2.trans (below_g hb3)⟩
    clear C3 ho3 hb3 hcl hcp hw3 hn5 D2
    have c6 := Lib.hid (pick_any (n5 : Int) C _ w5 D6.out.2.1 (by omega) (by omega) (by omega))
    go_wp2_with fail
    refine c6.out.mono ?_
    rintro e w6 ⟨z6, rfl, ⟨hz60, hz61⟩, hc6, hk6⟩
    obtain ⟨k6, h6e⟩ : ∃ k : Nat, z6 = (k : Int) := ⟨z6.toNat, by omega⟩
    subst h6e
    have hkn : k6 < n5 := by omega
    have D7 : Hid (WdS w C (m + 212) 1 w6 (.slice (some ⟨g5, 0, Option.none⟩) n5 c5) n5) := (D6.out.step hC1 hc6 hk6).mono (by omega)
    obtain ⟨A7, k7, d7, hcell7, hk71, hk7b, hI7⟩ := D7.out.1.at_ hkn
    clear hc6 hk6 c6 D6
    have c8 := Lib.hid (pick_any 24 C _ w6 D7.out.2.1 (by omega) (by omega) (by omega))
    go_wp2_with fail
    refine c8.out.mono ?_
    rintro e w8 ⟨z8, rfl, ⟨hz80, hz81⟩, hc8, hk8⟩
    have D8 : Hid (WdS w C (m + 214) 1 w8 (.slice (some ⟨g5, 0, Option.none⟩) n5 c5) n5) := (D7.out.step hC1 hc8 hk8).mono (by omega)
    have HI8 := Lib.hid (hI7.kept (IntsKept.keepG hk8 hC1))
    have hle8 := D8.out.le
    clear hc8 hk8 c8 hI7 hcell7 D7
    have hzz : z8 = 0 ∨ z8 = 1 ∨ z8 = 2 ∨ 3 ≤ z8 := by omega
    rcases hzz with rfl | rfl | rfl | hz3
    · have hl9 : Lst (w8.alloc (.cells #[.int .i64 (-1), .int .i64 59, .int .i64 60] 3)) C (.slice (some ⟨w8.heap.size, 0, Option.none⟩) 3 3) [-1, 59, 60] := lst_new w8 C [-1, 59, 60] D8.out.2.1.lt (by simp) (by simp)
      have c9 := Lib.hid (among_any _ _ C _ _ (D8.out.2.1.alloc _) (by omega) hl9)
      clear hl9
      have HI9 := Lib.hid (HI8.out.alloc (.cells #[.int .i64 (-1), .int .i64 59, .int .i64 60] 3))
      go_wp2_with fail
      refine c9.out.mono ?_
      rintro e w9 ⟨z9, rfl, _, hc9, hk9⟩
      have D9 : Hid (WdS w C (m + 216) 1 w9 (.slice (some ⟨g5, 0, Option.none⟩) n5 c5) n5) := ((D8.out.alloc hC1 _).step hC1 hc9 hk9).mono (by omega)
      have hI9 := HI9.out.kept (IntsKept.keepG hk9 hC1)
      clear hc9 hk9 c9 D8
      rcases hI9 with ⟨h0, h1⟩ | ⟨b, n2, c2, cur2, hv2, hlb, ⟨hp2, hx2, hnc2⟩, hcm2, hgb, hz2⟩
      · omega
      cases hv2
      obtain ⟨y0, hy0⟩ := hz2 0 (by omega)
      have h0k : 0 < k7 := by omega
      have BB : Blk w9 b 3 cur2.toList := by unfold Blk; simpa using hgb
      have hy9 := BB.cell 0
      have hf9 := BB.frozen 0
      have h7 : cur2.toList[0]? = some (.int .i64 y0) := by simpa using hy0
      rw [h7] at hy9
      have hbl : Below w.heap.size w9 (w9.setCell ⟨b, 0, Option.none⟩ (.int .i64 z9)) := (Below.refl _ _).setCell (p := ⟨b, 0, Option.none⟩) hlb _
      have HD := Lib.hid (D9.out.fresh hC1 (D9.out.1.int hgb 0 z9) hbl)
      clear hz2 BB h7 hgb D9 HI9 HI8 hbl hy0
      go_wp2_with fail
      go_ret
      exact ⟨_, n5, rfl, hn51, by omega, HD.out.1.zero, HD.out.2.1.mono (by omega), HD.out.2.2⟩
    · obtain ⟨xs, hxs⟩ := HI8.out.rd
      obtain ⟨A8, d8, hv8, _⟩ := Rd.form hxs
      have hxl : xs.length ≤ 1000 := by injection hv8 with _ h2 _; omega
      clear hv8
      have c9 := Lib.hid (l1Own_any xs _ _ w8 hxs (Nat.le_refl _) (by omega))
      clear hxs
      go_wp2_with fail
      refine c9.out.mono ?_
      rintro e w9 ⟨v9, rfl, ho9, hb9⟩
      obtain ⟨A9, e9, rfl, _⟩ := ho9.form
      have HI9 := Lib.hid (IntSl.own (p := 0) (World.ownsRow.mono ho9.1 hle8) (Nat.zero_le _) hxl)
      have D9 : Hid (WdS w C (m + 214) 0 w9 (.slice (some ⟨g5, 0, Option.none⟩) n5 c5) n5) := ⟨D8.out.1.zero.below hb9, D8.out.2.1.fresh hb9 (by omega), D8.out.2.2.trans (below_g hb9)⟩
      have hle9 := D9.out.le
      clear ho9 hb9 c9 D8 HI8
      go_wp2_with (at_builtin; refine WordR.app rfl (.tmp 43) (.tmp 46) rfl D9.out.1 hle9 HI9.out (by omega) rfl rfl rfl ?_; intro v10 w10 hw10 hb10; have HD := Lib.hid (D9.out.fresh hC1 hw10 hb10); obtain ⟨A10, c10, hv10⟩ := hw10.form; clear hw10 hb10; subst hv10)
      go_ret
      exact ⟨_, n5 + 1, rfl, by omega, by omega, HD.out.1, HD.out.2.1.mono (by omega), HD.out.2.2⟩
    · have D9 : Hid (WdS w C (m + 214) 0 w8 (.slice (some ⟨g5, 0, Option.none⟩) n5 c5) n5) := ⟨D8.out.1.zero, D8.out.2⟩
      clear D8 HI8
      go_wp2_with (at_builtin; refine WordR.app rfl (.tmp 50) (.tmp 51) rfl D9.out.1 hle8 (IntSl.nil _ _) (by omega) rfl rfl rfl ?_; intro v10 w10 hw10 hb10; have HD := Lib.hid (D9.out.fresh hC1 hw10 hb10); obtain ⟨A10, c10, hv10⟩ := hw10.form; clear hw10 hb10; subst hv10)
      go_ret
      exact ⟨_, n5 + 1, rfl, by omega, by omega, HD.out.1, HD.out.2.1.mono (by omega), HD.out.2.2⟩
    · have e0 : (z8 == 0) = false := by simp; omega
      have e1 : (z8 == 1) = false := by simp; omega
      have e2 : (z8 == 2) = false := by simp; omega
      clear HI8
      go_wp2_with fail
      go_ret
      exact ⟨_, n5, rfl, hn51, by omega, D8.out.1.zero, D8.out.2.1.mono (by omega), D8.out.2.2⟩
end Go.Proofs.Ytjnkdjokbamibaa
/- Contracts for the laws over drawn things: equal lists are told equal, and nothing that was there changes. -/
namespace Go.Proofs.Ytjnkdjokbamibaa
open Go.RowKit
theorem qInts_sameB (xs : List Int) (v u : Value) (hi hj : Nat) (w : World) (h : RdI w hi v xs) (g : RdI w hj u xs) : Calls Try.prog 56 #[v, u] w fun e w' => e = .returned (.bool true) ∧ Below w.heap.size w w' :=
  (qInts_same xs v u hi hj w h g).mono fun _ _ ⟨he, n, hw⟩ => ⟨he, by rw [hw]; exact bel_drewN _ _ _⟩
end Go.Proofs.Ytjnkdjokbamibaa
/- Contracts: drawn words to write and digits to read; equal lists of lists are told equal. -/
namespace Go.Proofs.Ytjnkdjokbamibaa
open Go.RowKit
/-- A drawn code and drawn numbers. -/
def DrewWI (w : World) (e : Ending) (w' : World) : Prop := ∃ v n u xs, e = .returned (.tuple #[v, u]) ∧ xs.length ≤ 31 ∧ WordR w' w.heap.size 0 v n ∧ OwI w' w.heap.size w'.heap.size u xs ∧ Below w.heap.size w w'
set_option maxRecDepth 100000 in
set_option maxHeartbeats 8000000 in
theorem DrawWriteWords_any (zs : List UInt8) (v : Value) (hi : Nat) (w : World) (h : RdU w hi v zs) (hh : hi ≤ w.heap.size) :
    Calls Try.prog 49 #[v] w (DrewWI w) := by
  obtain ⟨A, c, rfl, hc, hm⟩ := Rd.form h
  have HCU := Lib.hid (cur_new h hh)
  have HC : Hid (w.heap.size < (w.alloc (.cells #[.slice A zs.length c, .int .i64 0, .int .u64 0] 89)).heap.size) := by show _ < _; simp
  have HBX : Hid (∀ w', KeepG w.heap.size (w.heap.size + 1) (w.alloc (.cells #[.slice A zs.length c, .int .i64 0, .int .u64 0] 89)) w' → Below w.heap.size w w') := fun w' hk => keepG_box hk
  clear h
  go_enter Try.func49, Try.ntmps49
  go_wp2_with fail
  generalize (w.alloc (.cells #[.slice A zs.length c, .int .i64 0, .int .u64 0] 89)) = wb at HCU HC HBX ⊢
  have hC1 := HC.out
  have cw := Lib.hid (wordsCode_any w.heap.size 0 wb HCU.out (by omega))
  refine cw.out.mono ?_
  rintro e w1 ⟨v1, n, rfl, hn1, hn2, hd1⟩
  obtain ⟨A1, c1, rfl⟩ := hd1.1.form
  have HW := Lib.hid hd1
  have hle1 := hd1.le
  have HC2 : Hid (w.heap.size < w1.heap.size) := by show _ < _; omega
  have D1 := Lib.hid (DrL.start hd1.2.1)
  clear hd1 cw
  have c4 := Lib.hid (pick_any 9 _ _ w1 D1.out.2.1 (by omega) (by omega) (by omega))
  go_wp2_with fail
  refine c4.out.mono ?_
  rintro e w4 ⟨z4, rfl, ⟨hz40, hz41⟩, hc4, hk4⟩
  have D4 := Lib.hid (D1.out.step HC2.out hc4 hk4)
  clear hc4 hk4 c4 D1
  have c5 := Lib.hid (one_any 20 _ _ w4 D4.out.2.1 (by omega) (by omega) (by omega))
  go_wp2_with fail
  refine c5.out.mono ?_
  rintro e w5 ⟨ob, rfl, hc5, hk5⟩
  have D5 := Lib.hid (D4.out.step HC2.out hc5 hk5)
  clear hc5 hk5 c5 D4
  cases ob
  · obtain ⟨n7, hn7, hn71⟩ : ∃ n7 : Nat, z4 = (n7 : Int) ∧ n7 ≤ 31 := ⟨z4.toNat, by omega, by omega⟩
    have D6 : Hid (DrL w1 w.heap.size 310 w5 (.slice Option.none 0 0) []) := D5.out.mono (by omega)
    subst hn7
    clear D5
    go_wp2_with fail
    go_loopw [6] (fun q wr => ∃ (A3 : Option Addr) (c3 : Nat) (xs : List Int), q = .slice A3 xs.length c3 ∧ xs.length ≤ n7 ∧ Hid (DrL w1 w.heap.size (310 + 4 * xs.length) wr (.slice A3 xs.length c3) xs)) (fun q _ => n7 - lenV q)
    case atStart => exact ⟨Option.none, 0, [], rfl, Nat.zero_le _, D6.out⟩
    case round =>
      obtain ⟨A3, c3, xs, rfl, hxn, DR⟩ := hrel
      clear D6
      have hlew := DR.out.le
      by_cases hlt : xs.length < n7
      · have c9 := Lib.hid (pick_any (n : Int) _ _ wr DR.out.2.1 (by omega) (by omega) (by omega))
        go_wp2_with fail
        refine c9.out.mono ?_
        rintro e w9 ⟨z9, rfl, _, hc9, hk9⟩
        have D9 := Lib.hid (DR.out.step HC2.out hc9 hk9)
        clear hc9 hk9 c9 DR
        go_wp2_with (at_builtin; refine GrowI.app rfl (.tmp 24) (.tmp 29) rfl D9.out.gr (by omega) rfl rfl ?_; intro v' w' hG'; have hG2 := D9.out.grow HC2.out hG'; obtain ⟨A', c', hv'⟩ := hG2.form; have HGG := Lib.hid hG2; have hlen : (xs ++ [z9]).length = xs.length + 1 := (by simp); rw [hlen] at hv'; clear hG' hG2; subst hv')
        go_roundw
        case rel => exact ⟨A', c', xs ++ [z9], by rw [hlen], by rw [hlen]; omega, by rw [hlen]; exact HGG.out.mono (by omega)⟩
        case measure => (simp [lenV]; try omega)
      · obtain rfl : n7 = xs.length := by omega
        have DE := Lib.hid (DR.out.mono (show 310 + 4 * xs.length ≤ 440 by omega))
        clear DR
        rcases Nat.eq_zero_or_pos xs.length with h0 | hpos
        · have hgz : decide (0 < xs.length) = false := decide_eq_false (by omega)
          clear h0
          have HRW := Lib.hid ((HW.out.1.step DE.out.2.2 hC1).lo (show w.heap.size ≤ wb.heap.size by omega))
          have HOW := Lib.hid (DE.out.own.mono (show w.heap.size ≤ w1.heap.size by omega) (Nat.le_refl _))
          have HBL := Lib.hid (HBX.out _ (HW.out.2.2.trans DE.out.2.2))
          go_wp2_with fail
          go_ret2
          exact ⟨_, n, _, xs, rfl, hn71, HRW.out, HOW.out, HBL.out⟩
        · have hgz : decide (0 < xs.length) = true := decide_eq_true hpos
          have c7 := Lib.hid (one_any 20 _ _ wr DE.out.2.1 (by omega) (by omega) (by omega))
          go_wp2_with fail
          refine c7.out.mono ?_
          rintro e w7 ⟨ob7, rfl, hc7, hk7⟩
          have D7 := Lib.hid (DE.out.step HC2.out hc7 hk7)
          clear hc7 hk7 c7 DE
          cases ob7
          · have HRW := Lib.hid ((HW.out.1.step D7.out.2.2 hC1).lo (show w.heap.size ≤ wb.heap.size by omega))
            have HOW := Lib.hid (D7.out.own.mono (show w.heap.size ≤ w1.heap.size by omega) (Nat.le_refl _))
            have HBL := Lib.hid (HBX.out _ (HW.out.2.2.trans D7.out.2.2))
            go_wp2_with fail
            go_ret2
            exact ⟨_, n, _, xs, rfl, hn71, HRW.out, HOW.out, HBL.out⟩
          · have hl8 : Lst (w7.alloc (.cells #[.int .i64 (-1), .int .i64 (n : Int)] 3)) w.heap.size (.slice (some ⟨w7.heap.size, 0, Option.none⟩) 2 2) [-1, (n : Int)] := lst_new w7 w.heap.size [-1, (n : Int)] D7.out.2.1.lt (by simp) (by simp)
            have c8 := Lib.hid (among_any _ _ _ _ _ (D7.out.2.1.alloc _) (by omega) hl8)
            clear hl8
            go_wp2_with fail
            refine c8.out.mono ?_
            rintro e w8 ⟨z8, rfl, _, hc8, hk8⟩
            have D8 := Lib.hid ((D7.out.alloc _).step HC2.out hc8 hk8)
            clear hc8 hk8 c8 D7
            obtain ⟨g, c2, hv, hg⟩ := D8.out.pos hpos
            cases hv
            have hce := D8.out.cell hpos
            obtain ⟨ow, how⟩ : ∃ ow, ow = xs[0] := ⟨_, rfl⟩
            rw [← how] at hce
            have hc1 := hce.1
            have hc2 := hce.2
            have HP := Lib.hid (D8.out.put HC2.out hg 0 z8)
            have HLS : Hid ((xs.set 0 z8).length = xs.length) := by show _ = _; rw [List.length_set]
            clear hce how D8
            have HRW := Lib.hid ((HW.out.1.step HP.out.2.2 hC1).lo (show w.heap.size ≤ wb.heap.size by omega))
            have HOW := Lib.hid (HP.out.own.mono (show w.heap.size ≤ w1.heap.size by omega) (Nat.le_refl _))
            have HBL := Lib.hid (HBX.out _ (HW.out.2.2.trans HP.out.2.2))
            go_wp2_with fail
            go_ret2
            exact ⟨_, n, _, xs.set 0 z8, rfl, by rw [HLS.out]; exact hn71, HRW.out, HOW.out, HBL.out⟩
  · have c6 := Lib.hid (pick_any 2 _ _ w5 D5.out.2.1 (by omega) (by omega) (by omega))
    go_wp2_with fail
    refine c6.out.mono ?_
    rintro e w6 ⟨z6, rfl, ⟨hz60, hz61⟩, hc6, hk6⟩
    have D6 : Hid (DrL w1 w.heap.size 310 w6 (.slice Option.none 0 0) []) := (D5.out.step HC2.out hc6 hk6).mono (by omega)
    obtain ⟨n7, hn7, hn71⟩ : ∃ n7 : Nat, 30 + z6 = (n7 : Int) ∧ n7 ≤ 31 := ⟨(30 + z6).toNat, by omega, by omega⟩
    clear hc6 hk6 c6 D5
    go_wp2_with fail
    go_loopw [6] (fun q wr => ∃ (A3 : Option Addr) (c3 : Nat) (xs : List Int), q = .slice A3 xs.length c3 ∧ xs.length ≤ n7 ∧ Hid (DrL w1 w.heap.size (310 + 4 * xs.length) wr (.slice A3 xs.length c3) xs)) (fun q _ => n7 - lenV q)
    case atStart => exact ⟨Option.none, 0, [], rfl, Nat.zero_le _, D6.out⟩
    case round =>
      obtain ⟨A3, c3, xs, rfl, hxn, DR⟩ := hrel
      clear D6
      have hlew := DR.out.le
      by_cases hlt : xs.length < n7
      · have c9 := Lib.hid (pick_any (n : Int) _ _ wr DR.out.2.1 (by omega) (by omega) (by omega))
        go_wp2_with fail
        refine c9.out.mono ?_
        rintro e w9 ⟨z9, rfl, _, hc9, hk9⟩
        have D9 := Lib.hid (DR.out.step HC2.out hc9 hk9)
        clear hc9 hk9 c9 DR
        go_wp2_with (at_builtin; refine GrowI.app rfl (.tmp 24) (.tmp 29) rfl D9.out.gr (by omega) rfl rfl ?_; intro v' w' hG'; have hG2 := D9.out.grow HC2.out hG'; obtain ⟨A', c', hv'⟩ := hG2.form; have HGG := Lib.hid hG2; have hlen : (xs ++ [z9]).length = xs.length + 1 := (by simp); rw [hlen] at hv'; clear hG' hG2; subst hv')
        go_roundw
        case rel => exact ⟨A', c', xs ++ [z9], by rw [hlen], by rw [hlen]; omega, by rw [hlen]; exact HGG.out.mono (by omega)⟩
        case measure => (simp [lenV]; try omega)
      · obtain rfl : n7 = xs.length := by omega
        have DE := Lib.hid (DR.out.mono (show 310 + 4 * xs.length ≤ 440 by omega))
        clear DR
        rcases Nat.eq_zero_or_pos xs.length with h0 | hpos
        · have hgz : decide (0 < xs.length) = false := decide_eq_false (by omega)
          clear h0
          have HRW := Lib.hid ((HW.out.1.step DE.out.2.2 hC1).lo (show w.heap.size ≤ wb.heap.size by omega))
          have HOW := Lib.hid (DE.out.own.mono (show w.heap.size ≤ w1.heap.size by omega) (Nat.le_refl _))
          have HBL := Lib.hid (HBX.out _ (HW.out.2.2.trans DE.out.2.2))
          go_wp2_with fail
          go_ret2
          exact ⟨_, n, _, xs, rfl, hn71, HRW.out, HOW.out, HBL.out⟩
        · have hgz : decide (0 < xs.length) = true := decide_eq_true hpos
          have c7 := Lib.hid (one_any 20 _ _ wr DE.out.2.1 (by omega) (by omega) (by omega))
          go_wp2_with fail
          refine c7.out.mono ?_
          rintro e w7 ⟨ob7, rfl, hc7, hk7⟩
          have D7 := Lib.hid (DE.out.step HC2.out hc7 hk7)
          clear hc7 hk7 c7 DE
          cases ob7
          · have HRW := Lib.hid ((HW.out.1.step D7.out.2.2 hC1).lo (show w.heap.size ≤ wb.heap.size by omega))
            have HOW := Lib.hid (D7.out.own.mono (show w.heap.size ≤ w1.heap.size by omega) (Nat.le_refl _))
            have HBL := Lib.hid (HBX.out _ (HW.out.2.2.trans D7.out.2.2))
            go_wp2_with fail
            go_ret2
            exact ⟨_, n, _, xs, rfl, hn71, HRW.out, HOW.out, HBL.out⟩
          · have hl8 : Lst (w7.alloc (.cells #[.int .i64 (-1), .int .i64 (n : Int)] 3)) w.heap.size (.slice (some ⟨w7.heap.size, 0, Option.none⟩) 2 2) [-1, (n : Int)] := lst_new w7 w.heap.size [-1, (n : Int)] D7.out.2.1.lt (by simp) (by simp)
            have c8 := Lib.hid (among_any _ _ _ _ _ (D7.out.2.1.alloc _) (by omega) hl8)
            clear hl8
            go_wp2_with fail
            refine c8.out.mono ?_
            rintro e w8 ⟨z8, rfl, _, hc8, hk8⟩
            have D8 := Lib.hid ((D7.out.alloc _).step HC2.out hc8 hk8)
            clear hc8 hk8 c8 D7
            obtain ⟨g, c2, hv, hg⟩ := D8.out.pos hpos
            cases hv
            have hce := D8.out.cell hpos
            obtain ⟨ow, how⟩ : ∃ ow, ow = xs[0] := ⟨_, rfl⟩
            rw [← how] at hce
            have hc1 := hce.1
            have hc2 := hce.2
            have HP := Lib.hid (D8.out.put HC2.out hg 0 z8)
            have HLS : Hid ((xs.set 0 z8).length = xs.length) := by show _ = _; rw [List.length_set]
            clear hce how D8
            have HRW := Lib.hid ((HW.out.1.step HP.out.2.2 hC1).lo (show w.heap.size ≤ wb.heap.size by omega))
            have HOW := Lib.hid (HP.out.own.mono (show w.heap.size ≤ w1.heap.size by omega) (Nat.le_refl _))
            have HBL := Lib.hid (HBX.out _ (HW.out.2.2.trans HP.out.2.2))
            go_wp2_with fail
            go_ret2
            exact ⟨_, n, _, xs.set 0 z8, rfl, by rw [HLS.out]; exact hn71, HRW.out, HOW.out, HBL.out⟩
/-- A drawn code and drawn digits. -/
def DrewWD (w : World) (e : Ending) (w' : World) : Prop := ∃ v xss u xs, e = .returned (.tuple #[v, u]) ∧ xs.length ≤ 400 ∧ RdII w' w'.heap.size v xss ∧ RdI w' w'.heap.size u xs ∧ Below w.heap.size w w'
theorem writeL_le (xss : List (List Int)) (is : List Int) : (writeL xss is).length ≤ 180 := writeL_len xss is
set_option maxRecDepth 100000 in
set_option maxHeartbeats 8000000 in
theorem DrawReadWords_any (zs : List UInt8) (v : Value) (hi : Nat) (w : World) (h : RdU w hi v zs) (hh : hi ≤ w.heap.size) :
    Calls Try.prog 52 #[v] w (DrewWD w) := by
  obtain ⟨A, c, rfl, hc, hm⟩ := Rd.form h
  have HCU := Lib.hid (cur_new h hh)
  have hC1 : w.heap.size < (w.alloc (.cells #[.slice A zs.length c, .int .i64 0, .int .u64 0] 89)).heap.size := by simp
  have HBX : Hid (∀ w', KeepG w.heap.size (w.heap.size + 1) (w.alloc (.cells #[.slice A zs.length c, .int .i64 0, .int .u64 0] 89)) w' → Below w.heap.size w w') := fun w' hk => keepG_box hk
  have HU := Lib.hid (h.below ((Below.refl _ _).alloc (Nat.le_refl _) (.cells #[.slice A zs.length c, .int .i64 0, .int .u64 0] 89)) hh)
  clear h
  go_enter Try.func52, Try.ntmps52
  go_wp2_with fail
  generalize (w.alloc (.cells #[.slice A zs.length c, .int .i64 0, .int .u64 0] 89)) = wb at HCU hC1 HBX HU ⊢
  have cw := Lib.hid (DrawWriteWords_any zs _ hi wb HU.out (by omega))
  refine cw.out.mono ?_
  rintro e w1 ⟨v1, n1, u1, is, rfl, his, hr1, ho1, hb1⟩
  obtain ⟨A1, c1, rfl⟩ := hr1.form
  obtain ⟨xss, hxl, hrd⟩ := hr1.rd
  subst hxl
  obtain ⟨A2, c2, rfl, _⟩ := ho1.form
  have hle1 := hb1.size
  have HR1 := Lib.hid hr1
  have HRD := Lib.hid hrd
  have HO1 := Lib.hid ho1.rd
  have HCU1 := Lib.hid (HCU.out.fresh hb1 hC1)
  have HK1 : Hid (KeepG w.heap.size (w.heap.size + 1) wb w1) := below_g hb1
  clear hr1 hrd ho1 hb1 cw HCU HU
  have cww := sWriteWords_any xss is _ _ _ _ w1 HRD.out HO1.out (Nat.le_refl _) (Nat.le_refl _)
  have hwl := writeL_le xss is
  cases hwb : writeB xss is
  · rw [hwb] at cww
    have CW := Lib.hid cww
    clear cww hwb
    go_wp2_with fail
    refine CW.out.mono ?_
    rintro e w2 ⟨v2, rfl, _, hb2⟩
    have hle2 := hb2.size
    have HR2 := Lib.hid (HR1.out.below hb2)
    have HI2 := Lib.hid (intsl_lit (w := w2) (lo := w.heap.size) (g := w2.heap.size) (n := 3) (arr := #[.int .i64 0, .int .i64 1, .int .i64 0]) [0, 1, 0] rfl rfl rfl (by omega) (by simp) (by simp))
    have hbA : Below w2.heap.size w2 (w2.alloc (.cells #[.int .i64 0, .int .i64 1, .int .i64 0] 3)) := (Below.refl _ _).alloc (Nat.le_refl _) _
    obtain ⟨yss, _, hry⟩ := (HR2.out.below hbA).rd
    have HRA2 := Lib.hid hry
    have HBL := Lib.hid (HBX.out _ ((HK1.out.trans (below_g hb2)).trans (below_g hbA)))
    obtain ⟨ys, hys⟩ := HI2.out.rd
    obtain ⟨_, _, hv9, _⟩ := Rd.form hys
    have hyl : ys.length = 3 := by injection hv9 with _ h2 _; omega
    have HYS := Lib.hid hys
    clear CW hb2 hbA hys hv9 HR1 hry
    go_wp2_with fail
    go_ret2
    exact ⟨_, yss, _, ys, rfl, by omega, HRA2.out, HYS.out, HBL.out⟩
  · rw [hwb] at cww
    have CW := Lib.hid cww
    clear cww hwb
    go_wp2_with fail
    refine CW.out.mono ?_
    rintro e w2 ⟨v2, rfl, ho2, hb2⟩
    obtain ⟨A3, c3, rfl, _⟩ := ho2.form
    obtain ⟨ds, hds⟩ : ∃ ds, ds = writeL xss is := ⟨_, rfl⟩
    rw [← hds] at ho2 hwl ⊢
    have HC2 : Hid (w.heap.size < w1.heap.size) := by show _ < _; omega
    have HR2 := Lib.hid (HR1.out)
    have D2 : Hid (DrL w1 w.heap.size 0 w2 (.slice A3 ds.length c3) ds) := ⟨ho2.1, HCU1.out.fresh hb2 HC2.out, below_g hb2⟩
    clear hds ho2 hb2 CW HR1
    have c4 := Lib.hid (pick_any 6 _ _ w2 D2.out.2.1 (by omega) (by omega) (by omega))
    go_wp2_with fail
    refine c4.out.mono ?_
    rintro e w4 ⟨z4, rfl, ⟨hz40, hz41⟩, hc4, hk4⟩
    have D4 := Lib.hid (D2.out.step HC2.out hc4 hk4)
    clear hc4 hk4 c4 D2
    have hzz : z4 = 0 ∨ z4 = 1 ∨ z4 = 2 ∨ 3 ≤ z4 := by omega
    rcases hzz with rfl | rfl | rfl | hz3
    · rcases Nat.eq_zero_or_pos ds.length with h0 | hpos
      · have hgz : decide (0 < ds.length) = false := decide_eq_false (by omega)
        clear h0
        have HOW := Lib.hid D4.out.rd
        obtain ⟨yss, _, hry⟩ := (HR2.out.step D4.out.2.2 hC1).rd
        have HRR := Lib.hid hry
        clear hry
        have HBL := Lib.hid (HBX.out _ (HK1.out.trans D4.out.2.2))
        go_wp2_with fail
        go_ret2
        exact ⟨_, yss, _, ds, rfl, by omega, HRR.out, HOW.out, HBL.out⟩
      · have hgz : decide (0 < ds.length) = true := decide_eq_true hpos
        have c5 := Lib.hid (pick_any (ds.length : Int) _ _ w4 D4.out.2.1 (by omega) (by omega) (by omega))
        go_wp2_with fail
        refine c5.out.mono ?_
        rintro e w5 ⟨z5, rfl, ⟨hz50, hz51⟩, hc5, hk5⟩
        have D5 := Lib.hid (D4.out.step HC2.out hc5 hk5)
        obtain ⟨j, h5e⟩ : ∃ k : Nat, z5 = (k : Int) := ⟨z5.toNat, by omega⟩
        subst h5e
        have hjx : j < ds.length := by omega
        clear hc5 hk5 c5 D4
        have hl8 : Lst (w5.alloc (.cells #[.int .i64 0, .int .i64 1, .int .i64 59, .int .i64 60] 3)) w.heap.size (.slice (some ⟨w5.heap.size, 0, Option.none⟩) 4 4) [0, 1, 59, 60] := lst_new w5 w.heap.size [0, 1, 59, 60] D5.out.2.1.lt (by simp) (by simp)
        have c8 := Lib.hid (among_any _ _ _ _ _ (D5.out.2.1.alloc _) (by omega) hl8)
        clear hl8
        go_wp2_with fail
        refine c8.out.mono ?_
        rintro e w8 ⟨z8, rfl, _, hc8, hk8⟩
        have D8 := Lib.hid ((D5.out.alloc _).step HC2.out hc8 hk8)
        clear hc8 hk8 c8 D5
        obtain ⟨g, c9, hv, hg⟩ := D8.out.pos hpos
        cases hv
        have hce := D8.out.cell hjx
        obtain ⟨ow, how⟩ : ∃ ow, ow = ds[j] := ⟨_, rfl⟩
        rw [← how] at hce
        have hce1 := hce.1
        have hce2 := hce.2
        have HP := Lib.hid (D8.out.put HC2.out hg j z8)
        have HLS : Hid ((ds.set j z8).length = ds.length) := by show _ = _; rw [List.length_set]
        clear hce how D8
        have HOW := Lib.hid HP.out.rd
        obtain ⟨yss, _, hry⟩ := (HR2.out.step HP.out.2.2 hC1).rd
        have HRR := Lib.hid hry
        clear hry
        have HBL := Lib.hid (HBX.out _ (HK1.out.trans HP.out.2.2))
        go_wp2_with fail
        go_ret2
        exact ⟨_, yss, _, ds.set j z8, rfl, by rw [HLS.out]; omega, HRR.out, HOW.out, HBL.out⟩
    · have c5 := Lib.hid (pick_any 3 _ _ w4 D4.out.2.1 (by omega) (by omega) (by omega))
      go_wp2_with fail
      refine c5.out.mono ?_
      rintro e w5 ⟨z5, rfl, _, hc5, hk5⟩
      have D5 := Lib.hid (D4.out.step HC2.out hc5 hk5)
      clear hc5 hk5 c5 D4
      go_wp2_with (at_builtin; refine GrowI.app rfl (.tmp 46) (.tmp 49) rfl D5.out.gr (by omega) rfl rfl ?_; intro v' w' hG'; have hG2 := D5.out.grow HC2.out hG'; obtain ⟨A', c', hv'⟩ := hG2.form; have HGG := Lib.hid hG2; have hlen : (ds ++ [z5]).length = ds.length + 1 := (by simp); rw [hlen] at hv'; clear hG' hG2; subst hv')
      have HOW := Lib.hid HGG.out.rd
      obtain ⟨yss, _, hry⟩ := (HR2.out.step HGG.out.2.2 hC1).rd
      have HRR := Lib.hid hry
      clear hry
      have HBL := Lib.hid (HBX.out _ (HK1.out.trans HGG.out.2.2))
      go_ret2
      exact ⟨_, yss, _, ds ++ [z5], rfl, by rw [hlen]; omega, HRR.out, HOW.out, HBL.out⟩
    · have c5 := Lib.hid (one_any 4 _ _ w4 D4.out.2.1 (by omega) (by omega) (by omega))
      go_wp2_with fail
      refine c5.out.mono ?_
      rintro e w5 ⟨ob, rfl, hc5, hk5⟩
      have D5 := Lib.hid (D4.out.step HC2.out hc5 hk5)
      clear hc5 hk5 c5 D4
      cases ob
      · have HOW := Lib.hid D5.out.rd
        obtain ⟨yss, _, hry⟩ := (HR2.out.step D5.out.2.2 hC1).rd
        have HRR := Lib.hid hry
        clear hry
        have HBL := Lib.hid (HBX.out _ (HK1.out.trans D5.out.2.2))
        go_wp2_with fail
        go_ret2
        exact ⟨_, yss, _, ds, rfl, by omega, HRR.out, HOW.out, HBL.out⟩
      · have c6 := Lib.hid (pick_any 2 _ _ w5 D5.out.2.1 (by omega) (by omega) (by omega))
        go_wp2_with fail
        refine c6.out.mono ?_
        rintro e w6 ⟨z6, rfl, ⟨hz60, hz61⟩, hc6, hk6⟩
        have D6 := Lib.hid (D5.out.step HC2.out hc6 hk6)
        obtain ⟨n6, hn6, hn61⟩ : ∃ n6 : Nat, 180 + z6 = (n6 : Int) ∧ n6 ≤ 181 := ⟨(180 + z6).toNat, by omega, by omega⟩
        obtain ⟨M6, hM6⟩ : ∃ M6, M6 = 0 + 2 + 2 + 2 := ⟨_, rfl⟩
        have D6' : Hid (DrL w1 w.heap.size M6 w6 (.slice A3 ds.length c3) ds) := by rw [hM6]; exact D6.out
        clear hc6 hk6 c6 D5 D6
        go_wp2_with fail
        go_loopw [7] (fun v wr => ∃ (A9 : Option Addr) (c9 : Nat) (ys : List Int), v = .slice A9 ys.length c9 ∧ ys.length ≤ 400 ∧ Hid (DrL w1 w.heap.size M6 wr (.slice A9 ys.length c9) ys)) (fun v _ => 181 - lenV v)
        case atStart => exact ⟨A3, c3, ds, rfl, by omega, D6'.out⟩
        case round =>
          obtain ⟨A9, c9, ys, rfl, hy, DS⟩ := hrel
          clear D6'
          by_cases hlt6 : ys.length < n6
          · go_wp2_with (at_builtin; refine GrowI.app rfl (.tmp 62) (.tmp 63) rfl DS.out.gr (by omega) rfl rfl ?_; intro v' w' hG'; have hG2 := DS.out.grow HC2.out hG'; obtain ⟨A', c', hv'⟩ := hG2.form; have HGG := Lib.hid hG2; have hlen : (ys ++ [0]).length = ys.length + 1 := (by simp); rw [hlen] at hv'; clear hG' hG2; subst hv')
            go_roundw
            case rel => exact ⟨A', c', ys ++ [0], by rw [hlen], by rw [hlen]; omega, by rw [hlen]; exact HGG.out⟩
            case measure => (simp [lenV]; try omega)
          · have hge : n6 ≤ ys.length := by omega
            have HOW := Lib.hid DS.out.rd
            obtain ⟨yss, _, hry⟩ := (HR2.out.step DS.out.2.2 hC1).rd
            have HRR := Lib.hid hry
            clear hry
            have HBL := Lib.hid (HBX.out _ (HK1.out.trans DS.out.2.2))
            go_wp2_with fail
            go_ret2
            exact ⟨_, yss, _, ys, rfl, hy, HRR.out, HOW.out, HBL.out⟩
    · have e0 : (z4 == 0) = false := by simp; omega
      have e1 : (z4 == 1) = false := by simp; omega
      have e2 : (z4 == 2) = false := by simp; omega
      have HOW := Lib.hid D4.out.rd
      obtain ⟨yss, _, hry⟩ := (HR2.out.step D4.out.2.2 hC1).rd
      have HRR := Lib.hid hry
      clear hry
      have HBL := Lib.hid (HBX.out _ (HK1.out.trans D4.out.2.2))
      go_wp2_with fail
      go_ret2
      exact ⟨_, yss, _, ds, rfl, by omega, HRR.out, HOW.out, HBL.out⟩
theorem qLists_sameB (xss : List (List Int)) (v u : Value) (hi hj : Nat) (w : World) (h : RdII w hi v xss) (g : RdII w hj u xss) (hh : hi ≤ w.heap.size := by omega) (hg : hj ≤ w.heap.size := by omega) :
    Calls Try.prog 55 #[v, u] w fun e w' => e = .returned (.bool true) ∧ Below w.heap.size w w' := by
  obtain ⟨A, c, rfl, hm⟩ := h.form
  obtain ⟨A', c', rfl, hm'⟩ := g.form
  have H := Lib.hid h
  have G := Lib.hid g
  clear h g
  go_enter Try.func55, Try.ntmps55
  go_wp2
  go_loopw [13] (fun i wr => ∃ k : Nat, k ≤ xss.length ∧ i = .int .i64 k ∧ Below w.heap.size w wr) (fun i _ => xss.length - (intOf i).toNat)
  case atStart => exact ⟨0, Nat.zero_le _, rfl, Below.refl _ _⟩
  case round =>
    obtain ⟨k, hk, rfl, hbr⟩ := hrel
    by_cases hlt : k < xss.length
    · obtain ⟨b1, o1, c1, a, xs, hv, _, hx, hcell1, hra⟩ := (H.out.below hbr hh).at_ hlt
      cases hv
      obtain ⟨b2, o2, c2, b, xs', hv, _, hx', hcell2, hrb⟩ := (G.out.below hbr hg).at_ hlt
      cases hv
      rw [hx] at hx'
      cases hx'
      have HA := Lib.hid hra
      have HB := Lib.hid hrb
      clear hx hra hrb
      have hs := hbr.size
      go_wp2
      go_quiet ((go_at_call 56; exact Calls.quiet_of (qInts_same xs _ _ hi hj _ (by exact HA.out) (by exact HB.out))))
      go_wp2
      go_roundw
      case rel => exact ⟨k + 1, by omega, by go_num, hbr.trans (bel_drewN _ wr _)⟩
      case measure => simp [intOf]; omega
    · go_wp2
      go_ret
      exact ⟨rfl, hbr⟩
end Go.Proofs.Ytjnkdjokbamibaa
/- For the law of code words: what is written is read back, and what is read is written again. -/
namespace Go.Proofs.Ytjnkdjokbamibaa
open Go.RowKit
theorem writeB_parts {u : List (List Int)} {l : List Int} (h : writeB u l = true) : codeB u = true ∧ l.length ≤ 30 ∧ allB l 0 ((u.length : Int) - 1) = true := by
  unfold writeB at h
  rw [Bool.and_eq_true, Bool.and_eq_true, decide_eq_true_eq] at h
  exact ⟨h.1, h.2.1, h.2.2⟩
theorem writeL_yes {u : List (List Int)} {l : List Int} (h : writeB u l = true) : writeL u l = wordsI u l := by unfold writeL; rw [if_pos h]
theorem back_ok {u : List (List Int)} {l : List Int} (h : writeB u l = true) : readRes u (writeL u l) = (l, true) := by
  obtain ⟨h1, h2, h3⟩ := writeB_parts h
  rw [writeL_yes h]
  unfold readRes
  rw [h1, words_digB h1 h2, read_write h1 l h3]
  rfl
theorem again_ok {v : List (List Int)} {ds L : List Int} (h : readRes v ds = (L, true)) (hl : L.length ≤ 30) : writeB v L = true ∧ writeL v L = ds := by
  unfold readRes at h
  cases hc : (codeB v && digB ds) with
  | false => rw [hc] at h; cases h
  | true =>
    rw [hc, if_pos rfl] at h
    rw [Bool.and_eq_true] at hc
    cases hr : readW v ds with
    | none => rw [hr] at h; cases h
    | some M =>
      rw [hr] at h
      cases h
      obtain ⟨h1, h2⟩ := write_read hc.1 ds.length ds L (Nat.le_refl _) hr
      have hb : writeB v L = true := by unfold writeB; rw [hc.1, h2, decide_eq_true hl]; rfl
      exact ⟨hb, by rw [writeL_yes hb]; exact h1⟩
/-- All indices. -/
def allI (n : Nat) : List Int := (List.range n).map fun i : Nat => (i : Int)
theorem allI_len (n : Nat) : (allI n).length = n := by simp [allI]
theorem allI_at {n k : Nat} (h : k < n) : (allI n)[k]? = some (k : Int) := by simp [allI, h]
theorem sent_ok {ls : List Int} {r : Int} (h : canB ls r = true) : writeB (canR ls r) (allI ls.length) = true := by
  obtain ⟨h1, h2, h3, h4⟩ := canB_parts h
  have hl : lengthsB ls = true := lengthsB_iff.2 ⟨h1, h2⟩
  have hc : codeB (canR ls r) = true := by
    unfold canR
    rw [if_pos h]
    exact canonL_code hl (by omega) (by omega) h4
  unfold writeB
  rw [hc, (canR_pos h).2, allI_len, decide_eq_true (show ls.length ≤ 30 by omega)]
  have : allB (allI ls.length) 0 ((ls.length : Int) - 1) = true := by
    unfold allB
    rw [List.all_eq_true]
    intro y hy
    unfold allI at hy
    rw [List.mem_map] at hy
    obtain ⟨i, hi, rfl⟩ := hy
    have := List.mem_range.1 hi
    exact inB_iff.2 (by omega)
  rw [this]; rfl
/-- A word of a canonical code: its length, its digits. -/
theorem word_ok {ls : List Int} {r : Int} (h : canB ls r = true) {i : Nat} {x : List Int} (hx : (canR ls r)[i]? = some x) : (x.length : Int) = ls.getD i 0 ∧ ∀ d ∈ x, 0 ≤ d ∧ d < r := by
  obtain ⟨h1, h2, h3, h4⟩ := canB_parts h
  have hi := (List.getElem?_eq_some_iff.1 hx).1
  rw [(canR_pos h).2] at hi
  obtain ⟨N, hN, h5, h6⟩ := canR_at h hi
  rw [hx] at hN
  cases hN
  refine ⟨by rw [digL_len]; omega, fun d hd => ?_⟩
  have := digL_all (show 1 ≤ r.toNat by omega) _ _ d hd
  omega
theorem can_told (ls : List Int) (r : Int) : ∃ (K Wn : Int) (h th : Bool), kraftT ls r = .tuple #[.int .i64 K, .int .i64 Wn, .bool th] ∧ hasT ls r = .tuple #[.bool h, .bool th] ∧ canB ls r = (th && h) ∧ (th = false → h = false) ∧ (th = true → decide (K ≤ Wn) = h) := by
  unfold kraftT hasT canB
  cases hc : (lengthsB ls && inB r 2 60)
  · exact ⟨0, 0, false, false, rfl, rfl, by simp, fun _ => rfl, (fun h => by cases h)⟩
  · exact ⟨_, _, _, true, rfl, rfl, by simp, (fun h => by cases h), fun _ => rfl⟩
end Go.Proofs.Ytjnkdjokbamibaa
