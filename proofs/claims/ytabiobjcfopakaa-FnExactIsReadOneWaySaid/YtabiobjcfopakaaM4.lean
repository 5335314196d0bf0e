/- Appending a slice of integers, whatever it is, to a row of the call's own; a copy of a slice. -/
import Derived.Test.YtabiobjcfopakaaM3
import Derived.Laws.AppendOwn
import Derived.OwnWalk
namespace Go.Proofs.Ytabiobjcfopakaa
open Go.RowKit
theorem run_append_nil {P : Program} {w : World} (base : Nat) (t ty e : TypeId) (i : TypeInfo) (size : Nat) (ht : P.underlying t = some (.slice e)) (hi : P.info? e = some i)
    (v : Value) (n : Nat) (xs : List Value) (hown : w.ownsRow base e size v n xs) (c : Nat) : (Builtin.append_ #[t, t] ty #[v, .slice Option.none 0 c]).run P w = .ok v w := by
  rcases hown.2 with ⟨rfl, rfl⟩ | ⟨g, cap, cur, rfl, _, _, hnc, _⟩
  · simp [Builtin.append_, run_underlying ht, sizeOf, typeInfo, hi, Builtin.lenOf, Builtin.firstCells]
  · simp [Builtin.append_, run_underlying ht, sizeOf, typeInfo, hi, Builtin.lenOf, Builtin.firstCells, hnc, storeCells]
theorem wp_append_nil {P : Program} {w : World} {ops : Array Oper} {rest : List Oper} {o : Oper} {a : Act} {Q : Exit → Act → World → Prop} (hgd : o.guard = Option.none) (s x : Operand) (t : TypeId)
    (ho : o.op = .call { callee := .builtin .append, args := #[s, x], argTypes := #[t, t] })
    (base : Nat) (e : TypeId) (i : TypeInfo) (size : Nat) (ht : P.underlying t = some (.slice e)) (hi : P.info? e = some i)
    (v : Value) (n : Nat) (xs : List Value) (hs : a.eval s = v) (hown : w.ownsRow base e size v n xs) (c : Nat) (hx : a.eval x = .slice Option.none 0 c)
    (h : wpList P ops Q rest (a.put o.dst v) w) : wpList P ops Q (o :: rest) a w := by
  refine wpList_plain hgd fun K hK => ?_
  have hr := run_append_nil (P := P) base t o.type e i size ht hi v n xs hown c
  unfold Oper.wp execOp
  simp only [ho, resolve, invoke, builtin, Sem.run_bind, Sem.run_pure, Result.andThen_ok, List.map_toArray, List.map_cons, List.map_nil, hs, hx, hr]
  exact hK _ _ h
/-- A row of cells of element type e, appended to since the world w. -/
def GrowV (w : World) (B : Nat) (wr : World) (e : TypeId) (size : Nat) (v : Value) (n : Nat) (xs : List Value) : Prop := wr.ownsRow B e size v n xs ∧ Below B w wr ∧ B ≤ wr.heap.size
theorem GrowI.appI {w wr : World} {B : Nat} {v u : Value} {xs ys : List Int} {hi : Nat} {ops : Array Oper} {rest : List Oper} {o : Oper} {a : Act} {Q : Exit → Act → World → Prop} (hgd : o.guard = Option.none) (s x : Operand)
    (ho : o.op = .call { callee := .builtin .append, args := #[s, x], argTypes := #[29, 29] }) (hG : GrowI w B wr v xs) (hR : RdI wr hi u ys) (hlen : xs.length + ys.length ≤ 1099511627776)
    (hs : a.eval s = v) (hx : a.eval x = u)
    (h : ∀ v' w', GrowI w B w' v' (xs ++ ys) → wpList Try.prog ops Q rest (a.put o.dst v') w') : wpList Try.prog ops Q (o :: rest) a wr := by
  obtain ⟨i, hi0, hz0, hz1, hz2⟩ := info_parts info_int
  obtain ⟨hl, A, c, rfl, hc1, hc2, hcell⟩ := hR
  rcases Nat.eq_zero_or_pos ys.length with h0 | hpos
  · have : ys = [] := List.eq_nil_of_length_eq_zero h0
    subst this
    rcases A with _ | ad
    · refine wp_append_nil hgd s x 29 ho B 3 i 1 Try.underlying29 hi0 v xs.length (ints xs) hs hG.1 c hx ?_
      have := h v wr (by simpa using hG)
      exact this
    · refine wpList_append_own _ hgd s x 29 ho B 3 i (.int .i64 0) 1 8 Try.underlying29 hi0 hz0 hz1 hz2 rfl (by decide) v xs.length (ints xs) hs hG.1 ad 0 c [] hx rfl
        (fun j u hj => by simp at hj) (by intro u hu; simp at hu) (by unfold maxLen; omega) (by omega) hG.2.2 ?_
      intro v' w' hown hgr _
      refine h v' w' ⟨by simpa using hown, hG.2.1.grown hgr hG.2.2 (fun k hk => (hG.1.lt k hk).1), ?_⟩
      have h1 := hgr.size; have h2 := hG.2.2; omega
  · obtain ⟨b, off, rfl, hb, hcc⟩ := hcell hpos
    refine wpList_append_own _ hgd s x 29 ho B 3 i (.int .i64 0) 1 8 Try.underlying29 hi0 hz0 hz1 hz2 rfl (by decide) v xs.length (ints xs) hs hG.1 ⟨b, off, Option.none⟩ ys.length c (ints ys) hx (by simp)
      (fun j u hj => by rw [Go.WideShapes.add_plain]; exact hcc j u hj) (by intro u hu; simp at hu; obtain ⟨z, _, rfl⟩ := hu; rfl) (by unfold maxLen; omega) (by omega) hG.2.2 ?_
    intro v' w' hown hgr _
    refine h v' w' ⟨by simpa [ints] using hown, hG.2.1.grown hgr hG.2.2 (fun k hk => (hG.1.lt k hk).1), ?_⟩
    have h1 := hgr.size; have h2 := hG.2.2; omega
/-- An empty row that the call has made. -/
theorem GrowI.made (w : World) : GrowI w w.heap.size (w.alloc (.cells #[] 3)) (.slice (some ⟨w.heap.size, 0, Option.none⟩) 0 0) [] := by
  refine ⟨?_, (Below.refl _ _).alloc (Nat.le_refl _) _, by simp⟩
  have := World.ownsRow_made (w := w) (base := w.heap.size) (e := 3) (size := 1) #[] 0 (Nat.le_refl _) (Nat.zero_le _) rfl
  exact this
theorem l1Own_any (xs : List Int) (v : Value) (hi : Nat) (w : World) (h : RdI w hi v xs) (hhi : hi ≤ w.heap.size) (hlen : xs.length ≤ 1099511627776) : Calls Try.prog 222 #[v] w (RetOwI xs w) := by
  obtain ⟨A, c, rfl, hc, hm⟩ := Rd.form h
  have h1 : RdI (w.alloc (.cells #[] 3)) hi (.slice A xs.length c) xs := Rd.below h ((Below.refl _ _).alloc (Nat.le_refl _) _) hhi
  have H := Lib.hid h1
  clear h h1
  go_enter Try.func222, Try.ntmps222
  go_wp2_with (at_builtin; refine GrowI.appI rfl (.tmp 3) (.tmp 4) rfl (GrowI.made w) H.out (by simpa using hlen) rfl rfl ?_; intro v' w1 hG')
  go_ret
  exact retOwI hG'
theorem GrowI.belowR {w wr wr' : World} {B : Nat} {v : Value} {xs : List Int} (h : GrowI w B wr v xs) (hb : Below wr.heap.size wr wr') : GrowI w B wr' v xs :=
  ⟨(h.own.below hb (Nat.le_refl _)).1, h.2.1.trans (hb.mono h.2.2), Nat.le_trans h.2.2 hb.size⟩
theorem GrowI.nil {w wr : World} (hb : Below w.heap.size w wr) : GrowI w w.heap.size wr (.slice Option.none 0 0) [] := ⟨World.ownsRow_nil _ _ _ _, hb, hb.size⟩
theorem retOwT {w wr : World} {v : Value} {xs : List Int} (b : Bool) (h : GrowI w w.heap.size wr v xs) : RetOwT xs b w (.returned (.tuple #[v, .bool b])) wr := ⟨v, rfl, h.own, h.bel⟩
theorem retOwT_eq {w w' : World} {e : Ending} {xs ys : List Int} {b : Bool} (h : RetOwT xs b w e w') (hx : xs = ys) : RetOwT ys b w e w' := by rw [← hx]; exact h
end Go.Proofs.Ytabiobjcfopakaa
