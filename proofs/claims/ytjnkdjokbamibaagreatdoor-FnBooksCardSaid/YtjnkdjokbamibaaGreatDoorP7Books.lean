/- Texts of one claim, joined: T6, T7, T8. -/
import Derived.Deep.AppendLies
import Derived.Test.YtjnkdjokbamibaaGreatDoorP6Books
/- Contracts: books of many phrases. -/
namespace Go.Proofs.YtjnkdjokbamibaaGreatDoor
open Go.RowKit
theorem BookR.below {w w' : World} {lo p n : Nat} {v : Value} (h : BookR w lo p v n) (hb : Below w.heap.size w w') : BookR w' lo p v n := by
  obtain ⟨ts, us, h1, h2, h3, h4, h5⟩ := h
  exact ⟨ts, us, h1, h2, owns_below h3 (fun k hk => (h3.lt k hk).2) hb (Nat.le_refl _), h4, fun u hu => (h5 u hu).kept (.below hb)⟩
theorem BookR.lo {w : World} {lo lo' p n : Nat} {v : Value} (h : BookR w lo p v n) (hl : lo' ≤ lo) : BookR w lo' p v n := by
  obtain ⟨ts, us, h1, h2, h3, h4, h5⟩ := h
  refine ⟨ts, us, h1, h2, World.ownsRow.mono h3 hl, h4, fun u hu => ?_⟩
  rcases h5 u hu with h6 | ⟨b, n, c, cur, g1, g2, g3⟩
  · exact .inl h6
  · exact .inr ⟨b, n, c, cur, g1, by omega, g3⟩
theorem BookR.appG {wr : World} {lo p n g : Nat} {v : Value} {t : ByteArray} {A : Option Addr} {n1 c1 : Nat} {ops : Array Oper} {rest : List Oper} {o : Oper} {a : Act} {Q : Exit → Act → World → Prop} (hgd : o.guard = Option.none) (s x : Operand)
    (ho : o.op = .call { callee := .builtin .append, args := #[s, x], argTypes := #[39, 39] }) (hG : BookR wr lo p v n) (hlo : lo ≤ wr.heap.size) (hu : IntSl wr lo p (.slice A n1 c1)) (ht : t.size ≤ 1000) (hlen : n < 1000000)
    (hs : a.eval s = v) (hg : g = wr.heap.size) (hx : a.eval x = .slice (some ⟨g, 0, Option.none⟩) 1 1)
    (h : ∀ v' w', BookR w' lo p v' (n + 1) → Below lo wr w' → FrP wr w' → wr.heap.size ≤ w'.heap.size → wpList Tryz.prog ops Q rest (a.put o.dst v') w') : wpList Tryz.prog ops Q (o :: rest) a (wr.alloc (.cells #[.string t, .slice A n1 c1] 45)) := by
  subst hg
  exact BookR.app hgd s x ho hG hlo hu ht hlen hs hx h
theorem IntSl.alloc {w : World} {lo p : Nat} {u : Value} (h : IntSl w lo p u) (o : Obj) : IntSl (w.alloc o) lo p u := h.kept ((IntsKept.refl _ _).alloc o)
theorem BookR.alloc {w : World} {lo p n : Nat} {v : Value} (h : BookR w lo p v n) (o : Obj) : BookR (w.alloc o) lo p v n := h.below ((Below.refl _ _).alloc (Nat.le_refl _) _)
theorem intsl_lit {w : World} {lo g n : Nat} {arr : Array Value} (xs : List Int) (ha : arr.toList = ints xs) (hg : g = w.heap.size) (hn : n = xs.length) (hlo : lo ≤ w.heap.size) (hx : xs.length ≤ 1000) (hp : 1 ≤ xs.length) : IntSl (w.alloc (.cells arr 3)) lo 1 (.slice (some ⟨g, 0, Option.none⟩) n n) := by
  subst hg hn
  have hb := Blk.new w 3 arr
  refine .inr ⟨w.heap.size, xs.length, xs.length, arr, rfl, hlo, ⟨hp, hx, Nat.le_refl _⟩, by omega, hb, fun j hj => ⟨xs[j], ?_⟩⟩
  have h1 : arr.toList[j]? = some (.int .i64 xs[j]) := by rw [ha]; unfold ints; rw [List.getElem?_map, List.getElem?_eq_getElem hj]; rfl
  simpa using h1
theorem conv_two (z y : Int) (h0 : 0 ≤ z) (h1 : z < 256) (g0 : 0 ≤ y) (g1 : y < 256) (wr : World) :
    (convert 22 9 (.slice (some ⟨wr.heap.size, 0, Option.none⟩) 2 2)).run Tryz.prog (wr.alloc (.cells #[.int .u8 z, .int .u8 y] 5)) = .ok (.string ⟨#[UInt8.ofNat z.toNat, UInt8.ofNat y.toNat]⟩) (wr.alloc (.cells #[.int .u8 z, .int .u8 y] 5)) := by
  have hl : [UInt8.ofNat z.toNat, UInt8.ofNat y.toNat].length = 2 := rfl
  have := run_convert_bytes_back (P := Tryz.prog) (wr.alloc (.cells #[.int .u8 z, .int .u8 y] 5)) 22 9 5 ⟨wr.heap.size, 0, Option.none⟩ 2 [UInt8.ofNat z.toNat, UInt8.ofNat y.toNat] Tryz.underlying22 Tryz.underlying5 Tryz.underlying9 (fun j hj => by
    have hb := (Blk.new wr 5 #[.int .u8 z, .int .u8 y]).cell j
    have hj2 : j = 0 ∨ j = 1 := by simp at hj; omega
    rcases hj2 with rfl | rfl
    · refine hb.trans ?_
      simp
      omega
    · refine hb.trans ?_
      simp
      omega)
  exact this
/-- Many phrases are being made: the result's box, the book's box, the row. -/
structure MpS (w : World) (wr : World) (v : Value) (n : Nat) : Prop where
  res : Blk wr w.heap.size 41 [.slice Option.none 0 0]
  box : Blk wr (w.heap.size + 1) 41 [v]
  row : BookR wr (w.heap.size + 2) 1 v n
  keep : Below w.heap.size w wr
theorem MpS.alloc {w wr : World} {v : Value} {n : Nat} (h : MpS w wr v n) (o : Obj) : MpS w (wr.alloc o) v n := by
  have hb : Below wr.heap.size wr (wr.alloc o) := (Below.refl _ _).alloc (Nat.le_refl _) _
  exact ⟨h.res.below hb h.res.lt, h.box.below hb h.box.lt, h.row.alloc o, h.keep.trans (hb.mono h.keep.size)⟩
theorem MpS.put {w wr w8 : World} {n k : Nat} {v v8 : Value} (h : MpS w wr v n) (hb : BookR w8 (w.heap.size + 2) 1 v8 k) (hB : Below (w.heap.size + 2) wr w8) : MpS w (w8.setCell ⟨w.heap.size + 1, 0, Option.none⟩ v8) v8 k := by
  have hx := h.box.below hB (by omega)
  exact ⟨(h.res.below hB (by omega)).far (p := ⟨w.heap.size + 1, 0, Option.none⟩) (by show w.heap.size ≠ w.heap.size + 1; omega) _, hx.set_ 0 v8,
    hb.far (p := ⟨w.heap.size + 1, 0, Option.none⟩) hx (.inl (by decide)) (.far fun cur e => by rw [show w8.heap[w.heap.size + 1]? = _ from hx] at e; cases e),
    h.keep.trans ((hB.mono (by omega)).setCell (p := ⟨w.heap.size + 1, 0, Option.none⟩) (show w.heap.size ≤ w.heap.size + 1 by omega) _)⟩
theorem MpS.done {w wr : World} {n : Nat} {v u : Value} (h : MpS w wr v n) : BookR (wr.setCell ⟨w.heap.size, 0, Option.none⟩ u) (w.heap.size + 2) 1 v n ∧ Below w.heap.size w (wr.setCell ⟨w.heap.size, 0, Option.none⟩ u) := by
  exact ⟨h.row.far (p := ⟨w.heap.size, 0, Option.none⟩) h.res (.inl (by decide)) (.far fun cur e => by rw [show wr.heap[w.heap.size]? = _ from h.res] at e; cases e), h.keep.setCell (p := ⟨w.heap.size, 0, Option.none⟩) (Nat.le_refl _) _⟩
set_option maxRecDepth 100000 in
set_option maxHeartbeats 1000000 in
theorem manyPhrases_any (n : Nat) (hn : n ≤ 41) (w : World) :
    Calls Tryz.prog 72 #[.int .i64 (n : Int)] w fun e w' => ∃ v, e = .returned (.agg #[v]) ∧ BookR w' (w.heap.size + 2) 1 v n ∧ Below w.heap.size w w' := by
  go_enter Tryz.func72, Tryz.ntmps72
  have D0 : Hid (MpS w ((w.alloc (.cells #[.slice Option.none 0 0] 41)).alloc (.cells #[.slice Option.none 0 0] 41)) (.slice Option.none 0 0) 0) := by
    refine ⟨(Blk.new w _ _).alloc _, ?_, BookR.nil _ _ _, ((Below.refl _ _).alloc (Nat.le_refl _) _).alloc (by simp) _⟩
    have h1 := Blk.new (w.alloc (.cells #[.slice Option.none 0 0] 41)) 41 #[.slice Option.none 0 0]
    rwa [show (w.alloc (.cells #[.slice Option.none 0 0] 41)).heap.size = w.heap.size + 1 by simp] at h1
  go_wp2_with fail
  go_loopw [4] (fun i wr => ∃ (j : Nat) (A : Option Addr) (c : Nat), j ≤ n ∧ i = .int .i64 (j : Int) ∧ Hid (MpS w wr (.slice A j c) j)) (fun i _ => n - (intOf i).toNat)
  case atStart => exact ⟨0, Option.none, 0, Nat.zero_le _, rfl, D0.out⟩
  case round =>
    obtain ⟨j, A, c, hj, rfl, DR⟩ := hrel
    clear D0
    by_cases hlt : j < n
    · have hbc := DR.out.box.cell 0
      have hbl := DR.out.box.lt
      have hcv := conv_two (97 + (j : Int) / 20) (97 + (j : Int) % 20) (by omega) (by omega) (by omega) (by omega) wr
      obtain ⟨ty, hty⟩ : ∃ ty : ByteArray, ty = ⟨#[UInt8.ofNat (97 + (j : Int) / 20).toNat, UInt8.ofNat (97 + (j : Int) % 20).toNat]⟩ := ⟨_, rfl⟩
      rw [← hty] at hcv
      have hts : ty.size ≤ 1000 := by rw [hty]; show 2 ≤ 1000; omega
      clear hty
      have DA := Lib.hid ((DR.out.alloc (.cells #[.int .u8 (97 + (j : Int) / 20), .int .u8 (97 + (j : Int) % 20)] 5)).alloc (.cells #[.int .i64 (1 + (j : Int) % 30), .int .i64 (1 + (j : Int) / 30)] 3))
      have HI := Lib.hid (intsl_lit (w := wr.alloc (.cells #[.int .u8 (97 + (j : Int) / 20), .int .u8 (97 + (j : Int) % 20)] 5)) (lo := w.heap.size + 2) (g := wr.heap.size + 1) (n := 2) (arr := #[.int .i64 (1 + (j : Int) % 30), .int .i64 (1 + (j : Int) / 30)]) [1 + (j : Int) % 30, 1 + (j : Int) / 30] rfl (by simp) rfl (by simp; omega) (by simp) (by simp))
      clear DR
      go_wp2_with (at_builtin; refine BookR.appG rfl (.tmp 12) (.tmp 31) rfl DA.out.row (by simp; omega) HI.out hts (by omega) rfl (by simp) rfl ?_; intro v8 w8 hbk8 hb8 hfr8 hs8; obtain ⟨A8, c8, hv8⟩ := hbk8.form; subst hv8; have D8 := Lib.hid (DA.out.put hbk8 hb8); have hbx8 := (DA.out.box.below hb8 (by omega)).cell 0; have hfx8 := (DA.out.box.below hb8 (by omega)).frozen 0; clear hbk8 hb8 hfr8)
      go_roundw
      case rel => exact ⟨j + 1, A8, c8, by omega, by go_num, D8.out⟩
      case measure => (simp [intOf]; try omega)
    · obtain rfl : j = n := by omega
      have hbc := DR.out.box.cell 0
      have hrc := DR.out.res.cell 0
      have hrf := DR.out.res.frozen 0
      have HD := Lib.hid (DR.out.done (u := .slice A j c))
      have c10 := (DR.out.res.set_ 0 (.slice A j c)).cell 0
      go_wp2_with fail
      refine bodyPost_ret (v := .agg #[.slice A j c]) (by simp [results, Tryz.results72, go_sem, c10]) rfl ?_
      exact ⟨_, rfl, HD.out.1, HD.out.2⟩
end Go.Proofs.YtjnkdjokbamibaaGreatDoor
/- Contracts: any drawn book. -/
namespace Go.Proofs.YtjnkdjokbamibaaGreatDoor
open Go.RowKit
/-- A drawn book is turned: the result's box, the book's box X, the row of phrases, the cursor. -/
structure AyS (w : World) (C m X p : Nat) (wr : World) (v : Value) (n : Nat) : Prop where
  res : Blk wr w.heap.size 41 [.slice Option.none 0 0]
  box : Blk wr X 41 [v]
  row : BookR wr (w.heap.size + 1) p v n
  cur : Cur wr C m
  keep : KeepG C (C + 1) w wr
  far : w.heap.size < X
theorem AyS.step {w wr w' : World} {C m m' X p n : Nat} {v : Value} (h : AyS w C m X p wr v n) (hC : C < w.heap.size) (hc : Cur w' C m') (hk : KeepG C (C + 1) wr w') : AyS w C m' X p w' v n := by
  have hx := h.far
  exact ⟨h.res.keepG hk (by omega), h.box.keepG hk (by omega), h.row.step hk (by omega), hc, h.keep.trans hk, hx⟩
theorem AyS.alloc {w wr : World} {C m X p n : Nat} {v : Value} (h : AyS w C m X p wr v n) (hC : C < w.heap.size) (o : Obj) : AyS w C m X p (wr.alloc o) v n := h.step hC (h.cur.alloc o) ((KeepG.refl _ _ _).alloc o)
theorem AyS.fresh {w wr w' : World} {C m X p n : Nat} {v : Value} (h : AyS w C m X p wr v n) (hC : C < w.heap.size) (hb : Below wr.heap.size wr w') : AyS w C m X p w' v n := h.step hC (h.cur.fresh hb (by have := h.res.lt; omega)) (below_g hb)
theorem AyS.zero {w wr : World} {C m X p n : Nat} {v : Value} (h : AyS w C m X p wr v n) : AyS w C m X 0 wr v n := ⟨h.res, h.box, h.row.zero, h.cur, h.keep, h.far⟩
theorem AyS.mono {w wr : World} {C m m' X p n : Nat} {v : Value} (h : AyS w C m X p wr v n) (hm : m ≤ m') : AyS w C m' X p wr v n := ⟨h.res, h.box, h.row, h.cur.mono hm, h.keep, h.far⟩
theorem AyS.ne {w wr : World} {C m X p n g : Nat} {v : Value} {cur : Array Value} {t : TypeId} (h : AyS w C m X p wr v n) (hg : wr.heap[g]? = some (.cells cur t (0, 0))) (ht : t ≠ 41) : g ≠ X ∧ g ≠ w.heap.size := by
  refine ⟨fun e => ?_, fun e => ?_⟩
  · have h1 := h.box; unfold Blk at h1; rw [← e, hg] at h1; cases h1; exact ht rfl
  · have h1 := h.res; unfold Blk at h1; rw [← e, hg] at h1; cases h1; exact ht rfl
/-- A store into a block from the book's own blocks. -/
theorem AyS.set_ {w wr : World} {C m X p p' n g : Nat} {v : Value} {cur : Array Value} {t : TypeId} (h : AyS w C m X p wr v n) (hC : C < w.heap.size) {q : Addr} {u : Value} (hq : q.block = g) (hg : wr.heap[g]? = some (.cells cur t (0, 0))) (ht : t ≠ 41) (hl : w.heap.size < g) (hr : BookR (wr.setCell q u) (w.heap.size + 1) p' v n) : AyS w C m X p' (wr.setCell q u) v n := by
  obtain ⟨h1, h2⟩ := h.ne hg ht
  have hb : Below w.heap.size wr (wr.setCell q u) := (Below.refl _ _).setCell (by omega) _
  exact ⟨h.res.far (by omega) _, h.box.far (by omega) _, hr, h.cur.fresh hb hC, h.keep.fresh hb, h.far⟩
theorem AyS.text {w wr : World} {C m X p n g c : Nat} {t : ByteArray} (h : AyS w C m X p wr (.slice (some ⟨g, 0, Option.none⟩) n c) n) (hC : C < w.heap.size) (hn : 0 < n) (j : Nat) (ht : t.size ≤ 1000) : AyS w C m X p (wr.setCell ⟨g, j * 2, Option.none⟩ (.string t)) (.slice (some ⟨g, 0, Option.none⟩) n c) n := by
  obtain ⟨g', c', hv, hl, cur, hg⟩ := h.row.pos hn
  cases hv
  exact h.set_ hC (g := g) rfl hg (by decide) (by omega) (h.row.setText hg j ht)
theorem AyS.sig {w wr : World} {C m X n g c : Nat} {u : Value} (h : AyS w C m X 0 wr (.slice (some ⟨g, 0, Option.none⟩) n c) n) (hC : C < w.heap.size) (hn : 0 < n) (j : Nat) (hu : IntSl wr (w.heap.size + 1) 0 u) : AyS w C m X 0 (wr.setCell ⟨g, j * 2 + 1, Option.none⟩ u) (.slice (some ⟨g, 0, Option.none⟩) n c) n := by
  obtain ⟨g', c', hv, hl, cur, hg⟩ := h.row.pos hn
  cases hv
  exact h.set_ hC (g := g) rfl hg (by decide) (by omega) (h.row.setSig hg j hu)
theorem AyS.int {w wr : World} {C m X p n b : Nat} {v : Value} {cur : Array Value} (h : AyS w C m X p wr v n) (hC : C < w.heap.size) (hb : w.heap.size < b) (hg : wr.heap[b]? = some (.cells cur 3 (0, 0))) (i : Nat) (z : Int) : AyS w C m X p (wr.setCell ⟨b, i, Option.none⟩ (.int .i64 z)) v n := by
  refine h.set_ hC (g := b) rfl hg (by decide) hb (h.row.far (p := ⟨b, i, Option.none⟩) hg (.inl (by decide)) (.setInt z))
/-- Another row is stored into the book's box. -/
theorem AyS.put {w wr : World} {C m X p p' n n' : Nat} {v v' : Value} (h : AyS w C m X p wr v n) (hC : C < w.heap.size) (hr : BookR wr (w.heap.size + 1) p' v' n') : AyS w C m X p' (wr.setCell ⟨X, 0, Option.none⟩ v') v' n' := by
  have hx := h.far
  have hb : Below w.heap.size wr (wr.setCell ⟨X, 0, Option.none⟩ v') := (Below.refl _ _).setCell (p := ⟨X, 0, Option.none⟩) (show w.heap.size ≤ X by omega) _
  have hk : IntsKept (w.heap.size + 1) wr (wr.setCell ⟨X, 0, Option.none⟩ v') := .far fun cur e => by rw [show wr.heap[X]? = _ from h.box] at e; cases e
  exact ⟨h.res.far (p := ⟨X, 0, Option.none⟩) (show w.heap.size ≠ X by omega) _, h.box.set_ 0 v', hr.far (p := ⟨X, 0, Option.none⟩) h.box (.inl (by decide)) hk, h.cur.fresh hb hC, h.keep.fresh hb, hx⟩
/-- What is drawn. -/
def AnyD (w : World) (C m : Nat) (e : Ending) (w' : World) : Prop := ∃ v n, e = .returned (.agg #[v]) ∧ n ≤ 41 ∧ BookR w' (w.heap.size + 1) 0 v n ∧ Cur w' C m ∧ KeepG C (C + 1) w w'
theorem AyS.done {w wr : World} {C m X p n : Nat} {v u : Value} (h : AyS w C m X p wr v n) (hC : C < w.heap.size) : BookR (wr.setCell ⟨w.heap.size, 0, Option.none⟩ u) (w.heap.size + 1) 0 v n ∧ Cur (wr.setCell ⟨w.heap.size, 0, Option.none⟩ u) C m ∧ KeepG C (C + 1) w (wr.setCell ⟨w.heap.size, 0, Option.none⟩ u) := by
  have hb : Below w.heap.size wr (wr.setCell ⟨w.heap.size, 0, Option.none⟩ u) := (Below.refl _ _).setCell (p := ⟨w.heap.size, 0, Option.none⟩) (Nat.le_refl _) _
  exact ⟨h.row.zero.far (p := ⟨w.heap.size, 0, Option.none⟩) h.res (.inl (by decide)) (.far fun cur e => by rw [show wr.heap[w.heap.size]? = _ from h.res] at e; cases e), h.cur.fresh hb hC, h.keep.fresh hb⟩
/-- The slice of signals at a phrase of the row. -/
theorem AyS.at_ {w wr : World} {C m X p n g c : Nat} (h : AyS w C m X p wr (.slice (some ⟨g, 0, Option.none⟩) n c) n) {j : Nat} (hj : j < n) :
    (wr.cell? ⟨g, j * 2, Option.none⟩).isSome = true ∧ wr.frozen? ⟨g, j * 2, Option.none⟩ = false ∧ wr.frozen? ⟨g, j * 2 + 1, Option.none⟩ = false ∧ ∃ A k d, wr.cell? ⟨g, j * 2 + 1, Option.none⟩ = some (.slice A k d) ∧ p ≤ k ∧ k ≤ 1000 ∧ IntSl wr (w.heap.size + 1) p (.slice A k d) := by
  obtain ⟨t, u, h1, h2, h3, _, h4, h5⟩ := h.row.at_ hj
  obtain ⟨A, k, d, rfl, h6, h7⟩ := h3.form
  exact ⟨by rw [h1]; rfl, h4, h5, A, k, d, h2, h6, h7, h3⟩
set_option maxRecDepth 100000 in
set_option maxHeartbeats 8000000 in
theorem anyBook_any (C m : Nat) (w : World) (h : Cur w C m) (hm : m ≤ 1099511600000) :
    Calls Tryz.prog 71 #[.pointer (some ⟨C, 0, Option.none⟩)] w (AnyD w C (m + 21000)) := by
  have HC := Lib.hid h.lt
  have hC1 := HC.out
  have HCU := Lib.hid h
  clear h
  go_enter Tryz.func71, Tryz.ntmps71
  have hR : Blk (w.alloc (.cells #[.slice Option.none 0 0] 41)) w.heap.size 41 [.slice Option.none 0 0] := Blk.new w _ _
  have hsz : (w.alloc (.cells #[.slice Option.none 0 0] 41)).heap.size = w.heap.size + 1 := by simp
  have hkA : KeepG C (C + 1) w (w.alloc (.cells #[.slice Option.none 0 0] 41)) := (KeepG.refl _ _ _).alloc _
  have hcA : Cur (w.alloc (.cells #[.slice Option.none 0 0] 41)) C m := HCU.out.alloc _
  go_wp2_with fail
  generalize (w.alloc (.cells #[.slice Option.none 0 0] 41)) = wa at hR hsz hkA hcA ⊢
  have CB := Lib.hid (book_any C m wa hcA (by omega))
  refine CB.out.mono ?_
  rintro e w1 ⟨v, n, rfl, hn1, hn26, hrow, hcur, hkp⟩
  have D0 : Hid (AyS w C (m + 20000) w1.heap.size 1 (w1.alloc (.cells #[v] 41)) v n) :=
    ⟨(hR.keepG hkp (by omega)).alloc _, Blk.new w1 _ _, (hrow.lo (by omega)).alloc _, hcur.alloc _, (hkA.trans hkp).alloc _, by have := hkp.size; omega⟩
  obtain ⟨g, c, rfl, hg, cur, hgc⟩ := hrow.pos (by omega)
  clear CB hR hsz hkA hcA hrow hcur hkp hgc HCU hg
  obtain ⟨MB, hMB⟩ : ∃ MB, MB = m + 20000 := ⟨_, rfl⟩
  rw [← hMB] at D0
  have hbx := D0.out.box.cell 0
  have hcD : Cur (w1.alloc (.cells #[.slice (some ⟨g, 0, Option.none⟩) n c] 41)).drew C MB := D0.out.cur
  have XD : AyS w C MB w1.heap.size 1 (w1.alloc (.cells #[.slice (some ⟨g, 0, Option.none⟩) n c] 41)).drew (.slice (some ⟨g, 0, Option.none⟩) n c) n := D0.out.step hC1 hcD (KeepG.drawN _ 1)
  go_wp2_with fail
  generalize (w1.alloc (.cells #[.slice (some ⟨g, 0, Option.none⟩) n c] 41)) = wb at D0 hbx hcD XD ⊢
  go_region_law (first
    | ((go_simp; go_at_call 63; (with_reducible refine (pick_any (n : Int) C MB _ hcD (by omega) (by omega) (by omega)).mono ?_); rintro e w5 ⟨z5, rfl, ⟨hz5, hy5⟩, hc5, hk5⟩; have X5 := XD.step hC1 hc5 hk5; have hx5 := X5.box.cell 0; obtain ⟨k, h5e⟩ : ∃ k : Nat, z5 = (k : Int) := ⟨z5.toNat, by omega⟩; subst h5e; have hkn : k < n := (by omega))))
  all_goals
    have D5 := Lib.hid X5
    clear D0 hbx hcD XD hc5 hk5 X5 hx5
    have hm5 : MB + 2 ≤ 1099511626000 := by omega
    go_wp2_with fail
    have c6 := Lib.hid (pick_any 30 C _ w5 D5.out.cur (by omega) (by omega) (by omega))
    refine c6.out.mono ?_
    rintro e w6 ⟨z, rfl, ⟨hz0, hz30⟩, hc6, hk6⟩
    have D6 := Lib.hid (D5.out.step hC1 hc6 hk6)
    obtain ⟨M6, hM6⟩ : ∃ M6, M6 = MB + 2 + 2 := ⟨_, rfl⟩
    rw [← hM6] at D6
    clear hc6 hk6 c6 D5
    have hzz : z = 0 ∨ z = 1 ∨ z = 2 ∨ z = 3 ∨ z = 4 ∨ z = 5 ∨ z = 6 ∨ 7 ≤ z := by omega
    rcases hzz with rfl | rfl | rfl | rfl | rfl | rfl | rfl | hz7
    · have hl0 := lstS_new w6 C #[.string ⟨#[]⟩, .string ⟨#[65]⟩, .string ⟨#[97, 98, 99, 100, 101, 102, 103, 104, 105, 106, 107, 108]⟩, .string ⟨#[97, 98, 99, 100, 101, 102, 103, 104, 105, 106, 107, 108, 109]⟩, .string ⟨#[122]⟩, .string ⟨#[97, 32, 98]⟩] 6 D6.out.cur.lt (by omega) (by omega) rfl (by
        repeat (refine str_mem ⟨_, rfl, by decide⟩ ?_)
        intro u hu
        cases hu)
      have c7 := Lib.hid (of_any 6 _ C M6 _ (D6.out.cur.alloc _) (by omega) hl0)
      clear hl0
      go_wp2_with fail
      refine c7.out.mono ?_
      rintro e w7 ⟨t, rfl, ht, hc7, hk7⟩
      have D7 := Lib.hid ((D6.out.alloc hC1 _).step hC1 hc7 hk7)
      clear hc7 hk7 c7 D6
      obtain ⟨q1, q2, q3, A7, k7, d7, q4, _, _, _⟩ := D7.out.at_ hkn
      obtain ⟨tt, q5⟩ := Option.isSome_iff_exists.1 q1
      have D := Lib.hid (D7.out.text hC1 (by omega) k ht)
      clear q1 D7
      have hbe := D.out.box.cell 0
      have hrc := D.out.res.cell 0
      have hrf := D.out.res.frozen 0
      have HD := Lib.hid (D.out.done (u := .slice (some ⟨g, 0, Option.none⟩) n c) hC1)
      have c10 := (D.out.res.set_ 0 (.slice (some ⟨g, 0, Option.none⟩) n c)).cell 0
      go_wp2_with fail
      refine bodyPost_ret (v := .agg #[.slice (some ⟨g, 0, Option.none⟩) n c]) (by simp [results, Tryz.results71, go_sem, c10]) rfl ?_
      exact ⟨_, n, rfl, by omega, HD.out.1, HD.out.2.1.mono (by omega), HD.out.2.2⟩
    · obtain ⟨q1, q2, q3, A7, k7, d7, q4, hk71, hk7b, hI⟩ := D6.out.at_ hkn
      obtain ⟨g', c', hv, hlg, curg, hgg⟩ := D6.out.row.pos (show 0 < n by omega)
      cases hv
      have BG : Blk w6 g 45 curg.toList := by unfold Blk; simpa using hgg
      rcases hI with ⟨h0, h1⟩ | ⟨b, n2, c2, cur2, hv2, hlb, ⟨hp2, hx2, hnc2⟩, hcm2, hgb, hz2⟩
      · omega
      cases hv2
      obtain ⟨y0, hy0⟩ := hz2 0 (by omega)
      have h0k : 0 < k7 := by omega
      have BB : Blk w6 b 3 cur2.toList := by unfold Blk; simpa using hgb
      have hcB : Cur (w6.alloc (.cells #[.int .i64 (-1), .int .i64 0, .int .i64 60, .int .i64 61] 3)).drew C M6 := D6.out.cur.alloc _
      have XD : AyS w C M6 w1.heap.size 1 (w6.alloc (.cells #[.int .i64 (-1), .int .i64 0, .int .i64 60, .int .i64 61] 3)).drew (.slice (some ⟨g, 0, Option.none⟩) n c) n := (D6.out.alloc hC1 _).step hC1 hcB (KeepG.drawN _ 1)
      have BGd : Blk (w6.alloc (.cells #[.int .i64 (-1), .int .i64 0, .int .i64 60, .int .i64 61] 3)).drew g 45 curg.toList := BG.alloc _
      have BBd : Blk (w6.alloc (.cells #[.int .i64 (-1), .int .i64 0, .int .i64 60, .int .i64 61] 3)).drew b 3 cur2.toList := BB.alloc _
      have hlD : Lst (w6.alloc (.cells #[.int .i64 (-1), .int .i64 0, .int .i64 60, .int .i64 61] 3)).drew C (.slice (some ⟨w6.heap.size, 0, Option.none⟩) 4 4) [-1, 0, 60, 61] := lst_new w6 C [-1, 0, 60, 61] D6.out.cur.lt (by simp) (by simp)
      have qa := BGd.cell (k * 2 + 1)
      rw [← BG.cell (k * 2 + 1), q4] at qa
      have HZ := Lib.hid hz2
      have HLG := Lib.hid hlg
      have HGB := Lib.hid hgb
      have HCN : Hid (g ≠ C ∧ b ≠ C) := ⟨by omega, by omega⟩
      clear hz2 hgg hgb hlg q1 q2 q3
      go_wp2_with fail
      go_region_law (first
        | ((go_simp; go_at_call 74; (with_reducible refine (among_any [-1, 0, 60, 61] _ C M6 _ hcB (by omega) hlD).mono ?_); rintro e w7 ⟨y, rfl, hmy, hc7, hk7⟩; have X7 := XD.step hC1 hc7 hk7; have B7 := BBd.keepG hk7 HCN.out.2; have f7 := B7.frozen 0; have y7 := B7.cell 0; have G7 := BGd.keepG hk7 HCN.out.1; have g7 := G7.cell (k * 2 + 1); rw [← BG.cell (k * 2 + 1), q4] at g7; have h7 : cur2.toList[0]? = some (.int .i64 y0) := (by simpa using hy0); rw [h7] at y7)))
      all_goals
        have D := Lib.hid (X7.int hC1 (show w.heap.size < b by omega) (show w7.heap[b]? = some (.cells cur2 3 (0, 0)) from (by have h := B7; unfold Blk at h; simpa using h)) 0 y)
        clear hcB XD BGd BBd hlD qa B7 f7 y7 G7 g7 h7 X7 hc7 hk7 BB BG D6 hmy
        have hbe := D.out.box.cell 0
        have hrc := D.out.res.cell 0
        have hrf := D.out.res.frozen 0
        have HD := Lib.hid (D.out.done (u := .slice (some ⟨g, 0, Option.none⟩) n c) hC1)
        have c10 := (D.out.res.set_ 0 (.slice (some ⟨g, 0, Option.none⟩) n c)).cell 0
        go_wp2_with fail
        refine bodyPost_ret (v := .agg #[.slice (some ⟨g, 0, Option.none⟩) n c]) (by simp [results, Tryz.results71, go_sem, c10]) rfl ?_
        exact ⟨_, n, rfl, by omega, HD.out.1, HD.out.2.1.mono (by omega), HD.out.2.2⟩
    · obtain ⟨q1, q2, q3, A7, k7, d7, q4, _, _, _⟩ := D6.out.at_ hkn
      have D := Lib.hid (D6.out.zero.sig hC1 (by omega) k (IntSl.nil _ _))
      clear q1 D6
      have hbe := D.out.box.cell 0
      have hrc := D.out.res.cell 0
      have hrf := D.out.res.frozen 0
      have HD := Lib.hid (D.out.done (u := .slice (some ⟨g, 0, Option.none⟩) n c) hC1)
      have c10 := (D.out.res.set_ 0 (.slice (some ⟨g, 0, Option.none⟩) n c)).cell 0
      go_wp2_with fail
      refine bodyPost_ret (v := .agg #[.slice (some ⟨g, 0, Option.none⟩) n c]) (by simp [results, Tryz.results71, go_sem, c10]) rfl ?_
      exact ⟨_, n, rfl, by omega, HD.out.1, HD.out.2.1.mono (by omega), HD.out.2.2⟩
    · have DA := Lib.hid (D6.out.zero.alloc hC1 (.cells #[.int .i64 1, .int .i64 2, .int .i64 3, .int .i64 4] 3))
      obtain ⟨q1, q2, q3, A7, k7, d7, q4, _, _, _⟩ := DA.out.at_ hkn
      have D := Lib.hid (DA.out.sig hC1 (by omega) k (intsl_lit (w := w6) (lo := w.heap.size + 1) (g := w6.heap.size) (n := 4) [1, 2, 3, 4] rfl rfl rfl (by have := D6.out.res.lt; omega) (by simp) (by simp)).zero)
      clear q1 DA D6
      have hbe := D.out.box.cell 0
      have hrc := D.out.res.cell 0
      have hrf := D.out.res.frozen 0
      have HD := Lib.hid (D.out.done (u := .slice (some ⟨g, 0, Option.none⟩) n c) hC1)
      have c10 := (D.out.res.set_ 0 (.slice (some ⟨g, 0, Option.none⟩) n c)).cell 0
      go_wp2_with fail
      refine bodyPost_ret (v := .agg #[.slice (some ⟨g, 0, Option.none⟩) n c]) (by simp [results, Tryz.results71, go_sem, c10]) rfl ?_
      exact ⟨_, n, rfl, by omega, HD.out.1, HD.out.2.1.mono (by omega), HD.out.2.2⟩
    · have hl0 : Lst (w6.alloc (.cells #[.int .i64 40, .int .i64 41] 3)) C (.slice (some ⟨w6.heap.size, 0, Option.none⟩) 2 2) [40, 41] := lst_new w6 C [40, 41] D6.out.cur.lt (by simp) (by simp)
      have c7 := Lib.hid (among_any _ _ C _ _ (D6.out.cur.alloc _) (by omega) hl0)
      clear hl0
      go_wp2_with fail
      refine c7.out.mono ?_
      rintro e w7 ⟨y, rfl, hmy, hc7, hk7⟩
      have D7 := Lib.hid ((D6.out.alloc hC1 _).step hC1 hc7 hk7)
      obtain ⟨ny, hye, hny⟩ : ∃ ny : Nat, y = (ny : Int) ∧ ny ≤ 41 := ⟨y.toNat, by simp at hmy; omega, by simp at hmy; omega⟩
      subst hye
      clear hc7 hk7 hmy c7 D6
      have c8 := Lib.hid (manyPhrases_any ny hny w7)
      go_wp2_with fail
      refine c8.out.mono ?_
      rintro e w8 ⟨v8, rfl, hr8, hb8⟩
      obtain ⟨A8, e8, rfl⟩ := hr8.form
      have D8 := Lib.hid (D7.out.fresh hC1 hb8)
      have hle8 := D7.out.res.lt
      have D := Lib.hid (D8.out.put (p' := 0) hC1 (hr8.lo (by omega)).zero)
      have hbf := D8.out.box.frozen 0
      have hbg := D8.out.box.cell 0
      clear hr8 hb8 c8 D7 D8
      have hbe := D.out.box.cell 0
      have hrc := D.out.res.cell 0
      have hrf := D.out.res.frozen 0
      have HD := Lib.hid (D.out.done (u := .slice A8 ny e8) hC1)
      have c10 := (D.out.res.set_ 0 (.slice A8 ny e8)).cell 0
      go_wp2_with fail
      refine bodyPost_ret (v := .agg #[.slice A8 ny e8]) (by simp [results, Tryz.results71, go_sem, c10]) rfl ?_
      exact ⟨_, ny, rfl, by omega, HD.out.1, HD.out.2.1.mono (by omega), HD.out.2.2⟩
    · obtain ⟨q1, q2, q3, A0, k0, d0, q4, _, hk0, hI0⟩ := D6.out.at_ (show 0 < n by omega)
      obtain ⟨xs, hxs⟩ := hI0.rd
      obtain ⟨A0', c0', hv, _, _⟩ := Rd.form hxs
      have hxl : xs.length ≤ 1000 := by injection hv with hv1 hv2 hv3; omega
      clear hv hI0
      have q40 : w6.cell? ⟨g, 1, Option.none⟩ = some (.slice A0 k0 d0) := by simpa using q4
      have c7 := Lib.hid (l1Own_any xs _ _ w6 hxs (Nat.le_refl _) (by omega))
      have hbb := D6.out.box.cell 0
      clear q1 q2 q3 q4 hxs
      go_wp2_with fail
      refine c7.out.mono ?_
      rintro e w7 ⟨v7, rfl, ho7, hb7⟩
      obtain ⟨A7, e7, rfl, _⟩ := ho7.form
      have hle7 := D6.out.res.lt
      have D7 := Lib.hid (D6.out.zero.fresh hC1 hb7)
      have D := Lib.hid (D7.out.sig hC1 (by omega) k (IntSl.own (World.ownsRow.mono ho7.1 (show w.heap.size + 1 ≤ w6.heap.size by omega)) (Nat.zero_le _) hxl))
      obtain ⟨q1, q2, q3, A9, k9, d9, q4, _, _, _⟩ := D7.out.at_ hkn
      clear ho7 hb7 hbb q40 c7 D6 D7 q1 q2
      have hbe := D.out.box.cell 0
      have hrc := D.out.res.cell 0
      have hrf := D.out.res.frozen 0
      have HD := Lib.hid (D.out.done (u := .slice (some ⟨g, 0, Option.none⟩) n c) hC1)
      have c10 := (D.out.res.set_ 0 (.slice (some ⟨g, 0, Option.none⟩) n c)).cell 0
      go_wp2_with fail
      refine bodyPost_ret (v := .agg #[.slice (some ⟨g, 0, Option.none⟩) n c]) (by simp [results, Tryz.results71, go_sem, c10]) rfl ?_
      exact ⟨_, n, rfl, by omega, HD.out.1, HD.out.2.1.mono (by omega), HD.out.2.2⟩
    · have D := Lib.hid (D6.out.put (p' := 0) hC1 (BookR.nil _ _ _))
      have hbf := D6.out.box.frozen 0
      have hbg := D6.out.box.cell 0
      clear D6
      have hbe := D.out.box.cell 0
      have hrc := D.out.res.cell 0
      have hrf := D.out.res.frozen 0
      have HD := Lib.hid (D.out.done (u := .slice Option.none 0 0) hC1)
      have c10 := (D.out.res.set_ 0 (.slice Option.none 0 0)).cell 0
      go_wp2_with fail
      refine bodyPost_ret (v := .agg #[.slice Option.none 0 0]) (by simp [results, Tryz.results71, go_sem, c10]) rfl ?_
      exact ⟨_, 0, rfl, by omega, HD.out.1, HD.out.2.1.mono (by omega), HD.out.2.2⟩
    · have e0 : (z == 0) = false := by simp; omega
      have e1 : (z == 1) = false := by simp; omega
      have e2 : (z == 2) = false := by simp; omega
      have e3 : (z == 3) = false := by simp; omega
      have e4 : (z == 4) = false := by simp; omega
      have e5 : (z == 5) = false := by simp; omega
      have e6 : (z == 6) = false := by simp; omega
      have D := D6
      clear D6
      have hbe := D.out.box.cell 0
      have hrc := D.out.res.cell 0
      have hrf := D.out.res.frozen 0
      have HD := Lib.hid (D.out.done (u := .slice (some ⟨g, 0, Option.none⟩) n c) hC1)
      have c10 := (D.out.res.set_ 0 (.slice (some ⟨g, 0, Option.none⟩) n c)).cell 0
      go_wp2_with fail
      refine bodyPost_ret (v := .agg #[.slice (some ⟨g, 0, Option.none⟩) n c]) (by simp [results, Tryz.results71, go_sem, c10]) rfl ?_
      exact ⟨_, n, rfl, by omega, HD.out.1, HD.out.2.1.mono (by omega), HD.out.2.2⟩
end Go.Proofs.YtjnkdjokbamibaaGreatDoor
/- Contracts: drawn books. -/
namespace Go.Proofs.YtjnkdjokbamibaaGreatDoor
open Go.RowKit
theorem keepG_bel {w wb w' : World} {C : Nat} (hb : Below w.heap.size w wb) (hk : KeepG C (C + 1) wb w') (hC : w.heap.size ≤ C) : Below w.heap.size w w' := by
  refine ⟨hk.os.trans hb.os, hk.tape.trans hb.tape, hk.output.trans hb.output, Nat.le_trans hb.size hk.size, fun k hlt => ?_⟩
  rw [hk.block k (by have := hb.size; omega) (.inl (by omega))]
  exact hb.block k hlt
theorem BookR.ownBox {w : World} {lo p n X : Nat} {v u : Value} {cs : List Value} (h : BookR w lo p v n) (hx : Blk w X 41 cs) : BookR (w.setCell ⟨X, 0, Option.none⟩ u) lo p v n :=
  h.far (p := ⟨X, 0, Option.none⟩) hx (.inl (by decide)) (.far fun cur e => by rw [show w.heap[X]? = _ from hx] at e; cases e)
/-- A drawn book. -/
def DrewB (w : World) (e : Ending) (w' : World) : Prop := ∃ v n, e = .returned (.agg #[v]) ∧ n ≤ 41 ∧ BookR w' w.heap.size 0 v n ∧ Below w.heap.size w w'
theorem BookR.rdb {w : World} {lo p n : Nat} {v : Value} (h : BookR w lo p v n) : ∃ ps : List Phr, ps.length = n ∧ RdB w w.heap.size (.agg #[v]) ps := by
  obtain ⟨ps, h1, h2⟩ := h.rd
  exact ⟨ps, h1, _, rfl, h2⟩
set_option maxRecDepth 100000 in
set_option maxHeartbeats 1000000 in
theorem DrawIsBook_any (zs : List UInt8) (v : Value) (hi : Nat) (w : World) (h : RdU w hi v zs) (hh : hi ≤ w.heap.size) :
    Calls Tryz.prog 67 #[v] w (DrewB w) := by
  obtain ⟨A, c, rfl, hc, hm⟩ := Rd.form h
  have hR : Blk (w.alloc (.cells #[.slice Option.none 0 0] 41)) w.heap.size 41 [.slice Option.none 0 0] := Blk.new w _ _
  have hb0 : Below w.heap.size w (w.alloc (.cells #[.slice Option.none 0 0] 41)) := (Below.refl _ _).alloc (Nat.le_refl _) _
  have hsz : (w.alloc (.cells #[.slice Option.none 0 0] 41)).heap.size = w.heap.size + 1 := by simp
  have hu : RdU (w.alloc (.cells #[.slice Option.none 0 0] 41)) hi (.slice A zs.length c) zs := h.below hb0 hh
  clear h
  go_enter Tryz.func67, Tryz.ntmps67
  go_wp2_with fail
  generalize (w.alloc (.cells #[.slice Option.none 0 0] 41)) = wa at hR hb0 hsz hu ⊢
  have hcu := cur_new hu (by omega)
  have hR2 := hR.alloc (.cells #[.slice A zs.length c, .int .i64 0, .int .u64 0] 71)
  have hb1 : Below w.heap.size w (wa.alloc (.cells #[.slice A zs.length c, .int .i64 0, .int .u64 0] 71)) := hb0.alloc (by omega) _
  have hsz2 : (wa.alloc (.cells #[.slice A zs.length c, .int .i64 0, .int .u64 0] 71)).heap.size = w.heap.size + 2 := by simp; omega
  rw [hsz] at hcu
  generalize (wa.alloc (.cells #[.slice A zs.length c, .int .i64 0, .int .u64 0] 71)) = wb at hcu hR2 hb1 hsz2 ⊢
  try rw [hsz]
  have CB := Lib.hid (anyBook_any (w.heap.size + 1) 0 wb hcu (by omega))
  clear hR hb0 hu hcu
  refine CB.out.mono ?_
  rintro e w1 ⟨v1, n, rfl, hn, hr, _, hk⟩
  obtain ⟨A1, c1, rfl⟩ := hr.form
  have hR3 := hR2.keepG hk (by omega)
  have hrc := hR3.cell 0
  have hrf := hR3.frozen 0
  have HR := Lib.hid ((hr.lo (show w.heap.size ≤ wb.heap.size + 1 by omega)).ownBox hR3 (u := .slice A1 n c1))
  have HBL := Lib.hid ((keepG_bel hb1 hk (by omega)).setCell (p := ⟨w.heap.size, 0, Option.none⟩) (Nat.le_refl _) (.slice A1 n c1))
  have c10 := (hR3.set_ 0 (.slice A1 n c1)).cell 0
  clear CB hR2 hb1 hr hk hR3
  go_wp2_with fail
  refine bodyPost_ret (v := .agg #[.slice A1 n c1]) (by simp [results, Tryz.results67, go_sem, c10]) rfl ?_
  exact ⟨_, n, rfl, hn, HR.out, HBL.out⟩
set_option maxHeartbeats 400000 in
theorem DrawBookText_any (zs : List UInt8) (v : Value) (hi : Nat) (w : World) (h : RdU w hi v zs) (hh : hi ≤ w.heap.size) :
    Calls Tryz.prog 21 #[v] w (DrewB w) := by
  obtain ⟨A, c, rfl, hc, hm⟩ := Rd.form h
  have hR : Blk (w.alloc (.cells #[.slice Option.none 0 0] 41)) w.heap.size 41 [.slice Option.none 0 0] := Blk.new w _ _
  have hb0 : Below w.heap.size w (w.alloc (.cells #[.slice Option.none 0 0] 41)) := (Below.refl _ _).alloc (Nat.le_refl _) _
  have hsz : (w.alloc (.cells #[.slice Option.none 0 0] 41)).heap.size = w.heap.size + 1 := by simp
  have cB := DrawIsBook_any zs _ hi _ (h.below hb0 hh : RdU (w.alloc (.cells #[.slice Option.none 0 0] 41)) hi (.slice A zs.length c) zs) (by omega)
  have CB := Lib.hid cB
  clear cB h
  go_enter Tryz.func21, Tryz.ntmps21
  go_wp2_with fail
  generalize (w.alloc (.cells #[.slice Option.none 0 0] 41)) = wa at hR hb0 hsz CB ⊢
  refine CB.out.mono ?_
  rintro e w1 ⟨v1, n, rfl, hn, hr, hb⟩
  obtain ⟨A1, c1, rfl⟩ := hr.form
  have hR3 := hR.below hb (by omega)
  have hrc := hR3.cell 0
  have hrf := hR3.frozen 0
  have HR := Lib.hid ((hr.lo (show w.heap.size ≤ wa.heap.size by omega)).ownBox hR3 (u := .slice A1 n c1))
  have HBL := Lib.hid ((hb0.trans (hb.mono (by omega))).setCell (p := ⟨w.heap.size, 0, Option.none⟩) (Nat.le_refl _) (.slice A1 n c1))
  have c10 := (hR3.set_ 0 (.slice A1 n c1)).cell 0
  clear CB hR hb0 hr hb hR3
  go_wp2_with fail
  refine bodyPost_ret (v := .agg #[.slice A1 n c1]) (by simp [results, Tryz.results21, go_sem, c10]) rfl ?_
  exact ⟨_, n, rfl, hn, HR.out, HBL.out⟩
end Go.Proofs.YtjnkdjokbamibaaGreatDoor
