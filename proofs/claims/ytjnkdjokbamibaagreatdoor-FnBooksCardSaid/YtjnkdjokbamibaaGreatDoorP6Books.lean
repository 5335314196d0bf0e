/- Texts of one claim, joined: T5. -/
import Derived.Test.YtjnkdjokbamibaaGreatDoorP5Books
/- Contracts: drawn texts of phrases; a drawn book. -/
namespace Go.Proofs.YtjnkdjokbamibaaGreatDoor
open Go.RowKit
/-- The slice value v has n strings, outside block C. -/
def LstS (w : World) (C : Nat) (v : Value) (n : Nat) : Prop := 1 ≤ n ∧ n ≤ 1000 ∧ ∃ b c, v = .slice (some ⟨b, 0, Option.none⟩) n c ∧ b ≠ C ∧ b < w.heap.size ∧ ∀ j, j < n → ∃ t : ByteArray, w.cell? ⟨b, j, Option.none⟩ = some (.string t) ∧ t.size ≤ 1000
theorem lstS_new (w : World) (C : Nat) (arr : Array Value) (n : Nat) (hC : C < w.heap.size) (h1 : 1 ≤ n) (h2 : n ≤ 1000) (hn : n = arr.size) (h : ∀ u ∈ arr.toList, ∃ t : ByteArray, u = .string t ∧ t.size ≤ 1000) : LstS (w.alloc (.cells arr 9)) C (.slice (some ⟨w.heap.size, 0, Option.none⟩) n n) n := by
  refine ⟨h1, h2, w.heap.size, n, rfl, by omega, by simp, fun j hj => ?_⟩
  have hx : arr.toList[j]? = some arr.toList[j] := List.getElem?_eq_getElem (by simp; omega)
  obtain ⟨t, e, ht⟩ := h _ (List.mem_of_getElem? hx)
  refine ⟨t, ?_, ht⟩
  rw [(Blk.new w 9 arr).cell j, hx, e]
/-- A row of 26 texts at block b. -/
def TxtR (w : World) (b : Nat) : Prop := ∃ cs : List Value, Blk w b 9 cs ∧ cs.length = 26 ∧ ∀ u ∈ cs, ∃ t : ByteArray, u = .string t ∧ t.size ≤ 1000
theorem TxtR.at_ {w : World} {b : Nat} (h : TxtR w b) {j : Nat} (hj : j < 26) : ∃ t : ByteArray, w.cell? ⟨b, j, Option.none⟩ = some (.string t) ∧ t.size ≤ 1000 := by
  obtain ⟨cs, h1, h2, h3⟩ := h
  have hx : cs[j]? = some cs[j] := List.getElem?_eq_getElem (by omega)
  obtain ⟨t, e, ht⟩ := h3 _ (List.mem_of_getElem? hx)
  exact ⟨t, by rw [h1.cell j, hx, e], ht⟩
theorem Blk.keepG {w w' : World} {g C : Nat} {t : TypeId} {cs : List Value} (h : Blk w g t cs) (hk : KeepG C (C + 1) w w') (hg : g ≠ C) : Blk w' g t cs := (hk.block g h.lt (by omega)).trans h
/-- A book is being made: the result's box, the book's box, the row of phrases, the row of texts, the cursor. -/
structure BkS (w : World) (C m : Nat) (wr : World) (v : Value) (n : Nat) : Prop where
  res : Blk wr w.heap.size 41 [.slice Option.none 0 0]
  box : Blk wr (w.heap.size + 1) 41 [v]
  txt : TxtR wr (w.heap.size + 2)
  row : BookR wr (w.heap.size + 2) 1 v n
  cur : Cur wr C m
  keep : KeepG C (C + 1) w wr
theorem BkS.le {w wr : World} {C m n : Nat} {v : Value} (h : BkS w C m wr v n) : w.heap.size + 2 < wr.heap.size := by
  obtain ⟨cs, h1, _⟩ := h.txt
  exact h1.lt
theorem BkS.step {w wr w' : World} {C m m' n : Nat} {v : Value} (h : BkS w C m wr v n) (hC : C < w.heap.size) (hc : Cur w' C m') (hk : KeepG C (C + 1) wr w') : BkS w C m' w' v n := by
  obtain ⟨cs, h1, h2⟩ := h.txt
  exact ⟨h.res.keepG hk (by omega), h.box.keepG hk (by omega), ⟨cs, h1.keepG hk (by omega), h2⟩, h.row.step hk (by omega), hc, h.keep.trans hk⟩
theorem BkS.mono {w wr : World} {C m m' n : Nat} {v : Value} (h : BkS w C m wr v n) (hm : m ≤ m') : BkS w C m' wr v n := ⟨h.res, h.box, h.txt, h.row, h.cur.mono hm, h.keep⟩
theorem BkS.alloc {w wr : World} {C m n : Nat} {v : Value} (h : BkS w C m wr v n) (hC : C < w.heap.size) (o : Obj) : BkS w C m (wr.alloc o) v n := h.step hC (h.cur.alloc o) ((KeepG.refl _ _ _).alloc o)
/-- The row is stored into the book's box. -/
theorem BkS.put {w wr w8 : World} {C m n k : Nat} {v v8 : Value} (h : BkS w C m wr v n) (hC : C < w.heap.size) (hb : BookR w8 (w.heap.size + 2) 1 v8 k) (hB : Below (w.heap.size + 2) wr w8) (hf : FrP wr w8) : BkS w C m (w8.setCell ⟨w.heap.size + 1, 0, Option.none⟩ v8) v8 k := by
  obtain ⟨cs, h1, h2⟩ := h.txt
  have hx := h.box.below hB (by omega)
  have hb1 : Below w.heap.size wr (w8.setCell ⟨w.heap.size + 1, 0, Option.none⟩ v8) := (hB.mono (by omega)).setCell (p := ⟨w.heap.size + 1, 0, Option.none⟩) (show w.heap.size ≤ w.heap.size + 1 by omega) _
  have ht : Blk w8 (w.heap.size + 2) 9 cs := h1.frP hf (by decide)
  exact ⟨(h.res.below hB (by omega)).far (p := ⟨w.heap.size + 1, 0, Option.none⟩) (by show w.heap.size ≠ w.heap.size + 1; omega) _, hx.set_ 0 v8, ⟨cs, ht.far (p := ⟨w.heap.size + 1, 0, Option.none⟩) (by show w.heap.size + 2 ≠ w.heap.size + 1; omega) _, h2⟩,
    hb.far (p := ⟨w.heap.size + 1, 0, Option.none⟩) hx (.inl (by decide)) (.far fun cur e => by rw [show w8.heap[w.heap.size + 1]? = _ from hx] at e; cases e), h.cur.fresh hb1 hC, h.keep.fresh (hb1)⟩
/-- A slice of signals is stored into the row. -/
theorem BkS.sig {w wr : World} {C m n g c : Nat} {cur : Array Value} {u : Value} (h : BkS w C m wr (.slice (some ⟨g, 0, Option.none⟩) n c) n) (hC : C < w.heap.size) (hg : w.heap.size + 2 ≤ g) (hgc : wr.heap[g]? = some (.cells cur 45 (0, 0))) (j : Nat) (hu : IntSl wr (w.heap.size + 2) 1 u) : BkS w C m (wr.setCell ⟨g, j * 2 + 1, Option.none⟩ u) (.slice (some ⟨g, 0, Option.none⟩) n c) n := by
  obtain ⟨cs, h1, h2⟩ := h.txt
  have hne : w.heap.size + 2 ≠ g := by
    rintro e
    rw [← e] at hgc
    rw [show wr.heap[w.heap.size + 2]? = _ from h1] at hgc
    cases hgc
  have hb : Below w.heap.size wr (wr.setCell ⟨g, j * 2 + 1, Option.none⟩ u) := (Below.refl _ _).setCell (p := ⟨g, j * 2 + 1, Option.none⟩) (show w.heap.size ≤ g by omega) _
  exact ⟨h.res.far (p := ⟨g, j * 2 + 1, Option.none⟩) (show w.heap.size ≠ g by omega) _, h.box.far (p := ⟨g, j * 2 + 1, Option.none⟩) (show w.heap.size + 1 ≠ g by omega) _, ⟨cs, h1.far (p := ⟨g, j * 2 + 1, Option.none⟩) hne _, h2⟩, h.row.setSig hgc j hu, h.cur.fresh hb hC, h.keep.fresh hb⟩
/-- A drawn book. -/
def BkD (w : World) (C m : Nat) (w' : World) (v : Value) (n : Nat) : Prop := BookR w' (w.heap.size + 2) 1 v n ∧ Cur w' C m ∧ KeepG C (C + 1) w w'
theorem BkS.done {w wr : World} {C m n : Nat} {v u : Value} (h : BkS w C m wr v n) (hC : C < w.heap.size) : BkD w C m (wr.setCell ⟨w.heap.size, 0, Option.none⟩ u) v n := by
  have hb : Below w.heap.size wr (wr.setCell ⟨w.heap.size, 0, Option.none⟩ u) := (Below.refl _ _).setCell (p := ⟨w.heap.size, 0, Option.none⟩) (Nat.le_refl _) _
  exact ⟨h.row.far (p := ⟨w.heap.size, 0, Option.none⟩) h.res (.inl (by decide)) (.far fun cur e => by rw [show wr.heap[w.heap.size]? = _ from h.res] at e; cases e), h.cur.fresh hb hC, h.keep.fresh hb⟩
theorem intsl_one (w : World) (lo : Nat) (hlo : lo ≤ w.heap.size) (x : Int) : IntSl (w.alloc (.cells #[.int .i64 x] 3)) lo 1 (.slice (some ⟨w.heap.size, 0, Option.none⟩) 1 1) :=
  IntSl.own (xs := [x]) (World.ownsRow_lit w #[.int .i64 x] 1 hlo (by decide) rfl) (by simp) (by simp)
/-- A phrase with its signals is being made, in the box X. -/
structure XS (w0 : World) (C m X : Nat) (t : ByteArray) (wr : World) (v : Value) (xs : List Int) : Prop where
  box : Blk wr X 45 [.string t, v]
  row : wr.ownsRow (X + 1) 3 1 v xs.length (ints xs)
  cur : Cur wr C m
  keep : KeepG C (C + 1) w0 wr
theorem XS.step {w0 wr w' : World} {C m m' X : Nat} {t : ByteArray} {v : Value} {xs : List Int} (h : XS w0 C m X t wr v xs) (hC : C < X) (hc : Cur w' C m') (hk : KeepG C (C + 1) wr w') : XS w0 C m' X t w' v xs :=
  ⟨h.box.keepG hk (by omega), owns_keepG h.row hk (by omega), hc, h.keep.trans hk⟩
theorem XS.mono {w0 wr : World} {C m m' X : Nat} {t : ByteArray} {v : Value} {xs : List Int} (h : XS w0 C m X t wr v xs) (hm : m ≤ m') : XS w0 C m' X t wr v xs := ⟨h.box, h.row, h.cur.mono hm, h.keep⟩
theorem XS.gr {w0 wr : World} {C m X : Nat} {t : ByteArray} {v : Value} {xs : List Int} (h : XS w0 C m X t wr v xs) : GrowI wr (X + 1) wr v xs := ⟨h.row, Below.refl _ _, by have := h.box.lt; omega⟩
theorem XS.own {w0 wr : World} {C m X : Nat} {t : ByteArray} {v : Value} {xs : List Int} (h : XS w0 C m X t wr v xs) : OwI wr (X + 1) wr.heap.size v xs := ⟨h.row, fun k hk => (h.row.lt k hk).2⟩
/-- One signal more, and it is stored into the box. -/
theorem XS.put {w0 wr w' : World} {C m X : Nat} {t : ByteArray} {v v' : Value} {xs ys : List Int} (h : XS w0 C m X t wr v xs) (hC : C < X) (hX : w0.heap.size ≤ X) (hG : GrowI wr (X + 1) w' v' ys) : XS w0 C m X t (w'.setCell ⟨X, 1, Option.none⟩ v') v' ys := by
  have h1 : Blk w' X 45 [.string t, v] := h.box.below hG.2.1 (by omega)
  have hb : Below X wr (w'.setCell ⟨X, 1, Option.none⟩ v') := (hG.2.1.mono (show X ≤ X + 1 by omega)).setCell (p := ⟨X, 1, Option.none⟩) (Nat.le_refl X) _
  exact ⟨h1.set_ 1 v', ownsRow_setCell_below (a := ⟨X, 1, Option.none⟩) hG.1 (show X < X + 1 by omega) _, h.cur.fresh hb hC, h.keep.fresh (hb.mono hX)⟩
/-- A text is drawn. -/
def DrawnT (C m : Nat) (w : World) (e : Ending) (w' : World) : Prop := ∃ t : ByteArray, e = .returned (.string t) ∧ t.size ≤ 1000 ∧ Cur w' C m ∧ KeepG C (C + 1) w w'
theorem of_any (n : Nat) (v : Value) (C m : Nat) (w : World) (h : Cur w C m) (hm : m ≤ 1099511627000) (hl : LstS w C v n) :
    Calls Tryz.prog 73 #[.pointer (some ⟨C, 0, Option.none⟩), v] w (DrawnT C (m + 2) w) := by
  obtain ⟨l1, l2, b, c, rfl, hbC, hbw, hcell⟩ := hl
  have cN := pick_any (n : Int) C m w h hm (by omega) (by omega)
  have CN := Lib.hid cN
  have HCE := Lib.hid hcell
  clear cN h hcell
  go_enter Tryz.func73, Tryz.ntmps73
  go_wp2_with fail
  refine CN.out.mono ?_
  rintro e w1 ⟨z, rfl, ⟨hz0, hz1⟩, hc1, hk1⟩
  obtain ⟨k, rfl⟩ : ∃ k : Nat, z = (k : Int) := ⟨z.toNat, by omega⟩
  obtain ⟨t, ht, hts⟩ := HCE.out k (by omega)
  have hc := (hk1.cell (o := k) hbw (by omega)).trans ht
  have HC1 := Lib.hid hc1
  have HK1 := Lib.hid hk1
  clear hc1 hk1 ht
  go_wp2_with fail
  go_ret
  exact ⟨t, rfl, hts, HC1.out, HK1.out⟩
theorem str_mem {l : List Value} {P : Value → Prop} {a : Value} (h : P a) (g : ∀ u ∈ l, P u) : ∀ u ∈ a :: l, P u := fun u hu => by
  rcases List.mem_cons.1 hu with rfl | hu
  · exact h
  · exact g u hu
theorem phraseTexts_any (w : World) :
    Calls Tryz.prog 81 #[] w fun e w' => e = .returned (.slice (some ⟨w.heap.size, 0, Option.none⟩) 26 26) ∧ TxtR w' w.heap.size ∧ Below w.heap.size w w' := by
  go_enter Tryz.func81, Tryz.ntmps81
  go_wp2_with fail
  go_ret
  refine ⟨rfl, ⟨_, Blk.new w 9 _, rfl, ?_⟩, (Below.refl _ _).alloc (Nat.le_refl _) _⟩
  repeat (refine str_mem ⟨_, rfl, by decide⟩ ?_)
  intro u hu
  cases hu
set_option maxRecDepth 100000 in
set_option maxHeartbeats 8000000 in
theorem book_any (C m : Nat) (w : World) (h : Cur w C m) (hm : m ≤ 1099511600000) :
    Calls Tryz.prog 95 #[.pointer (some ⟨C, 0, Option.none⟩)] w fun e w' => ∃ v n, e = .returned (.agg #[v]) ∧ 1 ≤ n ∧ n ≤ 26 ∧ BkD w C (m + 20000) w' v n := by
  have HC := Lib.hid h.lt
  have HCU := Lib.hid h
  clear h
  go_enter Tryz.func95, Tryz.ntmps95
  have hW : BkS w C m ((w.alloc (.cells #[.slice Option.none 0 0] 41)).alloc (.cells #[.slice Option.none 0 0] 41)) (.slice Option.none 0 0) 0 → True := fun _ => trivial
  clear hW
  have hR : Blk ((w.alloc (.cells #[.slice Option.none 0 0] 41)).alloc (.cells #[.slice Option.none 0 0] 41)) w.heap.size 41 [.slice Option.none 0 0] := (Blk.new w _ _).alloc _
  have hB : Blk ((w.alloc (.cells #[.slice Option.none 0 0] 41)).alloc (.cells #[.slice Option.none 0 0] 41)) (w.heap.size + 1) 41 [.slice Option.none 0 0] := by
    have h1 := Blk.new (w.alloc (.cells #[.slice Option.none 0 0] 41)) 41 #[.slice Option.none 0 0]
    rwa [show (w.alloc (.cells #[.slice Option.none 0 0] 41)).heap.size = w.heap.size + 1 by simp] at h1
  have hsz : ((w.alloc (.cells #[.slice Option.none 0 0] 41)).alloc (.cells #[.slice Option.none 0 0] 41)).heap.size = w.heap.size + 2 := by simp
  have hbe : Below w.heap.size w ((w.alloc (.cells #[.slice Option.none 0 0] 41)).alloc (.cells #[.slice Option.none 0 0] 41)) := ((Below.refl _ _).alloc (Nat.le_refl _) _).alloc (by simp) _
  go_wp2_with fail
  generalize ((w.alloc (.cells #[.slice Option.none 0 0] 41)).alloc (.cells #[.slice Option.none 0 0] 41)) = wa at hR hB hsz hbe ⊢
  have cT := phraseTexts_any wa
  rw [hsz] at cT
  have CT := Lib.hid cT
  clear cT
  refine CT.out.mono ?_
  rintro e w1 ⟨rfl, htx, hb1⟩
  have D0 : Hid (BkS w C m w1 (.slice Option.none 0 0) 0) := ⟨hR.below hb1 (by omega), hB.below hb1 (by omega), htx, BookR.nil _ _ _, HCU.out.fresh (hbe.trans (hb1.mono (by omega))) HC.out, below_g (hbe.trans (hb1.mono (by omega)))⟩
  clear hR hB hsz hbe htx hb1 HCU CT
  go_wp2_with fail
  go_loopw [14] (fun i wr => ∃ (j n : Nat) (A : Option Addr) (c : Nat), j ≤ 26 ∧ n ≤ j ∧ (0 < j → 0 < n) ∧ i = .int .i64 (j : Int) ∧ Hid (BkS w C (m + 600 * j) wr (.slice A n c) n)) (fun i _ => 26 - (intOf i).toNat)
  case atStart => exact ⟨0, 0, Option.none, 0, by omega, Nat.le_refl _, by omega, rfl, D0.out⟩
  case round =>
    obtain ⟨j, n, A, c, hj, hnj, hpos, rfl, DR⟩ := hrel
    clear D0
    have hC1 := HC.out
    have hmb : m + 600 * j ≤ 1099511620000 := by omega
    have hle := DR.out.le
    by_cases hlt : j < 26
    · obtain ⟨tx, htx, htxs⟩ := DR.out.txt.at_ hlt
      have c1 := Lib.hid (one_any 2 C _ wr DR.out.cur (by omega) (by omega) (by omega))
      go_wp2_with fail
      refine c1.out.mono ?_
      rintro e w2 ⟨ob, rfl, hc2, hk2⟩
      have hbc := (DR.out.box.keepG hk2 (by omega)).cell 0
      have D2 := Lib.hid (DR.out.step hC1 hc2 hk2)
      clear hc2 hk2 DR htx c1
      by_cases hskip : ob = false ∧ 0 < n
      · obtain ⟨rfl, hn0⟩ := hskip
        have hgz : decide (0 < n) = true := decide_eq_true hn0
        go_wp2_with fail
        go_roundw
        case rel => exact ⟨j + 1, n, A, c, by omega, by omega, fun _ => hn0, by go_num, D2.out.mono (by omega)⟩
        case measure => (simp [intOf]; try omega)
      · have hgo : ob = true ∨ n = 0 := by
          cases ob
          · right
            rcases Nat.eq_zero_or_pos n with h | h
            · exact h
            · exact absurd ⟨rfl, h⟩ hskip
          · exact .inl rfl
        clear hskip
        have hl6 : Lst (w2.alloc (.cells #[.int .i64 2, .int .i64 4, .int .i64 60] 3)) C (.slice (some ⟨w2.heap.size, 0, Option.none⟩) 3 3) [2, 4, 60] := lst_new w2 C [2, 4, 60] D2.out.cur.lt (by simp) (by simp)
        have c6 := Lib.hid (among_any _ _ C _ _ (D2.out.cur.alloc _) (by omega) hl6)
        clear hl6
        rcases hgo with rfl | rfl
        · go_wp2_with fail
          refine c6.out.mono ?_
          rintro e w3 ⟨zm, rfl, hmm, hc3, hk3⟩
          have D3 := Lib.hid ((D2.out.alloc hC1 (.cells #[.int .i64 2, .int .i64 4, .int .i64 60] 3)).step hC1 hc3 hk3)
          have hz2 : 2 ≤ zm := by simp at hmm; omega
          have hz60 : zm ≤ 60 := by simp at hmm; omega
          clear hc3 hk3 hmm D2 c6
          go_wp2_with fail
          go_loopw [7] (fun q wr => ∃ r : Nat, r ≤ 9 ∧ (n = 0 → r = 0) ∧ q = .int .i64 (r : Int) ∧ Hid (BkS w C (m + 600 * j + 10 + 30 * r) wr (.slice A n c) n)) (fun q _ => 9 - (intOf q).toNat)
          case atStart => exact ⟨0, by omega, fun _ => rfl, rfl, D3.out.mono (by omega)⟩
          case round =>
            obtain ⟨r, hr, hr0, rfl, DT⟩ := hrel
            clear D3
            by_cases hrt : r < 9
            · have hleT := DT.out.le
              obtain ⟨M0, hM0⟩ : ∃ M0, M0 = m + 600 * j + 10 + 30 * r := ⟨_, rfl⟩
              rw [← hM0] at DT
              have X0 : Hid (XS wr C M0 wr.heap.size tx (wr.alloc (.cells #[.string tx, .slice Option.none 0 0] 45)) (.slice Option.none 0 0) []) := ⟨Blk.new wr _ _, World.ownsRow_nil _ _ _ _, DT.out.cur.alloc _, (KeepG.refl _ _ _).alloc _⟩
              have hsx : (wr.alloc (.cells #[.string tx, .slice Option.none 0 0] 45)).heap.size = wr.heap.size + 1 := by simp
              have hl7 := lst_new (wr.alloc (.cells #[.string tx, .slice Option.none 0 0] 45)) C [1, 1, 2, 2, 3] X0.out.cur.lt (by simp) (by simp)
              have c7 := among_any _ _ C _ _ (X0.out.cur.alloc (.cells (ints [1, 1, 2, 2, 3]).toArray 3)) (by omega) hl7
              rw [hsx] at c7
              have C7 : Hid (Calls Tryz.prog 74 #[.pointer (some ⟨C, 0, Option.none⟩), .slice (some ⟨wr.heap.size + 1, 0, Option.none⟩) 5 5] ((wr.alloc (.cells #[.string tx, .slice Option.none 0 0] 45)).alloc (.cells #[.int .i64 1, .int .i64 1, .int .i64 2, .int .i64 2, .int .i64 3] 3)) (Drawn C (M0 + 2) ((wr.alloc (.cells #[.string tx, .slice Option.none 0 0] 45)).alloc (.cells #[.int .i64 1, .int .i64 1, .int .i64 2, .int .i64 2, .int .i64 3] 3)) (fun z => z ∈ [1, 1, 2, 2, 3]))) := c7
              clear hl7 c7 hsx
              obtain ⟨wo, hwo⟩ : ∃ wo, wo = wr := ⟨_, rfl⟩
              subst hwo
              go_wp2_with fail
              refine C7.out.mono ?_
              rintro e w4 ⟨zk, rfl, hmk, hc4, hk4⟩
              have X4 := Lib.hid ((X0.out.step (by omega) (X0.out.cur.alloc (.cells #[.int .i64 1, .int .i64 1, .int .i64 2, .int .i64 2, .int .i64 3] 3)) ((KeepG.refl _ _ _).alloc _)).step (show C < wo.heap.size by omega) hc4 hk4)
              obtain ⟨k0, hk0, hk3, hk1⟩ : ∃ k0 : Nat, zk = (k0 : Int) ∧ k0 ≤ 3 ∧ 1 ≤ k0 := ⟨zk.toNat, by simp at hmk; omega, by simp at hmk; omega, by simp at hmk; omega⟩
              subst hk0
              clear hc4 hk4 hmk X0 C7
              go_wp2_with fail
              go_loopw [9] (fun q wr => ∃ (q0 : Nat) (xs : List Int) (A1 : Option Addr) (c1 : Nat), q0 ≤ 3 ∧ q = .int .i64 (q0 : Int) ∧ (1 ≤ xs.length + q0 ∧ xs.length + q0 ≤ 3) ∧ Hid (XS wo C (M0 + 2 + 2 * (3 - q0)) wo.heap.size tx wr (.slice A1 xs.length c1) xs)) (fun q _ => (intOf q).toNat)
              case atStart => exact ⟨k0, [], Option.none, 0, hk3, rfl, by simp; omega, X4.out.mono (by omega)⟩
              case round =>
                obtain ⟨q0, xs, A1, c1, hq3, rfl, hxq, XR⟩ := hrel
                clear X4
                by_cases hq : 0 < q0
                · obtain ⟨M1, hM1⟩ : ∃ M1, M1 = M0 + 2 + 2 * (3 - q0) := ⟨_, rfl⟩
                  rw [← hM1] at XR
                  have hcD : Cur wr.drew C M1 := XR.out.cur
                  have XD : XS wo C M1 wo.heap.size tx wr.drew (.slice A1 xs.length c1) xs := XR.out.step (show C < wo.heap.size by omega) hcD (KeepG.drawN wr 1)
                  have hx1 := XR.out.box.cell 1
                  go_wp2_with fail
                  go_region_law (first
                    | ((go_simp; go_at_call 63; (with_reducible refine (pick_any zm C M1 _ hcD (by omega) (by omega) (by omega)).mono ?_); rintro e w5 ⟨z5, rfl, ⟨hz5, hy5⟩, hc5, hk5⟩; have X5 := XD.step (show C < wo.heap.size by omega) hc5 hk5; have hx5 := X5.box.cell 1; have hx5b := (X5.box.alloc (.cells #[.int .i64 (IntKind.i64.wrap (1 + z5))] 3)).cell 1; have hw5 : 1 + z5 ≤ 60 := (by omega)))
                    | ((refine step_appR (by rfl) (.tmp 44) (.tmp 49) (by rfl) (X5.gr.belowR ((Below.refl _ _).alloc (Nat.le_refl _) _)) (one_rd w5 (IntKind.i64.wrap (1 + z5))) (by simp; omega) (by rfl) (by rfl) ?_; intro v6 w6 hg6; obtain ⟨A6, c6, hv6, _, _⟩ := Rd.form hg6.own.rd; subst hv6; have X6 := X5.put (show C < wo.heap.size by omega) (Nat.le_refl _) hg6; have hb6 := X5.box.below hg6.2.1 (show wo.heap.size < wo.heap.size + 1 by omega); have hx6 := hb6.cell 1; have hf6 := hb6.frozen 1)))
                  all_goals
                    have X7 := Lib.hid X6
                    clear hx1 hx5 hx5b hc5 hk5 hcD XD X5 X6 hg6 hb6 hx6 hf6
                    have hl6 : (xs ++ [IntKind.i64.wrap (1 + z5)]).length = xs.length + 1 := by simp
                    rw [hl6] at X7
                    try rw [hl6]
                    go_wp2_with fail
                    go_roundw
                    case rel => exact ⟨q0 - 1, xs ++ [IntKind.i64.wrap (1 + z5)], A6, c6, by omega, by go_num, by rw [hl6]; omega, by rw [hl6]; exact X7.out.mono (by omega)⟩
                    case measure => (simp [intOf]; try omega)
                · obtain rfl : q0 = 0 := by omega
                  have D5 := Lib.hid (DT.out.step hC1 XR.out.cur XR.out.keep)
                  have hle5 := D5.out.le
                  obtain ⟨ps, hpl, hps⟩ := D5.out.row.rd
                  have cb := bkOf_any ps xs (.agg #[.slice A n c]) (.slice A1 xs.length c1) wr.heap.size wr.heap.size wr ⟨_, rfl, hps⟩ XR.out.own.rd (Nat.le_refl _) (Nat.le_refl _)
                  have hbx := D5.out.box.cell 0
                  have hx1 := XR.out.box.cell 1
                  clear DT hps
                  cases hsi : sigIx ps xs with
                  | none =>
                    have hix : ixI (sigIx ps xs) = -1 := by rw [hsi]; rfl
                    rw [hix] at cb
                    have CB := Lib.hid cb
                    clear cb hsi hix
                    go_wp2_with fail
                    refine CB.out.mono ?_
                    rintro e w7 ⟨rfl, hb7⟩
                    have D7 := Lib.hid (D5.out.step hC1 (D5.out.cur.fresh hb7 (by omega)) (below_g hb7))
                    have X7 := Lib.hid (XR.out.step (show C < wo.heap.size by omega) (XR.out.cur.fresh hb7 (by omega)) (below_g hb7))
                    have hbx7 := D7.out.box.cell 0
                    have hx70 := X7.out.box.cell 0
                    have hx71 := X7.out.box.cell 1
                    clear D5 XR hb7 CB hbx hx1
                    go_wp2_with (at_builtin; refine BookR.app rfl (.tmp 58) (.tmp 60) rfl D7.out.row (by have := D7.out.le; omega) (IntSl.own (World.ownsRow.mono X7.out.row (show w.heap.size + 2 ≤ wo.heap.size + 1 by omega)) (by omega) (by omega)) htxs (by omega) rfl rfl ?_; intro v8 w8 hbk8 hb8 hfr8 hs8; obtain ⟨A8, c8, hv8⟩ := hbk8.form; subst hv8; have D8 := Lib.hid (D7.out.put hC1 hbk8 hb8 hfr8); have hbx8 := (D7.out.box.below hb8 (by omega)).cell 0; have hfx8 := (D7.out.box.below hb8 (by omega)).frozen 0; clear hbk8 hb8 hfr8)
                    go_roundw
                    case rel => exact ⟨j + 1, n + 1, A8, c8, by omega, by omega, fun _ => by omega, by go_num, D8.out.mono (by omega)⟩
                    case measure => (simp [intOf]; try omega)
                  | some k =>
                    have hix : ixI (sigIx ps xs) = (k : Int) := by rw [hsi]; rfl
                    have hN : n ≠ 0 := by
                      intro h0
                      rw [h0] at hpl
                      rw [List.eq_nil_of_length_eq_zero hpl] at hsi
                      cases hsi
                    rw [hix] at cb
                    have CB := Lib.hid cb
                    clear cb hsi hix
                    go_wp2_with fail
                    refine CB.out.mono ?_
                    rintro e w7 ⟨rfl, hb7⟩
                    have D7 := Lib.hid (D5.out.step hC1 (D5.out.cur.fresh hb7 (by omega)) (below_g hb7))
                    clear D5 XR hb7 CB hbx hx1
                    go_wp2_with fail
                    go_roundw
                    case rel => exact ⟨r + 1, by omega, fun h => absurd h hN, by go_num, D7.out.mono (by omega)⟩
                    case measure => (simp [intOf]; try omega)
            · obtain rfl : r = 9 := by omega
              have hN : 0 < n := by
                rcases Nat.eq_zero_or_pos n with h | h
                · have := hr0 h; omega
                · exact h
              go_wp2_with fail
              go_roundw
              case rel => exact ⟨j + 1, n, A, c, by omega, by omega, fun _ => hN, by go_num, DT.out.mono (by omega)⟩
              case measure => (simp [intOf]; try omega)
        · cases ob
          · go_wp2_with fail
            refine c6.out.mono ?_
            rintro e w3 ⟨zm, rfl, hmm, hc3, hk3⟩
            have D3 := Lib.hid ((D2.out.alloc hC1 (.cells #[.int .i64 2, .int .i64 4, .int .i64 60] 3)).step hC1 hc3 hk3)
            have hz2 : 2 ≤ zm := by simp at hmm; omega
            have hz60 : zm ≤ 60 := by simp at hmm; omega
            clear hc3 hk3 hmm D2 c6
            go_wp2_with fail
            go_loopw [7] (fun q wr => ∃ r : Nat, r ≤ 9 ∧ (0 = 0 → r = 0) ∧ q = .int .i64 (r : Int) ∧ Hid (BkS w C (m + 600 * j + 10 + 30 * r) wr (.slice A 0 c) 0)) (fun q _ => 9 - (intOf q).toNat)
            case atStart => exact ⟨0, by omega, fun _ => rfl, rfl, D3.out.mono (by omega)⟩
            case round =>
              obtain ⟨r, hr, hr0, rfl, DT⟩ := hrel
              clear D3
              by_cases hrt : r < 9
              · have hleT := DT.out.le
                obtain ⟨M0, hM0⟩ : ∃ M0, M0 = m + 600 * j + 10 + 30 * r := ⟨_, rfl⟩
                rw [← hM0] at DT
                have X0 : Hid (XS wr C M0 wr.heap.size tx (wr.alloc (.cells #[.string tx, .slice Option.none 0 0] 45)) (.slice Option.none 0 0) []) := ⟨Blk.new wr _ _, World.ownsRow_nil _ _ _ _, DT.out.cur.alloc _, (KeepG.refl _ _ _).alloc _⟩
                have hsx : (wr.alloc (.cells #[.string tx, .slice Option.none 0 0] 45)).heap.size = wr.heap.size + 1 := by simp
                have hl7 := lst_new (wr.alloc (.cells #[.string tx, .slice Option.none 0 0] 45)) C [1, 1, 2, 2, 3] X0.out.cur.lt (by simp) (by simp)
                have c7 := among_any _ _ C _ _ (X0.out.cur.alloc (.cells (ints [1, 1, 2, 2, 3]).toArray 3)) (by omega) hl7
                rw [hsx] at c7
                have C7 : Hid (Calls Tryz.prog 74 #[.pointer (some ⟨C, 0, Option.none⟩), .slice (some ⟨wr.heap.size + 1, 0, Option.none⟩) 5 5] ((wr.alloc (.cells #[.string tx, .slice Option.none 0 0] 45)).alloc (.cells #[.int .i64 1, .int .i64 1, .int .i64 2, .int .i64 2, .int .i64 3] 3)) (Drawn C (M0 + 2) ((wr.alloc (.cells #[.string tx, .slice Option.none 0 0] 45)).alloc (.cells #[.int .i64 1, .int .i64 1, .int .i64 2, .int .i64 2, .int .i64 3] 3)) (fun z => z ∈ [1, 1, 2, 2, 3]))) := c7
                clear hl7 c7 hsx
                obtain ⟨wo, hwo⟩ : ∃ wo, wo = wr := ⟨_, rfl⟩
                subst hwo
                go_wp2_with fail
                refine C7.out.mono ?_
                rintro e w4 ⟨zk, rfl, hmk, hc4, hk4⟩
                have X4 := Lib.hid ((X0.out.step (by omega) (X0.out.cur.alloc (.cells #[.int .i64 1, .int .i64 1, .int .i64 2, .int .i64 2, .int .i64 3] 3)) ((KeepG.refl _ _ _).alloc _)).step (show C < wo.heap.size by omega) hc4 hk4)
                obtain ⟨k0, hk0, hk3, hk1⟩ : ∃ k0 : Nat, zk = (k0 : Int) ∧ k0 ≤ 3 ∧ 1 ≤ k0 := ⟨zk.toNat, by simp at hmk; omega, by simp at hmk; omega, by simp at hmk; omega⟩
                subst hk0
                clear hc4 hk4 hmk X0 C7
                go_wp2_with fail
                go_loopw [9] (fun q wr => ∃ (q0 : Nat) (xs : List Int) (A1 : Option Addr) (c1 : Nat), q0 ≤ 3 ∧ q = .int .i64 (q0 : Int) ∧ (1 ≤ xs.length + q0 ∧ xs.length + q0 ≤ 3) ∧ Hid (XS wo C (M0 + 2 + 2 * (3 - q0)) wo.heap.size tx wr (.slice A1 xs.length c1) xs)) (fun q _ => (intOf q).toNat)
                case atStart => exact ⟨k0, [], Option.none, 0, hk3, rfl, by simp; omega, X4.out.mono (by omega)⟩
                case round =>
                  obtain ⟨q0, xs, A1, c1, hq3, rfl, hxq, XR⟩ := hrel
                  clear X4
                  by_cases hq : 0 < q0
                  · obtain ⟨M1, hM1⟩ : ∃ M1, M1 = M0 + 2 + 2 * (3 - q0) := ⟨_, rfl⟩
                    rw [← hM1] at XR
                    have hcD : Cur wr.drew C M1 := XR.out.cur
                    have XD : XS wo C M1 wo.heap.size tx wr.drew (.slice A1 xs.length c1) xs := XR.out.step (show C < wo.heap.size by omega) hcD (KeepG.drawN wr 1)
                    have hx1 := XR.out.box.cell 1
                    go_wp2_with fail
                    go_region_law (first
                      | ((go_simp; go_at_call 63; (with_reducible refine (pick_any zm C M1 _ hcD (by omega) (by omega) (by omega)).mono ?_); rintro e w5 ⟨z5, rfl, ⟨hz5, hy5⟩, hc5, hk5⟩; have X5 := XD.step (show C < wo.heap.size by omega) hc5 hk5; have hx5 := X5.box.cell 1; have hx5b := (X5.box.alloc (.cells #[.int .i64 (IntKind.i64.wrap (1 + z5))] 3)).cell 1; have hw5 : 1 + z5 ≤ 60 := (by omega)))
                      | ((refine step_appR (by rfl) (.tmp 44) (.tmp 49) (by rfl) (X5.gr.belowR ((Below.refl _ _).alloc (Nat.le_refl _) _)) (one_rd w5 (IntKind.i64.wrap (1 + z5))) (by simp; omega) (by rfl) (by rfl) ?_; intro v6 w6 hg6; obtain ⟨A6, c6, hv6, _, _⟩ := Rd.form hg6.own.rd; subst hv6; have X6 := X5.put (show C < wo.heap.size by omega) (Nat.le_refl _) hg6; have hb6 := X5.box.below hg6.2.1 (show wo.heap.size < wo.heap.size + 1 by omega); have hx6 := hb6.cell 1; have hf6 := hb6.frozen 1)))
                    all_goals
                      have X7 := Lib.hid X6
                      clear hx1 hx5 hx5b hc5 hk5 hcD XD X5 X6 hg6 hb6 hx6 hf6
                      have hl6 : (xs ++ [IntKind.i64.wrap (1 + z5)]).length = xs.length + 1 := by simp
                      rw [hl6] at X7
                      try rw [hl6]
                      go_wp2_with fail
                      go_roundw
                      case rel => exact ⟨q0 - 1, xs ++ [IntKind.i64.wrap (1 + z5)], A6, c6, by omega, by go_num, by rw [hl6]; omega, by rw [hl6]; exact X7.out.mono (by omega)⟩
                      case measure => (simp [intOf]; try omega)
                  · obtain rfl : q0 = 0 := by omega
                    have D5 := Lib.hid (DT.out.step hC1 XR.out.cur XR.out.keep)
                    have hle5 := D5.out.le
                    obtain ⟨ps, hpl, hps⟩ := D5.out.row.rd
                    have cb := bkOf_any ps xs (.agg #[.slice A 0 c]) (.slice A1 xs.length c1) wr.heap.size wr.heap.size wr ⟨_, rfl, hps⟩ XR.out.own.rd (Nat.le_refl _) (Nat.le_refl _)
                    have hbx := D5.out.box.cell 0
                    have hx1 := XR.out.box.cell 1
                    clear DT hps
                    cases hsi : sigIx ps xs with
                    | none =>
                      have hix : ixI (sigIx ps xs) = -1 := by rw [hsi]; rfl
                      rw [hix] at cb
                      have CB := Lib.hid cb
                      clear cb hsi hix
                      go_wp2_with fail
                      refine CB.out.mono ?_
                      rintro e w7 ⟨rfl, hb7⟩
                      have D7 := Lib.hid (D5.out.step hC1 (D5.out.cur.fresh hb7 (by omega)) (below_g hb7))
                      have X7 := Lib.hid (XR.out.step (show C < wo.heap.size by omega) (XR.out.cur.fresh hb7 (by omega)) (below_g hb7))
                      have hbx7 := D7.out.box.cell 0
                      have hx70 := X7.out.box.cell 0
                      have hx71 := X7.out.box.cell 1
                      clear D5 XR hb7 CB hbx hx1
                      go_wp2_with (at_builtin; refine BookR.app rfl (.tmp 58) (.tmp 60) rfl D7.out.row (by have := D7.out.le; omega) (IntSl.own (World.ownsRow.mono X7.out.row (show w.heap.size + 2 ≤ wo.heap.size + 1 by omega)) (by omega) (by omega)) htxs (by omega) rfl rfl ?_; intro v8 w8 hbk8 hb8 hfr8 hs8; obtain ⟨A8, c8, hv8⟩ := hbk8.form; subst hv8; have D8 := Lib.hid (D7.out.put hC1 hbk8 hb8 hfr8); have hbx8 := (D7.out.box.below hb8 (by omega)).cell 0; have hfx8 := (D7.out.box.below hb8 (by omega)).frozen 0; clear hbk8 hb8 hfr8)
                      go_roundw
                      case rel => exact ⟨j + 1, 0 + 1, A8, c8, by omega, by omega, fun _ => by omega, by go_num, D8.out.mono (by omega)⟩
                      case measure => (simp [intOf]; try omega)
                    | some k =>
                      exfalso
                      rw [List.eq_nil_of_length_eq_zero hpl] at hsi
                      cases hsi
              · exfalso
                have := hr0 rfl
                omega
          · go_wp2_with fail
            refine c6.out.mono ?_
            rintro e w3 ⟨zm, rfl, hmm, hc3, hk3⟩
            have D3 := Lib.hid ((D2.out.alloc hC1 (.cells #[.int .i64 2, .int .i64 4, .int .i64 60] 3)).step hC1 hc3 hk3)
            have hz2 : 2 ≤ zm := by simp at hmm; omega
            have hz60 : zm ≤ 60 := by simp at hmm; omega
            clear hc3 hk3 hmm D2 c6
            go_wp2_with fail
            go_loopw [7] (fun q wr => ∃ r : Nat, r ≤ 9 ∧ (0 = 0 → r = 0) ∧ q = .int .i64 (r : Int) ∧ Hid (BkS w C (m + 600 * j + 10 + 30 * r) wr (.slice A 0 c) 0)) (fun q _ => 9 - (intOf q).toNat)
            case atStart => exact ⟨0, by omega, fun _ => rfl, rfl, D3.out.mono (by omega)⟩
            case round =>
              obtain ⟨r, hr, hr0, rfl, DT⟩ := hrel
              clear D3
              by_cases hrt : r < 9
              · have hleT := DT.out.le
                obtain ⟨M0, hM0⟩ : ∃ M0, M0 = m + 600 * j + 10 + 30 * r := ⟨_, rfl⟩
                rw [← hM0] at DT
                have X0 : Hid (XS wr C M0 wr.heap.size tx (wr.alloc (.cells #[.string tx, .slice Option.none 0 0] 45)) (.slice Option.none 0 0) []) := ⟨Blk.new wr _ _, World.ownsRow_nil _ _ _ _, DT.out.cur.alloc _, (KeepG.refl _ _ _).alloc _⟩
                have hsx : (wr.alloc (.cells #[.string tx, .slice Option.none 0 0] 45)).heap.size = wr.heap.size + 1 := by simp
                have hl7 := lst_new (wr.alloc (.cells #[.string tx, .slice Option.none 0 0] 45)) C [1, 1, 2, 2, 3] X0.out.cur.lt (by simp) (by simp)
                have c7 := among_any _ _ C _ _ (X0.out.cur.alloc (.cells (ints [1, 1, 2, 2, 3]).toArray 3)) (by omega) hl7
                rw [hsx] at c7
                have C7 : Hid (Calls Tryz.prog 74 #[.pointer (some ⟨C, 0, Option.none⟩), .slice (some ⟨wr.heap.size + 1, 0, Option.none⟩) 5 5] ((wr.alloc (.cells #[.string tx, .slice Option.none 0 0] 45)).alloc (.cells #[.int .i64 1, .int .i64 1, .int .i64 2, .int .i64 2, .int .i64 3] 3)) (Drawn C (M0 + 2) ((wr.alloc (.cells #[.string tx, .slice Option.none 0 0] 45)).alloc (.cells #[.int .i64 1, .int .i64 1, .int .i64 2, .int .i64 2, .int .i64 3] 3)) (fun z => z ∈ [1, 1, 2, 2, 3]))) := c7
                clear hl7 c7 hsx
                obtain ⟨wo, hwo⟩ : ∃ wo, wo = wr := ⟨_, rfl⟩
                subst hwo
                go_wp2_with fail
                refine C7.out.mono ?_
                rintro e w4 ⟨zk, rfl, hmk, hc4, hk4⟩
                have X4 := Lib.hid ((X0.out.step (by omega) (X0.out.cur.alloc (.cells #[.int .i64 1, .int .i64 1, .int .i64 2, .int .i64 2, .int .i64 3] 3)) ((KeepG.refl _ _ _).alloc _)).step (show C < wo.heap.size by omega) hc4 hk4)
                obtain ⟨k0, hk0, hk3, hk1⟩ : ∃ k0 : Nat, zk = (k0 : Int) ∧ k0 ≤ 3 ∧ 1 ≤ k0 := ⟨zk.toNat, by simp at hmk; omega, by simp at hmk; omega, by simp at hmk; omega⟩
                subst hk0
                clear hc4 hk4 hmk X0 C7
                go_wp2_with fail
                go_loopw [9] (fun q wr => ∃ (q0 : Nat) (xs : List Int) (A1 : Option Addr) (c1 : Nat), q0 ≤ 3 ∧ q = .int .i64 (q0 : Int) ∧ (1 ≤ xs.length + q0 ∧ xs.length + q0 ≤ 3) ∧ Hid (XS wo C (M0 + 2 + 2 * (3 - q0)) wo.heap.size tx wr (.slice A1 xs.length c1) xs)) (fun q _ => (intOf q).toNat)
                case atStart => exact ⟨k0, [], Option.none, 0, hk3, rfl, by simp; omega, X4.out.mono (by omega)⟩
                case round =>
                  obtain ⟨q0, xs, A1, c1, hq3, rfl, hxq, XR⟩ := hrel
                  clear X4
                  by_cases hq : 0 < q0
                  · obtain ⟨M1, hM1⟩ : ∃ M1, M1 = M0 + 2 + 2 * (3 - q0) := ⟨_, rfl⟩
                    rw [← hM1] at XR
                    have hcD : Cur wr.drew C M1 := XR.out.cur
                    have XD : XS wo C M1 wo.heap.size tx wr.drew (.slice A1 xs.length c1) xs := XR.out.step (show C < wo.heap.size by omega) hcD (KeepG.drawN wr 1)
                    have hx1 := XR.out.box.cell 1
                    go_wp2_with fail
                    go_region_law (first
                      | ((go_simp; go_at_call 63; (with_reducible refine (pick_any zm C M1 _ hcD (by omega) (by omega) (by omega)).mono ?_); rintro e w5 ⟨z5, rfl, ⟨hz5, hy5⟩, hc5, hk5⟩; have X5 := XD.step (show C < wo.heap.size by omega) hc5 hk5; have hx5 := X5.box.cell 1; have hx5b := (X5.box.alloc (.cells #[.int .i64 (IntKind.i64.wrap (1 + z5))] 3)).cell 1; have hw5 : 1 + z5 ≤ 60 := (by omega)))
                      | ((refine step_appR (by rfl) (.tmp 44) (.tmp 49) (by rfl) (X5.gr.belowR ((Below.refl _ _).alloc (Nat.le_refl _) _)) (one_rd w5 (IntKind.i64.wrap (1 + z5))) (by simp; omega) (by rfl) (by rfl) ?_; intro v6 w6 hg6; obtain ⟨A6, c6, hv6, _, _⟩ := Rd.form hg6.own.rd; subst hv6; have X6 := X5.put (show C < wo.heap.size by omega) (Nat.le_refl _) hg6; have hb6 := X5.box.below hg6.2.1 (show wo.heap.size < wo.heap.size + 1 by omega); have hx6 := hb6.cell 1; have hf6 := hb6.frozen 1)))
                    all_goals
                      have X7 := Lib.hid X6
                      clear hx1 hx5 hx5b hc5 hk5 hcD XD X5 X6 hg6 hb6 hx6 hf6
                      have hl6 : (xs ++ [IntKind.i64.wrap (1 + z5)]).length = xs.length + 1 := by simp
                      rw [hl6] at X7
                      try rw [hl6]
                      go_wp2_with fail
                      go_roundw
                      case rel => exact ⟨q0 - 1, xs ++ [IntKind.i64.wrap (1 + z5)], A6, c6, by omega, by go_num, by rw [hl6]; omega, by rw [hl6]; exact X7.out.mono (by omega)⟩
                      case measure => (simp [intOf]; try omega)
                  · obtain rfl : q0 = 0 := by omega
                    have D5 := Lib.hid (DT.out.step hC1 XR.out.cur XR.out.keep)
                    have hle5 := D5.out.le
                    obtain ⟨ps, hpl, hps⟩ := D5.out.row.rd
                    have cb := bkOf_any ps xs (.agg #[.slice A 0 c]) (.slice A1 xs.length c1) wr.heap.size wr.heap.size wr ⟨_, rfl, hps⟩ XR.out.own.rd (Nat.le_refl _) (Nat.le_refl _)
                    have hbx := D5.out.box.cell 0
                    have hx1 := XR.out.box.cell 1
                    clear DT hps
                    cases hsi : sigIx ps xs with
                    | none =>
                      have hix : ixI (sigIx ps xs) = -1 := by rw [hsi]; rfl
                      rw [hix] at cb
                      have CB := Lib.hid cb
                      clear cb hsi hix
                      go_wp2_with fail
                      refine CB.out.mono ?_
                      rintro e w7 ⟨rfl, hb7⟩
                      have D7 := Lib.hid (D5.out.step hC1 (D5.out.cur.fresh hb7 (by omega)) (below_g hb7))
                      have X7 := Lib.hid (XR.out.step (show C < wo.heap.size by omega) (XR.out.cur.fresh hb7 (by omega)) (below_g hb7))
                      have hbx7 := D7.out.box.cell 0
                      have hx70 := X7.out.box.cell 0
                      have hx71 := X7.out.box.cell 1
                      clear D5 XR hb7 CB hbx hx1
                      go_wp2_with (at_builtin; refine BookR.app rfl (.tmp 58) (.tmp 60) rfl D7.out.row (by have := D7.out.le; omega) (IntSl.own (World.ownsRow.mono X7.out.row (show w.heap.size + 2 ≤ wo.heap.size + 1 by omega)) (by omega) (by omega)) htxs (by omega) rfl rfl ?_; intro v8 w8 hbk8 hb8 hfr8 hs8; obtain ⟨A8, c8, hv8⟩ := hbk8.form; subst hv8; have D8 := Lib.hid (D7.out.put hC1 hbk8 hb8 hfr8); have hbx8 := (D7.out.box.below hb8 (by omega)).cell 0; have hfx8 := (D7.out.box.below hb8 (by omega)).frozen 0; clear hbk8 hb8 hfr8)
                      go_roundw
                      case rel => exact ⟨j + 1, 0 + 1, A8, c8, by omega, by omega, fun _ => by omega, by go_num, D8.out.mono (by omega)⟩
                      case measure => (simp [intOf]; try omega)
                    | some k =>
                      exfalso
                      rw [List.eq_nil_of_length_eq_zero hpl] at hsi
                      cases hsi
              · exfalso
                have := hr0 rfl
                omega
    · obtain rfl : j = 26 := by omega
      have hn0 : 0 < n := hpos (by omega)
      have c1 := Lib.hid (one_any 2 C _ wr DR.out.cur (by omega) (by omega) (by omega))
      go_wp2_with fail
      refine c1.out.mono ?_
      rintro e w2 ⟨ob, rfl, hc2, hk2⟩
      have hbc := (DR.out.box.keepG hk2 (by omega)).cell 0
      have D2 := Lib.hid (DR.out.step hC1 hc2 hk2)
      obtain ⟨M2, hM2⟩ : ∃ M2, M2 = m + 600 * 26 + 2 := ⟨_, rfl⟩
      rw [← hM2] at D2
      clear hc2 hk2 DR c1
      cases ob
      · have hrc := D2.out.res.cell 0
        have hrf := D2.out.res.frozen 0
        have HD := Lib.hid (D2.out.done (u := .slice A n c) hC1)
        have c10 := (D2.out.res.set_ 0 (.slice A n c)).cell 0
        go_wp2_with fail
        refine bodyPost_ret (v := .agg #[.slice A n c]) (by simp [results, Tryz.results95, go_sem, c10]) rfl ?_
        exact ⟨_, n, rfl, by omega, by omega, HD.out.1, HD.out.2.1.mono (by omega), HD.out.2.2⟩
      · obtain ⟨g, c1, hv, hg, cur, hgc⟩ := D2.out.row.pos hn0
        cases hv
        clear hgc
        go_wp2_with fail
        go_loopw [69] (fun q wr => ∃ r : Nat, r ≤ n ∧ q = .int .i64 (r : Int) ∧ Hid (BkS w C M2 wr (.slice (some ⟨g, 0, Option.none⟩) n c) n)) (fun q _ => n - (intOf q).toNat)
        case atStart => exact ⟨0, Nat.zero_le _, rfl, D2.out⟩
        case round =>
          obtain ⟨r, hr, rfl, DS⟩ := hrel
          clear D2
          have hbs := DS.out.box.cell 0
          have hles := DS.out.le
          by_cases hrn : r < n
          · obtain ⟨g2, c2, hv, _, cur, hgc⟩ := DS.out.row.pos hn0
            cases hv
            have DA := DS.out.alloc hC1 (.cells #[.int .i64 (1 + (r : Int))] 3)
            obtain ⟨tt, uu, hct, hcu, hiu, _, hft, hfu⟩ := DA.row.at_ hrn
            obtain ⟨Au, nu, cu, rfl, _⟩ := hiu.form
            have hgA : (wr.alloc (.cells #[.int .i64 (1 + (r : Int))] 3)).heap[g]? = some (.cells cur 45 (0, 0)) := ((Below.heap_alloc wr _ g (Array.getElem?_eq_some_iff.1 hgc).1)).trans hgc
            have DP := Lib.hid (DA.sig hC1 hg hgA r (intsl_one wr (w.heap.size + 2) (by omega) _))
            clear hgc hgA DA hiu
            go_wp2_with fail
            go_roundw
            case rel => exact ⟨r + 1, by omega, by go_num, DP.out⟩
            case measure => (simp [intOf]; try omega)
          · obtain rfl : r = n := by omega
            have hrc := DS.out.res.cell 0
            have hrf := DS.out.res.frozen 0
            have HD := Lib.hid (DS.out.done (u := .slice (some ⟨g, 0, Option.none⟩) r c) hC1)
            have c10 := (DS.out.res.set_ 0 (.slice (some ⟨g, 0, Option.none⟩) r c)).cell 0
            go_wp2_with fail
            refine bodyPost_ret (v := .agg #[.slice (some ⟨g, 0, Option.none⟩) r c]) (by simp [results, Tryz.results95, go_sem, c10]) rfl ?_
            exact ⟨_, r, rfl, by omega, by omega, HD.out.1, HD.out.2.1.mono (by omega), HD.out.2.2⟩
end Go.Proofs.YtjnkdjokbamibaaGreatDoor
