/- Texts of one claim, joined: T5, T6, T7, T8, T13. -/
import Derived.Deep.AppendLies
import Derived.Deep.DeepCutAuto
import Derived.Test.YtjnkdjokbamibaaP5Spelling
/- Contracts: drawn texts of phrases; a drawn book. -/
namespace Go.Proofs.Ytjnkdjokbamibaa
open Go.RowKit
/-- The slice value v has n strings, outside block C. -/
def LstS (w : World) (C : Nat) (v : Value) (n : Nat) : Prop := 1 ≤ n ∧ n ≤ 1000 ∧ ∃ b c, v = .slice (some ⟨b, 0, Option.none⟩) n c ∧ b ≠ C ∧ b < w.heap.size ∧ ∀ j, j < n → ∃ t : ByteArray, w.cell? ⟨b, j, Option.none⟩ = some (.string t) ∧ t.size ≤ 1000
theorem lstS_new (w : World) (C : Nat) (arr : Array Value) (n : Nat) (hC : C < w.heap.size) (h1 : 1 ≤ n) (h2 : n ≤ 1000) (hn : n = arr.size) (h : ∀ u ∈ arr.toList, ∃ t : ByteArray, u = .string t ∧ t.size ≤ 1000) : LstS (w.alloc (.cells arr 9)) C (.slice (some ⟨w.heap.size, 0, Option.none⟩) n n) n := by
  refine ⟨h1, h2, w.heap.size, n, rfl, by omega, by simp, fun j hj => ?_⟩
  have hx : arr.toList[j]? = some arr.toList[j] := List.getElem?_eq_getElem (by simp; omega)
  obtain ⟨t, e, ht⟩ := h _ (List.mem_of_getElem? hx)
  refine ⟨t, ?_, ht⟩
  rw [(Blk.new w 9 arr).cell j, hx, e]
/-- A row of 26 texts at block b. -/
def TxtR (w : World) (b : Nat) : Prop := ∃ cs : List Value, Blk w b 9 cs ∧ cs.length = 26 ∧ ∀ u ∈ cs, ∃ t : ByteArray, u = .string t ∧ t.size ≤ 1000
theorem TxtR.at_ {w : World} {b : Nat} (h : TxtR w b) {j : Nat} (hj : j < 26) : ∃ t : ByteArray, w.cell? ⟨b, j, Option.none⟩ = some (.string t) ∧ t.size ≤ 1000 := by
  obtain ⟨cs, h1, h2, h3⟩ := h
  have hx : cs[j]? = some cs[j] := List.getElem?_eq_getElem (by omega)
  obtain ⟨t, e, ht⟩ := h3 _ (List.mem_of_getElem? hx)
  exact ⟨t, by rw [h1.cell j, hx, e], ht⟩
theorem Blk.keepG {w w' : World} {g C : Nat} {t : TypeId} {cs : List Value} (h : Blk w g t cs) (hk : KeepG C (C + 1) w w') (hg : g ≠ C) : Blk w' g t cs := (hk.block g h.lt (by omega)).trans h
/-- A book is being made: the result's box, the book's box, the row of phrases, the row of texts, the cursor. -/
structure BkS (w : World) (C m : Nat) (wr : World) (v : Value) (n : Nat) : Prop where
  res : Blk wr w.heap.size 28 [.slice Option.none 0 0]
  box : Blk wr (w.heap.size + 1) 28 [v]
  txt : TxtR wr (w.heap.size + 2)
  row : BookR wr (w.heap.size + 2) 1 v n
  cur : Cur wr C m
  keep : KeepG C (C + 1) w wr
theorem BkS.le {w wr : World} {C m n : Nat} {v : Value} (h : BkS w C m wr v n) : w.heap.size + 2 < wr.heap.size := by
  obtain ⟨cs, h1, _⟩ := h.txt
  exact h1.lt
theorem BkS.step {w wr w' : World} {C m m' n : Nat} {v : Value} (h : BkS w C m wr v n) (hC : C < w.heap.size) (hc : Cur w' C m') (hk : KeepG C (C + 1) wr w') : BkS w C m' w' v n := by
  obtain ⟨cs, h1, h2⟩ := h.txt
  exact ⟨h.res.keepG hk (by omega), h.box.keepG hk (by omega), ⟨cs, h1.keepG hk (by omega), h2⟩, h.row.step hk (by omega), hc, h.keep.trans hk⟩
theorem BkS.mono {w wr : World} {C m m' n : Nat} {v : Value} (h : BkS w C m wr v n) (hm : m ≤ m') : BkS w C m' wr v n := ⟨h.res, h.box, h.txt, h.row, h.cur.mono hm, h.keep⟩
theorem BkS.alloc {w wr : World} {C m n : Nat} {v : Value} (h : BkS w C m wr v n) (hC : C < w.heap.size) (o : Obj) : BkS w C m (wr.alloc o) v n := h.step hC (h.cur.alloc o) ((KeepG.refl _ _ _).alloc o)
/-- The row is stored into the book's box. -/
theorem BkS.put {w wr w8 : World} {C m n k : Nat} {v v8 : Value} (h : BkS w C m wr v n) (hC : C < w.heap.size) (hb : BookR w8 (w.heap.size + 2) 1 v8 k) (hB : Below (w.heap.size + 2) wr w8) (hf : FrP wr w8) : BkS w C m (w8.setCell ⟨w.heap.size + 1, 0, Option.none⟩ v8) v8 k := by
  obtain ⟨cs, h1, h2⟩ := h.txt
  have hx := h.box.below hB (by omega)
  have hb1 : Below w.heap.size wr (w8.setCell ⟨w.heap.size + 1, 0, Option.none⟩ v8) := (hB.mono (by omega)).setCell (p := ⟨w.heap.size + 1, 0, Option.none⟩) (show w.heap.size ≤ w.heap.size + 1 by omega) _
  have ht : Blk w8 (w.heap.size + 2) 9 cs := h1.frP hf (by decide)
  exact ⟨(h.res.below hB (by omega)).far (p := ⟨w.heap.size + 1, 0, Option.none⟩) (by show w.heap.size ≠ w.heap.size + 1; omega) _, hx.set_ 0 v8, ⟨cs, ht.far (p := ⟨w.heap.size + 1, 0, Option.none⟩) (by show w.heap.size + 2 ≠ w.heap.size + 1; omega) _, h2⟩,
    hb.far (p := ⟨w.heap.size + 1, 0, Option.none⟩) hx (.inl (by decide)) (.far fun cur e => by rw [show w8.heap[w.heap.size + 1]? = _ from hx] at e; cases e), h.cur.fresh hb1 hC, h.keep.fresh (hb1)⟩
/-- A slice of signals is stored into the row. -/
theorem BkS.sig {w wr : World} {C m n g c : Nat} {cur : Array Value} {u : Value} (h : BkS w C m wr (.slice (some ⟨g, 0, Option.none⟩) n c) n) (hC : C < w.heap.size) (hg : w.heap.size + 2 ≤ g) (hgc : wr.heap[g]? = some (.cells cur 40 (0, 0))) (j : Nat) (hu : IntSl wr (w.heap.size + 2) 1 u) : BkS w C m (wr.setCell ⟨g, j * 2 + 1, Option.none⟩ u) (.slice (some ⟨g, 0, Option.none⟩) n c) n := by
  obtain ⟨cs, h1, h2⟩ := h.txt
  have hne : w.heap.size + 2 ≠ g := by
    rintro e
    rw [← e] at hgc
    rw [show wr.heap[w.heap.size + 2]? = _ from h1] at hgc
    cases hgc
  have hb : Below w.heap.size wr (wr.setCell ⟨g, j * 2 + 1, Option.none⟩ u) := (Below.refl _ _).setCell (p := ⟨g, j * 2 + 1, Option.none⟩) (show w.heap.size ≤ g by omega) _
  exact ⟨h.res.far (p := ⟨g, j * 2 + 1, Option.none⟩) (show w.heap.size ≠ g by omega) _, h.box.far (p := ⟨g, j * 2 + 1, Option.none⟩) (show w.heap.size + 1 ≠ g by omega) _, ⟨cs, h1.far (p := ⟨g, j * 2 + 1, Option.none⟩) hne _, h2⟩, h.row.setSig hgc j hu, h.cur.fresh hb hC, h.keep.fresh hb⟩
/-- A drawn book. -/
def BkD (w : World) (C m : Nat) (w' : World) (v : Value) (n : Nat) : Prop := BookR w' (w.heap.size + 2) 1 v n ∧ Cur w' C m ∧ KeepG C (C + 1) w w'
theorem BkS.done {w wr : World} {C m n : Nat} {v u : Value} (h : BkS w C m wr v n) (hC : C < w.heap.size) : BkD w C m (wr.setCell ⟨w.heap.size, 0, Option.none⟩ u) v n := by
  have hb : Below w.heap.size wr (wr.setCell ⟨w.heap.size, 0, Option.none⟩ u) := (Below.refl _ _).setCell (p := ⟨w.heap.size, 0, Option.none⟩) (Nat.le_refl _) _
  exact ⟨h.row.far (p := ⟨w.heap.size, 0, Option.none⟩) h.res (.inl (by decide)) (.far fun cur e => by rw [show wr.heap[w.heap.size]? = _ from h.res] at e; cases e), h.cur.fresh hb hC, h.keep.fresh hb⟩
theorem intsl_one (w : World) (lo : Nat) (hlo : lo ≤ w.heap.size) (x : Int) : IntSl (w.alloc (.cells #[.int .i64 x] 3)) lo 1 (.slice (some ⟨w.heap.size, 0, Option.none⟩) 1 1) :=
  IntSl.own (xs := [x]) (World.ownsRow_lit w #[.int .i64 x] 1 hlo (by decide) rfl) (by simp) (by simp)
/-- A phrase with its signals is being made, in the box X. -/
structure XS (w0 : World) (C m X : Nat) (t : ByteArray) (wr : World) (v : Value) (xs : List Int) : Prop where
  box : Blk wr X 40 [.string t, v]
  row : wr.ownsRow (X + 1) 3 1 v xs.length (ints xs)
  cur : Cur wr C m
  keep : KeepG C (C + 1) w0 wr
theorem XS.step {w0 wr w' : World} {C m m' X : Nat} {t : ByteArray} {v : Value} {xs : List Int} (h : XS w0 C m X t wr v xs) (hC : C < X) (hc : Cur w' C m') (hk : KeepG C (C + 1) wr w') : XS w0 C m' X t w' v xs :=
  ⟨h.box.keepG hk (by omega), owns_keepG h.row hk (by omega), hc, h.keep.trans hk⟩
theorem XS.mono {w0 wr : World} {C m m' X : Nat} {t : ByteArray} {v : Value} {xs : List Int} (h : XS w0 C m X t wr v xs) (hm : m ≤ m') : XS w0 C m' X t wr v xs := ⟨h.box, h.row, h.cur.mono hm, h.keep⟩
theorem XS.gr {w0 wr : World} {C m X : Nat} {t : ByteArray} {v : Value} {xs : List Int} (h : XS w0 C m X t wr v xs) : GrowI wr (X + 1) wr v xs := ⟨h.row, Below.refl _ _, by have := h.box.lt; omega⟩
theorem XS.own {w0 wr : World} {C m X : Nat} {t : ByteArray} {v : Value} {xs : List Int} (h : XS w0 C m X t wr v xs) : OwI wr (X + 1) wr.heap.size v xs := ⟨h.row, fun k hk => (h.row.lt k hk).2⟩
/-- One signal more, and it is stored into the box. -/
theorem XS.put {w0 wr w' : World} {C m X : Nat} {t : ByteArray} {v v' : Value} {xs ys : List Int} (h : XS w0 C m X t wr v xs) (hC : C < X) (hX : w0.heap.size ≤ X) (hG : GrowI wr (X + 1) w' v' ys) : XS w0 C m X t (w'.setCell ⟨X, 1, Option.none⟩ v') v' ys := by
  have h1 : Blk w' X 40 [.string t, v] := h.box.below hG.2.1 (by omega)
  have hb : Below X wr (w'.setCell ⟨X, 1, Option.none⟩ v') := (hG.2.1.mono (show X ≤ X + 1 by omega)).setCell (p := ⟨X, 1, Option.none⟩) (Nat.le_refl X) _
  exact ⟨h1.set_ 1 v', ownsRow_setCell_below (a := ⟨X, 1, Option.none⟩) hG.1 (show X < X + 1 by omega) _, h.cur.fresh hb hC, h.keep.fresh (hb.mono hX)⟩
/-- A text is drawn. -/
def DrawnT (C m : Nat) (w : World) (e : Ending) (w' : World) : Prop := ∃ t : ByteArray, e = .returned (.string t) ∧ t.size ≤ 1000 ∧ Cur w' C m ∧ KeepG C (C + 1) w w'
theorem of_any (n : Nat) (v : Value) (C m : Nat) (w : World) (h : Cur w C m) (hm : m ≤ 1099511627000) (hl : LstS w C v n) :
    Calls Try.prog 133 #[.pointer (some ⟨C, 0, Option.none⟩), v] w (DrawnT C (m + 2) w) := by
  obtain ⟨l1, l2, b, c, rfl, hbC, hbw, hcell⟩ := hl
  have cN := pick_any (n : Int) C m w h hm (by omega) (by omega)
  have CN := Lib.hid cN
  have HCE := Lib.hid hcell
  clear cN h hcell
  go_enter Try.func133, Try.ntmps133
  go_wp2_with fail
  refine CN.out.mono ?_
  rintro e w1 ⟨z, rfl, ⟨hz0, hz1⟩, hc1, hk1⟩
  obtain ⟨k, rfl⟩ : ∃ k : Nat, z = (k : Int) := ⟨z.toNat, by omega⟩
  obtain ⟨t, ht, hts⟩ := HCE.out k (by omega)
  have hc := (hk1.cell (o := k) hbw (by omega)).trans ht
  have HC1 := Lib.hid hc1
  have HK1 := Lib.hid hk1
  clear hc1 hk1 ht
  go_wp2_with fail
  go_ret
  exact ⟨t, rfl, hts, HC1.out, HK1.out⟩
theorem str_mem {l : List Value} {P : Value → Prop} {a : Value} (h : P a) (g : ∀ u ∈ l, P u) : ∀ u ∈ a :: l, P u := fun u hu => by
  rcases List.mem_cons.1 hu with rfl | hu
  · exact h
  · exact g u hu
theorem phraseTexts_any (w : World) :
    Calls Try.prog 152 #[] w fun e w' => e = .returned (.slice (some ⟨w.heap.size, 0, Option.none⟩) 26 26) ∧ TxtR w' w.heap.size ∧ Below w.heap.size w w' := by
  go_enter Try.func152, Try.ntmps152
  go_wp2_with fail
  go_ret
  refine ⟨rfl, ⟨_, Blk.new w 9 _, rfl, ?_⟩, (Below.refl _ _).alloc (Nat.le_refl _) _⟩
  repeat (refine str_mem ⟨_, rfl, by decide⟩ ?_)
  intro u hu
  cases hu
set_option maxRecDepth 100000 in
set_option maxHeartbeats 8000000 in
theorem book_any (C m : Nat) (w : World) (h : Cur w C m) (hm : m ≤ 1099511600000) :
    Calls Try.prog 132 #[.pointer (some ⟨C, 0, Option.none⟩)] w fun e w' => ∃ v n, e = .returned (.agg #[v]) ∧ 1 ≤ n ∧ n ≤ 26 ∧ BkD w C (m + 20000) w' v n := by
  have HC := Lib.hid h.lt
  have HCU := Lib.hid h
  clear h
  go_enter Try.func132, Try.ntmps132
  have hW : BkS w C m ((w.alloc (.cells #[.slice Option.none 0 0] 28)).alloc (.cells #[.slice Option.none 0 0] 28)) (.slice Option.none 0 0) 0 → True := fun _ => trivial
  clear hW
  have hR : Blk ((w.alloc (.cells #[.slice Option.none 0 0] 28)).alloc (.cells #[.slice Option.none 0 0] 28)) w.heap.size 28 [.slice Option.none 0 0] := (Blk.new w _ _).alloc _
  have hB : Blk ((w.alloc (.cells #[.slice Option.none 0 0] 28)).alloc (.cells #[.slice Option.none 0 0] 28)) (w.heap.size + 1) 28 [.slice Option.none 0 0] := by
    have h1 := Blk.new (w.alloc (.cells #[.slice Option.none 0 0] 28)) 28 #[.slice Option.none 0 0]
    rwa [show (w.alloc (.cells #[.slice Option.none 0 0] 28)).heap.size = w.heap.size + 1 by simp] at h1
  have hsz : ((w.alloc (.cells #[.slice Option.none 0 0] 28)).alloc (.cells #[.slice Option.none 0 0] 28)).heap.size = w.heap.size + 2 := by simp
  have hbe : Below w.heap.size w ((w.alloc (.cells #[.slice Option.none 0 0] 28)).alloc (.cells #[.slice Option.none 0 0] 28)) := ((Below.refl _ _).alloc (Nat.le_refl _) _).alloc (by simp) _
  go_wp2_with fail
  generalize ((w.alloc (.cells #[.slice Option.none 0 0] 28)).alloc (.cells #[.slice Option.none 0 0] 28)) = wa at hR hB hsz hbe ⊢
  have cT := phraseTexts_any wa
  rw [hsz] at cT
  have CT := Lib.hid cT
  clear cT
  refine CT.out.mono ?_
  rintro e w1 ⟨rfl, htx, hb1⟩
  have D0 : Hid (BkS w C m w1 (.slice Option.none 0 0) 0) := ⟨hR.below hb1 (by omega), hB.below hb1 (by omega), htx, BookR.nil _ _ _, HCU.out.fresh (hbe.trans (hb1.mono (by omega))) HC.out, below_g (hbe.trans (hb1.mono (by omega)))⟩
  clear hR hB hsz hbe htx hb1 HCU CT
  go_wp2_with fail
  go_loopw [14] (fun i wr => ∃ (j n : Nat) (A : Option Addr) (c : Nat), j ≤ 26 ∧ n ≤ j ∧ (0 < j → 0 < n) ∧ i = .int .i64 (j : Int) ∧ Hid (BkS w C (m + 600 * j) wr (.slice A n c) n)) (fun i _ => 26 - (intOf i).toNat)
  case atStart => exact ⟨0, 0, Option.none, 0, by omega, Nat.le_refl _, by omega, rfl, D0.out⟩
  case round =>
    obtain ⟨j, n, A, c, hj, hnj, hpos, rfl, DR⟩ := hrel
    clear D0
    have hC1 := HC.out
    have hmb : m + 600 * j ≤ 1099511620000 := by omega
    have hle := DR.out.le
    by_cases hlt : j < 26
    · obtain ⟨tx, htx, htxs⟩ := DR.out.txt.at_ hlt
      have c1 := Lib.hid (one_any 2 C _ wr DR.out.cur (by omega) (by omega) (by omega))
      go_wp2_with fail
      refine c1.out.mono ?_
      rintro e w2 ⟨ob, rfl, hc2, hk2⟩
      have hbc := (DR.out.box.keepG hk2 (by omega)).cell 0
      have D2 := Lib.hid (DR.out.step hC1 hc2 hk2)
      clear hc2 hk2 DR htx c1
      by_cases hskip : ob = false ∧ 0 < n
      · obtain ⟨rfl, hn0⟩ := hskip
        have hgz : decide (0 < n) = true := decide_eq_true hn0
        go_wp2_with fail
        go_roundw
        case rel => exact ⟨j + 1, n, A, c, by omega, by omega, fun _ => hn0, by go_num, D2.out.mono (by omega)⟩
        case measure => (simp [intOf]; try omega)
      · have hgo : ob = true ∨ n = 0 := by
          cases ob
          · right
            rcases Nat.eq_zero_or_pos n with h | h
            · exact h
            · exact absurd ⟨rfl, h⟩ hskip
          · exact .inl rfl
        clear hskip
        have hl6 : Lst (w2.alloc (.cells #[.int .i64 2, .int .i64 4, .int .i64 60] 3)) C (.slice (some ⟨w2.heap.size, 0, Option.none⟩) 3 3) [2, 4, 60] := lst_new w2 C [2, 4, 60] D2.out.cur.lt (by simp) (by simp)
        have c6 := Lib.hid (among_any _ _ C _ _ (D2.out.cur.alloc _) (by omega) hl6)
        clear hl6
        rcases hgo with rfl | rfl
        · go_wp2_with fail
          refine c6.out.mono ?_
          rintro e w3 ⟨zm, rfl, hmm, hc3, hk3⟩
          have D3 := Lib.hid ((D2.out.alloc hC1 (.cells #[.int .i64 2, .int .i64 4, .int .i64 60] 3)).step hC1 hc3 hk3)
          have hz2 : 2 ≤ zm := by simp at hmm; omega
          have hz60 : zm ≤ 60 := by simp at hmm; omega
          clear hc3 hk3 hmm D2 c6
          go_wp2_with fail
          go_loopw [7] (fun q wr => ∃ r : Nat, r ≤ 9 ∧ (n = 0 → r = 0) ∧ q = .int .i64 (r : Int) ∧ Hid (BkS w C (m + 600 * j + 10 + 30 * r) wr (.slice A n c) n)) (fun q _ => 9 - (intOf q).toNat)
          case atStart => exact ⟨0, by omega, fun _ => rfl, rfl, D3.out.mono (by omega)⟩
          case round =>
            obtain ⟨r, hr, hr0, rfl, DT⟩ := hrel
            clear D3
            by_cases hrt : r < 9
            · have hleT := DT.out.le
              obtain ⟨M0, hM0⟩ : ∃ M0, M0 = m + 600 * j + 10 + 30 * r := ⟨_, rfl⟩
              rw [← hM0] at DT
              have X0 : Hid (XS wr C M0 wr.heap.size tx (wr.alloc (.cells #[.string tx, .slice Option.none 0 0] 40)) (.slice Option.none 0 0) []) := ⟨Blk.new wr _ _, World.ownsRow_nil _ _ _ _, DT.out.cur.alloc _, (KeepG.refl _ _ _).alloc _⟩
              have hsx : (wr.alloc (.cells #[.string tx, .slice Option.none 0 0] 40)).heap.size = wr.heap.size + 1 := by simp
              have hl7 := lst_new (wr.alloc (.cells #[.string tx, .slice Option.none 0 0] 40)) C [1, 1, 2, 2, 3] X0.out.cur.lt (by simp) (by simp)
              have c7 := among_any _ _ C _ _ (X0.out.cur.alloc (.cells (ints [1, 1, 2, 2, 3]).toArray 3)) (by omega) hl7
              rw [hsx] at c7
              have C7 : Hid (Calls Try.prog 110 #[.pointer (some ⟨C, 0, Option.none⟩), .slice (some ⟨wr.heap.size + 1, 0, Option.none⟩) 5 5] ((wr.alloc (.cells #[.string tx, .slice Option.none 0 0] 40)).alloc (.cells #[.int .i64 1, .int .i64 1, .int .i64 2, .int .i64 2, .int .i64 3] 3)) (Drawn C (M0 + 2) ((wr.alloc (.cells #[.string tx, .slice Option.none 0 0] 40)).alloc (.cells #[.int .i64 1, .int .i64 1, .int .i64 2, .int .i64 2, .int .i64 3] 3)) (fun z => z ∈ [1, 1, 2, 2, 3]))) := c7
              clear hl7 c7 hsx
              obtain ⟨wo, hwo⟩ : ∃ wo, wo = wr := ⟨_, rfl⟩
              subst hwo
              go_wp2_with fail
              refine C7.out.mono ?_
              rintro e w4 ⟨zk, rfl, hmk, hc4, hk4⟩
              have X4 := Lib.hid ((X0.out.step (by omega) (X0.out.cur.alloc (.cells #[.int .i64 1, .int .i64 1, .int .i64 2, .int .i64 2, .int .i64 3] 3)) ((KeepG.refl _ _ _).alloc _)).step (show C < wo.heap.size by omega) hc4 hk4)
              obtain ⟨k0, hk0, hk3, hk1⟩ : ∃ k0 : Nat, zk = (k0 : Int) ∧ k0 ≤ 3 ∧ 1 ≤ k0 := ⟨zk.toNat, by simp at hmk; omega, by simp at hmk; omega, by simp at hmk; omega⟩
              subst hk0
              clear hc4 hk4 hmk X0 C7
              go_wp2_with fail
              go_loopw [9] (fun q wr => ∃ (q0 : Nat) (xs : List Int) (A1 : Option Addr) (c1 : Nat), q0 ≤ 3 ∧ q = .int .i64 (q0 : Int) ∧ (1 ≤ xs.length + q0 ∧ xs.length + q0 ≤ 3) ∧ Hid (XS wo C (M0 + 2 + 2 * (3 - q0)) wo.heap.size tx wr (.slice A1 xs.length c1) xs)) (fun q _ => (intOf q).toNat)
              case atStart => exact ⟨k0, [], Option.none, 0, hk3, rfl, by simp; omega, X4.out.mono (by omega)⟩
              case round =>
                obtain ⟨q0, xs, A1, c1, hq3, rfl, hxq, XR⟩ := hrel
                clear X4
                by_cases hq : 0 < q0
                · obtain ⟨M1, hM1⟩ : ∃ M1, M1 = M0 + 2 + 2 * (3 - q0) := ⟨_, rfl⟩
                  rw [← hM1] at XR
                  have hcD : Cur wr.drew C M1 := XR.out.cur
                  have XD : XS wo C M1 wo.heap.size tx wr.drew (.slice A1 xs.length c1) xs := XR.out.step (show C < wo.heap.size by omega) hcD (KeepG.drawN wr 1)
                  have hx1 := XR.out.box.cell 1
                  go_wp2_with fail
                  go_region_law (first
                    | ((go_simp; go_at_call 94; (with_reducible refine (pick_any zm C M1 _ hcD (by omega) (by omega) (by omega)).mono ?_); rintro e w5 ⟨z5, rfl, ⟨hz5, hy5⟩, hc5, hk5⟩; have X5 := XD.step (show C < wo.heap.size by omega) hc5 hk5; have hx5 := X5.box.cell 1; have hx5b := (X5.box.alloc (.cells #[.int .i64 (IntKind.i64.wrap (1 + z5))] 3)).cell 1; have hw5 : 1 + z5 ≤ 60 := (by omega)))
                    | ((refine step_appR (by rfl) (.tmp 44) (.tmp 49) (by rfl) (X5.gr.belowR ((Below.refl _ _).alloc (Nat.le_refl _) _)) (one_rd w5 (IntKind.i64.wrap (1 + z5))) (by simp; omega) (by rfl) (by rfl) ?_; intro v6 w6 hg6; obtain ⟨A6, c6, hv6, _, _⟩ := Rd.form hg6.own.rd; subst hv6; have X6 := X5.put (show C < wo.heap.size by omega) (Nat.le_refl _) hg6; have hb6 := X5.box.below hg6.2.1 (show wo.heap.size < wo.heap.size + 1 by omega); have hx6 := hb6.cell 1; have hf6 := hb6.frozen 1)))
                  all_goals
                    have X7 := Lib.hid X6
                    clear hx1 hx5 hx5b hc5 hk5 hcD XD X5 X6 hg6 hb6 hx6 hf6
                    have hl6 : (xs ++ [IntKind.i64.wrap (1 + z5)]).length = xs.length + 1 := by simp
                    rw [hl6] at X7
                    try rw [hl6]
                    go_wp2_with fail
                    go_roundw
                    case rel => exact ⟨q0 - 1, xs ++ [IntKind.i64.wrap (1 + z5)], A6, c6, by omega, by go_num, by rw [hl6]; omega, by rw [hl6]; exact X7.out.mono (by omega)⟩
                    case measure => (simp [intOf]; try omega)
                · obtain rfl : q0 = 0 := by omega
                  have D5 := Lib.hid (DT.out.step hC1 XR.out.cur XR.out.keep)
                  have hle5 := D5.out.le
                  obtain ⟨ps, hpl, hps⟩ := D5.out.row.rd
                  have cb := bkOf_any ps xs (.agg #[.slice A n c]) (.slice A1 xs.length c1) wr.heap.size wr.heap.size wr ⟨_, rfl, hps⟩ XR.out.own.rd (Nat.le_refl _) (Nat.le_refl _)
                  have hbx := D5.out.box.cell 0
                  have hx1 := XR.out.box.cell 1
                  clear DT hps
                  cases hsi : sigIx ps xs with
                  | none =>
                    have hix : ixI (sigIx ps xs) = -1 := by rw [hsi]; rfl
                    rw [hix] at cb
                    have CB := Lib.hid cb
                    clear cb hsi hix
                    go_wp2_with fail
                    refine CB.out.mono ?_
                    rintro e w7 ⟨rfl, hb7⟩
                    have D7 := Lib.hid (D5.out.step hC1 (D5.out.cur.fresh hb7 (by omega)) (below_g hb7))
                    have X7 := Lib.hid (XR.out.step (show C < wo.heap.size by omega) (XR.out.cur.fresh hb7 (by omega)) (below_g hb7))
                    have hbx7 := D7.out.box.cell 0
                    have hx70 := X7.out.box.cell 0
                    have hx71 := X7.out.box.cell 1
                    clear D5 XR hb7 CB hbx hx1
                    go_wp2_with (at_builtin; refine BookR.app rfl (.tmp 58) (.tmp 60) rfl D7.out.row (by have := D7.out.le; omega) (IntSl.own (World.ownsRow.mono X7.out.row (show w.heap.size + 2 ≤ wo.heap.size + 1 by omega)) (by omega) (by omega)) htxs (by omega) rfl rfl ?_; intro v8 w8 hbk8 hb8 hfr8 hs8; obtain ⟨A8, c8, hv8⟩ := hbk8.form; subst hv8; have D8 := Lib.hid (D7.out.put hC1 hbk8 hb8 hfr8); have hbx8 := (D7.out.box.below hb8 (by omega)).cell 0; have hfx8 := (D7.out.box.below hb8 (by omega)).frozen 0; clear hbk8 hb8 hfr8)
                    go_roundw
                    case rel => exact ⟨j + 1, n + 1, A8, c8, by omega, by omega, fun _ => by omega, by go_num, D8.out.mono (by omega)⟩
                    case measure => (simp [intOf]; try omega)
                  | some k =>
                    have hix : ixI (sigIx ps xs) = (k : Int) := by rw [hsi]; rfl
                    have hN : n ≠ 0 := by
                      intro h0
                      rw [h0] at hpl
                      rw [List.eq_nil_of_length_eq_zero hpl] at hsi
                      cases hsi
                    rw [hix] at cb
                    have CB := Lib.hid cb
                    clear cb hsi hix
                    go_wp2_with fail
                    refine CB.out.mono ?_
                    rintro e w7 ⟨rfl, hb7⟩
                    have D7 := Lib.hid (D5.out.step hC1 (D5.out.cur.fresh hb7 (by omega)) (below_g hb7))
                    clear D5 XR hb7 CB hbx hx1
                    go_wp2_with fail
                    go_roundw
                    case rel => exact ⟨r + 1, by omega, fun h => absurd h hN, by go_num, D7.out.mono (by omega)⟩
                    case measure => (simp [intOf]; try omega)
            · obtain rfl : r = 9 := by omega
              have hN : 0 < n := by
                rcases Nat.eq_zero_or_pos n with h | h
                · have := hr0 h; omega
                · exact h
              go_wp2_with fail
              go_roundw
              case rel => exact ⟨j + 1, n, A, c, by omega, by omega, fun _ => hN, by go_num, DT.out.mono (by omega)⟩
              case measure => (simp [intOf]; try omega)
        · cases ob
          · go_wp2_with fail
            refine c6.out.mono ?_
            rintro e w3 ⟨zm, rfl, hmm, hc3, hk3⟩
            have D3 := Lib.hid ((D2.out.alloc hC1 (.cells #[.int .i64 2, .int .i64 4, .int .i64 60] 3)).step hC1 hc3 hk3)
            have hz2 : 2 ≤ zm := by simp at hmm; omega
            have hz60 : zm ≤ 60 := by simp at hmm; omega
            clear hc3 hk3 hmm D2 c6
            go_wp2_with fail
            go_loopw [7] (fun q wr => ∃ r : Nat, r ≤ 9 ∧ (0 = 0 → r = 0) ∧ q = .int .i64 (r : Int) ∧ Hid (BkS w C (m + 600 * j + 10 + 30 * r) wr (.slice A 0 c) 0)) (fun q _ => 9 - (intOf q).toNat)
            case atStart => exact ⟨0, by omega, fun _ => rfl, rfl, D3.out.mono (by omega)⟩
            case round =>
              obtain ⟨r, hr, hr0, rfl, DT⟩ := hrel
              clear D3
              by_cases hrt : r < 9
              · have hleT := DT.out.le
                obtain ⟨M0, hM0⟩ : ∃ M0, M0 = m + 600 * j + 10 + 30 * r := ⟨_, rfl⟩
                rw [← hM0] at DT
                have X0 : Hid (XS wr C M0 wr.heap.size tx (wr.alloc (.cells #[.string tx, .slice Option.none 0 0] 40)) (.slice Option.none 0 0) []) := ⟨Blk.new wr _ _, World.ownsRow_nil _ _ _ _, DT.out.cur.alloc _, (KeepG.refl _ _ _).alloc _⟩
                have hsx : (wr.alloc (.cells #[.string tx, .slice Option.none 0 0] 40)).heap.size = wr.heap.size + 1 := by simp
                have hl7 := lst_new (wr.alloc (.cells #[.string tx, .slice Option.none 0 0] 40)) C [1, 1, 2, 2, 3] X0.out.cur.lt (by simp) (by simp)
                have c7 := among_any _ _ C _ _ (X0.out.cur.alloc (.cells (ints [1, 1, 2, 2, 3]).toArray 3)) (by omega) hl7
                rw [hsx] at c7
                have C7 : Hid (Calls Try.prog 110 #[.pointer (some ⟨C, 0, Option.none⟩), .slice (some ⟨wr.heap.size + 1, 0, Option.none⟩) 5 5] ((wr.alloc (.cells #[.string tx, .slice Option.none 0 0] 40)).alloc (.cells #[.int .i64 1, .int .i64 1, .int .i64 2, .int .i64 2, .int .i64 3] 3)) (Drawn C (M0 + 2) ((wr.alloc (.cells #[.string tx, .slice Option.none 0 0] 40)).alloc (.cells #[.int .i64 1, .int .i64 1, .int .i64 2, .int .i64 2, .int .i64 3] 3)) (fun z => z ∈ [1, 1, 2, 2, 3]))) := c7
                clear hl7 c7 hsx
                obtain ⟨wo, hwo⟩ : ∃ wo, wo = wr := ⟨_, rfl⟩
                subst hwo
                go_wp2_with fail
                refine C7.out.mono ?_
                rintro e w4 ⟨zk, rfl, hmk, hc4, hk4⟩
                have X4 := Lib.hid ((X0.out.step (by omega) (X0.out.cur.alloc (.cells #[.int .i64 1, .int .i64 1, .int .i64 2, .int .i64 2, .int .i64 3] 3)) ((KeepG.refl _ _ _).alloc _)).step (show C < wo.heap.size by omega) hc4 hk4)
                obtain ⟨k0, hk0, hk3, hk1⟩ : ∃ k0 : Nat, zk = (k0 : Int) ∧ k0 ≤ 3 ∧ 1 ≤ k0 := ⟨zk.toNat, by simp at hmk; omega, by simp at hmk; omega, by simp at hmk; omega⟩
                subst hk0
                clear hc4 hk4 hmk X0 C7
                go_wp2_with fail
                go_loopw [9] (fun q wr => ∃ (q0 : Nat) (xs : List Int) (A1 : Option Addr) (c1 : Nat), q0 ≤ 3 ∧ q = .int .i64 (q0 : Int) ∧ (1 ≤ xs.length + q0 ∧ xs.length + q0 ≤ 3) ∧ Hid (XS wo C (M0 + 2 + 2 * (3 - q0)) wo.heap.size tx wr (.slice A1 xs.length c1) xs)) (fun q _ => (intOf q).toNat)
                case atStart => exact ⟨k0, [], Option.none, 0, hk3, rfl, by simp; omega, X4.out.mono (by omega)⟩
                case round =>
                  obtain ⟨q0, xs, A1, c1, hq3, rfl, hxq, XR⟩ := hrel
                  clear X4
                  by_cases hq : 0 < q0
                  · obtain ⟨M1, hM1⟩ : ∃ M1, M1 = M0 + 2 + 2 * (3 - q0) := ⟨_, rfl⟩
                    rw [← hM1] at XR
                    have hcD : Cur wr.drew C M1 := XR.out.cur
                    have XD : XS wo C M1 wo.heap.size tx wr.drew (.slice A1 xs.length c1) xs := XR.out.step (show C < wo.heap.size by omega) hcD (KeepG.drawN wr 1)
                    have hx1 := XR.out.box.cell 1
                    go_wp2_with fail
                    go_region_law (first
                      | ((go_simp; go_at_call 94; (with_reducible refine (pick_any zm C M1 _ hcD (by omega) (by omega) (by omega)).mono ?_); rintro e w5 ⟨z5, rfl, ⟨hz5, hy5⟩, hc5, hk5⟩; have X5 := XD.step (show C < wo.heap.size by omega) hc5 hk5; have hx5 := X5.box.cell 1; have hx5b := (X5.box.alloc (.cells #[.int .i64 (IntKind.i64.wrap (1 + z5))] 3)).cell 1; have hw5 : 1 + z5 ≤ 60 := (by omega)))
                      | ((refine step_appR (by rfl) (.tmp 44) (.tmp 49) (by rfl) (X5.gr.belowR ((Below.refl _ _).alloc (Nat.le_refl _) _)) (one_rd w5 (IntKind.i64.wrap (1 + z5))) (by simp; omega) (by rfl) (by rfl) ?_; intro v6 w6 hg6; obtain ⟨A6, c6, hv6, _, _⟩ := Rd.form hg6.own.rd; subst hv6; have X6 := X5.put (show C < wo.heap.size by omega) (Nat.le_refl _) hg6; have hb6 := X5.box.below hg6.2.1 (show wo.heap.size < wo.heap.size + 1 by omega); have hx6 := hb6.cell 1; have hf6 := hb6.frozen 1)))
                    all_goals
                      have X7 := Lib.hid X6
                      clear hx1 hx5 hx5b hc5 hk5 hcD XD X5 X6 hg6 hb6 hx6 hf6
                      have hl6 : (xs ++ [IntKind.i64.wrap (1 + z5)]).length = xs.length + 1 := by simp
                      rw [hl6] at X7
                      try rw [hl6]
                      go_wp2_with fail
                      go_roundw
                      case rel => exact ⟨q0 - 1, xs ++ [IntKind.i64.wrap (1 + z5)], A6, c6, by omega, by go_num, by rw [hl6]; omega, by rw [hl6]; exact X7.out.mono (by omega)⟩
                      case measure => (simp [intOf]; try omega)
                  · obtain rfl : q0 = 0 := by omega
                    have D5 := Lib.hid (DT.out.step hC1 XR.out.cur XR.out.keep)
                    have hle5 := D5.out.le
                    obtain ⟨ps, hpl, hps⟩ := D5.out.row.rd
                    have cb := bkOf_any ps xs (.agg #[.slice A 0 c]) (.slice A1 xs.length c1) wr.heap.size wr.heap.size wr ⟨_, rfl, hps⟩ XR.out.own.rd (Nat.le_refl _) (Nat.le_refl _)
                    have hbx := D5.out.box.cell 0
                    have hx1 := XR.out.box.cell 1
                    clear DT hps
                    cases hsi : sigIx ps xs with
                    | none =>
                      have hix : ixI (sigIx ps xs) = -1 := by rw [hsi]; rfl
                      rw [hix] at cb
                      have CB := Lib.hid cb
                      clear cb hsi hix
                      go_wp2_with fail
                      refine CB.out.mono ?_
                      rintro e w7 ⟨rfl, hb7⟩
                      have D7 := Lib.hid (D5.out.step hC1 (D5.out.cur.fresh hb7 (by omega)) (below_g hb7))
                      have X7 := Lib.hid (XR.out.step (show C < wo.heap.size by omega) (XR.out.cur.fresh hb7 (by omega)) (below_g hb7))
                      have hbx7 := D7.out.box.cell 0
                      have hx70 := X7.out.box.cell 0
                      have hx71 := X7.out.box.cell 1
                      clear D5 XR hb7 CB hbx hx1
                      go_wp2_with (at_builtin; refine BookR.app rfl (.tmp 58) (.tmp 60) rfl D7.out.row (by have := D7.out.le; omega) (IntSl.own (World.ownsRow.mono X7.out.row (show w.heap.size + 2 ≤ wo.heap.size + 1 by omega)) (by omega) (by omega)) htxs (by omega) rfl rfl ?_; intro v8 w8 hbk8 hb8 hfr8 hs8; obtain ⟨A8, c8, hv8⟩ := hbk8.form; subst hv8; have D8 := Lib.hid (D7.out.put hC1 hbk8 hb8 hfr8); have hbx8 := (D7.out.box.below hb8 (by omega)).cell 0; have hfx8 := (D7.out.box.below hb8 (by omega)).frozen 0; clear hbk8 hb8 hfr8)
                      go_roundw
                      case rel => exact ⟨j + 1, 0 + 1, A8, c8, by omega, by omega, fun _ => by omega, by go_num, D8.out.mono (by omega)⟩
                      case measure => (simp [intOf]; try omega)
                    | some k =>
                      exfalso
                      rw [List.eq_nil_of_length_eq_zero hpl] at hsi
                      cases hsi
              · exfalso
                have := hr0 rfl
                omega
          · go_wp2_with fail
            refine c6.out.mono ?_
            rintro e w3 ⟨zm, rfl, hmm, hc3, hk3⟩
            have D3 := Lib.hid ((D2.out.alloc hC1 (.cells #[.int .i64 2, .int .i64 4, .int .i64 60] 3)).step hC1 hc3 hk3)
            have hz2 : 2 ≤ zm := by simp at hmm; omega
            have hz60 : zm ≤ 60 := by simp at hmm; omega
            clear hc3 hk3 hmm D2 c6
            go_wp2_with fail
            go_loopw [7] (fun q wr => ∃ r : Nat, r ≤ 9 ∧ (0 = 0 → r = 0) ∧ q = .int .i64 (r : Int) ∧ Hid (BkS w C (m + 600 * j + 10 + 30 * r) wr (.slice A 0 c) 0)) (fun q _ => 9 - (intOf q).toNat)
            case atStart => exact ⟨0, by omega, fun _ => rfl, rfl, D3.out.mono (by omega)⟩
            case round =>
              obtain ⟨r, hr, hr0, rfl, DT⟩ := hrel
              clear D3
              by_cases hrt : r < 9
              · have hleT := DT.out.le
                obtain ⟨M0, hM0⟩ : ∃ M0, M0 = m + 600 * j + 10 + 30 * r := ⟨_, rfl⟩
                rw [← hM0] at DT
                have X0 : Hid (XS wr C M0 wr.heap.size tx (wr.alloc (.cells #[.string tx, .slice Option.none 0 0] 40)) (.slice Option.none 0 0) []) := ⟨Blk.new wr _ _, World.ownsRow_nil _ _ _ _, DT.out.cur.alloc _, (KeepG.refl _ _ _).alloc _⟩
                have hsx : (wr.alloc (.cells #[.string tx, .slice Option.none 0 0] 40)).heap.size = wr.heap.size + 1 := by simp
                have hl7 := lst_new (wr.alloc (.cells #[.string tx, .slice Option.none 0 0] 40)) C [1, 1, 2, 2, 3] X0.out.cur.lt (by simp) (by simp)
                have c7 := among_any _ _ C _ _ (X0.out.cur.alloc (.cells (ints [1, 1, 2, 2, 3]).toArray 3)) (by omega) hl7
                rw [hsx] at c7
                have C7 : Hid (Calls Try.prog 110 #[.pointer (some ⟨C, 0, Option.none⟩), .slice (some ⟨wr.heap.size + 1, 0, Option.none⟩) 5 5] ((wr.alloc (.cells #[.string tx, .slice Option.none 0 0] 40)).alloc (.cells #[.int .i64 1, .int .i64 1, .int .i64 2, .int .i64 2, .int .i64 3] 3)) (Drawn C (M0 + 2) ((wr.alloc (.cells #[.string tx, .slice Option.none 0 0] 40)).alloc (.cells #[.int .i64 1, .int .i64 1, .int .i64 2, .int .i64 2, .int .i64 3] 3)) (fun z => z ∈ [1, 1, 2, 2, 3]))) := c7
                clear hl7 c7 hsx
                obtain ⟨wo, hwo⟩ : ∃ wo, wo = wr := ⟨_, rfl⟩
                subst hwo
                go_wp2_with fail
                refine C7.out.mono ?_
                rintro e w4 ⟨zk, rfl, hmk, hc4, hk4⟩
                have X4 := Lib.hid ((X0.out.step (by omega) (X0.out.cur.alloc (.cells #[.int .i64 1, .int .i64 1, .int .i64 2, .int .i64 2, .int .i64 3] 3)) ((KeepG.refl _ _ _).alloc _)).step (show C < wo.heap.size by omega) hc4 hk4)
                obtain ⟨k0, hk0, hk3, hk1⟩ : ∃ k0 : Nat, zk = (k0 : Int) ∧ k0 ≤ 3 ∧ 1 ≤ k0 := ⟨zk.toNat, by simp at hmk; omega, by simp at hmk; omega, by simp at hmk; omega⟩
                subst hk0
                clear hc4 hk4 hmk X0 C7
                go_wp2_with fail
                go_loopw [9] (fun q wr => ∃ (q0 : Nat) (xs : List Int) (A1 : Option Addr) (c1 : Nat), q0 ≤ 3 ∧ q = .int .i64 (q0 : Int) ∧ (1 ≤ xs.length + q0 ∧ xs.length + q0 ≤ 3) ∧ Hid (XS wo C (M0 + 2 + 2 * (3 - q0)) wo.heap.size tx wr (.slice A1 xs.length c1) xs)) (fun q _ => (intOf q).toNat)
                case atStart => exact ⟨k0, [], Option.none, 0, hk3, rfl, by simp; omega, X4.out.mono (by omega)⟩
                case round =>
                  obtain ⟨q0, xs, A1, c1, hq3, rfl, hxq, XR⟩ := hrel
                  clear X4
                  by_cases hq : 0 < q0
                  · obtain ⟨M1, hM1⟩ : ∃ M1, M1 = M0 + 2 + 2 * (3 - q0) := ⟨_, rfl⟩
                    rw [← hM1] at XR
                    have hcD : Cur wr.drew C M1 := XR.out.cur
                    have XD : XS wo C M1 wo.heap.size tx wr.drew (.slice A1 xs.length c1) xs := XR.out.step (show C < wo.heap.size by omega) hcD (KeepG.drawN wr 1)
                    have hx1 := XR.out.box.cell 1
                    go_wp2_with fail
                    go_region_law (first
                      | ((go_simp; go_at_call 94; (with_reducible refine (pick_any zm C M1 _ hcD (by omega) (by omega) (by omega)).mono ?_); rintro e w5 ⟨z5, rfl, ⟨hz5, hy5⟩, hc5, hk5⟩; have X5 := XD.step (show C < wo.heap.size by omega) hc5 hk5; have hx5 := X5.box.cell 1; have hx5b := (X5.box.alloc (.cells #[.int .i64 (IntKind.i64.wrap (1 + z5))] 3)).cell 1; have hw5 : 1 + z5 ≤ 60 := (by omega)))
                      | ((refine step_appR (by rfl) (.tmp 44) (.tmp 49) (by rfl) (X5.gr.belowR ((Below.refl _ _).alloc (Nat.le_refl _) _)) (one_rd w5 (IntKind.i64.wrap (1 + z5))) (by simp; omega) (by rfl) (by rfl) ?_; intro v6 w6 hg6; obtain ⟨A6, c6, hv6, _, _⟩ := Rd.form hg6.own.rd; subst hv6; have X6 := X5.put (show C < wo.heap.size by omega) (Nat.le_refl _) hg6; have hb6 := X5.box.below hg6.2.1 (show wo.heap.size < wo.heap.size + 1 by omega); have hx6 := hb6.cell 1; have hf6 := hb6.frozen 1)))
                    all_goals
                      have X7 := Lib.hid X6
                      clear hx1 hx5 hx5b hc5 hk5 hcD XD X5 X6 hg6 hb6 hx6 hf6
                      have hl6 : (xs ++ [IntKind.i64.wrap (1 + z5)]).length = xs.length + 1 := by simp
                      rw [hl6] at X7
                      try rw [hl6]
                      go_wp2_with fail
                      go_roundw
                      case rel => exact ⟨q0 - 1, xs ++ [IntKind.i64.wrap (1 + z5)], A6, c6, by omega, by go_num, by rw [hl6]; omega, by rw [hl6]; exact X7.out.mono (by omega)⟩
                      case measure => (simp [intOf]; try omega)
                  · obtain rfl : q0 = 0 := by omega
                    have D5 := Lib.hid (DT.out.step hC1 XR.out.cur XR.out.keep)
                    have hle5 := D5.out.le
                    obtain ⟨ps, hpl, hps⟩ := D5.out.row.rd
                    have cb := bkOf_any ps xs (.agg #[.slice A 0 c]) (.slice A1 xs.length c1) wr.heap.size wr.heap.size wr ⟨_, rfl, hps⟩ XR.out.own.rd (Nat.le_refl _) (Nat.le_refl _)
                    have hbx := D5.out.box.cell 0
                    have hx1 := XR.out.box.cell 1
                    clear DT hps
                    cases hsi : sigIx ps xs with
                    | none =>
                      have hix : ixI (sigIx ps xs) = -1 := by rw [hsi]; rfl
                      rw [hix] at cb
                      have CB := Lib.hid cb
                      clear cb hsi hix
                      go_wp2_with fail
                      refine CB.out.mono ?_
                      rintro e w7 ⟨rfl, hb7⟩
                      have D7 := Lib.hid (D5.out.step hC1 (D5.out.cur.fresh hb7 (by omega)) (below_g hb7))
                      have X7 := Lib.hid (XR.out.step (show C < wo.heap.size by omega) (XR.out.cur.fresh hb7 (by omega)) (below_g hb7))
                      have hbx7 := D7.out.box.cell 0
                      have hx70 := X7.out.box.cell 0
                      have hx71 := X7.out.box.cell 1
                      clear D5 XR hb7 CB hbx hx1
                      go_wp2_with (at_builtin; refine BookR.app rfl (.tmp 58) (.tmp 60) rfl D7.out.row (by have := D7.out.le; omega) (IntSl.own (World.ownsRow.mono X7.out.row (show w.heap.size + 2 ≤ wo.heap.size + 1 by omega)) (by omega) (by omega)) htxs (by omega) rfl rfl ?_; intro v8 w8 hbk8 hb8 hfr8 hs8; obtain ⟨A8, c8, hv8⟩ := hbk8.form; subst hv8; have D8 := Lib.hid (D7.out.put hC1 hbk8 hb8 hfr8); have hbx8 := (D7.out.box.below hb8 (by omega)).cell 0; have hfx8 := (D7.out.box.below hb8 (by omega)).frozen 0; clear hbk8 hb8 hfr8)
                      go_roundw
                      case rel => exact ⟨j + 1, 0 + 1, A8, c8, by omega, by omega, fun _ => by omega, by go_num, D8.out.mono (by omega)⟩
                      case measure => (simp [intOf]; try omega)
                    | some k =>
                      exfalso
                      rw [List.eq_nil_of_length_eq_zero hpl] at hsi
                      cases hsi
              · exfalso
                have := hr0 rfl
                omega
    · obtain rfl : j = 26 := by omega
      have hn0 : 0 < n := hpos (by omega)
      have c1 := Lib.hid (one_any 2 C _ wr DR.out.cur (by omega) (by omega) (by omega))
      go_wp2_with fail
      refine c1.out.mono ?_
      rintro e w2 ⟨ob, rfl, hc2, hk2⟩
      have hbc := (DR.out.box.keepG hk2 (by omega)).cell 0
      have D2 := Lib.hid (DR.out.step hC1 hc2 hk2)
      obtain ⟨M2, hM2⟩ : ∃ M2, M2 = m + 600 * 26 + 2 := ⟨_, rfl⟩
      rw [← hM2] at D2
      clear hc2 hk2 DR c1
      cases ob
      · have hrc := D2.out.res.cell 0
        have hrf := D2.out.res.frozen 0
        have HD := Lib.hid (D2.out.done (u := .slice A n c) hC1)
        have c10 := (D2.out.res.set_ 0 (.slice A n c)).cell 0
        go_wp2_with fail
        refine bodyPost_ret (v := .agg #[.slice A n c]) (by simp [results, Try.results132, go_sem, c10]) rfl ?_
        exact ⟨_, n, rfl, by omega, by omega, HD.out.1, HD.out.2.1.mono (by omega), HD.out.2.2⟩
      · obtain ⟨g, c1, hv, hg, cur, hgc⟩ := D2.out.row.pos hn0
        cases hv
        clear hgc
        go_wp2_with fail
        go_loopw [69] (fun q wr => ∃ r : Nat, r ≤ n ∧ q = .int .i64 (r : Int) ∧ Hid (BkS w C M2 wr (.slice (some ⟨g, 0, Option.none⟩) n c) n)) (fun q _ => n - (intOf q).toNat)
        case atStart => exact ⟨0, Nat.zero_le _, rfl, D2.out⟩
        case round =>
          obtain ⟨r, hr, rfl, DS⟩ := hrel
          clear D2
          have hbs := DS.out.box.cell 0
          have hles := DS.out.le
          by_cases hrn : r < n
          · obtain ⟨g2, c2, hv, _, cur, hgc⟩ := DS.out.row.pos hn0
            cases hv
            have DA := DS.out.alloc hC1 (.cells #[.int .i64 (1 + (r : Int))] 3)
            obtain ⟨tt, uu, hct, hcu, hiu, _, hft, hfu⟩ := DA.row.at_ hrn
            obtain ⟨Au, nu, cu, rfl, _⟩ := hiu.form
            have hgA : (wr.alloc (.cells #[.int .i64 (1 + (r : Int))] 3)).heap[g]? = some (.cells cur 40 (0, 0)) := ((Below.heap_alloc wr _ g (Array.getElem?_eq_some_iff.1 hgc).1)).trans hgc
            have DP := Lib.hid (DA.sig hC1 hg hgA r (intsl_one wr (w.heap.size + 2) (by omega) _))
            clear hgc hgA DA hiu
            go_wp2_with fail
            go_roundw
            case rel => exact ⟨r + 1, by omega, by go_num, DP.out⟩
            case measure => (simp [intOf]; try omega)
          · obtain rfl : r = n := by omega
            have hrc := DS.out.res.cell 0
            have hrf := DS.out.res.frozen 0
            have HD := Lib.hid (DS.out.done (u := .slice (some ⟨g, 0, Option.none⟩) r c) hC1)
            have c10 := (DS.out.res.set_ 0 (.slice (some ⟨g, 0, Option.none⟩) r c)).cell 0
            go_wp2_with fail
            refine bodyPost_ret (v := .agg #[.slice (some ⟨g, 0, Option.none⟩) r c]) (by simp [results, Try.results132, go_sem, c10]) rfl ?_
            exact ⟨_, r, rfl, by omega, by omega, HD.out.1, HD.out.2.1.mono (by omega), HD.out.2.2⟩
end Go.Proofs.Ytjnkdjokbamibaa
/- Contracts: books of many phrases. -/
namespace Go.Proofs.Ytjnkdjokbamibaa
open Go.RowKit
theorem BookR.below {w w' : World} {lo p n : Nat} {v : Value} (h : BookR w lo p v n) (hb : Below w.heap.size w w') : BookR w' lo p v n := by
  obtain ⟨ts, us, h1, h2, h3, h4, h5⟩ := h
  exact ⟨ts, us, h1, h2, owns_below h3 (fun k hk => (h3.lt k hk).2) hb (Nat.le_refl _), h4, fun u hu => (h5 u hu).kept (.below hb)⟩
theorem BookR.lo {w : World} {lo lo' p n : Nat} {v : Value} (h : BookR w lo p v n) (hl : lo' ≤ lo) : BookR w lo' p v n := by
  obtain ⟨ts, us, h1, h2, h3, h4, h5⟩ := h
  refine ⟨ts, us, h1, h2, World.ownsRow.mono h3 hl, h4, fun u hu => ?_⟩
  rcases h5 u hu with h6 | ⟨b, n, c, cur, g1, g2, g3⟩
  · exact .inl h6
  · exact .inr ⟨b, n, c, cur, g1, by omega, g3⟩
theorem BookR.appG {wr : World} {lo p n g : Nat} {v : Value} {t : ByteArray} {A : Option Addr} {n1 c1 : Nat} {ops : Array Oper} {rest : List Oper} {o : Oper} {a : Act} {Q : Exit → Act → World → Prop} (hgd : o.guard = Option.none) (s x : Operand)
    (ho : o.op = .call { callee := .builtin .append, args := #[s, x], argTypes := #[26, 26] }) (hG : BookR wr lo p v n) (hlo : lo ≤ wr.heap.size) (hu : IntSl wr lo p (.slice A n1 c1)) (ht : t.size ≤ 1000) (hlen : n < 1000000)
    (hs : a.eval s = v) (hg : g = wr.heap.size) (hx : a.eval x = .slice (some ⟨g, 0, Option.none⟩) 1 1)
    (h : ∀ v' w', BookR w' lo p v' (n + 1) → Below lo wr w' → FrP wr w' → wr.heap.size ≤ w'.heap.size → wpList Try.prog ops Q rest (a.put o.dst v') w') : wpList Try.prog ops Q (o :: rest) a (wr.alloc (.cells #[.string t, .slice A n1 c1] 40)) := by
  subst hg
  exact BookR.app hgd s x ho hG hlo hu ht hlen hs hx h
theorem IntSl.alloc {w : World} {lo p : Nat} {u : Value} (h : IntSl w lo p u) (o : Obj) : IntSl (w.alloc o) lo p u := h.kept ((IntsKept.refl _ _).alloc o)
theorem BookR.alloc {w : World} {lo p n : Nat} {v : Value} (h : BookR w lo p v n) (o : Obj) : BookR (w.alloc o) lo p v n := h.below ((Below.refl _ _).alloc (Nat.le_refl _) _)
theorem intsl_lit {w : World} {lo g n : Nat} {arr : Array Value} (xs : List Int) (ha : arr.toList = ints xs) (hg : g = w.heap.size) (hn : n = xs.length) (hlo : lo ≤ w.heap.size) (hx : xs.length ≤ 1000) (hp : 1 ≤ xs.length) : IntSl (w.alloc (.cells arr 3)) lo 1 (.slice (some ⟨g, 0, Option.none⟩) n n) := by
  subst hg hn
  have hb := Blk.new w 3 arr
  refine .inr ⟨w.heap.size, xs.length, xs.length, arr, rfl, hlo, ⟨hp, hx, Nat.le_refl _⟩, by omega, hb, fun j hj => ⟨xs[j], ?_⟩⟩
  have h1 : arr.toList[j]? = some (.int .i64 xs[j]) := by rw [ha]; unfold ints; rw [List.getElem?_map, List.getElem?_eq_getElem hj]; rfl
  simpa using h1
theorem conv_two (z y : Int) (h0 : 0 ≤ z) (h1 : z < 256) (g0 : 0 ≤ y) (g1 : y < 256) (wr : World) :
    (convert 45 9 (.slice (some ⟨wr.heap.size, 0, Option.none⟩) 2 2)).run Try.prog (wr.alloc (.cells #[.int .u8 z, .int .u8 y] 5)) = .ok (.string ⟨#[UInt8.ofNat z.toNat, UInt8.ofNat y.toNat]⟩) (wr.alloc (.cells #[.int .u8 z, .int .u8 y] 5)) := by
  have hl : [UInt8.ofNat z.toNat, UInt8.ofNat y.toNat].length = 2 := rfl
  have := run_convert_bytes_back (P := Try.prog) (wr.alloc (.cells #[.int .u8 z, .int .u8 y] 5)) 45 9 5 ⟨wr.heap.size, 0, Option.none⟩ 2 [UInt8.ofNat z.toNat, UInt8.ofNat y.toNat] Try.underlying45 Try.underlying5 Try.underlying9 (fun j hj => by
    have hb := (Blk.new wr 5 #[.int .u8 z, .int .u8 y]).cell j
    have hj2 : j = 0 ∨ j = 1 := by simp at hj; omega
    rcases hj2 with rfl | rfl
    · refine hb.trans ?_
      simp
      omega
    · refine hb.trans ?_
      simp
      omega)
  exact this
/-- Many phrases are being made: the result's box, the book's box, the row. -/
structure MpS (w : World) (wr : World) (v : Value) (n : Nat) : Prop where
  res : Blk wr w.heap.size 28 [.slice Option.none 0 0]
  box : Blk wr (w.heap.size + 1) 28 [v]
  row : BookR wr (w.heap.size + 2) 1 v n
  keep : Below w.heap.size w wr
theorem MpS.alloc {w wr : World} {v : Value} {n : Nat} (h : MpS w wr v n) (o : Obj) : MpS w (wr.alloc o) v n := by
  have hb : Below wr.heap.size wr (wr.alloc o) := (Below.refl _ _).alloc (Nat.le_refl _) _
  exact ⟨h.res.below hb h.res.lt, h.box.below hb h.box.lt, h.row.alloc o, h.keep.trans (hb.mono h.keep.size)⟩
theorem MpS.put {w wr w8 : World} {n k : Nat} {v v8 : Value} (h : MpS w wr v n) (hb : BookR w8 (w.heap.size + 2) 1 v8 k) (hB : Below (w.heap.size + 2) wr w8) : MpS w (w8.setCell ⟨w.heap.size + 1, 0, Option.none⟩ v8) v8 k := by
  have hx := h.box.below hB (by omega)
  exact ⟨(h.res.below hB (by omega)).far (p := ⟨w.heap.size + 1, 0, Option.none⟩) (by show w.heap.size ≠ w.heap.size + 1; omega) _, hx.set_ 0 v8,
    hb.far (p := ⟨w.heap.size + 1, 0, Option.none⟩) hx (.inl (by decide)) (.far fun cur e => by rw [show w8.heap[w.heap.size + 1]? = _ from hx] at e; cases e),
    h.keep.trans ((hB.mono (by omega)).setCell (p := ⟨w.heap.size + 1, 0, Option.none⟩) (show w.heap.size ≤ w.heap.size + 1 by omega) _)⟩
theorem MpS.done {w wr : World} {n : Nat} {v u : Value} (h : MpS w wr v n) : BookR (wr.setCell ⟨w.heap.size, 0, Option.none⟩ u) (w.heap.size + 2) 1 v n ∧ Below w.heap.size w (wr.setCell ⟨w.heap.size, 0, Option.none⟩ u) := by
  exact ⟨h.row.far (p := ⟨w.heap.size, 0, Option.none⟩) h.res (.inl (by decide)) (.far fun cur e => by rw [show wr.heap[w.heap.size]? = _ from h.res] at e; cases e), h.keep.setCell (p := ⟨w.heap.size, 0, Option.none⟩) (Nat.le_refl _) _⟩
set_option maxRecDepth 100000 in
set_option maxHeartbeats 1000000 in
theorem manyPhrases_any (n : Nat) (hn : n ≤ 41) (w : World) :
    Calls Try.prog 134 #[.int .i64 (n : Int)] w fun e w' => ∃ v, e = .returned (.agg #[v]) ∧ BookR w' (w.heap.size + 2) 1 v n ∧ Below w.heap.size w w' := by
  go_enter Try.func134, Try.ntmps134
  have D0 : Hid (MpS w ((w.alloc (.cells #[.slice Option.none 0 0] 28)).alloc (.cells #[.slice Option.none 0 0] 28)) (.slice Option.none 0 0) 0) := by
    refine ⟨(Blk.new w _ _).alloc _, ?_, BookR.nil _ _ _, ((Below.refl _ _).alloc (Nat.le_refl _) _).alloc (by simp) _⟩
    have h1 := Blk.new (w.alloc (.cells #[.slice Option.none 0 0] 28)) 28 #[.slice Option.none 0 0]
    rwa [show (w.alloc (.cells #[.slice Option.none 0 0] 28)).heap.size = w.heap.size + 1 by simp] at h1
  go_wp2_with fail
  go_loopw [4] (fun i wr => ∃ (j : Nat) (A : Option Addr) (c : Nat), j ≤ n ∧ i = .int .i64 (j : Int) ∧ Hid (MpS w wr (.slice A j c) j)) (fun i _ => n - (intOf i).toNat)
  case atStart => exact ⟨0, Option.none, 0, Nat.zero_le _, rfl, D0.out⟩
  case round =>
    obtain ⟨j, A, c, hj, rfl, DR⟩ := hrel
    clear D0
    by_cases hlt : j < n
    · have hbc := DR.out.box.cell 0
      have hbl := DR.out.box.lt
      have hcv := conv_two (97 + (j : Int) / 20) (97 + (j : Int) % 20) (by omega) (by omega) (by omega) (by omega) wr
      obtain ⟨ty, hty⟩ : ∃ ty : ByteArray, ty = ⟨#[UInt8.ofNat (97 + (j : Int) / 20).toNat, UInt8.ofNat (97 + (j : Int) % 20).toNat]⟩ := ⟨_, rfl⟩
      rw [← hty] at hcv
      have hts : ty.size ≤ 1000 := by rw [hty]; show 2 ≤ 1000; omega
      clear hty
      have DA := Lib.hid ((DR.out.alloc (.cells #[.int .u8 (97 + (j : Int) / 20), .int .u8 (97 + (j : Int) % 20)] 5)).alloc (.cells #[.int .i64 (1 + (j : Int) % 30), .int .i64 (1 + (j : Int) / 30)] 3))
      have HI := Lib.hid (intsl_lit (w := wr.alloc (.cells #[.int .u8 (97 + (j : Int) / 20), .int .u8 (97 + (j : Int) % 20)] 5)) (lo := w.heap.size + 2) (g := wr.heap.size + 1) (n := 2) (arr := #[.int .i64 (1 + (j : Int) % 30), .int .i64 (1 + (j : Int) / 30)]) [1 + (j : Int) % 30, 1 + (j : Int) / 30] rfl (by simp) rfl (by simp; omega) (by simp) (by simp))
      clear DR
      go_wp2_with (at_builtin; refine BookR.appG rfl (.tmp 12) (.tmp 31) rfl DA.out.row (by simp; omega) HI.out hts (by omega) rfl (by simp) rfl ?_; intro v8 w8 hbk8 hb8 hfr8 hs8; obtain ⟨A8, c8, hv8⟩ := hbk8.form; subst hv8; have D8 := Lib.hid (DA.out.put hbk8 hb8); have hbx8 := (DA.out.box.below hb8 (by omega)).cell 0; have hfx8 := (DA.out.box.below hb8 (by omega)).frozen 0; clear hbk8 hb8 hfr8)
      go_roundw
      case rel => exact ⟨j + 1, A8, c8, by omega, by go_num, D8.out⟩
      case measure => (simp [intOf]; try omega)
    · obtain rfl : j = n := by omega
      have hbc := DR.out.box.cell 0
      have hrc := DR.out.res.cell 0
      have hrf := DR.out.res.frozen 0
      have HD := Lib.hid (DR.out.done (u := .slice A j c))
      have c10 := (DR.out.res.set_ 0 (.slice A j c)).cell 0
      go_wp2_with fail
      refine bodyPost_ret (v := .agg #[.slice A j c]) (by simp [results, Try.results134, go_sem, c10]) rfl ?_
      exact ⟨_, rfl, HD.out.1, HD.out.2⟩
end Go.Proofs.Ytjnkdjokbamibaa
/- Contracts: any drawn book. -/
namespace Go.Proofs.Ytjnkdjokbamibaa
open Go.RowKit
/-- A drawn book is turned: the result's box, the book's box X, the row of phrases, the cursor. -/
structure AyS (w : World) (C m X p : Nat) (wr : World) (v : Value) (n : Nat) : Prop where
  res : Blk wr w.heap.size 28 [.slice Option.none 0 0]
  box : Blk wr X 28 [v]
  row : BookR wr (w.heap.size + 1) p v n
  cur : Cur wr C m
  keep : KeepG C (C + 1) w wr
  far : w.heap.size < X
theorem AyS.step {w wr w' : World} {C m m' X p n : Nat} {v : Value} (h : AyS w C m X p wr v n) (hC : C < w.heap.size) (hc : Cur w' C m') (hk : KeepG C (C + 1) wr w') : AyS w C m' X p w' v n := by
  have hx := h.far
  exact ⟨h.res.keepG hk (by omega), h.box.keepG hk (by omega), h.row.step hk (by omega), hc, h.keep.trans hk, hx⟩
theorem AyS.alloc {w wr : World} {C m X p n : Nat} {v : Value} (h : AyS w C m X p wr v n) (hC : C < w.heap.size) (o : Obj) : AyS w C m X p (wr.alloc o) v n := h.step hC (h.cur.alloc o) ((KeepG.refl _ _ _).alloc o)
theorem AyS.fresh {w wr w' : World} {C m X p n : Nat} {v : Value} (h : AyS w C m X p wr v n) (hC : C < w.heap.size) (hb : Below wr.heap.size wr w') : AyS w C m X p w' v n := h.step hC (h.cur.fresh hb (by have := h.res.lt; omega)) (below_g hb)
theorem AyS.zero {w wr : World} {C m X p n : Nat} {v : Value} (h : AyS w C m X p wr v n) : AyS w C m X 0 wr v n := ⟨h.res, h.box, h.row.zero, h.cur, h.keep, h.far⟩
theorem AyS.mono {w wr : World} {C m m' X p n : Nat} {v : Value} (h : AyS w C m X p wr v n) (hm : m ≤ m') : AyS w C m' X p wr v n := ⟨h.res, h.box, h.row, h.cur.mono hm, h.keep, h.far⟩
theorem AyS.ne {w wr : World} {C m X p n g : Nat} {v : Value} {cur : Array Value} {t : TypeId} (h : AyS w C m X p wr v n) (hg : wr.heap[g]? = some (.cells cur t (0, 0))) (ht : t ≠ 28) : g ≠ X ∧ g ≠ w.heap.size := by
  refine ⟨fun e => ?_, fun e => ?_⟩
  · have h1 := h.box; unfold Blk at h1; rw [← e, hg] at h1; cases h1; exact ht rfl
  · have h1 := h.res; unfold Blk at h1; rw [← e, hg] at h1; cases h1; exact ht rfl
/-- A store into a block from the book's own blocks. -/
theorem AyS.set_ {w wr : World} {C m X p p' n g : Nat} {v : Value} {cur : Array Value} {t : TypeId} (h : AyS w C m X p wr v n) (hC : C < w.heap.size) {q : Addr} {u : Value} (hq : q.block = g) (hg : wr.heap[g]? = some (.cells cur t (0, 0))) (ht : t ≠ 28) (hl : w.heap.size < g) (hr : BookR (wr.setCell q u) (w.heap.size + 1) p' v n) : AyS w C m X p' (wr.setCell q u) v n := by
  obtain ⟨h1, h2⟩ := h.ne hg ht
  have hb : Below w.heap.size wr (wr.setCell q u) := (Below.refl _ _).setCell (by omega) _
  exact ⟨h.res.far (by omega) _, h.box.far (by omega) _, hr, h.cur.fresh hb hC, h.keep.fresh hb, h.far⟩
theorem AyS.text {w wr : World} {C m X p n g c : Nat} {t : ByteArray} (h : AyS w C m X p wr (.slice (some ⟨g, 0, Option.none⟩) n c) n) (hC : C < w.heap.size) (hn : 0 < n) (j : Nat) (ht : t.size ≤ 1000) : AyS w C m X p (wr.setCell ⟨g, j * 2, Option.none⟩ (.string t)) (.slice (some ⟨g, 0, Option.none⟩) n c) n := by
  obtain ⟨g', c', hv, hl, cur, hg⟩ := h.row.pos hn
  cases hv
  exact h.set_ hC (g := g) rfl hg (by decide) (by omega) (h.row.setText hg j ht)
theorem AyS.sig {w wr : World} {C m X n g c : Nat} {u : Value} (h : AyS w C m X 0 wr (.slice (some ⟨g, 0, Option.none⟩) n c) n) (hC : C < w.heap.size) (hn : 0 < n) (j : Nat) (hu : IntSl wr (w.heap.size + 1) 0 u) : AyS w C m X 0 (wr.setCell ⟨g, j * 2 + 1, Option.none⟩ u) (.slice (some ⟨g, 0, Option.none⟩) n c) n := by
  obtain ⟨g', c', hv, hl, cur, hg⟩ := h.row.pos hn
  cases hv
  exact h.set_ hC (g := g) rfl hg (by decide) (by omega) (h.row.setSig hg j hu)
theorem AyS.int {w wr : World} {C m X p n b : Nat} {v : Value} {cur : Array Value} (h : AyS w C m X p wr v n) (hC : C < w.heap.size) (hb : w.heap.size < b) (hg : wr.heap[b]? = some (.cells cur 3 (0, 0))) (i : Nat) (z : Int) : AyS w C m X p (wr.setCell ⟨b, i, Option.none⟩ (.int .i64 z)) v n := by
  refine h.set_ hC (g := b) rfl hg (by decide) hb (h.row.far (p := ⟨b, i, Option.none⟩) hg (.inl (by decide)) (.setInt z))
/-- Another row is stored into the book's box. -/
theorem AyS.put {w wr : World} {C m X p p' n n' : Nat} {v v' : Value} (h : AyS w C m X p wr v n) (hC : C < w.heap.size) (hr : BookR wr (w.heap.size + 1) p' v' n') : AyS w C m X p' (wr.setCell ⟨X, 0, Option.none⟩ v') v' n' := by
  have hx := h.far
  have hb : Below w.heap.size wr (wr.setCell ⟨X, 0, Option.none⟩ v') := (Below.refl _ _).setCell (p := ⟨X, 0, Option.none⟩) (show w.heap.size ≤ X by omega) _
  have hk : IntsKept (w.heap.size + 1) wr (wr.setCell ⟨X, 0, Option.none⟩ v') := .far fun cur e => by rw [show wr.heap[X]? = _ from h.box] at e; cases e
  exact ⟨h.res.far (p := ⟨X, 0, Option.none⟩) (show w.heap.size ≠ X by omega) _, h.box.set_ 0 v', hr.far (p := ⟨X, 0, Option.none⟩) h.box (.inl (by decide)) hk, h.cur.fresh hb hC, h.keep.fresh hb, hx⟩
/-- What is drawn. -/
def AnyD (w : World) (C m : Nat) (e : Ending) (w' : World) : Prop := ∃ v n, e = .returned (.agg #[v]) ∧ n ≤ 41 ∧ BookR w' (w.heap.size + 1) 0 v n ∧ Cur w' C m ∧ KeepG C (C + 1) w w'
theorem AyS.done {w wr : World} {C m X p n : Nat} {v u : Value} (h : AyS w C m X p wr v n) (hC : C < w.heap.size) : BookR (wr.setCell ⟨w.heap.size, 0, Option.none⟩ u) (w.heap.size + 1) 0 v n ∧ Cur (wr.setCell ⟨w.heap.size, 0, Option.none⟩ u) C m ∧ KeepG C (C + 1) w (wr.setCell ⟨w.heap.size, 0, Option.none⟩ u) := by
  have hb : Below w.heap.size wr (wr.setCell ⟨w.heap.size, 0, Option.none⟩ u) := (Below.refl _ _).setCell (p := ⟨w.heap.size, 0, Option.none⟩) (Nat.le_refl _) _
  exact ⟨h.row.zero.far (p := ⟨w.heap.size, 0, Option.none⟩) h.res (.inl (by decide)) (.far fun cur e => by rw [show wr.heap[w.heap.size]? = _ from h.res] at e; cases e), h.cur.fresh hb hC, h.keep.fresh hb⟩
/-- The slice of signals at a phrase of the row. -/
theorem AyS.at_ {w wr : World} {C m X p n g c : Nat} (h : AyS w C m X p wr (.slice (some ⟨g, 0, Option.none⟩) n c) n) {j : Nat} (hj : j < n) :
    (wr.cell? ⟨g, j * 2, Option.none⟩).isSome = true ∧ wr.frozen? ⟨g, j * 2, Option.none⟩ = false ∧ wr.frozen? ⟨g, j * 2 + 1, Option.none⟩ = false ∧ ∃ A k d, wr.cell? ⟨g, j * 2 + 1, Option.none⟩ = some (.slice A k d) ∧ p ≤ k ∧ k ≤ 1000 ∧ IntSl wr (w.heap.size + 1) p (.slice A k d) := by
  obtain ⟨t, u, h1, h2, h3, _, h4, h5⟩ := h.row.at_ hj
  obtain ⟨A, k, d, rfl, h6, h7⟩ := h3.form
  exact ⟨by rw [h1]; rfl, h4, h5, A, k, d, h2, h6, h7, h3⟩
set_option maxRecDepth 100000 in
set_option maxHeartbeats 8000000 in
theorem anyBook_any (C m : Nat) (w : World) (h : Cur w C m) (hm : m ≤ 1099511600000) :
    Calls Try.prog 77 #[.pointer (some ⟨C, 0, Option.none⟩)] w (AnyD w C (m + 21000)) := by
  have HC := Lib.hid h.lt
  have hC1 := HC.out
  have HCU := Lib.hid h
  clear h
  go_enter Try.func77, Try.ntmps77
  have hR : Blk (w.alloc (.cells #[.slice Option.none 0 0] 28)) w.heap.size 28 [.slice Option.none 0 0] := Blk.new w _ _
  have hsz : (w.alloc (.cells #[.slice Option.none 0 0] 28)).heap.size = w.heap.size + 1 := by simp
  have hkA : KeepG C (C + 1) w (w.alloc (.cells #[.slice Option.none 0 0] 28)) := (KeepG.refl _ _ _).alloc _
  have hcA : Cur (w.alloc (.cells #[.slice Option.none 0 0] 28)) C m := HCU.out.alloc _
  go_wp2_with fail
  generalize (w.alloc (.cells #[.slice Option.none 0 0] 28)) = wa at hR hsz hkA hcA ⊢
  have CB := Lib.hid (book_any C m wa hcA (by omega))
  refine CB.out.mono ?_
  rintro e w1 ⟨v, n, rfl, hn1, hn26, hrow, hcur, hkp⟩
  have D0 : Hid (AyS w C (m + 20000) w1.heap.size 1 (w1.alloc (.cells #[v] 28)) v n) :=
    ⟨(hR.keepG hkp (by omega)).alloc _, Blk.new w1 _ _, (hrow.lo (by omega)).alloc _, hcur.alloc _, (hkA.trans hkp).alloc _, by have := hkp.size; omega⟩
  obtain ⟨g, c, rfl, hg, cur, hgc⟩ := hrow.pos (by omega)
  clear CB hR hsz hkA hcA hrow hcur hkp hgc HCU hg
  obtain ⟨MB, hMB⟩ : ∃ MB, MB = m + 20000 := ⟨_, rfl⟩
  rw [← hMB] at D0
  have hbx := D0.out.box.cell 0
  have hcD : Cur (w1.alloc (.cells #[.slice (some ⟨g, 0, Option.none⟩) n c] 28)).drew C MB := D0.out.cur
  have XD : AyS w C MB w1.heap.size 1 (w1.alloc (.cells #[.slice (some ⟨g, 0, Option.none⟩) n c] 28)).drew (.slice (some ⟨g, 0, Option.none⟩) n c) n := D0.out.step hC1 hcD (KeepG.drawN _ 1)
  go_wp2_with fail
  generalize (w1.alloc (.cells #[.slice (some ⟨g, 0, Option.none⟩) n c] 28)) = wb at D0 hbx hcD XD ⊢
  go_region_law (first
    | ((go_simp; go_at_call 94; (with_reducible refine (pick_any (n : Int) C MB _ hcD (by omega) (by omega) (by omega)).mono ?_); rintro e w5 ⟨z5, rfl, ⟨hz5, hy5⟩, hc5, hk5⟩; have X5 := XD.step hC1 hc5 hk5; have hx5 := X5.box.cell 0; obtain ⟨k, h5e⟩ : ∃ k : Nat, z5 = (k : Int) := ⟨z5.toNat, by omega⟩; subst h5e; have hkn : k < n := (by omega))))
  all_goals
    have D5 := Lib.hid X5
    clear D0 hbx hcD XD hc5 hk5 X5 hx5
    have hm5 : MB + 2 ≤ 1099511626000 := by omega
    go_wp2_with fail
    have c6 := Lib.hid (pick_any 30 C _ w5 D5.out.cur (by omega) (by omega) (by omega))
    refine c6.out.mono ?_
    rintro e w6 ⟨z, rfl, ⟨hz0, hz30⟩, hc6, hk6⟩
    have D6 := Lib.hid (D5.out.step hC1 hc6 hk6)
    obtain ⟨M6, hM6⟩ : ∃ M6, M6 = MB + 2 + 2 := ⟨_, rfl⟩
    rw [← hM6] at D6
    clear hc6 hk6 c6 D5
    have hzz : z = 0 ∨ z = 1 ∨ z = 2 ∨ z = 3 ∨ z = 4 ∨ z = 5 ∨ z = 6 ∨ 7 ≤ z := by omega
    rcases hzz with rfl | rfl | rfl | rfl | rfl | rfl | rfl | hz7
    · have hl0 := lstS_new w6 C #[.string ⟨#[]⟩, .string ⟨#[65]⟩, .string ⟨#[97, 98, 99, 100, 101, 102, 103, 104, 105, 106, 107, 108]⟩, .string ⟨#[97, 98, 99, 100, 101, 102, 103, 104, 105, 106, 107, 108, 109]⟩, .string ⟨#[122]⟩, .string ⟨#[97, 32, 98]⟩] 6 D6.out.cur.lt (by omega) (by omega) rfl (by
        repeat (refine str_mem ⟨_, rfl, by decide⟩ ?_)
        intro u hu
        cases hu)
      have c7 := Lib.hid (of_any 6 _ C M6 _ (D6.out.cur.alloc _) (by omega) hl0)
      clear hl0
      go_wp2_with fail
      refine c7.out.mono ?_
      rintro e w7 ⟨t, rfl, ht, hc7, hk7⟩
      have D7 := Lib.hid ((D6.out.alloc hC1 _).step hC1 hc7 hk7)
      clear hc7 hk7 c7 D6
      obtain ⟨q1, q2, q3, A7, k7, d7, q4, _, _, _⟩ := D7.out.at_ hkn
      obtain ⟨tt, q5⟩ := Option.isSome_iff_exists.1 q1
      have D := Lib.hid (D7.out.text hC1 (by omega) k ht)
      clear q1 D7
      have hbe := D.out.box.cell 0
      have hrc := D.out.res.cell 0
      have hrf := D.out.res.frozen 0
      have HD := Lib.hid (D.out.done (u := .slice (some ⟨g, 0, Option.none⟩) n c) hC1)
      have c10 := (D.out.res.set_ 0 (.slice (some ⟨g, 0, Option.none⟩) n c)).cell 0
      go_wp2_with fail
      refine bodyPost_ret (v := .agg #[.slice (some ⟨g, 0, Option.none⟩) n c]) (by simp [results, Try.results77, go_sem, c10]) rfl ?_
      exact ⟨_, n, rfl, by omega, HD.out.1, HD.out.2.1.mono (by omega), HD.out.2.2⟩
    · obtain ⟨q1, q2, q3, A7, k7, d7, q4, hk71, hk7b, hI⟩ := D6.out.at_ hkn
      obtain ⟨g', c', hv, hlg, curg, hgg⟩ := D6.out.row.pos (show 0 < n by omega)
      cases hv
      have BG : Blk w6 g 40 curg.toList := by unfold Blk; simpa using hgg
      rcases hI with ⟨h0, h1⟩ | ⟨b, n2, c2, cur2, hv2, hlb, ⟨hp2, hx2, hnc2⟩, hcm2, hgb, hz2⟩
      · omega
      cases hv2
      obtain ⟨y0, hy0⟩ := hz2 0 (by omega)
      have h0k : 0 < k7 := by omega
      have BB : Blk w6 b 3 cur2.toList := by unfold Blk; simpa using hgb
      have hcB : Cur (w6.alloc (.cells #[.int .i64 (-1), .int .i64 0, .int .i64 60, .int .i64 61] 3)).drew C M6 := D6.out.cur.alloc _
      have XD : AyS w C M6 w1.heap.size 1 (w6.alloc (.cells #[.int .i64 (-1), .int .i64 0, .int .i64 60, .int .i64 61] 3)).drew (.slice (some ⟨g, 0, Option.none⟩) n c) n := (D6.out.alloc hC1 _).step hC1 hcB (KeepG.drawN _ 1)
      have BGd : Blk (w6.alloc (.cells #[.int .i64 (-1), .int .i64 0, .int .i64 60, .int .i64 61] 3)).drew g 40 curg.toList := BG.alloc _
      have BBd : Blk (w6.alloc (.cells #[.int .i64 (-1), .int .i64 0, .int .i64 60, .int .i64 61] 3)).drew b 3 cur2.toList := BB.alloc _
      have hlD : Lst (w6.alloc (.cells #[.int .i64 (-1), .int .i64 0, .int .i64 60, .int .i64 61] 3)).drew C (.slice (some ⟨w6.heap.size, 0, Option.none⟩) 4 4) [-1, 0, 60, 61] := lst_new w6 C [-1, 0, 60, 61] D6.out.cur.lt (by simp) (by simp)
      have qa := BGd.cell (k * 2 + 1)
      rw [← BG.cell (k * 2 + 1), q4] at qa
      have HZ := Lib.hid hz2
      have HLG := Lib.hid hlg
      have HGB := Lib.hid hgb
      have HCN : Hid (g ≠ C ∧ b ≠ C) := ⟨by omega, by omega⟩
      clear hz2 hgg hgb hlg q1 q2 q3
      go_wp2_with fail
      go_region_law (first
        | ((go_simp; go_at_call 110; (with_reducible refine (among_any [-1, 0, 60, 61] _ C M6 _ hcB (by omega) hlD).mono ?_); rintro e w7 ⟨y, rfl, hmy, hc7, hk7⟩; have X7 := XD.step hC1 hc7 hk7; have B7 := BBd.keepG hk7 HCN.out.2; have f7 := B7.frozen 0; have y7 := B7.cell 0; have G7 := BGd.keepG hk7 HCN.out.1; have g7 := G7.cell (k * 2 + 1); rw [← BG.cell (k * 2 + 1), q4] at g7; have h7 : cur2.toList[0]? = some (.int .i64 y0) := (by simpa using hy0); rw [h7] at y7)))
      all_goals
        have D := Lib.hid (X7.int hC1 (show w.heap.size < b by omega) (show w7.heap[b]? = some (.cells cur2 3 (0, 0)) from (by have h := B7; unfold Blk at h; simpa using h)) 0 y)
        clear hcB XD BGd BBd hlD qa B7 f7 y7 G7 g7 h7 X7 hc7 hk7 BB BG D6 hmy
        have hbe := D.out.box.cell 0
        have hrc := D.out.res.cell 0
        have hrf := D.out.res.frozen 0
        have HD := Lib.hid (D.out.done (u := .slice (some ⟨g, 0, Option.none⟩) n c) hC1)
        have c10 := (D.out.res.set_ 0 (.slice (some ⟨g, 0, Option.none⟩) n c)).cell 0
        go_wp2_with fail
        refine bodyPost_ret (v := .agg #[.slice (some ⟨g, 0, Option.none⟩) n c]) (by simp [results, Try.results77, go_sem, c10]) rfl ?_
        exact ⟨_, n, rfl, by omega, HD.out.1, HD.out.2.1.mono (by omega), HD.out.2.2⟩
    · obtain ⟨q1, q2, q3, A7, k7, d7, q4, _, _, _⟩ := D6.out.at_ hkn
      have D := Lib.hid (D6.out.zero.sig hC1 (by omega) k (IntSl.nil _ _))
      clear q1 D6
      have hbe := D.out.box.cell 0
      have hrc := D.out.res.cell 0
      have hrf := D.out.res.frozen 0
      have HD := Lib.hid (D.out.done (u := .slice (some ⟨g, 0, Option.none⟩) n c) hC1)
      have c10 := (D.out.res.set_ 0 (.slice (some ⟨g, 0, Option.none⟩) n c)).cell 0
      go_wp2_with fail
      refine bodyPost_ret (v := .agg #[.slice (some ⟨g, 0, Option.none⟩) n c]) (by simp [results, Try.results77, go_sem, c10]) rfl ?_
      exact ⟨_, n, rfl, by omega, HD.out.1, HD.out.2.1.mono (by omega), HD.out.2.2⟩
    · have DA := Lib.hid (D6.out.zero.alloc hC1 (.cells #[.int .i64 1, .int .i64 2, .int .i64 3, .int .i64 4] 3))
      obtain ⟨q1, q2, q3, A7, k7, d7, q4, _, _, _⟩ := DA.out.at_ hkn
      have D := Lib.hid (DA.out.sig hC1 (by omega) k (intsl_lit (w := w6) (lo := w.heap.size + 1) (g := w6.heap.size) (n := 4) [1, 2, 3, 4] rfl rfl rfl (by have := D6.out.res.lt; omega) (by simp) (by simp)).zero)
      clear q1 DA D6
      have hbe := D.out.box.cell 0
      have hrc := D.out.res.cell 0
      have hrf := D.out.res.frozen 0
      have HD := Lib.hid (D.out.done (u := .slice (some ⟨g, 0, Option.none⟩) n c) hC1)
      have c10 := (D.out.res.set_ 0 (.slice (some ⟨g, 0, Option.none⟩) n c)).cell 0
      go_wp2_with fail
      refine bodyPost_ret (v := .agg #[.slice (some ⟨g, 0, Option.none⟩) n c]) (by simp [results, Try.results77, go_sem, c10]) rfl ?_
      exact ⟨_, n, rfl, by omega, HD.out.1, HD.out.2.1.mono (by omega), HD.out.2.2⟩
    · have hl0 : Lst (w6.alloc (.cells #[.int .i64 40, .int .i64 41] 3)) C (.slice (some ⟨w6.heap.size, 0, Option.none⟩) 2 2) [40, 41] := lst_new w6 C [40, 41] D6.out.cur.lt (by simp) (by simp)
      have c7 := Lib.hid (among_any _ _ C _ _ (D6.out.cur.alloc _) (by omega) hl0)
      clear hl0
      go_wp2_with fail
      refine c7.out.mono ?_
      rintro e w7 ⟨y, rfl, hmy, hc7, hk7⟩
      have D7 := Lib.hid ((D6.out.alloc hC1 _).step hC1 hc7 hk7)
      obtain ⟨ny, hye, hny⟩ : ∃ ny : Nat, y = (ny : Int) ∧ ny ≤ 41 := ⟨y.toNat, by simp at hmy; omega, by simp at hmy; omega⟩
      subst hye
      clear hc7 hk7 hmy c7 D6
      have c8 := Lib.hid (manyPhrases_any ny hny w7)
      go_wp2_with fail
      refine c8.out.mono ?_
      rintro e w8 ⟨v8, rfl, hr8, hb8⟩
      obtain ⟨A8, e8, rfl⟩ := hr8.form
      have D8 := Lib.hid (D7.out.fresh hC1 hb8)
      have hle8 := D7.out.res.lt
      have D := Lib.hid (D8.out.put (p' := 0) hC1 (hr8.lo (by omega)).zero)
      have hbf := D8.out.box.frozen 0
      have hbg := D8.out.box.cell 0
      clear hr8 hb8 c8 D7 D8
      have hbe := D.out.box.cell 0
      have hrc := D.out.res.cell 0
      have hrf := D.out.res.frozen 0
      have HD := Lib.hid (D.out.done (u := .slice A8 ny e8) hC1)
      have c10 := (D.out.res.set_ 0 (.slice A8 ny e8)).cell 0
      go_wp2_with fail
      refine bodyPost_ret (v := .agg #[.slice A8 ny e8]) (by simp [results, Try.results77, go_sem, c10]) rfl ?_
      exact ⟨_, ny, rfl, by omega, HD.out.1, HD.out.2.1.mono (by omega), HD.out.2.2⟩
    · obtain ⟨q1, q2, q3, A0, k0, d0, q4, _, hk0, hI0⟩ := D6.out.at_ (show 0 < n by omega)
      obtain ⟨xs, hxs⟩ := hI0.rd
      obtain ⟨A0', c0', hv, _, _⟩ := Rd.form hxs
      have hxl : xs.length ≤ 1000 := by injection hv with hv1 hv2 hv3; omega
      clear hv hI0
      have q40 : w6.cell? ⟨g, 1, Option.none⟩ = some (.slice A0 k0 d0) := by simpa using q4
      have c7 := Lib.hid (l1Own_any xs _ _ w6 hxs (Nat.le_refl _) (by omega))
      have hbb := D6.out.box.cell 0
      clear q1 q2 q3 q4 hxs
      go_wp2_with fail
      refine c7.out.mono ?_
      rintro e w7 ⟨v7, rfl, ho7, hb7⟩
      obtain ⟨A7, e7, rfl, _⟩ := ho7.form
      have hle7 := D6.out.res.lt
      have D7 := Lib.hid (D6.out.zero.fresh hC1 hb7)
      have D := Lib.hid (D7.out.sig hC1 (by omega) k (IntSl.own (World.ownsRow.mono ho7.1 (show w.heap.size + 1 ≤ w6.heap.size by omega)) (Nat.zero_le _) hxl))
      obtain ⟨q1, q2, q3, A9, k9, d9, q4, _, _, _⟩ := D7.out.at_ hkn
      clear ho7 hb7 hbb q40 c7 D6 D7 q1 q2
      have hbe := D.out.box.cell 0
      have hrc := D.out.res.cell 0
      have hrf := D.out.res.frozen 0
      have HD := Lib.hid (D.out.done (u := .slice (some ⟨g, 0, Option.none⟩) n c) hC1)
      have c10 := (D.out.res.set_ 0 (.slice (some ⟨g, 0, Option.none⟩) n c)).cell 0
      go_wp2_with fail
      refine bodyPost_ret (v := .agg #[.slice (some ⟨g, 0, Option.none⟩) n c]) (by simp [results, Try.results77, go_sem, c10]) rfl ?_
      exact ⟨_, n, rfl, by omega, HD.out.1, HD.out.2.1.mono (by omega), HD.out.2.2⟩
    · have D := Lib.hid (D6.out.put (p' := 0) hC1 (BookR.nil _ _ _))
      have hbf := D6.out.box.frozen 0
      have hbg := D6.out.box.cell 0
      clear D6
      have hbe := D.out.box.cell 0
      have hrc := D.out.res.cell 0
      have hrf := D.out.res.frozen 0
      have HD := Lib.hid (D.out.done (u := .slice Option.none 0 0) hC1)
      have c10 := (D.out.res.set_ 0 (.slice Option.none 0 0)).cell 0
      go_wp2_with fail
      refine bodyPost_ret (v := .agg #[.slice Option.none 0 0]) (by simp [results, Try.results77, go_sem, c10]) rfl ?_
      exact ⟨_, 0, rfl, by omega, HD.out.1, HD.out.2.1.mono (by omega), HD.out.2.2⟩
    · have e0 : (z == 0) = false := by simp; omega
      have e1 : (z == 1) = false := by simp; omega
      have e2 : (z == 2) = false := by simp; omega
      have e3 : (z == 3) = false := by simp; omega
      have e4 : (z == 4) = false := by simp; omega
      have e5 : (z == 5) = false := by simp; omega
      have e6 : (z == 6) = false := by simp; omega
      have D := D6
      clear D6
      have hbe := D.out.box.cell 0
      have hrc := D.out.res.cell 0
      have hrf := D.out.res.frozen 0
      have HD := Lib.hid (D.out.done (u := .slice (some ⟨g, 0, Option.none⟩) n c) hC1)
      have c10 := (D.out.res.set_ 0 (.slice (some ⟨g, 0, Option.none⟩) n c)).cell 0
      go_wp2_with fail
      refine bodyPost_ret (v := .agg #[.slice (some ⟨g, 0, Option.none⟩) n c]) (by simp [results, Try.results77, go_sem, c10]) rfl ?_
      exact ⟨_, n, rfl, by omega, HD.out.1, HD.out.2.1.mono (by omega), HD.out.2.2⟩
end Go.Proofs.Ytjnkdjokbamibaa
/- Contracts: drawn books. -/
namespace Go.Proofs.Ytjnkdjokbamibaa
open Go.RowKit
theorem keepG_bel {w wb w' : World} {C : Nat} (hb : Below w.heap.size w wb) (hk : KeepG C (C + 1) wb w') (hC : w.heap.size ≤ C) : Below w.heap.size w w' := by
  refine ⟨hk.os.trans hb.os, hk.tape.trans hb.tape, hk.output.trans hb.output, Nat.le_trans hb.size hk.size, fun k hlt => ?_⟩
  rw [hk.block k (by have := hb.size; omega) (.inl (by omega))]
  exact hb.block k hlt
theorem BookR.ownBox {w : World} {lo p n X : Nat} {v u : Value} {cs : List Value} (h : BookR w lo p v n) (hx : Blk w X 28 cs) : BookR (w.setCell ⟨X, 0, Option.none⟩ u) lo p v n :=
  h.far (p := ⟨X, 0, Option.none⟩) hx (.inl (by decide)) (.far fun cur e => by rw [show w.heap[X]? = _ from hx] at e; cases e)
/-- A drawn book. -/
def DrewB (w : World) (e : Ending) (w' : World) : Prop := ∃ v n, e = .returned (.agg #[v]) ∧ n ≤ 41 ∧ BookR w' w.heap.size 0 v n ∧ Below w.heap.size w w'
theorem BookR.rdb {w : World} {lo p n : Nat} {v : Value} (h : BookR w lo p v n) : ∃ ps : List Phr, ps.length = n ∧ RdB w w.heap.size (.agg #[v]) ps := by
  obtain ⟨ps, h1, h2⟩ := h.rd
  exact ⟨ps, h1, _, rfl, h2⟩
set_option maxRecDepth 100000 in
set_option maxHeartbeats 1000000 in
theorem DrawLoneLetters_any (zs : List UInt8) (v : Value) (hi : Nat) (w : World) (h : RdU w hi v zs) (hh : hi ≤ w.heap.size) :
    Calls Try.prog 39 #[v] w (DrewB w) := by
  obtain ⟨A, c, rfl, hc, hm⟩ := Rd.form h
  have hR : Blk (w.alloc (.cells #[.slice Option.none 0 0] 28)) w.heap.size 28 [.slice Option.none 0 0] := Blk.new w _ _
  have hb0 : Below w.heap.size w (w.alloc (.cells #[.slice Option.none 0 0] 28)) := (Below.refl _ _).alloc (Nat.le_refl _) _
  have hsz : (w.alloc (.cells #[.slice Option.none 0 0] 28)).heap.size = w.heap.size + 1 := by simp
  have hu : RdU (w.alloc (.cells #[.slice Option.none 0 0] 28)) hi (.slice A zs.length c) zs := h.below hb0 hh
  clear h
  go_enter Try.func39, Try.ntmps39
  go_wp2_with fail
  generalize (w.alloc (.cells #[.slice Option.none 0 0] 28)) = wa at hR hb0 hsz hu ⊢
  have hcu := cur_new hu (by omega)
  have hR2 := hR.alloc (.cells #[.slice A zs.length c, .int .i64 0, .int .u64 0] 89)
  have hb1 : Below w.heap.size w (wa.alloc (.cells #[.slice A zs.length c, .int .i64 0, .int .u64 0] 89)) := hb0.alloc (by omega) _
  have hsz2 : (wa.alloc (.cells #[.slice A zs.length c, .int .i64 0, .int .u64 0] 89)).heap.size = w.heap.size + 2 := by simp; omega
  rw [hsz] at hcu
  generalize (wa.alloc (.cells #[.slice A zs.length c, .int .i64 0, .int .u64 0] 89)) = wb at hcu hR2 hb1 hsz2 ⊢
  try rw [hsz]
  have CB := Lib.hid (anyBook_any (w.heap.size + 1) 0 wb hcu (by omega))
  clear hR hb0 hu hcu
  refine CB.out.mono ?_
  rintro e w1 ⟨v1, n, rfl, hn, hr, _, hk⟩
  obtain ⟨A1, c1, rfl⟩ := hr.form
  have hR3 := hR2.keepG hk (by omega)
  have hrc := hR3.cell 0
  have hrf := hR3.frozen 0
  have HR := Lib.hid ((hr.lo (show w.heap.size ≤ wb.heap.size + 1 by omega)).ownBox hR3 (u := .slice A1 n c1))
  have HBL := Lib.hid ((keepG_bel hb1 hk (by omega)).setCell (p := ⟨w.heap.size, 0, Option.none⟩) (Nat.le_refl _) (.slice A1 n c1))
  have c10 := (hR3.set_ 0 (.slice A1 n c1)).cell 0
  clear CB hR2 hb1 hr hk hR3
  go_wp2_with fail
  refine bodyPost_ret (v := .agg #[.slice A1 n c1]) (by simp [results, Try.results39, go_sem, c10]) rfl ?_
  exact ⟨_, n, rfl, hn, HR.out, HBL.out⟩
end Go.Proofs.Ytjnkdjokbamibaa
/- Contracts: drawn letters, drawn books with letters. -/
namespace Go.Proofs.Ytjnkdjokbamibaa
open Go.RowKit
/-- Drawn since the world wa: the cursor stands at M at most, all else stands. -/
structure Drew (wa : World) (C M : Nat) (wr : World) : Prop where
  cur : Cur wr C M
  keep : KeepG C (C + 1) wa wr
theorem Drew.start {w : World} {C m : Nat} (h : Cur w C m) : Drew w C m w := ⟨h, KeepG.refl _ _ _⟩
theorem Drew.step {wa wr w' : World} {C M M' : Nat} (h : Drew wa C M wr) (hc : Cur w' C M') (hk : KeepG C (C + 1) wr w') : Drew wa C M' w' := ⟨hc, h.keep.trans hk⟩
theorem Drew.mono {wa wr : World} {C M M' : Nat} (h : Drew wa C M wr) (hm : M ≤ M') : Drew wa C M' wr := ⟨h.cur.mono hm, h.keep⟩
theorem Drew.alloc {wa wr : World} {C M : Nat} (h : Drew wa C M wr) (o : Obj) : Drew wa C M (wr.alloc o) := ⟨h.cur.alloc o, h.keep.alloc o⟩
def strLen : Value → Nat
  | .string t => t.size
  | _ => 0
/-- A text is drawn, of so many bytes at most. -/
def DrawnS (C m k : Nat) (w : World) (e : Ending) (w' : World) : Prop := ∃ t : ByteArray, e = .returned (.string t) ∧ t.size ≤ k ∧ Cur w' C m ∧ KeepG C (C + 1) w w'
set_option maxRecDepth 100000 in
set_option maxHeartbeats 8000000 in
theorem letters_any (lo n c : Nat) (A : Option Addr) (C m : Nat) (w : World) (h : Cur w C m) (hm : m ≤ 1099511600000) (hb : BookR w lo 0 (.slice A n c) n) (hn : n ≤ 41) (hCl : C < lo) :
    Calls Try.prog 78 #[.pointer (some ⟨C, 0, Option.none⟩), .agg #[.slice A n c]] w (DrawnS C (m + 600) 2000 w) := by
  have hCw := h.lt
  have hk0 : KeepG C (C + 1) w (w.alloc (.cells #[.slice A n c] 28)) := (KeepG.refl _ _ _).alloc _
  have hbx : Blk (w.alloc (.cells #[.slice A n c] 28)) w.heap.size 28 [.slice A n c] := Blk.new w _ _
  have HBX := Lib.hid hbx
  have HBR := Lib.hid (hb.alloc (.cells #[.slice A n c] 28))
  have HK0 := Lib.hid hk0
  have hCA := h.alloc (.cells #[.slice A n c] 28)
  have D0 := Lib.hid (Drew.start hCA)
  clear h hk0 hbx hb hCA
  go_enter Try.func78, Try.ntmps78
  go_wp2_with fail
  generalize (w.alloc (.cells #[.slice A n c] 28)) = wa at HBX HBR HK0 D0 ⊢
  have c1 := Lib.hid (pick_any 6 C _ wa D0.out.cur (by omega) (by omega) (by omega))
  refine c1.out.mono ?_
  rintro e w1 ⟨z1, rfl, ⟨hz0, hz1⟩, hc1, hk1⟩
  have D1 := Lib.hid (D0.out.step hc1 hk1)
  clear hc1 hk1 D0 c1
  have c2 := Lib.hid (one_any 16 C _ w1 D1.out.cur (by omega) (by omega) (by omega))
  go_wp2_with fail
  refine c2.out.mono ?_
  rintro e w2 ⟨ob, rfl, hc2, hk2⟩
  have D2 := Lib.hid (D1.out.step hc2 hk2)
  clear hc2 hk2 D1 c2
  obtain ⟨q1, hq1, hq6⟩ : ∃ q : Nat, (if ob = true then (40 : Int) else z1) = (q : Int) ∧ q ≤ 40 := by
    cases ob
    · exact ⟨z1.toNat, by simp; omega, by omega⟩
    · exact ⟨40, rfl, Nat.le_refl _⟩
  cases ob
  · have hq1b : z1 = (q1 : Int) := hq1
    subst hq1b
    clear hq1
    have hq1 : True := trivial
    go_wp2_with fail
    go_loopw [5, 6] (fun v q wr => ∃ (q0 : Nat) (t : ByteArray), q0 ≤ 40 ∧ q = .int .i64 (q0 : Int) ∧ v = .string t ∧ t.size ≤ 40 ∧ Hid (Drew wa C (m + 4 + 10 * (40 - q0)) wr)) (fun _ q _ => (intOf q).toNat)
    case atStart => exact ⟨q1, { data := #[] }, by omega, rfl, rfl, by decide, D2.out.mono (by omega)⟩
    case round =>
      obtain ⟨q0, t, hq0, rfl, rfl, ht, DR⟩ := hrel
      clear D2
      have hbxr := HBX.out.keepG DR.out.keep (by omega)
      have hbc := hbxr.cell 0
      have HBXR := Lib.hid hbxr
      have HBRR := Lib.hid (HBR.out.step DR.out.keep hCl)
      clear hbxr
      by_cases hlt : 0 < q0
      · obtain ⟨M0, hM0⟩ : ∃ M, M = m + 4 + 10 * (40 - q0) := ⟨_, rfl⟩
        rw [← hM0] at DR
        have hl0 := lstS_new wr C #[.string ⟨#[97]⟩, .string ⟨#[98]⟩, .string ⟨#[101]⟩, .string ⟨#[115, 104, 105, 112, 115]⟩, .string ⟨#[122]⟩, .string ⟨#[113]⟩] 6 DR.out.cur.lt (by omega) (by omega) rfl (by
          repeat (refine str_mem ⟨_, rfl, by decide⟩ ?_)
          intro u hu; cases hu)
        have c7 := Lib.hid (of_any 6 _ C M0 _ (DR.out.cur.alloc _) (by omega) hl0)
        clear hl0
        go_wp2_with fail
        refine c7.out.mono ?_
        rintro e w7 ⟨t7, rfl, ht7, hc7, hk7⟩
        have D7 := Lib.hid ((DR.out.alloc (.cells #[.string ⟨#[97]⟩, .string ⟨#[98]⟩, .string ⟨#[101]⟩, .string ⟨#[115, 104, 105, 112, 115]⟩, .string ⟨#[122]⟩, .string ⟨#[113]⟩] 9)).step hc7 hk7)
        have HBX7 := Lib.hid ((HBXR.out.alloc (.cells #[.string ⟨#[97]⟩, .string ⟨#[98]⟩, .string ⟨#[101]⟩, .string ⟨#[115, 104, 105, 112, 115]⟩, .string ⟨#[122]⟩, .string ⟨#[113]⟩] 9)).keepG hk7 (by omega))
        have HBR7 := Lib.hid ((HBRR.out.alloc (.cells #[.string ⟨#[97]⟩, .string ⟨#[98]⟩, .string ⟨#[101]⟩, .string ⟨#[115, 104, 105, 112, 115]⟩, .string ⟨#[122]⟩, .string ⟨#[113]⟩] 9)).step hk7 hCl)
        have hb7 := HBX7.out.cell 0
        clear hc7 hk7 c7 DR HBXR HBRR hbc
        rcases Nat.eq_zero_or_pos n with hn0 | hn0
        · subst hn0
          by_cases hfit : t.size + t7.size ≤ 40
          · have hfi : (t.size : Int) + (t7.size : Int) ≤ 40 := by omega
            go_wp2_with fail
            go_roundw
            case rel => exact ⟨q0 - 1, t ++ t7, by omega, by go_num, rfl, by rw [ByteArray.size_append]; omega, D7.out.mono (by omega)⟩
            case measure => (simp [intOf]; try omega)
          · have hfi : 40 < (t.size : Int) + (t7.size : Int) := by omega
            go_wp2_with fail
            go_roundw
            case rel => exact ⟨q0 - 1, t, by omega, by go_num, rfl, ht, D7.out.mono (by omega)⟩
            case measure => (simp [intOf]; try omega)
        · have hgn : decide (0 < n) = true := decide_eq_true hn0
          have c2 := Lib.hid (one_any 8 C _ w7 D7.out.cur (by omega) (by omega) (by omega))
          go_wp2_with fail
          refine c2.out.mono ?_
          rintro e w5 ⟨ob, rfl, hc5, hk5⟩
          have D5 := Lib.hid (D7.out.step hc5 hk5)
          have HBX5 := Lib.hid (HBX7.out.keepG hk5 (by omega))
          have HBR5 := Lib.hid (HBR7.out.step hk5 hCl)
          have hb5 := HBX5.out.cell 0
          clear hc5 hk5 D7 c2 HBX7 HBR7 hb7
          cases ob
          · obtain ⟨g, c', hv, hg, cur, hgc⟩ := HBR5.out.pos hn0
            cases hv
            clear hgc ht7
            have hcD : Cur w5.drew C (M0 + 2 + 2) := D5.out.cur
            have DD : Drew wa C (M0 + 2 + 2) w5.drew := D5.out.step hcD (KeepG.drawN w5 1)
            have hbd : Blk w5.drew w.heap.size 28 [.slice (some ⟨g, 0, Option.none⟩) n c] := HBX5.out
            have hbd0 := hbd.cell 0
            have hrD : BookR w5.drew lo 0 (.slice (some ⟨g, 0, Option.none⟩) n c) n := HBR5.out.step (KeepG.drawN w5 1) hCl
            go_wp2_with fail
            go_region_law (first
              | ((go_simp; go_at_call 94; (with_reducible refine (pick_any (n : Int) C (M0 + 2 + 2) _ hcD (by omega) (by omega) (by omega)).mono ?_); rintro e w6 ⟨z6, rfl, ⟨hz60, hz6n⟩, hc6, hk6⟩; have D6 := DD.step hc6 hk6; have hb6 := (hbd.keepG hk6 (by omega)).cell 0; obtain ⟨k6, h6e⟩ : ∃ k : Nat, z6 = (k : Int) := ⟨z6.toNat, by omega⟩; subst h6e; have hkn : k6 < n := (by omega); obtain ⟨t7, u7, hcu, _, _, ht7⟩ := (hrD.step hk6 hCl).at_ hkn; have HD6 := Lib.hid D6)))
            all_goals
              clear hcD DD hbd hbd0 hrD D5 D6 hc6 hk6
              by_cases hfit : t.size + t7.size ≤ 40
              · have hfi : (t.size : Int) + (t7.size : Int) ≤ 40 := by omega
                go_wp2_with fail
                go_roundw
                case rel => exact ⟨q0 - 1, t ++ t7, by omega, by go_num, rfl, by rw [ByteArray.size_append]; omega, HD6.out.mono (by omega)⟩
                case measure => (simp [intOf]; try omega)
              · have hfi : 40 < (t.size : Int) + (t7.size : Int) := by omega
                go_wp2_with fail
                go_roundw
                case rel => exact ⟨q0 - 1, t, by omega, by go_num, rfl, ht, HD6.out.mono (by omega)⟩
                case measure => (simp [intOf]; try omega)
          · by_cases hfit : t.size + t7.size ≤ 40
            · have hfi : (t.size : Int) + (t7.size : Int) ≤ 40 := by omega
              go_wp2_with fail
              go_roundw
              case rel => exact ⟨q0 - 1, t ++ t7, by omega, by go_num, rfl, by rw [ByteArray.size_append]; omega, D5.out.mono (by omega)⟩
              case measure => (simp [intOf]; try omega)
            · have hfi : 40 < (t.size : Int) + (t7.size : Int) := by omega
              go_wp2_with fail
              go_roundw
              case rel => exact ⟨q0 - 1, t, by omega, by go_num, rfl, ht, D5.out.mono (by omega)⟩
              case measure => (simp [intOf]; try omega)
      · obtain rfl : q0 = 0 := by omega
        clear hbc HBXR HBRR hq1
        obtain ⟨M5, hM5⟩ : ∃ M, M = m + 4 + 10 * (40 - 0) := ⟨_, rfl⟩
        rw [← hM5] at DR
        have c2 := Lib.hid (one_any 24 C _ wr DR.out.cur (by omega) (by omega) (by omega))
        go_wp2_with fail
        refine c2.out.mono ?_
        rintro e w5 ⟨ob, rfl, hc5, hk5⟩
        have D5 := Lib.hid (DR.out.step hc5 hk5)
        clear hc5 hk5 DR c2
        cases ob
        · obtain ⟨M6, hM6⟩ : ∃ M, M = M5 + 2 := ⟨_, rfl⟩
          rw [← hM6] at D5
          have c8 := Lib.hid (one_any 24 C _ w5 D5.out.cur (by omega) (by omega) (by omega))
          go_wp2_with fail
          refine c8.out.mono ?_
          rintro e w8 ⟨ob8, rfl, hc8, hk8⟩
          have D8 := Lib.hid (D5.out.step hc8 hk8)
          clear hc8 hk8 D5 c8
          cases ob8
          · go_wp2_with fail
            go_ret
            exact ⟨t, rfl, by omega, D8.out.cur.mono (by omega), HK0.out.trans D8.out.keep⟩
          · have hl9 := lstS_new w8 C #[.string ⟨#[65]⟩, .string ⟨#[32]⟩, .string ⟨#[49]⟩] 3 D8.out.cur.lt (by omega) (by omega) rfl (by
              repeat (refine str_mem ⟨_, rfl, by decide⟩ ?_)
              intro u hu; cases hu)
            have c9 := Lib.hid (of_any 3 _ C _ _ (D8.out.cur.alloc _) (by omega) hl9)
            clear hl9
            go_wp2_with fail
            refine c9.out.mono ?_
            rintro e w9 ⟨t9, rfl, ht9, hc9, hk9⟩
            have D9 := Lib.hid ((D8.out.alloc (.cells #[.string ⟨#[65]⟩, .string ⟨#[32]⟩, .string ⟨#[49]⟩] 9)).step hc9 hk9)
            clear hc9 hk9 c9 D8
            go_wp2_with fail
            go_ret
            exact ⟨t ++ t9, rfl, by rw [ByteArray.size_append]; omega, D9.out.cur.mono (by omega), HK0.out.trans D9.out.keep⟩
        · have c6 := Lib.hid (pick_any 2 C _ w5 D5.out.cur (by omega) (by omega) (by omega))
          go_wp2_with fail
          refine c6.out.mono ?_
          rintro e w6 ⟨z6, rfl, ⟨hz60, hz61⟩, hc6, hk6⟩
          have D6 := Lib.hid (D5.out.step hc6 hk6)
          obtain ⟨n6, hn6, hn61⟩ : ∃ n6 : Nat, 40 + z6 = (n6 : Int) ∧ n6 ≤ 41 := ⟨(40 + z6).toNat, by omega, by omega⟩
          clear hc6 hk6 c6 D5
          go_wp2_with fail
          go_loopw [5] (fun v wr => ∃ t : ByteArray, v = .string t ∧ t.size ≤ 41 ∧ w6 = wr) (fun v _ => 41 - strLen v)
          case atStart => exact ⟨t, rfl, by omega, by first | rfl | trivial⟩
          case round =>
            obtain ⟨s2, rfl, hs2, rfl⟩ := hrel
            by_cases hlt6 : s2.size < n6
            · go_wp2_with fail
              go_roundw
              case rel => exact ⟨s2 ++ ⟨#[97]⟩, rfl, by rw [ByteArray.size_append]; show s2.size + 1 ≤ 41; omega, by first | rfl | trivial⟩
              case measure =>
                have h97 : (⟨#[97]⟩ : ByteArray).size = 1 := rfl
                (simp [strLen, ByteArray.size_append]; try omega)
            · have hge : n6 ≤ s2.size := by omega
              obtain ⟨M6, hM6⟩ : ∃ M, M = M5 + 2 + 2 := ⟨_, rfl⟩
              rw [← hM6] at D6
              have c8 := Lib.hid (one_any 24 C _ w6 D6.out.cur (by omega) (by omega) (by omega))
              go_wp2_with fail
              refine c8.out.mono ?_
              rintro e w8 ⟨ob8, rfl, hc8, hk8⟩
              have D8 := Lib.hid (D6.out.step hc8 hk8)
              clear hc8 hk8 D6 c8
              cases ob8
              · go_wp2_with fail
                go_ret
                exact ⟨s2, rfl, by omega, D8.out.cur.mono (by omega), HK0.out.trans D8.out.keep⟩
              · have hl9 := lstS_new w8 C #[.string ⟨#[65]⟩, .string ⟨#[32]⟩, .string ⟨#[49]⟩] 3 D8.out.cur.lt (by omega) (by omega) rfl (by
                  repeat (refine str_mem ⟨_, rfl, by decide⟩ ?_)
                  intro u hu; cases hu)
                have c9 := Lib.hid (of_any 3 _ C _ _ (D8.out.cur.alloc _) (by omega) hl9)
                clear hl9
                go_wp2_with fail
                refine c9.out.mono ?_
                rintro e w9 ⟨t9, rfl, ht9, hc9, hk9⟩
                have D9 := Lib.hid ((D8.out.alloc (.cells #[.string ⟨#[65]⟩, .string ⟨#[32]⟩, .string ⟨#[49]⟩] 9)).step hc9 hk9)
                clear hc9 hk9 c9 D8
                go_wp2_with fail
                go_ret
                exact ⟨s2 ++ t9, rfl, by rw [ByteArray.size_append]; omega, D9.out.cur.mono (by omega), HK0.out.trans D9.out.keep⟩
  · have hq1b : (40 : Int) = (q1 : Int) := hq1
    obtain rfl : q1 = 40 := by omega
    clear hq1 hq1b
    have hq1 : True := trivial
    go_wp2_with fail
    go_loopw [5, 6] (fun v q wr => ∃ (q0 : Nat) (t : ByteArray), q0 ≤ 40 ∧ q = .int .i64 (q0 : Int) ∧ v = .string t ∧ t.size ≤ 40 ∧ Hid (Drew wa C (m + 4 + 10 * (40 - q0)) wr)) (fun _ q _ => (intOf q).toNat)
    case atStart => exact ⟨40, { data := #[] }, by omega, rfl, rfl, by decide, D2.out.mono (by omega)⟩
    case round =>
      obtain ⟨q0, t, hq0, rfl, rfl, ht, DR⟩ := hrel
      clear D2
      have hbxr := HBX.out.keepG DR.out.keep (by omega)
      have hbc := hbxr.cell 0
      have HBXR := Lib.hid hbxr
      have HBRR := Lib.hid (HBR.out.step DR.out.keep hCl)
      clear hbxr
      by_cases hlt : 0 < q0
      · obtain ⟨M0, hM0⟩ : ∃ M, M = m + 4 + 10 * (40 - q0) := ⟨_, rfl⟩
        rw [← hM0] at DR
        have hl0 := lstS_new wr C #[.string ⟨#[97]⟩, .string ⟨#[98]⟩, .string ⟨#[101]⟩, .string ⟨#[115, 104, 105, 112, 115]⟩, .string ⟨#[122]⟩, .string ⟨#[113]⟩] 6 DR.out.cur.lt (by omega) (by omega) rfl (by
          repeat (refine str_mem ⟨_, rfl, by decide⟩ ?_)
          intro u hu; cases hu)
        have c7 := Lib.hid (of_any 6 _ C M0 _ (DR.out.cur.alloc _) (by omega) hl0)
        clear hl0
        go_wp2_with fail
        refine c7.out.mono ?_
        rintro e w7 ⟨t7, rfl, ht7, hc7, hk7⟩
        have D7 := Lib.hid ((DR.out.alloc (.cells #[.string ⟨#[97]⟩, .string ⟨#[98]⟩, .string ⟨#[101]⟩, .string ⟨#[115, 104, 105, 112, 115]⟩, .string ⟨#[122]⟩, .string ⟨#[113]⟩] 9)).step hc7 hk7)
        have HBX7 := Lib.hid ((HBXR.out.alloc (.cells #[.string ⟨#[97]⟩, .string ⟨#[98]⟩, .string ⟨#[101]⟩, .string ⟨#[115, 104, 105, 112, 115]⟩, .string ⟨#[122]⟩, .string ⟨#[113]⟩] 9)).keepG hk7 (by omega))
        have HBR7 := Lib.hid ((HBRR.out.alloc (.cells #[.string ⟨#[97]⟩, .string ⟨#[98]⟩, .string ⟨#[101]⟩, .string ⟨#[115, 104, 105, 112, 115]⟩, .string ⟨#[122]⟩, .string ⟨#[113]⟩] 9)).step hk7 hCl)
        have hb7 := HBX7.out.cell 0
        clear hc7 hk7 c7 DR HBXR HBRR hbc
        rcases Nat.eq_zero_or_pos n with hn0 | hn0
        · subst hn0
          by_cases hfit : t.size + t7.size ≤ 40
          · have hfi : (t.size : Int) + (t7.size : Int) ≤ 40 := by omega
            go_wp2_with fail
            go_roundw
            case rel => exact ⟨q0 - 1, t ++ t7, by omega, by go_num, rfl, by rw [ByteArray.size_append]; omega, D7.out.mono (by omega)⟩
            case measure => (simp [intOf]; try omega)
          · have hfi : 40 < (t.size : Int) + (t7.size : Int) := by omega
            go_wp2_with fail
            go_roundw
            case rel => exact ⟨q0 - 1, t, by omega, by go_num, rfl, ht, D7.out.mono (by omega)⟩
            case measure => (simp [intOf]; try omega)
        · have hgn : decide (0 < n) = true := decide_eq_true hn0
          have c2 := Lib.hid (one_any 8 C _ w7 D7.out.cur (by omega) (by omega) (by omega))
          go_wp2_with fail
          refine c2.out.mono ?_
          rintro e w5 ⟨ob, rfl, hc5, hk5⟩
          have D5 := Lib.hid (D7.out.step hc5 hk5)
          have HBX5 := Lib.hid (HBX7.out.keepG hk5 (by omega))
          have HBR5 := Lib.hid (HBR7.out.step hk5 hCl)
          have hb5 := HBX5.out.cell 0
          clear hc5 hk5 D7 c2 HBX7 HBR7 hb7
          cases ob
          · obtain ⟨g, c', hv, hg, cur, hgc⟩ := HBR5.out.pos hn0
            cases hv
            clear hgc ht7
            have hcD : Cur w5.drew C (M0 + 2 + 2) := D5.out.cur
            have DD : Drew wa C (M0 + 2 + 2) w5.drew := D5.out.step hcD (KeepG.drawN w5 1)
            have hbd : Blk w5.drew w.heap.size 28 [.slice (some ⟨g, 0, Option.none⟩) n c] := HBX5.out
            have hbd0 := hbd.cell 0
            have hrD : BookR w5.drew lo 0 (.slice (some ⟨g, 0, Option.none⟩) n c) n := HBR5.out.step (KeepG.drawN w5 1) hCl
            go_wp2_with fail
            go_region_law (first
              | ((go_simp; go_at_call 94; (with_reducible refine (pick_any (n : Int) C (M0 + 2 + 2) _ hcD (by omega) (by omega) (by omega)).mono ?_); rintro e w6 ⟨z6, rfl, ⟨hz60, hz6n⟩, hc6, hk6⟩; have D6 := DD.step hc6 hk6; have hb6 := (hbd.keepG hk6 (by omega)).cell 0; obtain ⟨k6, h6e⟩ : ∃ k : Nat, z6 = (k : Int) := ⟨z6.toNat, by omega⟩; subst h6e; have hkn : k6 < n := (by omega); obtain ⟨t7, u7, hcu, _, _, ht7⟩ := (hrD.step hk6 hCl).at_ hkn; have HD6 := Lib.hid D6)))
            all_goals
              clear hcD DD hbd hbd0 hrD D5 D6 hc6 hk6
              by_cases hfit : t.size + t7.size ≤ 40
              · have hfi : (t.size : Int) + (t7.size : Int) ≤ 40 := by omega
                go_wp2_with fail
                go_roundw
                case rel => exact ⟨q0 - 1, t ++ t7, by omega, by go_num, rfl, by rw [ByteArray.size_append]; omega, HD6.out.mono (by omega)⟩
                case measure => (simp [intOf]; try omega)
              · have hfi : 40 < (t.size : Int) + (t7.size : Int) := by omega
                go_wp2_with fail
                go_roundw
                case rel => exact ⟨q0 - 1, t, by omega, by go_num, rfl, ht, HD6.out.mono (by omega)⟩
                case measure => (simp [intOf]; try omega)
          · by_cases hfit : t.size + t7.size ≤ 40
            · have hfi : (t.size : Int) + (t7.size : Int) ≤ 40 := by omega
              go_wp2_with fail
              go_roundw
              case rel => exact ⟨q0 - 1, t ++ t7, by omega, by go_num, rfl, by rw [ByteArray.size_append]; omega, D5.out.mono (by omega)⟩
              case measure => (simp [intOf]; try omega)
            · have hfi : 40 < (t.size : Int) + (t7.size : Int) := by omega
              go_wp2_with fail
              go_roundw
              case rel => exact ⟨q0 - 1, t, by omega, by go_num, rfl, ht, D5.out.mono (by omega)⟩
              case measure => (simp [intOf]; try omega)
      · obtain rfl : q0 = 0 := by omega
        clear hbc HBXR HBRR hq1
        obtain ⟨M5, hM5⟩ : ∃ M, M = m + 4 + 10 * (40 - 0) := ⟨_, rfl⟩
        rw [← hM5] at DR
        have c2 := Lib.hid (one_any 24 C _ wr DR.out.cur (by omega) (by omega) (by omega))
        go_wp2_with fail
        refine c2.out.mono ?_
        rintro e w5 ⟨ob, rfl, hc5, hk5⟩
        have D5 := Lib.hid (DR.out.step hc5 hk5)
        clear hc5 hk5 DR c2
        cases ob
        · obtain ⟨M6, hM6⟩ : ∃ M, M = M5 + 2 := ⟨_, rfl⟩
          rw [← hM6] at D5
          have c8 := Lib.hid (one_any 24 C _ w5 D5.out.cur (by omega) (by omega) (by omega))
          go_wp2_with fail
          refine c8.out.mono ?_
          rintro e w8 ⟨ob8, rfl, hc8, hk8⟩
          have D8 := Lib.hid (D5.out.step hc8 hk8)
          clear hc8 hk8 D5 c8
          cases ob8
          · go_wp2_with fail
            go_ret
            exact ⟨t, rfl, by omega, D8.out.cur.mono (by omega), HK0.out.trans D8.out.keep⟩
          · have hl9 := lstS_new w8 C #[.string ⟨#[65]⟩, .string ⟨#[32]⟩, .string ⟨#[49]⟩] 3 D8.out.cur.lt (by omega) (by omega) rfl (by
              repeat (refine str_mem ⟨_, rfl, by decide⟩ ?_)
              intro u hu; cases hu)
            have c9 := Lib.hid (of_any 3 _ C _ _ (D8.out.cur.alloc _) (by omega) hl9)
            clear hl9
            go_wp2_with fail
            refine c9.out.mono ?_
            rintro e w9 ⟨t9, rfl, ht9, hc9, hk9⟩
            have D9 := Lib.hid ((D8.out.alloc (.cells #[.string ⟨#[65]⟩, .string ⟨#[32]⟩, .string ⟨#[49]⟩] 9)).step hc9 hk9)
            clear hc9 hk9 c9 D8
            go_wp2_with fail
            go_ret
            exact ⟨t ++ t9, rfl, by rw [ByteArray.size_append]; omega, D9.out.cur.mono (by omega), HK0.out.trans D9.out.keep⟩
        · have c6 := Lib.hid (pick_any 2 C _ w5 D5.out.cur (by omega) (by omega) (by omega))
          go_wp2_with fail
          refine c6.out.mono ?_
          rintro e w6 ⟨z6, rfl, ⟨hz60, hz61⟩, hc6, hk6⟩
          have D6 := Lib.hid (D5.out.step hc6 hk6)
          obtain ⟨n6, hn6, hn61⟩ : ∃ n6 : Nat, 40 + z6 = (n6 : Int) ∧ n6 ≤ 41 := ⟨(40 + z6).toNat, by omega, by omega⟩
          clear hc6 hk6 c6 D5
          go_wp2_with fail
          go_loopw [5] (fun v wr => ∃ t : ByteArray, v = .string t ∧ t.size ≤ 41 ∧ w6 = wr) (fun v _ => 41 - strLen v)
          case atStart => exact ⟨t, rfl, by omega, by first | rfl | trivial⟩
          case round =>
            obtain ⟨s2, rfl, hs2, rfl⟩ := hrel
            by_cases hlt6 : s2.size < n6
            · go_wp2_with fail
              go_roundw
              case rel => exact ⟨s2 ++ ⟨#[97]⟩, rfl, by rw [ByteArray.size_append]; show s2.size + 1 ≤ 41; omega, by first | rfl | trivial⟩
              case measure =>
                have h97 : (⟨#[97]⟩ : ByteArray).size = 1 := rfl
                (simp [strLen, ByteArray.size_append]; try omega)
            · have hge : n6 ≤ s2.size := by omega
              obtain ⟨M6, hM6⟩ : ∃ M, M = M5 + 2 + 2 := ⟨_, rfl⟩
              rw [← hM6] at D6
              have c8 := Lib.hid (one_any 24 C _ w6 D6.out.cur (by omega) (by omega) (by omega))
              go_wp2_with fail
              refine c8.out.mono ?_
              rintro e w8 ⟨ob8, rfl, hc8, hk8⟩
              have D8 := Lib.hid (D6.out.step hc8 hk8)
              clear hc8 hk8 D6 c8
              cases ob8
              · go_wp2_with fail
                go_ret
                exact ⟨s2, rfl, by omega, D8.out.cur.mono (by omega), HK0.out.trans D8.out.keep⟩
              · have hl9 := lstS_new w8 C #[.string ⟨#[65]⟩, .string ⟨#[32]⟩, .string ⟨#[49]⟩] 3 D8.out.cur.lt (by omega) (by omega) rfl (by
                  repeat (refine str_mem ⟨_, rfl, by decide⟩ ?_)
                  intro u hu; cases hu)
                have c9 := Lib.hid (of_any 3 _ C _ _ (D8.out.cur.alloc _) (by omega) hl9)
                clear hl9
                go_wp2_with fail
                refine c9.out.mono ?_
                rintro e w9 ⟨t9, rfl, ht9, hc9, hk9⟩
                have D9 := Lib.hid ((D8.out.alloc (.cells #[.string ⟨#[65]⟩, .string ⟨#[32]⟩, .string ⟨#[49]⟩] 9)).step hc9 hk9)
                clear hc9 hk9 c9 D8
                go_wp2_with fail
                go_ret
                exact ⟨s2 ++ t9, rfl, by rw [ByteArray.size_append]; omega, D9.out.cur.mono (by omega), HK0.out.trans D9.out.keep⟩
/-- A drawn book and drawn letters. -/
def DrewBS (w : World) (e : Ending) (w' : World) : Prop := ∃ v n t, e = .returned (.tuple #[.agg #[v], .string t]) ∧ n ≤ 41 ∧ t.size ≤ 2000 ∧ BookR w' (w.heap.size + 1) 0 v n ∧ Below w.heap.size w w'
set_option maxRecDepth 100000 in
set_option maxHeartbeats 2000000 in
theorem DrawSpellMessage_any (zs : List UInt8) (v : Value) (hi : Nat) (w : World) (h : RdU w hi v zs) (hh : hi ≤ w.heap.size) :
    Calls Try.prog 21 #[v] w (DrewBS w) := by
  obtain ⟨A, c, rfl, hc, hm⟩ := Rd.form h
  have hR : Blk (w.alloc (.cells #[.slice Option.none 0 0] 28)) w.heap.size 28 [.slice Option.none 0 0] := Blk.new w _ _
  have hb0 : Below w.heap.size w (w.alloc (.cells #[.slice Option.none 0 0] 28)) := (Below.refl _ _).alloc (Nat.le_refl _) _
  have hsz : (w.alloc (.cells #[.slice Option.none 0 0] 28)).heap.size = w.heap.size + 1 := by simp
  have hu : RdU (w.alloc (.cells #[.slice Option.none 0 0] 28)) hi (.slice A zs.length c) zs := h.below hb0 hh
  clear h
  go_enter Try.func21, Try.ntmps21
  go_wp2_with fail
  generalize (w.alloc (.cells #[.slice Option.none 0 0] 28)) = wa at hR hb0 hsz hu ⊢
  have hcu := cur_new hu (by omega)
  have hR2 := hR.alloc (.cells #[.slice A zs.length c, .int .i64 0, .int .u64 0] 89)
  have hb1 : Below w.heap.size w (wa.alloc (.cells #[.slice A zs.length c, .int .i64 0, .int .u64 0] 89)) := hb0.alloc (by omega) _
  have hsz2 : (wa.alloc (.cells #[.slice A zs.length c, .int .i64 0, .int .u64 0] 89)).heap.size = w.heap.size + 2 := by simp; omega
  rw [hsz] at hcu
  generalize (wa.alloc (.cells #[.slice A zs.length c, .int .i64 0, .int .u64 0] 89)) = wb at hcu hR2 hb1 hsz2 ⊢
  try rw [hsz]
  have CB := Lib.hid (anyBook_any (w.heap.size + 1) 0 wb hcu (by omega))
  have hs2 : w.heap.size + 2 ≤ wb.heap.size := by omega
  clear hR hb0 hu hcu hsz hsz2
  refine CB.out.mono ?_
  rintro e w1 ⟨v1, n, rfl, hn, hr, hcur, hk⟩
  obtain ⟨A1, c1, rfl⟩ := hr.form
  have hs1 : w.heap.size + 2 ≤ w1.heap.size := by have := hk.size; omega
  have HRES := Lib.hid ((hR2.keepG hk (by omega)).alloc (.cells #[.slice A1 n c1] 28))
  have HBOX : Hid (Blk (w1.alloc (.cells #[.slice A1 n c1] 28)) w1.heap.size 28 [.slice A1 n c1]) := Blk.new w1 _ _
  have HROW := Lib.hid ((hr.lo (show w.heap.size + 2 ≤ wb.heap.size + 1 by omega)).alloc (.cells #[.slice A1 n c1] 28))
  have HCUR := Lib.hid (hcur.alloc (.cells #[.slice A1 n c1] 28))
  have HBL := Lib.hid ((keepG_bel hb1 hk (by omega)).alloc (show w.heap.size ≤ w1.heap.size by omega) (.cells #[.slice A1 n c1] 28))
  have hs3 : w1.heap.size + 1 ≤ (w1.alloc (.cells #[.slice A1 n c1] 28)).heap.size := by simp
  clear CB hR2 hb1 hr hcur hk hs2
  have hbc := HBOX.out.cell 0
  have hcD : Cur (w1.alloc (.cells #[.slice A1 n c1] 28)).drew (w.heap.size + 1) 21000 := HCUR.out.mono (by omega)
  have hbD : BookR (w1.alloc (.cells #[.slice A1 n c1] 28)).drew (w.heap.size + 2) 0 (.slice A1 n c1) n := HROW.out.step (KeepG.drawN _ 1) (show w.heap.size + 1 < w.heap.size + 2 by omega)
  have hxD : Blk (w1.alloc (.cells #[.slice A1 n c1] 28)).drew w1.heap.size 28 [.slice A1 n c1] := HBOX.out
  have hxc := hxD.cell 0
  have hRD : Blk (w1.alloc (.cells #[.slice A1 n c1] 28)).drew w.heap.size 28 [.slice Option.none 0 0] := HRES.out
  have hbl : Below w.heap.size w (w1.alloc (.cells #[.slice A1 n c1] 28)).drew := HBL.out.drew
  have hsd : w1.heap.size + 1 ≤ (w1.alloc (.cells #[.slice A1 n c1] 28)).drew.heap.size := hs3
  go_wp2_with fail
  go_region_law (first
    | ((go_simp; go_at_call 78; (with_reducible refine (letters_any (w.heap.size + 2) n c1 A1 (w.heap.size + 1) 21000 _ hcD (by omega) hbD hn (by omega)).mono ?_); rintro e w2 ⟨t2, rfl, htl, hc2, hk2⟩; have hx2 := (hxD.keepG hk2 (by omega)).cell 0; have hrb := hRD.keepG hk2 (by omega); have hrc := hrb.cell 0; have hrf := hrb.frozen 0)))
  all_goals
    have c10 := (hrb.set_ 0 (.slice A1 n c1)).cell 0
    have HB2 := Lib.hid (((hbD.step hk2 (by omega)).lo (show w.heap.size + 1 ≤ w.heap.size + 2 by omega)).ownBox hrb (u := .slice A1 n c1))
    have HL2 := Lib.hid ((keepG_bel hbl hk2 (by omega)).setCell (p := ⟨w.heap.size, 0, Option.none⟩) (Nat.le_refl _) (.slice A1 n c1))
    clear hbc hcD hbD hxD hxc hRD hbl hc2 hk2 hx2 hrb hrc hrf
    go_wp2_with fail
    refine bodyPost_ret (v := .tuple #[.agg #[.slice A1 n c1], .string t2]) (by simp [results, Try.results21, go_sem, c10]) rfl ?_
    exact ⟨_, n, t2, rfl, hn, htl, HB2.out, HL2.out⟩
set_option maxRecDepth 100000 in
set_option maxHeartbeats 8000000 in
theorem DrawSavedSignals_any (zs : List UInt8) (v : Value) (hi : Nat) (w : World) (h : RdU w hi v zs) (hh : hi ≤ w.heap.size) :
    Calls Try.prog 36 #[v] w (DrewBS w) := by
  obtain ⟨A, c, rfl, hc, hm⟩ := Rd.form h
  have hR : Blk (w.alloc (.cells #[.slice Option.none 0 0] 28)) w.heap.size 28 [.slice Option.none 0 0] := Blk.new w _ _
  have hb0 : Below w.heap.size w (w.alloc (.cells #[.slice Option.none 0 0] 28)) := (Below.refl _ _).alloc (Nat.le_refl _) _
  have hsz : (w.alloc (.cells #[.slice Option.none 0 0] 28)).heap.size = w.heap.size + 1 := by simp
  have hu : RdU (w.alloc (.cells #[.slice Option.none 0 0] 28)) hi (.slice A zs.length c) zs := h.below hb0 hh
  clear h
  go_enter Try.func36, Try.ntmps36
  go_wp2_with fail
  generalize (w.alloc (.cells #[.slice Option.none 0 0] 28)) = wa at hR hb0 hsz hu ⊢
  have hcu := cur_new hu (by omega)
  have hR2 := hR.alloc (.cells #[.slice A zs.length c, .int .i64 0, .int .u64 0] 89)
  have hb1 : Below w.heap.size w (wa.alloc (.cells #[.slice A zs.length c, .int .i64 0, .int .u64 0] 89)) := hb0.alloc (by omega) _
  have hsz2 : (wa.alloc (.cells #[.slice A zs.length c, .int .i64 0, .int .u64 0] 89)).heap.size = w.heap.size + 2 := by simp; omega
  rw [hsz] at hcu
  generalize (wa.alloc (.cells #[.slice A zs.length c, .int .i64 0, .int .u64 0] 89)) = wb at hcu hR2 hb1 hsz2 ⊢
  try rw [hsz]
  have CB := Lib.hid (anyBook_any (w.heap.size + 1) 0 wb hcu (by omega))
  have hs2 : w.heap.size + 2 ≤ wb.heap.size := by omega
  clear hR hb0 hu hcu hsz hsz2
  refine CB.out.mono ?_
  rintro e w1 ⟨v1, n, rfl, hn, hr, hcur, hk⟩
  obtain ⟨A1, c1, rfl⟩ := hr.form
  have hs1 : w.heap.size + 2 ≤ w1.heap.size := by have := hk.size; omega
  have HRES := Lib.hid ((hR2.keepG hk (by omega)).alloc (.cells #[.slice A1 n c1] 28))
  have HBOX : Hid (Blk (w1.alloc (.cells #[.slice A1 n c1] 28)) w1.heap.size 28 [.slice A1 n c1]) := Blk.new w1 _ _
  have HROW := Lib.hid ((hr.lo (show w.heap.size + 2 ≤ wb.heap.size + 1 by omega)).alloc (.cells #[.slice A1 n c1] 28))
  have HCUR := Lib.hid (hcur.alloc (.cells #[.slice A1 n c1] 28))
  have HBL := Lib.hid ((keepG_bel hb1 hk (by omega)).alloc (show w.heap.size ≤ w1.heap.size by omega) (.cells #[.slice A1 n c1] 28))
  have hs3 : w1.heap.size + 1 ≤ (w1.alloc (.cells #[.slice A1 n c1] 28)).heap.size := by simp
  clear CB hR2 hb1 hr hcur hk hs2
  have hbc := HBOX.out.cell 0
  have CL := Lib.hid (letters_any (w.heap.size + 2) n c1 A1 (w.heap.size + 1) 21000 _ (HCUR.out.mono (by omega)) (by omega) HROW.out hn (by omega))
  go_wp2_with fail
  generalize (w1.alloc (.cells #[.slice A1 n c1] 28)) = wx at HRES HBOX HROW HCUR HBL CL hbc hs3 ⊢
  refine CL.out.mono ?_
  rintro e w2 ⟨t2, rfl, htl, hc2, hk2⟩
  have hx2 := HBOX.out.keepG hk2 (by omega)
  have HX2 := Lib.hid hx2
  have hxc := hx2.cell 0
  have HR2 := Lib.hid (HRES.out.keepG hk2 (by omega))
  have HW2 := Lib.hid (HROW.out.step hk2 (by omega))
  have HC2 := Lib.hid hc2
  have HL2 := Lib.hid (keepG_bel HBL.out hk2 (by omega))
  have hs4 : w1.heap.size + 1 ≤ w2.heap.size := by have := hk2.size; omega
  clear CL hbc hx2 hc2 hk2 HRES HBOX HROW HCUR HBL hs3
  obtain ⟨ps, hpl, hrb⟩ := HW2.out.rdb
  subst hpl
  have hln := loneL_len ps
  obtain ⟨p, q, hpq, hqp⟩ : ∃ p q, loneV ps = .tuple #[.string p, .bool q] ∧ p.size ≤ 41 := by
    unfold loneV
    split
    · refine ⟨_, _, rfl, ?_⟩
      show (loneL ps).toArray.size ≤ 41
      simp; omega
    · exact ⟨_, _, rfl, by decide⟩
  have cl := sLone_any ps _ _ w2 hrb (Nat.le_refl _)
  rw [hpq] at cl
  have CL := Lib.hid cl
  clear cl hpq hrb hln
  go_wp2_with fail
  refine CL.out.mono ?_
  rintro e w3 ⟨rfl, hb3⟩
  have HX3 := Lib.hid (HX2.out.below hb3 (by omega))
  have HR3 := Lib.hid (HR2.out.below hb3 (by omega))
  have HW3 := Lib.hid (HW2.out.below hb3)
  have HC3 := Lib.hid (HC2.out.fresh hb3 (by omega))
  have HL3 := Lib.hid (HL2.out.trans (hb3.mono (by omega)))
  have hs5 : w1.heap.size + 1 ≤ w3.heap.size := by have := hb3.size; omega
  have hxc3 := HX3.out.cell 0
  clear hb3 CL HX2 HR2 HW2 HC2 HL2 hxc
  have HSAME : Hid (Drew w3 (w.heap.size + 1) 21600 w3) := ⟨HC3.out.mono (by omega), KeepG.refl _ _ _⟩
  cases q
  · have hxa := HX3.out.keepG HSAME.out.keep (by omega)
    have hxd := hxa.cell 0
    have hrb := HR3.out.keepG HSAME.out.keep (by omega)
    have hrc := hrb.cell 0
    have hrf := hrb.frozen 0
    have c10 := (hrb.set_ 0 (.slice A1 ps.length c1)).cell 0
    have HB9 := Lib.hid (((HW3.out.step HSAME.out.keep (by omega)).lo (show w.heap.size + 1 ≤ w.heap.size + 2 by omega)).ownBox hrb (u := .slice A1 ps.length c1))
    have HL9 := Lib.hid ((keepG_bel HL3.out HSAME.out.keep (by omega)).setCell (p := ⟨w.heap.size, 0, Option.none⟩) (Nat.le_refl _) (.slice A1 ps.length c1))
    clear hxa hrb
    go_wp2_with fail
    refine bodyPost_ret (v := .tuple #[.agg #[.slice A1 ps.length c1], .string t2]) (by simp [results, Try.results36, go_sem, c10]) rfl ?_
    exact ⟨_, ps.length, t2, rfl, hn, by omega, HB9.out, HL9.out⟩
  · cases hpe : p.toList.isEmpty
    · have HPE := Lib.hid hpe
      have hpp : 0 < p.size := by
        rcases Nat.eq_zero_or_pos p.size with h0 | h0
        · exfalso
          have : p = ByteArray.empty := by
            obtain ⟨⟨l⟩⟩ := p
            cases l with
            | nil => rfl
            | cons a r => simp [ByteArray.size] at h0
          subst this
          rw [ByteArray.toList_eq] at hpe; cases hpe
        · exact h0
      have c4 := Lib.hid (one_any 2 (w.heap.size + 1) _ w3 HSAME.out.cur (by omega) (by omega) (by omega))
      go_wp2_with fail
      refine c4.out.mono ?_
      rintro e w4 ⟨ob, rfl, hc4, hk4⟩
      have D4 := Lib.hid (HSAME.out.step hc4 hk4)
      clear hc4 hk4 c4
      cases ob
      · have hxb := HX3.out.keepG D4.out.keep (by omega)
        have hxd := hxb.cell 0
        have hrb := HR3.out.keepG D4.out.keep (by omega)
        have hrc := hrb.cell 0
        have hrf := hrb.frozen 0
        have c10 := (hrb.set_ 0 (.slice A1 ps.length c1)).cell 0
        have HB9 := Lib.hid (((HW3.out.step D4.out.keep (by omega)).lo (show w.heap.size + 1 ≤ w.heap.size + 2 by omega)).ownBox hrb (u := .slice A1 ps.length c1))
        have HL9 := Lib.hid ((keepG_bel HL3.out D4.out.keep (by omega)).setCell (p := ⟨w.heap.size, 0, Option.none⟩) (Nat.le_refl _) (.slice A1 ps.length c1))
        clear hxb hrb
        go_wp2_with fail
        refine bodyPost_ret (v := .tuple #[.agg #[.slice A1 ps.length c1], .string t2]) (by simp [results, Try.results36, go_sem, c10]) rfl ?_
        exact ⟨_, ps.length, t2, rfl, hn, by omega, HB9.out, HL9.out⟩
      · have c5 := Lib.hid (pick_any 9 (w.heap.size + 1) _ w4 D4.out.cur (by omega) (by omega) (by omega))
        go_wp2_with fail
        refine c5.out.mono ?_
        rintro e w5 ⟨z5, rfl, ⟨hz50, hz51⟩, hc5, hk5⟩
        have D5 := Lib.hid (D4.out.step hc5 hk5)
        obtain ⟨q5, rfl, hq5⟩ : ∃ q : Nat, z5 = (q : Int) ∧ q ≤ 8 := ⟨z5.toNat, by omega, by omega⟩
        clear hc5 hk5 c5 D4
        go_wp2_with fail
        go_loopw [6, 9] (fun v k wr => ∃ (q0 : Nat) (t : ByteArray), q0 ≤ 8 ∧ k = .int .i64 (q0 : Int) ∧ v = .string t ∧ t.size + q0 ≤ 8 ∧ Hid (Drew w3 (w.heap.size + 1) (21604 + 2 * (8 - q0)) wr)) (fun _ k _ => (intOf k).toNat)
        case atStart => exact ⟨q5, { data := #[] }, hq5, rfl, rfl, by show 0 + q5 ≤ 8; omega, D5.out.mono (by omega)⟩
        case round =>
          obtain ⟨q0, t, hq0, rfl, rfl, ht, DR⟩ := hrel
          clear D5
          by_cases hlt : 0 < q0
          · have c6 := Lib.hid (pick_any (p.size : Int) (w.heap.size + 1) _ wr DR.out.cur (by omega) (by omega) (by omega))
            go_wp2_with fail
            refine c6.out.mono ?_
            rintro e w6 ⟨z6, rfl, ⟨hz60, hz61⟩, hc6, hk6⟩
            have D6 := Lib.hid (DR.out.step hc6 hk6)
            obtain ⟨i6, rfl⟩ : ∃ k : Nat, z6 = (k : Int) := ⟨z6.toNat, by omega⟩
            have hi6 : i6 < p.size := by omega
            have hex : (p.extract i6 (i6 + 1)).size = 1 := by rw [ByteArray.size_extract]; omega
            clear hc6 hk6 c6 DR
            go_wp2_with fail
            go_roundw
            case rel => exact ⟨q0 - 1, t ++ p.extract i6 (i6 + 1), by omega, by go_num, by go_num, by rw [ByteArray.size_append, hex]; omega, D6.out.mono (by omega)⟩
            case measure => (simp [intOf]; try omega)
          · obtain rfl : q0 = 0 := by omega
            have hxc := HX3.out.keepG DR.out.keep (by omega)
            have hxd := hxc.cell 0
            have hrb := HR3.out.keepG DR.out.keep (by omega)
            have hrc := hrb.cell 0
            have hrf := hrb.frozen 0
            have c10 := (hrb.set_ 0 (.slice A1 ps.length c1)).cell 0
            have HB9 := Lib.hid (((HW3.out.step DR.out.keep (by omega)).lo (show w.heap.size + 1 ≤ w.heap.size + 2 by omega)).ownBox hrb (u := .slice A1 ps.length c1))
            have HL9 := Lib.hid ((keepG_bel HL3.out DR.out.keep (by omega)).setCell (p := ⟨w.heap.size, 0, Option.none⟩) (Nat.le_refl _) (.slice A1 ps.length c1))
            clear hxc hrb
            go_wp2_with fail
            refine bodyPost_ret (v := .tuple #[.agg #[.slice A1 ps.length c1], .string t]) (by simp [results, Try.results36, go_sem, c10]) rfl ?_
            exact ⟨_, ps.length, t, rfl, hn, by omega, HB9.out, HL9.out⟩
    · have HPE := Lib.hid hpe
      have hxd := HX3.out.keepG HSAME.out.keep (by omega)
      have hxd := hxd.cell 0
      have hrb := HR3.out.keepG HSAME.out.keep (by omega)
      have hrc := hrb.cell 0
      have hrf := hrb.frozen 0
      have c10 := (hrb.set_ 0 (.slice A1 ps.length c1)).cell 0
      have HB9 := Lib.hid (((HW3.out.step HSAME.out.keep (by omega)).lo (show w.heap.size + 1 ≤ w.heap.size + 2 by omega)).ownBox hrb (u := .slice A1 ps.length c1))
      have HL9 := Lib.hid ((keepG_bel HL3.out HSAME.out.keep (by omega)).setCell (p := ⟨w.heap.size, 0, Option.none⟩) (Nat.le_refl _) (.slice A1 ps.length c1))
      clear hxd hrb
      go_wp2_with fail
      refine bodyPost_ret (v := .tuple #[.agg #[.slice A1 ps.length c1], .string t2]) (by simp [results, Try.results36, go_sem, c10]) rfl ?_
      exact ⟨_, ps.length, t2, rfl, hn, by omega, HB9.out, HL9.out⟩
end Go.Proofs.Ytjnkdjokbamibaa
