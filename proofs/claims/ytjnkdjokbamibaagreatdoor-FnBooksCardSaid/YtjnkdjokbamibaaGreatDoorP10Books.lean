/- Texts of one claim, joined: Z8. -/
import Derived.Deep.DeepCutAuto
import Derived.Deep.CutBlock
import Derived.Test.YtjnkdjokbamibaaGreatDoorP9Books
/- Contracts: a drawn book and a drawn phrase. -/
namespace Go.Proofs.YtjnkdjokbamibaaGreatDoor
open Go.RowKit
/-- As DbS, with a second result: a phrase. -/
def DpS (w : World) (C m L : Nat) (wr : World) (v : Value) (n : Nat) : Prop := DbS w C m L wr v n ∧ Blk wr (w.heap.size + 1) 45 [.string ⟨#[]⟩, .slice Option.none 0 0] ∧ w.heap.size + 1 < C
theorem DpS.step {w wr w' : World} {C m m' L n : Nat} {v : Value} (h : DpS w C m L wr v n) (hc : Cur w' C m') (hk : KeepG C (C + 1) wr w') : DpS w C m' L w' v n := ⟨h.1.step hc hk, h.2.1.keepG hk (by have := h.2.2; omega), h.2.2⟩
theorem DpS.alloc {w wr : World} {C m L n : Nat} {v : Value} (h : DpS w C m L wr v n) (o : Obj) : DpS w C m L (wr.alloc o) v n := h.step (h.1.cur.alloc o) ((KeepG.refl _ _ _).alloc o)
theorem DpS.drew {w wr : World} {C m L n : Nat} {v : Value} (h : DpS w C m L wr v n) : DpS w C m L wr.drew v n := h.step h.1.cur (KeepG.drawN wr 1)
/-- Another row is stored into the box. -/
theorem DpS.put {w wr : World} {C m L n n' : Nat} {v v' : Value} (h : DpS w C m L wr v n) (hr : BookR wr (C + 1) 0 v' n') : DpS w C m L (wr.setCell ⟨L, 0, Option.none⟩ v') v' n' := by
  have hf := h.1.far
  exact ⟨⟨h.1.res.far (p := ⟨L, 0, Option.none⟩) (show w.heap.size ≠ L by omega) _, h.1.box.set_ 0 _, hr.ownBox h.1.box, h.1.cur.fresh ((Below.refl L wr).setCell (p := ⟨L, 0, Option.none⟩) (Nat.le_refl _) _) (by omega), h.1.bel.setCell (p := ⟨L, 0, Option.none⟩) (show w.heap.size ≤ L by omega) _, hf⟩,
    h.2.1.far (p := ⟨L, 0, Option.none⟩) (show w.heap.size + 1 ≠ L by omega) _, h.2.2⟩
theorem OwI.stepK {w w' : World} {lo C : Nat} {v : Value} {xs : List Int} (h : OwI w lo w.heap.size v xs) (hk : KeepG C (C + 1) w w') (hC : C < lo) : OwI w' lo w'.heap.size v xs := by
  have h1 := owns_keepG h.1 hk hC
  exact ⟨h1, fun k hk' => (h1.lt k hk').2⟩
theorem keepG_set (w : World) (C i : Nat) (u : Value) : KeepG C (C + 1) w (w.setCell ⟨C, i, Option.none⟩ u) := ((Keep.refl C (C + 1) w).setCell (p := ⟨C, i, Option.none⟩) (Nat.le_refl _) (Nat.lt_succ_self _) u).g
/-- The book lies in its result's box; the phrase's signals lie ready. -/
structure FpS (w : World) (C : Nat) (W : World) (v : Value) (n : Nat) (u : Value) (xs : List Int) : Prop where
  res : Blk W w.heap.size 41 [v]
  ph : Blk W (w.heap.size + 1) 45 [.string ⟨#[]⟩, .slice Option.none 0 0]
  row : BookR W (C + 1) 0 v n
  own : OwI W (C + 1) W.heap.size u xs
  bel : Below w.heap.size w W
  far : w.heap.size + 1 < C
theorem DpS.f1 {w w7 : World} {C m L n : Nat} {v : Value} (h : DpS w C m L w7 v n) (a b : Int) : FpS w C ((w7.alloc (.cells #[.int .i64 a, .int .i64 b] 3)).setCell ⟨w.heap.size, 0, Option.none⟩ v) v n (.slice (some ⟨w7.heap.size, 0, Option.none⟩) 2 2) [a, b] := by
  have hf := h.1.far
  have hl := h.1.box.lt
  have hA := h.alloc (.cells #[.int .i64 a, .int .i64 b] 3)
  have hC := h.2.2
  exact ⟨hA.1.res.set_ 0 v, hA.2.1.far (p := ⟨w.heap.size, 0, Option.none⟩) (show w.heap.size + 1 ≠ w.heap.size by omega) _, hA.1.row.step (keepG_set _ w.heap.size 0 v) (by omega), ((own_two w7 a b).mono (show C + 1 ≤ w7.heap.size by omega) (Nat.le_refl _)).stepK (keepG_set _ w.heap.size 0 v) (by omega), hA.1.bel.setCell (p := ⟨w.heap.size, 0, Option.none⟩) (Nat.le_refl _) _, hC⟩
theorem DpS.f2 {w w7 : World} {C m L n : Nat} {v : Value} (h : DpS w C m L w7 v n) (a b : Int) : FpS w C ((w7.setCell ⟨w.heap.size, 0, Option.none⟩ v).alloc (.cells #[.int .i64 a, .int .i64 b] 3)) v n (.slice (some ⟨w7.heap.size, 0, Option.none⟩) 2 2) [a, b] := by
  have hf := h.1.far
  have hl := h.1.box.lt
  have hC := h.2.2
  have ho := own_two (w7.setCell ⟨w.heap.size, 0, Option.none⟩ v) a b
  rw [World.size_setCell] at ho
  have hs : (w7.setCell ⟨w.heap.size, 0, Option.none⟩ v).heap.size = w7.heap.size := World.size_setCell ..
  exact ⟨(h.1.res.set_ 0 v).alloc _, (h.2.1.far (p := ⟨w.heap.size, 0, Option.none⟩) (show w.heap.size + 1 ≠ w.heap.size by omega) _).alloc _, (h.1.row.step (keepG_set _ w.heap.size 0 v) (by omega)).alloc _, ho.mono (show C + 1 ≤ w7.heap.size by omega) (Nat.le_refl _), (h.1.bel.setCell (p := ⟨w.heap.size, 0, Option.none⟩) (Nat.le_refl _) _).alloc (by rw [hs]; omega) _, hC⟩
theorem FpS.done {w W : World} {C n : Nat} {v u : Value} {xs : List Int} (h : FpS w C W v n u xs) (t : Value) :
    BookR ((W.setCell ⟨w.heap.size + 1, 0, Option.none⟩ t).setCell ⟨w.heap.size + 1, 1, Option.none⟩ u) w.heap.size 0 v n ∧ OwI ((W.setCell ⟨w.heap.size + 1, 0, Option.none⟩ t).setCell ⟨w.heap.size + 1, 1, Option.none⟩ u) w.heap.size ((W.setCell ⟨w.heap.size + 1, 0, Option.none⟩ t).setCell ⟨w.heap.size + 1, 1, Option.none⟩ u).heap.size u xs ∧
    Below w.heap.size w ((W.setCell ⟨w.heap.size + 1, 0, Option.none⟩ t).setCell ⟨w.heap.size + 1, 1, Option.none⟩ u) ∧
    ((W.setCell ⟨w.heap.size + 1, 0, Option.none⟩ t).setCell ⟨w.heap.size + 1, 1, Option.none⟩ u).cell? ⟨w.heap.size, 0, Option.none⟩ = some v ∧ ((W.setCell ⟨w.heap.size + 1, 0, Option.none⟩ t).setCell ⟨w.heap.size + 1, 1, Option.none⟩ u).cell? ⟨w.heap.size + 1, 0, Option.none⟩ = some t ∧ ((W.setCell ⟨w.heap.size + 1, 0, Option.none⟩ t).setCell ⟨w.heap.size + 1, 1, Option.none⟩ u).cell? ⟨w.heap.size + 1, 1, Option.none⟩ = some u := by
  have hk := (keepG_set W (w.heap.size + 1) 0 t).trans (keepG_set _ (w.heap.size + 1) 1 u)
  have hf := h.far
  have hp := (h.ph.set_ 0 t).set_ 1 u
  refine ⟨(h.row.step hk (by omega)).lo (by omega), (h.own.stepK hk (by omega)).mono (by omega) (Nat.le_refl _), (h.bel.setCell (p := ⟨w.heap.size + 1, 0, Option.none⟩) (Nat.le_succ _) _).setCell (p := ⟨w.heap.size + 1, 1, Option.none⟩) (Nat.le_succ _) _, (h.res.keepG hk (by omega)).cell 0, hp.cell 0, hp.cell 1⟩
/-- A drawn book and a drawn phrase. -/
def DrewBPh (w : World) (e : Ending) (w' : World) : Prop := ∃ v n t u xs, e = .returned (.tuple #[.agg #[v], .agg #[.string t, u]]) ∧ n ≤ 41 ∧ t.size ≤ 1000 ∧ xs.length ≤ 1000 ∧ BookR w' w.heap.size 0 v n ∧ OwI w' w.heap.size w'.heap.size u xs ∧ Below w.heap.size w w'
set_option maxRecDepth 100000 in
set_option maxHeartbeats 8000000 in
theorem DrawAddPhrase_any (zs : List UInt8) (v : Value) (hi : Nat) (w : World) (h : RdU w hi v zs) (hh : hi ≤ w.heap.size) :
    Calls Tryz.prog 24 #[v] w (DrewBPh w) := by
  obtain ⟨A, c, rfl, hc, hm⟩ := Rd.form h
  have hR : Blk ((w.alloc (.cells #[.slice Option.none 0 0] 41)).alloc (.cells #[.string ⟨#[]⟩, .slice Option.none 0 0] 45)) w.heap.size 41 [.slice Option.none 0 0] := (Blk.new w _ _).alloc _
  have hP : Blk ((w.alloc (.cells #[.slice Option.none 0 0] 41)).alloc (.cells #[.string ⟨#[]⟩, .slice Option.none 0 0] 45)) (w.heap.size + 1) 45 [.string ⟨#[]⟩, .slice Option.none 0 0] := by
    have := Blk.new (w.alloc (.cells #[.slice Option.none 0 0] 41)) 45 #[.string ⟨#[]⟩, .slice Option.none 0 0]
    rwa [World.size_alloc] at this
  have hb0 : Below w.heap.size w ((w.alloc (.cells #[.slice Option.none 0 0] 41)).alloc (.cells #[.string ⟨#[]⟩, .slice Option.none 0 0] 45)) := ((Below.refl _ _).alloc (Nat.le_refl _) _).alloc (by simp) _
  have hsz : ((w.alloc (.cells #[.slice Option.none 0 0] 41)).alloc (.cells #[.string ⟨#[]⟩, .slice Option.none 0 0] 45)).heap.size = w.heap.size + 2 := by simp
  have hu : RdU ((w.alloc (.cells #[.slice Option.none 0 0] 41)).alloc (.cells #[.string ⟨#[]⟩, .slice Option.none 0 0] 45)) hi (.slice A zs.length c) zs := h.below hb0 hh
  clear h
  go_enter Tryz.func24, Tryz.ntmps24
  go_wp2_with fail
  generalize ((w.alloc (.cells #[.slice Option.none 0 0] 41)).alloc (.cells #[.string ⟨#[]⟩, .slice Option.none 0 0] 45)) = wa at hR hP hb0 hsz hu ⊢
  have hcu := cur_new hu (by omega)
  have hR2 := hR.alloc (.cells #[.slice A zs.length c, .int .i64 0, .int .u64 0] 71)
  have hP2 := hP.alloc (.cells #[.slice A zs.length c, .int .i64 0, .int .u64 0] 71)
  have hb1 : Below w.heap.size w (wa.alloc (.cells #[.slice A zs.length c, .int .i64 0, .int .u64 0] 71)) := hb0.alloc (by omega) _
  have hsz2 : (wa.alloc (.cells #[.slice A zs.length c, .int .i64 0, .int .u64 0] 71)).heap.size = w.heap.size + 3 := by simp; omega
  rw [hsz] at hcu
  generalize (wa.alloc (.cells #[.slice A zs.length c, .int .i64 0, .int .u64 0] 71)) = wb at hcu hR2 hP2 hb1 hsz2 ⊢
  try rw [hsz]
  have CB := Lib.hid (anyBook_any (w.heap.size + 2) 0 wb hcu (by omega))
  have hs2 : w.heap.size + 3 ≤ wb.heap.size := by omega
  clear hR hP hb0 hu hcu hsz hsz2
  refine CB.out.mono ?_
  rintro e w1 ⟨v1, n, rfl, hn, hr, hcur, hk⟩
  obtain ⟨A1, c1, rfl⟩ := hr.form
  have hs1 : w.heap.size + 3 ≤ w1.heap.size := by have := hk.size; omega
  have D1 : Hid (DpS w (w.heap.size + 2) 21000 w1.heap.size (w1.alloc (.cells #[.slice A1 n c1] 41)) (.slice A1 n c1) n) :=
    ⟨⟨(hR2.keepG hk (by omega)).alloc _, Blk.new w1 _ _, (hr.lo (show w.heap.size + 2 + 1 ≤ wb.heap.size + 1 by omega)).alloc _, (hcur.mono (by omega)).alloc _, (keepG_bel hb1 hk (by omega)).alloc (by omega) _, by omega⟩, (hP2.keepG hk (by omega)).alloc _, by omega⟩
  clear CB hR2 hP2 hb1 hr hcur hk hs2
  have c2 := Lib.hid (one_any 16 (w.heap.size + 2) 21000 _ D1.out.1.cur (by omega) (by omega) (by omega))
  go_wp2_with fail
  refine c2.out.mono ?_
  rintro e w2 ⟨ob, rfl, hc2, hk2⟩
  have D2 := Lib.hid (D1.out.step hc2 hk2)
  clear hc2 hk2 c2 D1
  go_upto_if 12 with fail
  go_cut [13] (fun s wx => ∃ (A : Option Addr) (k c : Nat), k ≤ 41 ∧ Hid (DpS w (w.heap.size + 2) 21010 w1.heap.size wx (.slice A k c) k))
  case first =>
    cases ob
    · go_wp2_with fail
      go_meet
      exact ⟨A1, n, c1, hn, ⟨⟨D2.out.1.res, D2.out.1.box, D2.out.1.row, D2.out.1.cur.mono (by omega), D2.out.1.bel, D2.out.1.far⟩, D2.out.2⟩⟩
    · have c3 := Lib.hid (pick_any 2 (w.heap.size + 2) (21000 + 2) _ D2.out.1.cur (by omega) (by omega) (by omega))
      go_wp2_with fail
      refine c3.out.mono ?_
      rintro e w3 ⟨z3, rfl, ⟨hz3, hy3⟩, hc3, hk3⟩
      have D3 := Lib.hid (D2.out.step hc3 hk3)
      obtain ⟨k, hk40, hkl⟩ : ∃ k : Nat, 40 - z3 = (k : Int) ∧ k ≤ 41 := ⟨(40 - z3).toNat, by omega, by omega⟩
      have c4 := Lib.hid (manyPhrases_any k hkl w3)
      clear hc3 hk3 c3 D2
      go_wp2_with fail
      refine c4.out.mono ?_
      rintro e w4 ⟨v4, rfl, hr4, hb4⟩
      obtain ⟨A4, c4', rfl⟩ := hr4.form
      have hlt3 := D3.out.1.cur.lt
      have D4 : Hid (DpS w (w.heap.size + 2) (21000 + 2 + 2) w1.heap.size w4 (.slice A1 n c1) n) := D3.out.step (D3.out.1.cur.fresh hb4 hlt3) (below_g hb4)
      have hbx := D4.out.1.box.cell 0
      have hbf := D4.out.1.box.frozen 0
      have D5 := Lib.hid (D4.out.put (hr4.zero.lo (show w.heap.size + 2 + 1 ≤ w3.heap.size + 2 by omega)))
      clear hr4 hb4 c4 D3 D4
      go_wp2_with fail
      go_meet
      exact ⟨A4, k, c4', hkl, ⟨⟨D5.out.1.res, D5.out.1.box, D5.out.1.row, D5.out.1.cur.mono (by omega), D5.out.1.bel, D5.out.1.far⟩, D5.out.2⟩⟩
  case rest =>
    obtain ⟨A, k, c, hkl, DX⟩ := hcut
    rename World => wd
    clear D2 hn
    have hbx := DX.out.1.box.cell 0
    have hbs := (DX.out.1.box.alloc (.cells #[.string ⟨#[97, 97]⟩, .string ⟨#[109, 97, 115, 116]⟩, .string ⟨#[122, 122]⟩, .string ⟨#[97]⟩, .string ⟨#[]⟩, .string ⟨#[66]⟩] 9)).cell 0
    have hbi := (DX.out.1.box.alloc (.cells #[.int .i64 1, .int .i64 5, .int .i64 60, .int .i64 61] 3)).cell 0
    have hbsi := ((DX.out.1.box.alloc (.cells #[.string ⟨#[97, 97]⟩, .string ⟨#[109, 97, 115, 116]⟩, .string ⟨#[122, 122]⟩, .string ⟨#[97]⟩, .string ⟨#[]⟩, .string ⟨#[66]⟩] 9)).alloc (.cells #[.int .i64 1, .int .i64 5, .int .i64 60, .int .i64 61] 3)).cell 0
    have hbis := ((DX.out.1.box.alloc (.cells #[.int .i64 1, .int .i64 5, .int .i64 60, .int .i64 61] 3)).alloc (.cells #[.string ⟨#[97, 97]⟩, .string ⟨#[109, 97, 115, 116]⟩, .string ⟨#[122, 122]⟩, .string ⟨#[97]⟩, .string ⟨#[]⟩, .string ⟨#[66]⟩] 9)).cell 0
    have XA := (DX.out.alloc (.cells #[.string ⟨#[97, 97]⟩, .string ⟨#[109, 97, 115, 116]⟩, .string ⟨#[122, 122]⟩, .string ⟨#[97]⟩, .string ⟨#[]⟩, .string ⟨#[66]⟩] 9)).drew
    have XB := ((DX.out.alloc (.cells #[.string ⟨#[97, 97]⟩, .string ⟨#[109, 97, 115, 116]⟩, .string ⟨#[122, 122]⟩, .string ⟨#[97]⟩, .string ⟨#[]⟩, .string ⟨#[66]⟩] 9)).alloc (.cells #[.int .i64 1, .int .i64 5, .int .i64 60, .int .i64 61] 3)).drew
    have XC := ((DX.out.alloc (.cells #[.int .i64 1, .int .i64 5, .int .i64 60, .int .i64 61] 3)).alloc (.cells #[.string ⟨#[97, 97]⟩, .string ⟨#[109, 97, 115, 116]⟩, .string ⟨#[122, 122]⟩, .string ⟨#[97]⟩, .string ⟨#[]⟩, .string ⟨#[66]⟩] 9)).drew
    have hC1 := DX.out.1.cur.lt
    have HS : ∀ u ∈ (#[.string ⟨#[97, 97]⟩, .string ⟨#[109, 97, 115, 116]⟩, .string ⟨#[122, 122]⟩, .string ⟨#[97]⟩, .string ⟨#[]⟩, .string ⟨#[66]⟩] : Array Value).toList, ∃ t : ByteArray, u = .string t ∧ t.size ≤ 1000 := by
      repeat (refine str_mem ⟨_, rfl, by decide⟩ ?_)
      intro u hu
      cases hu
    have lsA : LstS (wd.alloc (.cells #[.string ⟨#[97, 97]⟩, .string ⟨#[109, 97, 115, 116]⟩, .string ⟨#[122, 122]⟩, .string ⟨#[97]⟩, .string ⟨#[]⟩, .string ⟨#[66]⟩] 9)).drew (w.heap.size + 2) (.slice (some ⟨wd.heap.size, 0, Option.none⟩) 6 6) 6 := lstS_new wd (w.heap.size + 2) #[.string ⟨#[97, 97]⟩, .string ⟨#[109, 97, 115, 116]⟩, .string ⟨#[122, 122]⟩, .string ⟨#[97]⟩, .string ⟨#[]⟩, .string ⟨#[66]⟩] 6 hC1 (by omega) (by omega) rfl HS
    have lsB : LstS ((wd.alloc (.cells #[.string ⟨#[97, 97]⟩, .string ⟨#[109, 97, 115, 116]⟩, .string ⟨#[122, 122]⟩, .string ⟨#[97]⟩, .string ⟨#[]⟩, .string ⟨#[66]⟩] 9)).alloc (.cells #[.int .i64 1, .int .i64 5, .int .i64 60, .int .i64 61] 3)).drew (w.heap.size + 2) (.slice (some ⟨wd.heap.size, 0, Option.none⟩) 6 6) 6 := LstS.keepG (w := wd.alloc (.cells #[.string ⟨#[97, 97]⟩, .string ⟨#[109, 97, 115, 116]⟩, .string ⟨#[122, 122]⟩, .string ⟨#[97]⟩, .string ⟨#[]⟩, .string ⟨#[66]⟩] 9)) (w' := (wd.alloc (.cells #[.string ⟨#[97, 97]⟩, .string ⟨#[109, 97, 115, 116]⟩, .string ⟨#[122, 122]⟩, .string ⟨#[97]⟩, .string ⟨#[]⟩, .string ⟨#[66]⟩] 9)).alloc (.cells #[.int .i64 1, .int .i64 5, .int .i64 60, .int .i64 61] 3)) lsA ((KeepG.refl _ _ _).alloc _)
    have lsC : LstS ((wd.alloc (.cells #[.int .i64 1, .int .i64 5, .int .i64 60, .int .i64 61] 3)).alloc (.cells #[.string ⟨#[97, 97]⟩, .string ⟨#[109, 97, 115, 116]⟩, .string ⟨#[122, 122]⟩, .string ⟨#[97]⟩, .string ⟨#[]⟩, .string ⟨#[66]⟩] 9)).drew (w.heap.size + 2) (.slice (some ⟨wd.heap.size + 1, 0, Option.none⟩) 6 6) 6 := by
      have h := lstS_new (wd.alloc (.cells #[.int .i64 1, .int .i64 5, .int .i64 60, .int .i64 61] 3)) (w.heap.size + 2) #[.string ⟨#[97, 97]⟩, .string ⟨#[109, 97, 115, 116]⟩, .string ⟨#[122, 122]⟩, .string ⟨#[97]⟩, .string ⟨#[]⟩, .string ⟨#[66]⟩] 6 (by simp; omega) (by omega) (by omega) rfl HS
      rw [World.size_alloc] at h
      exact h
    have liB : Lst ((wd.alloc (.cells #[.string ⟨#[97, 97]⟩, .string ⟨#[109, 97, 115, 116]⟩, .string ⟨#[122, 122]⟩, .string ⟨#[97]⟩, .string ⟨#[]⟩, .string ⟨#[66]⟩] 9)).alloc (.cells #[.int .i64 1, .int .i64 5, .int .i64 60, .int .i64 61] 3)).drew (w.heap.size + 2) (.slice (some ⟨wd.heap.size + 1, 0, Option.none⟩) 4 4) [1, 5, 60, 61] := by
      have h : Lst ((wd.alloc (.cells #[.string ⟨#[97, 97]⟩, .string ⟨#[109, 97, 115, 116]⟩, .string ⟨#[122, 122]⟩, .string ⟨#[97]⟩, .string ⟨#[]⟩, .string ⟨#[66]⟩] 9)).alloc (.cells #[.int .i64 1, .int .i64 5, .int .i64 60, .int .i64 61] 3)) (w.heap.size + 2) (.slice (some ⟨(wd.alloc (.cells #[.string ⟨#[97, 97]⟩, .string ⟨#[109, 97, 115, 116]⟩, .string ⟨#[122, 122]⟩, .string ⟨#[97]⟩, .string ⟨#[]⟩, .string ⟨#[66]⟩] 9)).heap.size, 0, Option.none⟩) 4 4) [1, 5, 60, 61] := lst_new (wd.alloc (.cells #[.string ⟨#[97, 97]⟩, .string ⟨#[109, 97, 115, 116]⟩, .string ⟨#[122, 122]⟩, .string ⟨#[97]⟩, .string ⟨#[]⟩, .string ⟨#[66]⟩] 9)) (w.heap.size + 2) [1, 5, 60, 61] (by simp; omega) (by simp) (by simp)
      rw [World.size_alloc] at h
      exact h
    have liC : Lst ((wd.alloc (.cells #[.int .i64 1, .int .i64 5, .int .i64 60, .int .i64 61] 3)).alloc (.cells #[.string ⟨#[97, 97]⟩, .string ⟨#[109, 97, 115, 116]⟩, .string ⟨#[122, 122]⟩, .string ⟨#[97]⟩, .string ⟨#[]⟩, .string ⟨#[66]⟩] 9)).drew (w.heap.size + 2) (.slice (some ⟨wd.heap.size, 0, Option.none⟩) 4 4) [1, 5, 60, 61] := by
      have h : Lst (wd.alloc (.cells #[.int .i64 1, .int .i64 5, .int .i64 60, .int .i64 61] 3)) (w.heap.size + 2) (.slice (some ⟨wd.heap.size, 0, Option.none⟩) 4 4) [1, 5, 60, 61] := lst_new wd (w.heap.size + 2) [1, 5, 60, 61] hC1 (by simp) (by simp)
      exact h.keepG (w' := (wd.alloc (.cells #[.int .i64 1, .int .i64 5, .int .i64 60, .int .i64 61] 3)).alloc (.cells #[.string ⟨#[97, 97]⟩, .string ⟨#[109, 97, 115, 116]⟩, .string ⟨#[122, 122]⟩, .string ⟨#[97]⟩, .string ⟨#[]⟩, .string ⟨#[66]⟩] 9)) ((KeepG.refl _ _ _).alloc _)
    have cuA := Lib.hid XA.1.cur
    have cuB := Lib.hid XB.1.cur
    have cuC := Lib.hid XC.1.cur
    have HXA := Lib.hid XA
    have HXB := Lib.hid XB
    have HXC := Lib.hid XC
    have HlsA := Lib.hid lsA
    have HlsB := Lib.hid lsB
    have HlsC := Lib.hid lsC
    have HliB := Lib.hid liB
    have HliC := Lib.hid liC
    clear XA XB XC lsA lsB lsC liB liC HS DX
    go_wp2_with fail
    go_region_law (first
      | ((go_simp; go_at_call 73; (with_reducible refine (of_any 6 _ (w.heap.size + 2) 21010 _ (by first | exact cuA.out | exact cuB.out | exact cuC.out) (by omega) (by first | exact HlsA.out | exact HlsB.out | exact HlsC.out)).mono ?_); rintro e w5 ⟨t, rfl, ht, hc5, hk5⟩; (first | (have X5 := HXA.out.step hc5 hk5) | (have X5 := HXB.out.step hc5 hk5; have l5 := HliB.out.keepG hk5) | (have X5 := HXC.out.step hc5 hk5; have l5 := HliC.out.keepG hk5)); have hx5 := X5.1.box.cell 0; have X5a := X5.alloc (.cells #[.int .i64 1, .int .i64 5, .int .i64 60, .int .i64 61] 3); have cu5 := X5.1.cur; have cu5a := X5a.1.cur; have hx5a := X5a.1.box.cell 0; have l5n : Lst (w5.alloc (.cells #[.int .i64 1, .int .i64 5, .int .i64 60, .int .i64 61] 3)) (w.heap.size + 2) (.slice (some ⟨w5.heap.size, 0, Option.none⟩) 4 4) [1, 5, 60, 61] := lst_new w5 (w.heap.size + 2) [1, 5, 60, 61] X5.1.cur.lt (by simp) (by simp)))
      | ((go_simp; go_at_call 63; (with_reducible refine (pick_any 60 (w.heap.size + 2) (21010 + 2) _ (by first | exact cu5 | exact cu5a) (by omega) (by omega) (by omega)).mono ?_); rintro e w6 ⟨z6, rfl, _, hc6, hk6⟩; (first | (have X6 := X5.step hc6 hk6; (try have l6 := l5.keepG hk6)) | (have X6 := X5a.step hc6 hk6; have l6 := l5n.keepG hk6)); have hx6 := X6.1.box.cell 0; have X6a := X6.alloc (.cells #[.int .i64 1, .int .i64 5, .int .i64 60, .int .i64 61] 3); have cu6 := X6.1.cur; have cu6a := X6a.1.cur; have hx6a := X6a.1.box.cell 0; have l6n : Lst (w6.alloc (.cells #[.int .i64 1, .int .i64 5, .int .i64 60, .int .i64 61] 3)) (w.heap.size + 2) (.slice (some ⟨w6.heap.size, 0, Option.none⟩) 4 4) [1, 5, 60, 61] := lst_new w6 (w.heap.size + 2) [1, 5, 60, 61] X6.1.cur.lt (by simp) (by simp)))
      | ((go_simp; go_at_call 74; (with_reducible refine (among_any [1, 5, 60, 61] _ (w.heap.size + 2) (21010 + 2 + 2) _ (by first | exact cu6 | exact cu6a) (by omega) (by first | exact l6 | exact l6n)).mono ?_); rintro e w7 ⟨z7, rfl, _, hc7, hk7⟩; (first | (have X7 := X6.step hc7 hk7) | (have X7 := X6a.step hc7 hk7)); have hx7 := X7.1.box.cell 0; have hr7 := X7.1.res.cell 0; have hf7 := X7.1.res.frozen 0; have hx7a := fun (a b : Int) => (X7.alloc (.cells #[.int .i64 a, .int .i64 b] 3)).1.box.cell 0; have hr7a := fun (a b : Int) => (X7.alloc (.cells #[.int .i64 a, .int .i64 b] 3)).1.res.cell 0; have hf7a := fun (a b : Int) => (X7.alloc (.cells #[.int .i64 a, .int .i64 b] 3)).1.res.frozen 0;
          have p0 := fun (a b : Int) => (X7.f1 a b).ph.cell 0; have p1 := fun (a b : Int) => (X7.f1 a b).ph.cell 1; have pf := fun (a b : Int) i => (X7.f1 a b).ph.frozen i; have r0 := fun (a b : Int) => (X7.f2 a b).ph.cell 0; have r1 := fun (a b : Int) => (X7.f2 a b).ph.cell 1; have rf := fun (a b : Int) i => (X7.f2 a b).ph.frozen i;
          have p2 := fun (a b : Int) x => ((X7.f1 a b).ph.set_ 0 x).cell 1; have pg := fun (a b : Int) x => ((X7.f1 a b).ph.set_ 0 x).frozen 1; have r2 := fun (a b : Int) x => ((X7.f2 a b).ph.set_ 0 x).cell 1; have rg := fun (a b : Int) x => ((X7.f2 a b).ph.set_ 0 x).frozen 1)))
    all_goals
      have HF1 := Lib.hid (fun (a b : Int) => (X7.f1 a b).done (.string t))
      have HF2 := Lib.hid (fun (a b : Int) => (X7.f2 a b).done (.string t))
      clear hbx hbs hbi hbsi hbis cuA cuB cuC HXA HXB HXC HlsA HlsB HlsC HliB HliC hc5 hk5 X5 hx5 X5a cu5 cu5a hx5a l5n hc6 hk6 X6 hx6 X6a cu6 cu6a hx6a l6n hc7 hk7 X7 hx7 hr7 hf7 hx7a hr7a hf7a p0 p1 pf r0 r1 rf p2 pg r2 rg
      go_wp2_with fail
      first
        | (obtain ⟨d1, d2, d3, d4, d5, d6⟩ := HF1.out (IntKind.i64.wrap (1 + z6)) z7
           refine bodyPost_ret (v := .tuple #[.agg #[.slice A k c], .agg #[.string t, .slice (some ⟨w7.heap.size, 0, Option.none⟩) 2 2]]) (by simp only [results, Tryz.results24]; simp [go_sem, d4, d5, d6]; done) rfl ?_
           exact ⟨_, k, t, _, [_, _], rfl, hkl, ht, by simp, d1, d2, d3⟩)
        | (obtain ⟨d1, d2, d3, d4, d5, d6⟩ := HF2.out (IntKind.i64.wrap (1 + z6)) z7
           refine bodyPost_ret (v := .tuple #[.agg #[.slice A k c], .agg #[.string t, .slice (some ⟨w7.heap.size, 0, Option.none⟩) 2 2]]) (by simp only [results, Tryz.results24]; simp [go_sem, d4, d5, d6]; done) rfl ?_
           exact ⟨_, k, t, _, [_, _], rfl, hkl, ht, by simp, d1, d2, d3⟩)
end Go.Proofs.YtjnkdjokbamibaaGreatDoor
