/- Texts of one claim, joined: J2, T1, J3, O, B4, J4, Z1. -/
import Derived.Deep.Slices
import Derived.Lib.SlBytesConst
import Derived.Laws.IdiomStrings
import Derived.Test.YtjnkdjokbamibaaGreatDoorP4SignalLists
/- Contracts: drawn signals, drawn texts of signals. -/
namespace Go.Proofs.YtjnkdjokbamibaaGreatDoor
open Go.RowKit
theorem keepG_box {w w' : World} {o : Obj} (h : KeepG w.heap.size (w.heap.size + 1) (w.alloc o) w') : Below w.heap.size w w' := by
  have h0 : Below w.heap.size w (w.alloc o) := (Below.refl _ _).alloc (Nat.le_refl _) _
  refine ⟨h.os.trans h0.os, h.tape.trans h0.tape, h.output.trans h0.output, Nat.le_trans h0.size h.size, fun k hk => ?_⟩
  rw [h.block k (by have := h0.size; omega) (.inl hk)]
  exact h0.block k hk
theorem cur_new {w : World} {hi : Nat} {v : Value} {zs : List UInt8} (h : RdU w hi v zs) (hh : hi ≤ w.heap.size) : Cur (w.alloc (.cells #[v, .int .i64 0, .int .u64 0] 71)) w.heap.size 0 :=
  ⟨v, zs, 0, 0, Blk.new _ _ _, (Rd.mono h hh).below ((Below.refl _ _).alloc (Nat.le_refl _) _) (Nat.le_refl _), Nat.le_refl _⟩
set_option maxHeartbeats 800000 in
theorem signal_any (C m : Nat) (w : World) (h : Cur w C m) (hm : m ≤ 1099511600000) :
    Calls Tryz.prog 57 #[.pointer (some ⟨C, 0, Option.none⟩)] w (Drawn C (m + 10) w (fun _ => True)) := by
  have c1 := Lib.hid (pick_any 64 C m w h (by omega) (by omega) (by omega))
  clear h
  go_enter Tryz.func57, Tryz.ntmps57
  go_wp2_with fail
  refine c1.out.mono ?_
  rintro e w1 ⟨z1, rfl, _, hc1, hk1⟩
  have c2 := Lib.hid (pick_any 64 C (m + 2) w1 hc1 (by omega) (by omega) (by omega))
  have HK1 := Lib.hid hk1
  clear hc1 hk1
  go_wp2_with fail
  refine c2.out.mono ?_
  rintro e w2 ⟨z2, rfl, _, hc2, hk2⟩
  have c3 := Lib.hid (pick_any 64 C (m + 4) w2 hc2 (by omega) (by omega) (by omega))
  have HK2 := Lib.hid (HK1.out.trans hk2)
  clear hc2 hk2
  go_wp2_with fail
  refine c3.out.mono ?_
  rintro e w3 ⟨z3, rfl, _, hc3, hk3⟩
  have hl4 : Lst (w3.alloc (.cells #[.int .i64 (-1), .int .i64 64] 3)) C (.slice (some ⟨w3.heap.size, 0, Option.none⟩) 2 2) [-1, 64] := lst_new w3 C [-1, 64] hc3.lt (by decide) (by decide)
  have c4 := Lib.hid (among_any [-1, 64] _ C (m + 6) _ (hc3.alloc _) (by omega) hl4)
  have HK3 := Lib.hid ((HK2.out.trans hk3).trans (below_g ((Below.refl _ w3).alloc (Nat.le_refl _) (.cells #[.int .i64 (-1), .int .i64 64] 3))))
  clear hc3 hk3 hl4
  go_wp2_with fail
  refine c4.out.mono ?_
  rintro e w4 ⟨z4, rfl, _, hc4, hk4⟩
  have hl5 : Lst (w4.alloc (.cells #[.int .i64 0, .int .i64 5, .int .i64 12, .int .i64 60, .int .i64 61, .int .i64 62, .int .i64 63, .int .i64 z1, .int .i64 z2, .int .i64 z3, .int .i64 z4] 3)) C (.slice (some ⟨w4.heap.size, 0, Option.none⟩) 11 11) [0, 5, 12, 60, 61, 62, 63, z1, z2, z3, z4] := lst_new w4 C [0, 5, 12, 60, 61, 62, 63, z1, z2, z3, z4] hc4.lt (by simp) (by simp)
  have c5 := Lib.hid (among_any _ _ C (m + 8) _ (hc4.alloc _) (by omega) hl5)
  have HK4 := Lib.hid ((HK3.out.trans hk4).trans (below_g ((Below.refl _ w4).alloc (Nat.le_refl _) (.cells #[.int .i64 0, .int .i64 5, .int .i64 12, .int .i64 60, .int .i64 61, .int .i64 62, .int .i64 63, .int .i64 z1, .int .i64 z2, .int .i64 z3, .int .i64 z4] 3))))
  clear hc4 hk4 hl5
  go_wp2_with fail
  refine c5.out.mono ?_
  rintro e w5 ⟨z5, rfl, _, hc5, hk5⟩
  have HC5 := Lib.hid hc5
  have HK5 := Lib.hid (HK4.out.trans hk5)
  clear hc5 hk5
  go_wp2_with fail
  go_ret
  exact ⟨z5, rfl, trivial, HC5.out, HK5.out⟩
end Go.Proofs.YtjnkdjokbamibaaGreatDoor
/- Contracts: drawn lists of numbers: weights, lengths; numbers of digits. -/
namespace Go.Proofs.YtjnkdjokbamibaaGreatDoor
open Go.RowKit
theorem KeepG.fresh {C D : Nat} {w0 w w' : World} (h : KeepG C D w0 w) (hb : Below w0.heap.size w w') : KeepG C D w0 w' :=
  ⟨hb.os.trans h.os, hb.tape.trans h.tape, hb.output.trans h.output, Nat.le_trans h.size hb.size, fun k hk hn => (hb.block k hk).trans (h.block k hk hn)⟩
theorem KeepG.alloc {C D : Nat} {w0 w : World} (h : KeepG C D w0 w) (o : Obj) : KeepG C D w0 (w.alloc o) := h.trans (below_g ((Below.refl _ w).alloc (Nat.le_refl _) o))
theorem Cur.fresh {w w' : World} {C m B : Nat} (h : Cur w C m) (hb : Below B w w') (hC : C < B) : Cur w' C m := by
  obtain ⟨v, zs, p, s, h1, h2, h3⟩ := h
  exact ⟨v, zs, p, s, h1.below hb hC, Rd.below h2 hb (by omega), h3⟩
theorem owns_keepG {w w' : World} {lo C size n : Nat} {e : TypeId} {v : Value} {xs : List Value} (h : w.ownsRow lo e size v n xs) (hk : KeepG C (C + 1) w w') (hC : C < lo) : w'.ownsRow lo e size v n xs := by
  refine ⟨h.1, ?_⟩
  rcases h.2 with hn | ⟨g, cap, cur, rfl, hl, hg, rest⟩
  · exact .inl hn
  · exact .inr ⟨g, cap, cur, rfl, hl, (hk.block g (Array.getElem?_eq_some_iff.1 hg).1 (by omega)).trans hg, rest⟩
/-- A row of numbers drawn since the world w0; the cursor at C. -/
def DrL (w0 : World) (C m : Nat) (wr : World) (v : Value) (xs : List Int) : Prop := wr.ownsRow w0.heap.size 3 1 v xs.length (ints xs) ∧ Cur wr C m ∧ KeepG C (C + 1) w0 wr
theorem DrL.start {w : World} {C m : Nat} (h : Cur w C m) : DrL w C m w (.slice Option.none 0 0) [] := ⟨World.ownsRow_nil _ _ _ _, h, KeepG.refl _ _ _⟩
theorem DrL.step {w0 wr w' : World} {C m m' : Nat} {v : Value} {xs : List Int} (h : DrL w0 C m wr v xs) (hC : C < w0.heap.size) (hc : Cur w' C m') (hk : KeepG C (C + 1) wr w') : DrL w0 C m' w' v xs :=
  ⟨owns_keepG h.1 hk hC, hc, h.2.2.trans hk⟩
theorem DrL.alloc {w0 wr : World} {C m : Nat} {v : Value} {xs : List Int} (h : DrL w0 C m wr v xs) (o : Obj) : DrL w0 C m (wr.alloc o) v xs :=
  ⟨h.1.alloc o, h.2.1.alloc o, h.2.2.trans (below_g ((Below.refl _ wr).alloc (Nat.le_refl _) o))⟩
theorem DrL.mono {w0 wr : World} {C m m' : Nat} {v : Value} {xs : List Int} (h : DrL w0 C m wr v xs) (hm : m ≤ m') : DrL w0 C m' wr v xs := ⟨h.1, h.2.1.mono hm, h.2.2⟩
theorem DrL.le {w0 wr : World} {C m : Nat} {v : Value} {xs : List Int} (h : DrL w0 C m wr v xs) : w0.heap.size ≤ wr.heap.size := h.2.2.size
theorem DrL.own {w0 wr : World} {C m : Nat} {v : Value} {xs : List Int} (h : DrL w0 C m wr v xs) : OwI wr w0.heap.size wr.heap.size v xs := ⟨h.1, fun k hk => (h.1.lt k hk).2⟩
theorem DrL.rd {w0 wr : World} {C m : Nat} {v : Value} {xs : List Int} (h : DrL w0 C m wr v xs) : RdI wr wr.heap.size v xs := h.own.rd
theorem DrL.form {w0 wr : World} {C m : Nat} {v : Value} {xs : List Int} (h : DrL w0 C m wr v xs) : ∃ A c, v = .slice A xs.length c := by
  obtain ⟨A, c, hv, _⟩ := Rd.form h.rd
  exact ⟨A, c, hv⟩
theorem DrL.grow {w0 wr w' : World} {C m : Nat} {v v' : Value} {xs ys : List Int} (h : DrL w0 C m wr v xs) (hC : C < w0.heap.size) (hG : GrowI wr w0.heap.size w' v' ys) : DrL w0 C m w' v' ys :=
  ⟨hG.1, h.2.1.fresh hG.2.1 hC, h.2.2.fresh hG.2.1⟩
theorem DrL.gr {w0 wr : World} {C m : Nat} {v : Value} {xs : List Int} (h : DrL w0 C m wr v xs) : GrowI wr w0.heap.size wr v xs := ⟨h.1, Below.refl _ _, h.le⟩
theorem DrL.pos {w0 wr : World} {C m : Nat} {v : Value} {xs : List Int} (h : DrL w0 C m wr v xs) (hp : 0 < xs.length) : ∃ g c, v = .slice (some ⟨g, 0, Option.none⟩) xs.length c ∧ w0.heap.size ≤ g := by
  rcases h.1.2 with ⟨_, e⟩ | ⟨g, cap, cur, hv, hl, _⟩
  · omega
  · exact ⟨g, cap, hv, hl⟩
theorem DrL.cell {w0 wr : World} {C m g c : Nat} {xs : List Int} (h : DrL w0 C m wr (.slice (some ⟨g, 0, Option.none⟩) xs.length c) xs) {j : Nat} (hj : j < xs.length) : wr.cell? ⟨g, j, Option.none⟩ = some (.int .i64 xs[j]) ∧ wr.frozen? ⟨g, j, Option.none⟩ = false := by
  refine ⟨?_, h.1.frozenAt j⟩
  rw [h.1.cellAt j (by omega)]
  simp [ints, hj]
theorem DrL.put {w0 wr : World} {C m g c : Nat} {xs : List Int} (h : DrL w0 C m wr (.slice (some ⟨g, 0, Option.none⟩) xs.length c) xs) (hC : C < w0.heap.size) (hg : w0.heap.size ≤ g) (j : Nat) (y : Int) :
    DrL w0 C m (wr.setCell ⟨g, j, Option.none⟩ (.int .i64 y)) (.slice (some ⟨g, 0, Option.none⟩) xs.length c) (xs.set j y) := by
  have h1 := (h.1.stored j (.int .i64 y)).1
  have hb : Below w0.heap.size wr (wr.setCell ⟨g, j, Option.none⟩ (.int .i64 y)) := (Below.refl _ _).setCell hg _
  refine ⟨?_, h.2.1.fresh hb hC, h.2.2.fresh hb⟩
  have h2 : ints (xs.set j y) = (ints xs).set j (.int .i64 y) := by unfold ints; rw [List.map_set]
  rw [h2, List.length_set]
  exact h1
/-- What a call that draws a list leaves. -/
def DrewL (C m N : Nat) (w : World) (e : Ending) (w' : World) : Prop := ∃ v xs, e = .returned v ∧ xs.length ≤ N ∧ DrL w C m w' v xs
theorem drL_box {w w' : World} {o : Obj} {C m : Nat} {v : Value} {xs : List Int} (hC : C = w.heap.size) (h : DrL (w.alloc o) C m w' v xs) : RdI w' w'.heap.size v xs ∧ Below w.heap.size w w' := by
  subst hC
  exact ⟨h.rd, keepG_box h.2.2⟩
end Go.Proofs.YtjnkdjokbamibaaGreatDoor
/- Contracts: a drawn text with edits. -/
namespace Go.Proofs.YtjnkdjokbamibaaGreatDoor
open Go.RowKit
set_option maxRecDepth 100000 in
set_option maxHeartbeats 4000000 in
theorem spoilt_any (t s : ByteArray) (C m : Nat) (w : World) (h : Cur w C m) (hm : m ≤ 1099511600000) (ht : t.size ≤ 1000000) (hs1 : 1 ≤ s.size) (hs2 : s.size ≤ 1000) :
    Calls Tryz.prog 65 #[.pointer (some ⟨C, 0, Option.none⟩), .string t, .string s] w fun e w' => ∃ t' : ByteArray, e = .returned (.string t') ∧ t'.size ≤ t.size + 2 ∧ Cur w' C (m + 20) ∧ KeepG C (C + 1) w w' := by
  have c1 := Lib.hid (pick_any 2 C m w h (by omega) (by omega) (by omega))
  clear h
  go_enter Tryz.func65, Tryz.ntmps65
  go_wp2_with fail
  refine c1.out.mono ?_
  rintro e w1 ⟨z1, rfl, ⟨hz0, hz1⟩, hc1, hk1⟩
  obtain ⟨k0, rfl⟩ : ∃ k : Nat, z1 = (k : Int) := ⟨z1.toNat, by omega⟩
  have HC1 := Lib.hid hc1
  have HK1 := Lib.hid hk1
  clear hc1 hk1
  go_wp2_with fail
  go_loopw [1, 7] (fun q i wr => ∃ (k : Nat) (t' : ByteArray), k ≤ 2 ∧ i = .int .i64 (k : Int) ∧ q = .string t' ∧ t'.size + k ≤ t.size + 2 ∧ Hid (Cur wr C (m + 2 + (2 - k) * 6)) ∧ Hid (KeepG C (C + 1) w wr)) (fun _ i _ => (intOf i).toNat)
  case atStart => exact ⟨1 + k0, t, by omega, by go_num, rfl, by omega, HC1.out.mono (by omega), HK1.out⟩
  case round =>
    obtain ⟨k, t', hk2, rfl, rfl, hts, hc, hk⟩ := hrel
    by_cases hk0 : 0 < k
    · by_cases ht0 : 0 < t'.size
      · have cI := Lib.hid (pick_any (t'.size : Int) C (m + 2 + (2 - k) * 6) wr hc.out (by omega) (by omega) (by omega))
        clear hc
        go_wp2_with fail
        refine cI.out.mono ?_
        rintro e w2 ⟨zi, rfl, ⟨hi0, hi1⟩, hc2, hk2'⟩
        obtain ⟨i, rfl⟩ : ∃ k : Nat, zi = (k : Int) := ⟨zi.toNat, by omega⟩
        have HK2 := Lib.hid (hk.out.trans hk2')
        have cJ := Lib.hid (pick_any (s.size : Int) C _ w2 hc2 (by omega) (by omega) (by omega))
        clear hc2 hk2' hk
        go_wp2_with fail
        refine cJ.out.mono ?_
        rintro e w3 ⟨zj, rfl, ⟨hj0, hj1⟩, hc3, hk3⟩
        obtain ⟨j, rfl⟩ : ∃ k : Nat, zj = (k : Int) := ⟨zj.toNat, by omega⟩
        have hjs : j < s.size := by omega
        obtain ⟨sw, hsw⟩ : ∃ sw : ByteArray, sw = ⟨#[UInt8.ofNat ((s[j].toNat : Int)).toNat]⟩ := ⟨_, rfl⟩
        have hcv := fun wr' => conv_one (s[j].toNat : Int) (by omega) (by have := UInt8.toNat_lt s[j]; omega) wr'
        rw [← hsw] at hcv
        have hsw1 : sw.size = 1 := by rw [hsw]; rfl
        have cL := Lib.hid (pick_any 3 C _ (w3.alloc (.cells #[.int .u8 (s[j].toNat : Int)] 5)) (hc3.alloc _) (by omega) (by omega) (by omega))
        have HK3 := Lib.hid ((HK2.out.trans hk3).trans (below_g ((Below.refl _ w3).alloc (Nat.le_refl _) (.cells #[.int .u8 (s[j].toNat : Int)] 5))))
        clear hc3 hk3 hsw
        go_wp2_with fail
        refine cL.out.mono ?_
        rintro e w5 ⟨zl, rfl, ⟨hl0, hl1⟩, hc5, hk5⟩
        have HC5 := Lib.hid hc5
        have HK5 := Lib.hid (HK3.out.trans hk5)
        clear hc5 hk5 hcv hz0 hz1 hi0
        have hil : i < t'.size := by omega
        have hl3 : zl = 0 ∨ zl = 1 ∨ zl = 2 := by omega
        clear hl0 hl1
        rcases hl3 with rfl | rfl | rfl
        · go_wp2_with fail
          go_quiet (fail)
          go_wp2_with fail
          have HCX := Lib.hid (HC5.out.mono (m' := m + 2 + (2 - (k - 1)) * 6) (by omega))
          have HKX := Lib.hid (HK5.out.trans (KeepG.drawN _ nq))
          go_roundw
          case rel => exact ⟨k - 1, _, by omega, by go_num, rfl, by (simp [ByteArray.size_append, ByteArray.size_extract]; omega), HCX.out, HKX.out⟩
          case measure => (simp [intOf]; try omega)
        · go_wp2_with fail
          go_quiet (fail)
          go_wp2_with fail
          have HCX := Lib.hid (HC5.out.mono (m' := m + 2 + (2 - (k - 1)) * 6) (by omega))
          have HKX := Lib.hid (HK5.out.trans (KeepG.drawN _ nq))
          go_roundw
          case rel => exact ⟨k - 1, _, by omega, by go_num, rfl, by (simp [ByteArray.size_append, ByteArray.size_extract]; omega), HCX.out, HKX.out⟩
          case measure => (simp [intOf]; try omega)
        · go_wp2_with fail
          go_quiet (fail)
          go_wp2_with fail
          have HCX := Lib.hid (HC5.out.mono (m' := m + 2 + (2 - (k - 1)) * 6) (by omega))
          have HKX := Lib.hid (HK5.out.trans (KeepG.drawN _ nq))
          go_roundw
          case rel => exact ⟨k - 1, _, by omega, by go_num, rfl, by (simp [ByteArray.size_append, ByteArray.size_extract]; omega), HCX.out, HKX.out⟩
          case measure => (simp [intOf]; try omega)
      · go_wp2_with fail
        go_ret
        exact ⟨_, rfl, by omega, hc.out.mono (by omega), hk.out⟩
    · go_wp2_with fail
      go_ret
      exact ⟨_, rfl, by omega, hc.out.mono (by omega), hk.out⟩
end Go.Proofs.YtjnkdjokbamibaaGreatDoor
/- What an argument that reads as data looks like in memory: slices of integers, slices of such slices. -/
namespace Go.Proofs.YtjnkdjokbamibaaGreatDoor
open Go.ChangeShapes Go.WideShapes Go.ChangeAt Go.RowKit Go.Deep
theorem cells_one {w : World} {base : Nat} {a : Addr} {cs : List Value} (h : w.cells? base a 1 = some cs) : ∃ v, cs = [v] ∧ w.cell? a = some v ∧ base ≤ a.block := by
  unfold World.cells? at h
  split at h
  · rename_i hb
    have hl := mapM_some_length h
    have hg := mapM_some_get h 0 0 rfl
    match cs, hl with
    | [v], _ => exact ⟨v, rfl, by simpa [Addr.add] using hg, hb⟩
  · cases h
theorem spot_of {w : World} {a : Addr} {v : Value} (h : w.cell? a = some v) : ∃ b off, a = ⟨b, off, Option.none⟩ ∧ b < w.heap.size := by
  obtain ⟨b, off, spot⟩ := a
  have hs : spot = Option.none := by simpa using World.cell?_spot h
  subst hs
  exact ⟨b, off, rfl, World.block_lt_of_cell? w ⟨b, off, Option.none⟩ h⟩
/-- A slice whose elements have one cell each reads as a row of values. -/
theorem open_row {H : Type} {enc : TypeId × Value → H} {P : Program} {w : World} {spare : Nat → Bool} {held : Bool} {fuel : Nat} {t e : TypeId} {v : Value} {x : DataW H × List MemPlace}
    (ht : P.underlying t = some (.slice e)) (he : P.cellsOf e = 1) (h : DataW.trod enc P w 0 spare held fuel t [v] = some x) :
    ∃ (n : Nat) (vs : List Value), Rd w w.heap.size 1 v n vs ∧ vs.length = n ∧ ∀ (i : Nat) (u : Value), vs[i]? = some u → ∃ f y, DataW.trod enc P w 0 spare held f e [u] = some y := by
  rcases open_slice ht h with ⟨hv, _⟩ | ⟨a, len, cap, m, n, D, Pl, hv, hb, hl, hm, hmm, hx, hcell⟩
  · simp only [List.cons.injEq, and_true] at hv
    subst hv
    exact ⟨0, [], ⟨rfl, Option.none, 0, rfl, Nat.le_refl _, Nat.zero_le _, fun h => absurd h (by omega)⟩, rfl, fun i u hu => by simp at hu⟩
  · simp only [List.cons.injEq, and_true] at hv
    subst hv
    have hlm : len ≤ m := by rw [hmm]; split <;> omega
    have hk : ∀ i, ∃ u, i < len → w.cell? (a.add i) = some u ∧ ∃ y, DataW.trod enc P w 0 spare held n e [u] = some y := by
      intro i
      by_cases hi : i < len
      · obtain ⟨cs', hc1, hc2⟩ := hcell i (by omega)
        rw [he, Nat.mul_one] at hc1
        obtain ⟨u, rfl, hu, _⟩ := cells_one hc1
        exact ⟨u, fun _ => ⟨hu, _, hc2⟩⟩
      · exact ⟨undef, fun h => absurd h hi⟩
    obtain ⟨V, hV⟩ : ∃ V : Nat → Value, ∀ i, i < len → w.cell? (a.add i) = some (V i) ∧ ∃ y, DataW.trod enc P w 0 spare held n e [V i] = some y := ⟨fun i => Classical.choose (hk i), fun i => Classical.choose_spec (hk i)⟩
    clear hk
    refine ⟨len, (List.range len).map V, ⟨by simp, some a, cap, rfl, hl, hm, fun hpos => ?_⟩, by simp, fun i u hu => ?_⟩
    · have h0 := (hV 0 hpos).1
      obtain ⟨b, off, ha, hlt⟩ := spot_of h0
      have ha' : a = ⟨b, off, Option.none⟩ := by simpa [Addr.add] using ha
      subst ha'
      refine ⟨b, off, rfl, hlt, fun j u hu => ?_⟩
      have hj : j < len := by
        rcases Nat.lt_or_ge j len with h | h
        · exact h
        · rw [List.getElem?_eq_none (by simp; exact h)] at hu; cases hu
      simp [hj] at hu
      have := (hV j hj).1
      rw [hu, add_plain] at this
      exact this
    · have hj : i < len := by
        rcases Nat.lt_or_ge i len with h | h
        · exact h
        · rw [List.getElem?_eq_none (by simp; exact h)] at hu; cases hu
      simp [hj] at hu
      obtain ⟨_, y, hy⟩ := hV i hj
      rw [hu] at hy
      exact ⟨n, y, hy⟩
theorem slice_cells {P : Program} {w : World} {r : Reach} {b : Nat} {t e : TypeId} {v : Value} (ht : P.underlying t = some (.slice e)) (h : Value.okWide P w r b t v) : v.cells.toList = [v] := by
  obtain ⟨a, n, c, rfl⟩ := okWide_slice ht h
  rfl
end Go.Proofs.YtjnkdjokbamibaaGreatDoor
/- Contracts of SignalText: the text of a signal. -/
namespace Go.Proofs.YtjnkdjokbamibaaGreatDoor
open Go.RowKit
open Go.WideShapes (add_plain)
/-- Block g is just the cells cs of element type t, with a frozen range. -/
def BlkF (w : World) (g : Nat) (t : TypeId) (cs : List Value) (fr : Nat × Nat) : Prop := w.heap[g]? = some (.cells cs.toArray t fr)
section
variable {w w' : World} {g : Nat} {t : TypeId} {cs : List Value} {fr : Nat × Nat}
theorem BlkF.lt (h : BlkF w g t cs fr) : g < w.heap.size := by
  rcases Nat.lt_or_ge g w.heap.size with hlt | hge
  · exact hlt
  · unfold BlkF at h; rw [Array.getElem?_eq_none hge] at h; cases h
theorem BlkF.cell (h : BlkF w g t cs fr) (i : Nat) : w.cell? ⟨g, i, Option.none⟩ = cs[i]? := by
  have := cell_of_row w g i cs.toArray t fr h
  rw [this]; simp
theorem BlkF.frozen (h : BlkF w g t cs fr) (i : Nat) (hi : i < fr.1) : w.frozen? ⟨g, i, Option.none⟩ = false := by
  unfold BlkF at h
  simp [World.frozen?, h]; omega
theorem BlkF.new (w : World) (t : TypeId) (cs : Array Value) (fr : Nat × Nat) : BlkF (w.alloc (.cells cs t fr)) w.heap.size t cs.toList fr := by
  show (w.heap.push (.cells cs t fr))[w.heap.size]? = _
  simp
theorem BlkF.set_ (h : BlkF w g t cs fr) (i : Nat) (u : Value) : BlkF (w.setCell ⟨g, i, Option.none⟩ u) g t (cs.set i u) fr := by
  unfold BlkF at h ⊢
  simp [World.setCell, Array.getElem?_modify, h]
theorem BlkF.below {B : Nat} (h : BlkF w g t cs fr) (hb : Below B w w') (hg : g < B) : BlkF w' g t cs fr := (hb.block g hg).trans h
end
end Go.Proofs.YtjnkdjokbamibaaGreatDoor
/- Contracts: comparison of lists of numbers in a law, the bound on a law's inputs; what a list of bytes is; plain laws of signals. -/
namespace Go.Proofs.YtjnkdjokbamibaaGreatDoor
open Go.RowKit Go.ChangeShapes Go.WideShapes Go.ChangeAt Go.Deep
theorem u8_of (vs : List Value) (h : ∀ (i : Nat) (u : Value), vs[i]? = some u → ∃ n, u = Value.int .u8 n ∧ 0 ≤ n ∧ n ≤ 255) : ∃ zs, vs = bytesV zs := by
  induction vs with
  | nil => exact ⟨[], rfl⟩
  | cons v r ih =>
    obtain ⟨n, hn, h0, h1⟩ := h 0 v rfl
    obtain ⟨zs, hzs⟩ := ih (fun i u hu => h (i + 1) u (by simpa using hu))
    refine ⟨UInt8.ofNat n.toNat :: zs, ?_⟩
    rw [hn, hzs]
    have : ((UInt8.ofNat n.toNat).toNat : Int) = n := by
      rw [UInt8.toNat_ofNat']
      omega
    simp [bytesV]
    omega
theorem trod_u8 {H : Type} {enc : TypeId × Value → H} {P : Program} {w : World} {base : Nat} {spare : Nat → Bool} {held : Bool} {fuel : Nat} {t : TypeId} {v : Value} {x : DataW H × List MemPlace}
    (ht : P.underlying t = some (.int .u8)) (h : DataW.trod enc P w base spare held fuel t [v] = some x) : ∃ n, v = .int .u8 n ∧ 0 ≤ n ∧ n ≤ 255 := by
  obtain ⟨n, e1, _, e3⟩ := DataW.trod_int ht h
  refine ⟨n, by simpa using e1, ?_⟩
  simp [Lit.wf] at e3
  have a0 : IntKind.u8.min = 0 := by decide
  have a1 : IntKind.u8.max = 255 := by decide
  omega
theorem open_byteS {H : Type} {enc : TypeId × Value → H} {w : World} {spare : Nat → Bool} {held : Bool} {fuel : Nat} {v : Value} {x : DataW H × List MemPlace}
    (h : DataW.trod enc Tryz.prog w 0 spare held fuel 22 [v] = some x) : ∃ zs, RdU w w.heap.size v zs := by
  obtain ⟨n, vs, hr, hl, hk⟩ := open_row Tryz.underlying22 (by kernel_rfl) h
  obtain ⟨zs, rfl⟩ := u8_of vs (fun i u hu => by
    obtain ⟨f, y, hy⟩ := hk i u hu
    exact trod_u8 Tryz.underlying5 hy)
  have : zs.length = n := by simpa [bytesV] using hl
  subst this
  exact ⟨zs, hr⟩
theorem RdU.below {w w' : World} {hi : Nat} {v : Value} {zs : List UInt8} (h : RdU w hi v zs) {B : Nat} (hb : Below B w w') (hB : hi ≤ B) : RdU w' hi v zs := Rd.below h hb hB
set_option maxHeartbeats 400000 in
theorem sameInts_same (xs : List Int) (v u : Value) (hi hj : Nat) (w : World) (h : RdI w hi v xs) (g : RdI w hj u xs) : Calls Tryz.prog 12 #[v, u] w fun e w' => e = .returned (.bool true) ∧ ∃ n, w' = w.drewN n := by
  obtain ⟨A, c, rfl, hc, hm⟩ := Rd.form h
  obtain ⟨A', c', rfl, hc', hm'⟩ := Rd.form g
  have H := Lib.hid h
  have G := Lib.hid g
  clear h g
  go_enter Tryz.func12, Tryz.ntmps12
  go_wp2
  go_loopw [13] (fun i wr => ∃ k : Nat, k ≤ xs.length ∧ i = .int .i64 k ∧ ∃ n, wr = w.drewN n) (fun i _ => xs.length - (intOf i).toNat)
  case atStart => exact ⟨0, Nat.zero_le _, rfl, 0, rfl⟩
  case round =>
    obtain ⟨k, hk, rfl, n, rfl⟩ := hrel
    by_cases hlt : k < xs.length
    · obtain ⟨b1, o1, c1, x, hv, _, hx, hcell1⟩ := Rd.at_ H.out hlt
      cases hv
      obtain ⟨b2, o2, c2, y, hv, _, hy, hcell2⟩ := Rd.at_ G.out hlt
      injection hv with hv1 hv2 hv3
      subst hv1
      rw [hx] at hy
      cases hy
      clear hx hv2 hv3
      go_wp2
      go_quiet (fail)
      go_wp2
      go_roundw
      case rel => exact ⟨k + 1, by omega, by go_num, _, rfl⟩
      case measure => simp [intOf]; omega
    · go_wp2
      go_ret
      exact ⟨rfl, _, rfl⟩
theorem big_any (a b : List UInt8) (v u : Value) (hi hj : Nat) (w : World) (h : RdU w hi v a) (g : RdU w hj u b) : Calls Tryz.prog 5 #[v, u] w fun e w' => e = .returned (.bool (decide (1048576 < a.length) || decide (1048576 - (a.length : Int) < b.length))) ∧ w = w' := by
  obtain ⟨A, c, rfl, hc, hm⟩ := Rd.form h
  obtain ⟨A', c', rfl, hc', hm'⟩ := Rd.form g
  clear h g
  by_cases h1 : 1048576 < a.length
  · go_enter Tryz.func5, Tryz.ntmps5
    go_wp2
    go_ret
    exact ⟨ret_bool (by simp), rfl⟩
  · by_cases h2 : 1048576 - (a.length : Int) < b.length
    · go_enter Tryz.func5, Tryz.ntmps5
      go_wp2
      go_ret
      exact ⟨ret_bool (by simp [h2]), rfl⟩
    · go_enter Tryz.func5, Tryz.ntmps5
      go_wp2
      go_ret
      exact ⟨ret_bool (by simp; omega), rfl⟩
theorem dist_sym : ∀ n, n < 64 → ∀ m, m < 64 → distM m n = distM n m := by decide +kernel
end Go.Proofs.YtjnkdjokbamibaaGreatDoor
/- Contracts: drawn lists of signals; drawn texts of lists. -/
namespace Go.Proofs.YtjnkdjokbamibaaGreatDoor
open Go.RowKit
theorem sameInts_eqB (xs : List Int) (v u : Value) (hi hj : Nat) (w : World) (h : RdI w hi v xs) (g : RdI w hj u xs) : Calls Tryz.prog 12 #[v, u] w fun e w' => e = .returned (.bool true) ∧ Below w.heap.size w w' :=
  (sameInts_same xs v u hi hj w h g).mono fun _ _ ⟨h1, n, h2⟩ => ⟨h1, by rw [h2]; exact bel_drewN _ _ _⟩
set_option maxHeartbeats 400000 in
theorem pIn_any (xs : List Int) (n : Int) (v : Value) (hi : Nat) (w : World) (h : RdI w hi v xs) : Calls Tryz.prog 18 #[v, .int .i64 n] w fun e w' => e = .returned (.bool (decide (n ∈ xs))) ∧ w = w' := by
  obtain ⟨A, c, rfl, hc, hm⟩ := Rd.form h
  have H := Lib.hid h
  clear h
  go_enter Tryz.func18, Tryz.ntmps18
  go_wp2_with fail
  go_loop [9] (fun i => ∃ k : Nat, k ≤ xs.length ∧ i = .int .i64 (k : Int) ∧ Hid (n ∉ xs.take k)) (fun i => xs.length - (intOf i).toNat)
  case atStart => exact ⟨0, Nat.zero_le _, rfl, by show _ ∉ _; simp⟩
  case round =>
    obtain ⟨k, hk, rfl, HN⟩ := hrel
    by_cases hlt : k < xs.length
    · obtain ⟨b1, o1, c1, x, hv, _, hx, hcell1⟩ := Rd.at_ H.out hlt
      cases hv
      have HX := Lib.hid hx
      cases he : (x == n)
      · have hne := ne_of_beq_false he
        have HNE := Lib.hid hne
        clear hne hx
        go_wp2_with fail
        go_round
        case rel => exact ⟨k + 1, by omega, by go_num, by
          show _ ∉ _
          rw [take_snocI HX.out, List.mem_append, List.mem_singleton]
          rintro (h | h)
          · exact HN.out h
          · exact HNE.out h.symm⟩
        case measure => (simp [intOf]; try omega)
      · have heq := eq_of_beq he
        have HT : Hid (decide (n ∈ xs) = true) := decide_eq_true (by rw [← heq]; exact List.mem_of_getElem? hx)
        clear heq hx
        go_wp2_with fail
        go_ret
        exact ⟨ret_bool HT.out.symm, rfl⟩
    · have HT : Hid (decide (n ∈ xs) = false) := decide_eq_false (by have h := HN.out; rwa [List.take_of_length_le (by omega)] at h)
      go_wp2_with fail
      go_ret
      exact ⟨ret_bool HT.out.symm, rfl⟩
set_option maxRecDepth 100000 in
set_option maxHeartbeats 8000000 in
theorem signals_any (C m : Nat) (w : World) (h : Cur w C m) (hm : m ≤ 1099511600000) :
    Calls Tryz.prog 58 #[.pointer (some ⟨C, 0, Option.none⟩)] w (DrewL C (m + 300) 101 w) := by
  have HC := Lib.hid h.lt
  have D0 := Lib.hid (DrL.start h)
  clear h
  go_enter Tryz.func58, Tryz.ntmps58
  have c1 := Lib.hid (pick_any 9 C _ w D0.out.2.1 (by omega) (by omega) (by omega))
  go_wp2_with fail
  refine c1.out.mono ?_
  rintro e w1 ⟨z1, rfl, ⟨hz1, hy1⟩, hc1, hk1⟩
  have D1 := Lib.hid (D0.out.step HC.out hc1 hk1)
  clear hc1 hk1 D0
  have c2 := Lib.hid (one_any 24 C _ w1 D1.out.2.1 (by omega) (by omega) (by omega))
  go_wp2_with fail
  refine c2.out.mono ?_
  rintro e w2 ⟨z2, rfl, hc2, hk2⟩
  have D2 := Lib.hid (D1.out.step HC.out hc2 hk2)
  clear hc2 hk2 D1
  rcases z2 with _ | _
  case' false =>
    obtain ⟨n0, rfl, hn1⟩ : ∃ n0 : Nat, z1 = (n0 : Int) ∧ n0 ≤ 101 := ⟨z1.toNat, by omega, by omega⟩
    have HD := Lib.hid (D2.out.mono (show _ ≤ m + 10 + 2 * 0 by omega))
    clear D2
  case' true =>
    have c3 := Lib.hid (pick_any 2 C _ w2 D2.out.2.1 (by omega) (by omega) (by omega))
    go_wp2_with fail
    refine c3.out.mono ?_
    rintro e w3 ⟨z3, rfl, ⟨hz3, hy3⟩, hc3, hk3⟩
    have HD0 := D2.out.step HC.out hc3 hk3
    obtain ⟨n0, hn0, hn1⟩ : ∃ n0 : Nat, 100 + z3 = (n0 : Int) ∧ n0 ≤ 101 := ⟨(100 + z3).toNat, by omega, by omega⟩
    have HD := Lib.hid (HD0.mono (show _ ≤ m + 10 + 2 * 0 by omega))
    clear hc3 hk3 HD0 D2
  all_goals
    go_wp2_with fail
    go_loopw [3, 4] (fun q i wr => ∃ (A : Option Addr) (c k : Nat) (xs : List Int), q = .slice A xs.length c ∧ i = .int .i64 (k : Int) ∧ xs.length + k ≤ n0 ∧ Hid (DrL w C (m + 10 + 2 * xs.length) wr (.slice A xs.length c) xs)) (fun _ i _ => (intOf i).toNat)
    case atStart => exact ⟨Option.none, 0, n0, [], rfl, by go_num, by simp, HD.out⟩
    case round =>
      obtain ⟨A, c, k, xs, rfl, rfl, hxn, DR⟩ := hrel
      clear HD
      by_cases hlt : 0 < k
      · have c21 := Lib.hid (pick_any 64 C _ wr DR.out.2.1 (by omega) (by omega) (by omega))
        go_wp2_with fail
        refine c21.out.mono ?_
        rintro e w21 ⟨z21, rfl, _, hc21, hk21⟩
        have D21 := Lib.hid (DR.out.step HC.out hc21 hk21)
        clear hc21 hk21 DR
        go_wp2_with (at_builtin; refine GrowI.app rfl (.tmp 16) (.tmp 19) rfl D21.out.gr (by omega) rfl rfl ?_; intro v' w' hG')
        have hG2 := D21.out.grow HC.out hG'
        obtain ⟨A', c', rfl⟩ := hG2.form
        have HGG := Lib.hid hG2
        have hlen : (xs ++ [z21]).length = xs.length + 1 := by simp
        clear hG' hG2
        rw [hlen] at HGG ⊢
        go_wp2_with fail
        go_roundw
        case rel => exact ⟨A', c', k - 1, xs ++ [z21], by rw [hlen], by go_num, by rw [hlen]; omega, by rw [hlen]; exact HGG.out.mono (by omega)⟩
        case measure => (simp [intOf]; try omega)
      · obtain rfl : k = 0 := by omega
        have hmx : m + 10 + 2 * xs.length ≤ 1099511626000 := by omega
        rcases Nat.eq_zero_or_pos xs.length with h0 | hpos
        · have hgz : decide (0 < xs.length) = false := decide_eq_false (by omega)
          go_wp2_with fail
          go_ret
          exact ⟨_, xs, rfl, by omega, DR.out.mono (by omega)⟩
        · have hgz : decide (0 < xs.length) = true := decide_eq_true hpos
          have c41 := Lib.hid (one_any 24 C _ wr DR.out.2.1 (by omega) (by omega) (by omega))
          go_wp2_with fail
          refine c41.out.mono ?_
          rintro e w41 ⟨z41, rfl, hc41, hk41⟩
          have D41 := Lib.hid (DR.out.step HC.out hc41 hk41)
          clear hc41 hk41 DR
          cases z41
          · go_wp2_with fail
            go_ret
            exact ⟨_, xs, rfl, by omega, D41.out.mono (by omega)⟩
          · have c61 := Lib.hid (pick_any (xs.length : Int) C _ w41 D41.out.2.1 (by omega) (by omega) (by omega))
            go_wp2_with fail
            refine c61.out.mono ?_
            rintro e w61 ⟨z61, rfl, ⟨hz61, hy61⟩, hc61, hk61⟩
            have D61 := Lib.hid (D41.out.step HC.out hc61 hk61)
            clear hc61 hk61 D41
            have hl62 : Lst (w61.alloc (.cells #[.int .i64 (-1), .int .i64 64] 3)) C (.slice (some ⟨w61.heap.size, 0, Option.none⟩) 2 2) [-1, 64] := lst_new w61 C [-1, 64] D61.out.2.1.lt (by simp) (by simp)
            have c62 := Lib.hid (among_any _ _ C _ _ (D61.out.2.1.alloc _) (by omega) hl62)
            clear hl62
            go_wp2_with fail
            refine c62.out.mono ?_
            rintro e w62 ⟨z62, rfl, _, hc62, hk62⟩
            have D62 := Lib.hid ((D61.out.alloc _).step HC.out hc62 hk62)
            clear hc62 hk62 D61
            obtain ⟨j, rfl⟩ : ∃ k : Nat, z61 = (k : Int) := ⟨z61.toNat, by omega⟩
            have hjx : j < xs.length := by omega
            obtain ⟨g, c2, hv, hg⟩ := D62.out.pos hpos
            cases hv
            have hce := D62.out.cell hjx
            obtain ⟨ow, how⟩ : ∃ ow, ow = xs[j] := ⟨_, rfl⟩
            rw [← how] at hce
            have hc1 := hce.1
            have hc2 := hce.2
            have HP := Lib.hid (D62.out.put HC.out hg j z62)
            have HLS : Hid ((xs.set j z62).length = xs.length) := by show _ = _; rw [List.length_set]
            clear hce how
            go_wp2_with fail
            go_ret
            exact ⟨_, xs.set j z62, rfl, by rw [HLS.out]; omega, HP.out.mono (by omega)⟩
/-- A drawn list. -/
def DrewLs (w : World) (e : Ending) (w' : World) : Prop := ∃ (v : Value) (xs : List Int), e = .returned v ∧ xs.length ≤ 101 ∧ RdI w' w'.heap.size v xs ∧ Below w.heap.size w w'
set_option maxHeartbeats 800000 in
theorem DrawMovementsOf_any (zs : List UInt8) (v : Value) (hi : Nat) (w : World) (h : RdU w hi v zs) (hh : hi ≤ w.heap.size) :
    Calls Tryz.prog 49 #[v] w (DrewLs w) := by
  obtain ⟨A, c, rfl, hc, hm⟩ := Rd.form h
  have cS := signals_any w.heap.size 0 _ (cur_new h hh) (by omega)
  have CS := Lib.hid cS
  clear cS h
  go_enter Tryz.func49, Tryz.ntmps49
  go_wp2_with fail
  refine CS.out.mono ?_
  rintro e w1 ⟨v1, xs, rfl, hn, hd⟩
  obtain ⟨A1, c1, rfl⟩ := hd.form
  have HD := Lib.hid (drL_box rfl hd)
  clear hd
  go_wp2_with fail
  go_ret
  exact ⟨_, xs, rfl, hn, HD.out.1, HD.out.2⟩
theorem DrawSignalsText_any (zs : List UInt8) (v : Value) (hi : Nat) (w : World) (h : RdU w hi v zs) (hh : hi ≤ w.heap.size) :
    Calls Tryz.prog 6 #[v] w (DrewLs w) := by
  have cS := DrawMovementsOf_any zs v hi w h hh
  obtain ⟨A, c, rfl, hc, hm⟩ := Rd.form h
  have CS := Lib.hid cS
  clear cS h
  go_enter Tryz.func6, Tryz.ntmps6
  go_wp2_with fail
  refine CS.out.mono ?_
  rintro e w1 ⟨v1, xs, rfl, hn, hd, hb⟩
  obtain ⟨A1, c1, rfl, _, _⟩ := Rd.form hd
  have HD := Lib.hid hd
  have HB := Lib.hid hb
  clear hd hb
  go_wp2_with fail
  go_ret
  exact ⟨_, xs, rfl, hn, HD.out, HB.out⟩
set_option maxHeartbeats 800000 in
theorem DrawNearestSignals_any (zs : List UInt8) (v : Value) (hi : Nat) (w : World) (h : RdU w hi v zs) (hh : hi ≤ w.heap.size) :
    Calls Tryz.prog 13 #[v] w fun e w' => ∃ (n : Int) (u : Value) (xs : List Int), e = .returned (.tuple #[.int .i64 n, u]) ∧ xs.length ≤ 101 ∧ RdI w' w'.heap.size u xs ∧ Below w.heap.size w w' := by
  obtain ⟨A, c, rfl, hc, hm⟩ := Rd.form h
  have HCU := Lib.hid (cur_new h hh)
  have HC : Hid (w.heap.size < (w.alloc (.cells #[.slice A zs.length c, .int .i64 0, .int .u64 0] 71)).heap.size) := by show _ < _; simp
  have HBX : Hid (∀ w', KeepG w.heap.size (w.heap.size + 1) (w.alloc (.cells #[.slice A zs.length c, .int .i64 0, .int .u64 0] 71)) w' → Below w.heap.size w w') := fun w' hk => keepG_box hk
  clear h
  go_enter Tryz.func13, Tryz.ntmps13
  have c1 := Lib.hid (signal_any w.heap.size 0 _ HCU.out (by omega))
  go_wp2_with fail
  refine c1.out.mono ?_
  rintro e w1 ⟨z1, rfl, _, hc1, hk1⟩
  have HK1 := Lib.hid hk1
  have c2 := Lib.hid (signals_any w.heap.size 10 w1 hc1 (by omega))
  clear hc1 hk1
  go_wp2_with fail
  refine c2.out.mono ?_
  rintro e w2 ⟨v2, xs, rfl, hn, hd⟩
  obtain ⟨A2, c2, rfl⟩ := hd.form
  have HD := Lib.hid hd
  clear hd
  go_wp2_with fail
  go_ret2
  exact ⟨z1, _, xs, ret_val rfl, hn, HD.out.rd, HBX.out _ (HK1.out.trans HD.out.2.2)⟩
theorem rdI_zeros (w : World) (n : Nat) (h : n ≤ 1000) : RdI (w.alloc (.cells (zeros n) 3)) (w.heap.size + 1) (.slice (some ⟨w.heap.size, 0, Option.none⟩) n n) (List.replicate n 0) := by
  refine ⟨by simp [ints], _, n, by simp, by simp, by simp [maxLen]; omega, fun _ => ⟨w.heap.size, 0, rfl, by omega, fun j u hj => ?_⟩⟩
  rw [show (0 : Nat) + j = j by omega, (Blk.new w 3 (zeros n)).cell j]
  simpa [zeros, ints] using hj
set_option maxRecDepth 100000 in
set_option maxHeartbeats 8000000 in
theorem DrawReadSignals_any (zs : List UInt8) (v : Value) (hi : Nat) (w : World) (h : RdU w hi v zs) (hh : hi ≤ w.heap.size) :
    Calls Tryz.prog 19 #[v] w fun e w' => ∃ t : ByteArray, e = .returned (.string t) ∧ t.size ≤ 1000 ∧ Below w.heap.size w w' := by
  obtain ⟨A, c, rfl, hc, hm⟩ := Rd.form h
  have HCU := Lib.hid (cur_new h hh)
  have HBX : Hid (∀ w', KeepG w.heap.size (w.heap.size + 1) (w.alloc (.cells #[.slice A zs.length c, .int .i64 0, .int .u64 0] 71)) w' → Below w.heap.size w w') := fun w' hk => keepG_box hk
  have hsz : (w.alloc (.cells #[.slice A zs.length c, .int .i64 0, .int .u64 0] 71)).heap.size = w.heap.size + 1 := by simp
  clear h
  go_enter Tryz.func19, Tryz.ntmps19
  go_wp2_with fail
  generalize (w.alloc (.cells #[.slice A zs.length c, .int .i64 0, .int .u64 0] 71)) = wb at HCU HBX hsz ⊢
  have HC : Hid (w.heap.size < wb.heap.size) := by show _ < _; omega
  have D0 := Lib.hid (DrL.start HCU.out)
  have c1 := Lib.hid (pick_any 7 w.heap.size _ wb D0.out.2.1 (by omega) (by omega) (by omega))
  clear HCU hsz
  refine c1.out.mono ?_
  rintro e w1 ⟨z1, rfl, ⟨hz1, hy1⟩, hc1, hk1⟩
  obtain ⟨n0, rfl, hn1⟩ : ∃ n0 : Nat, z1 = (n0 : Int) ∧ n0 ≤ 7 := ⟨z1.toNat, by omega, by omega⟩
  have D1 := Lib.hid ((D0.out.step HC.out hc1 hk1).mono (show _ ≤ 10 + 2 * 0 by omega))
  clear hc1 hk1 D0
  go_wp2_with fail
  go_loopw [4, 5] (fun q i wr => ∃ (A : Option Addr) (c k : Nat) (xs : List Int), q = .slice A xs.length c ∧ i = .int .i64 (k : Int) ∧ xs.length + k ≤ 7 ∧ Hid (∀ x ∈ xs, 0 ≤ x ∧ x ≤ 63) ∧ Hid (DrL wb w.heap.size (10 + 2 * xs.length) wr (.slice A xs.length c) xs)) (fun _ i _ => (intOf i).toNat)
  case atStart => exact ⟨Option.none, 0, n0, [], rfl, rfl, by simp; omega, by show ∀ x ∈ _, _; simp, D1.out⟩
  case round =>
    obtain ⟨A, c, k, xs, rfl, rfl, hxn, HX, DR⟩ := hrel
    clear D1
    by_cases hlt : 0 < k
    · have c21 := Lib.hid (pick_any 64 w.heap.size _ wr DR.out.2.1 (by omega) (by omega) (by omega))
      go_wp2_with fail
      refine c21.out.mono ?_
      rintro e w21 ⟨z21, rfl, ⟨hz21, hy21⟩, hc21, hk21⟩
      have D21 := Lib.hid (DR.out.step HC.out hc21 hk21)
      have HX2 : Hid (∀ x ∈ xs ++ [z21], 0 ≤ x ∧ x ≤ 63) := fun x hx => by
        rcases List.mem_append.1 hx with hx | hx
        · exact HX.out x hx
        · simp at hx; omega
      clear hc21 hk21 DR
      go_wp2_with (at_builtin; refine GrowI.app rfl (.tmp 16) (.tmp 19) rfl D21.out.gr (by omega) rfl rfl ?_; intro v' w' hG')
      have hG2 := D21.out.grow HC.out hG'
      obtain ⟨A', c', rfl⟩ := hG2.form
      have HGG := Lib.hid hG2
      have hlen : (xs ++ [z21]).length = xs.length + 1 := by simp
      clear hG' hG2
      rw [hlen] at HGG ⊢
      go_wp2_with fail
      go_roundw
      case rel => exact ⟨A', c', k - 1, xs ++ [z21], by rw [hlen], by go_num, by rw [hlen]; omega, HX2, by rw [hlen]; exact HGG.out.mono (by omega)⟩
      case measure => (simp [intOf]; try omega)
    · obtain rfl : k = 0 := by omega
      have c2 := Lib.hid (one_any 24 w.heap.size _ wr DR.out.2.1 (by omega) (by omega) (by omega))
      go_wp2_with fail
      refine c2.out.mono ?_
      rintro e w2 ⟨z2, rfl, hc2, hk2⟩
      have D2 := Lib.hid ((DR.out.step HC.out hc2 hk2).mono (show _ ≤ 40 by omega))
      clear hc2 hk2 DR
      cases z2
      case' false =>
        have hr : RdI w2 w2.heap.size (.slice A xs.length c) xs := D2.out.rd
        have cl := sgLine_any xs _ _ w2 hr (Nat.le_refl _) (by omega) HX.out
        have hln : (numsT 32 xs).length ≤ 303 := Nat.le_trans (numsT_len HX.out) (by omega)
        obtain ⟨st, hst⟩ : ∃ st : ByteArray, st = ⟨(numsT 32 xs).toArray⟩ := ⟨_, rfl⟩
        rw [← hst] at cl
        have hsl : st.size ≤ 303 := by rw [hst]; show (numsT 32 xs).toArray.size ≤ 303; simpa using hln
        have cL := Lib.hid cl
        have HCK : Hid (Cur w2 w.heap.size 50) := D2.out.2.1.mono (by omega)
        have HKK : Hid (KeepG w.heap.size (w.heap.size + 1) wb w2) := D2.out.2.2
        clear hr D2 cl hln hst
        go_wp2_with fail
      case' true =>
        have c3 := Lib.hid (pick_any 2 w.heap.size _ w2 D2.out.2.1 (by omega) (by omega) (by omega))
        go_wp2_with fail
        refine c3.out.mono ?_
        rintro e w3 ⟨z3, rfl, ⟨hz3, hy3⟩, hc3, hk3⟩
        obtain ⟨n3, hn3, hn3a, hn3b⟩ : ∃ n3 : Nat, 100 + z3 = (n3 : Int) ∧ n3 ≤ 101 ∧ 100 ≤ n3 := ⟨(100 + z3).toNat, by omega, by omega, by omega⟩
        have hmk := make_ints n3 (by omega) w3
        have hr := (rdI_zeros w3 n3 (by omega)).mono (show w3.heap.size + 1 ≤ (w3.alloc (.cells (zeros n3) 3)).heap.size by simp)
        have hx0 : ∀ x ∈ List.replicate n3 (0 : Int), 0 ≤ x ∧ x ≤ 63 := fun x hx => by have := List.eq_of_mem_replicate hx; omega
        have cl := sgLine_any (List.replicate n3 0) _ _ _ hr (Nat.le_refl _) (by simp; omega) hx0
        have hln : (numsT 32 (List.replicate n3 (0 : Int))).length ≤ 303 := Nat.le_trans (numsT_len hx0) (by simp; omega)
        obtain ⟨st, hst⟩ : ∃ st : ByteArray, st = ⟨(numsT 32 (List.replicate n3 (0 : Int))).toArray⟩ := ⟨_, rfl⟩
        rw [← hst] at cl
        have hsl : st.size ≤ 303 := by rw [hst]; show (numsT 32 _).toArray.size ≤ 303; simpa using hln
        have cL := Lib.hid cl
        have HCK : Hid (Cur (w3.alloc (.cells (zeros n3) 3)) w.heap.size 50) := (hc3.alloc _).mono (by omega)
        have HKK : Hid (KeepG w.heap.size (w.heap.size + 1) wb (w3.alloc (.cells (zeros n3) 3))) := (D2.out.2.2.trans hk3).alloc _
        clear hr hx0 D2 hc3 hk3 c3 cl hln hst
        go_wp2_with fail
      all_goals
        refine cL.out.mono ?_
        rintro e w5 ⟨rfl, hb5⟩
        have hc5 := HCK.out.fresh hb5 HCK.out.lt
        have HK5 := Lib.hid (HKK.out.trans (below_g hb5))
        have c5 := Lib.hid (one_any 3 w.heap.size _ w5 hc5 (by omega) (by omega) (by omega))
        clear hb5 hc5 HCK HKK cL
        go_wp2_with fail
        refine c5.out.mono ?_
        rintro e w6 ⟨z6, rfl, hc6, hk6⟩
        have HK6 := Lib.hid (HK5.out.trans hk6)
        cases z6
        · clear hc6 hk6
          go_wp2_with fail
          go_ret
          exact ⟨st, rfl, by omega, HBX.out _ HK6.out⟩
        · have c7 := Lib.hid (spoilt_any st ⟨#[48, 49, 54, 52, 32]⟩ w.heap.size _ w6 hc6 (by omega) (by omega) (by decide) (by decide))
          clear hc6 hk6
          go_wp2_with fail
          refine c7.out.mono ?_
          rintro e w7 ⟨t', rfl, hts, _, hk7⟩
          have HK7 := Lib.hid (HK6.out.trans hk7)
          clear hk7
          go_wp2_with fail
          go_ret
          exact ⟨t', rfl, by omega, HBX.out _ HK7.out⟩
end Go.Proofs.YtjnkdjokbamibaaGreatDoor
