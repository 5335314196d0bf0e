/- Texts of one claim, joined: J1, J2, T0, T1, T3, T4. -/
import Derived.Laws.BitsLemmas
import Derived.Laws.Bits64
import Derived.Deep.RegionLaw
import Derived.Deep.Onto
import Derived.Test.YtjnkdjokbamibaaGreatDoorP3Books
/- Contracts: what a cursor over bytes draws; its block alone turns, and new memory comes. -/
namespace Go.Proofs.YtjnkdjokbamibaaGreatDoor
open Go.RowKit
def bytesV (zs : List UInt8) : List Value := zs.map fun z => Value.int .u8 (z.toNat : Int)
def RdU (w : World) (hi : Nat) (v : Value) (zs : List UInt8) : Prop := Rd w hi 1 v zs.length (bytesV zs)
theorem RdU.at_ {w : World} {hi : Nat} {v : Value} {zs : List UInt8} (h : RdU w hi v zs) {k : Nat} (hk : k < zs.length) :
    ∃ (b off c : Nat) (z : Int), v = .slice (some ⟨b, off, Option.none⟩) zs.length c ∧ b < hi ∧ w.cell? ⟨b, off + k, Option.none⟩ = some (.int .u8 z) ∧ 0 ≤ z ∧ z ≤ 255 := by
  obtain ⟨_, A, c, hv, _, _, h4⟩ := h
  obtain ⟨b, off, rfl, hb, hc⟩ := h4 (by omega)
  refine ⟨b, off, c, ((zs[k]).toNat : Int), hv, hb, hc k _ (by simp [bytesV, hk]), by omega, ?_⟩
  have := UInt8.toNat_lt zs[k]
  omega
/-- C is the block of a cursor that has been asked at most m times. -/
def Cur (w : World) (C m : Nat) : Prop := ∃ (v : Value) (zs : List UInt8) (p : Nat) (s : Int), Blk w C 71 [v, .int .i64 (p : Int), .int .u64 s] ∧ RdU w C v zs ∧ p ≤ m
theorem KeepG.drawN {C D : Nat} (w : World) (n : Nat) : KeepG C D w (w.drewN n) := (keep_drewN C D w n).g
theorem KeepG.set_ {C D : Nat} {a w : World} (h : KeepG C D a w) {p : Addr} (h1 : C ≤ p.block) (h2 : p.block < D) (u : Value) : KeepG C D a (w.setCell p u) :=
  h.trans ((Keep.refl C D w).setCell h1 h2 u).g
theorem mask255 (y : Int) : 0 ≤ wrap64 (bits .and .u64 (IntKind.u64.wrap y / 1099511627776) 255) ∧ wrap64 (bits .and .u64 (IntKind.u64.wrap y / 1099511627776) 255) ≤ 255 := by
  have e := IntKind.wrap_u64 y
  obtain ⟨x, hx⟩ : ∃ x, x = IntKind.u64.wrap y / 1099511627776 := ⟨_, rfl⟩
  have hx0 : 0 ≤ x := by omega
  have hx1 : x < 18446744073709551616 := by omega
  rw [← hx]
  have h := bits_mask .u64 64 (by decide) (fun n h0 h1 => by rw [IntKind.wrap_u64]; omega) 8 (by decide) x hx0 (by omega)
  have h2 : bits .and .u64 x 255 = x % 256 := by simpa using h
  rw [h2]
  unfold wrap64
  omega
set_option maxRecDepth 100000 in
set_option maxHeartbeats 1600000 in
theorem next_any (C m : Nat) (w : World) (h : Cur w C m) (hm : m ≤ 1099511627776) :
    Calls Tryz.prog 110 #[.pointer (some ⟨C, 0, Option.none⟩)] w fun e w' => ∃ z : Int, e = .returned (.int .i64 z) ∧ 0 ≤ z ∧ z ≤ 255 ∧ Cur w' C (m + 1) ∧ KeepG C (C + 1) w w' := by
  obtain ⟨v, zs, p, s, hb, hr, hp⟩ := h
  obtain ⟨A, c, rfl, hc, hlm⟩ := Rd.form hr
  have h0 := hb.cell 0
  have h1 := hb.cell 1
  have h2 := hb.cell 2
  have hf := fun i => hb.frozen i
  by_cases hlt : p < zs.length
  · obtain ⟨b, off, c', z, hv, hbl, hcell, hz0, hz1⟩ := hr.at_ hlt
    cases hv
    have HB := Lib.hid hb
    have HR := Lib.hid hr
    clear hb hr
    go_enter Tryz.func110, Tryz.ntmps110
    go_wp2_with fail
    go_quiet (fail)
    go_wp2_with fail
    clear h0 h1 h2 hf
    have HB1 : Hid (Blk (w.drewN nq) C 71 [(.slice (some ⟨b, off, Option.none⟩) zs.length c), .int .i64 (p : Int), .int .u64 s]) := HB.out
    have h01 : (w.drewN nq).cell? ⟨C, 0, Option.none⟩ = some (.slice (some ⟨b, off, Option.none⟩) zs.length c) := HB1.out.cell 0
    have h11 : (w.drewN nq).cell? ⟨C, 1, Option.none⟩ = some (.int .i64 (p : Int)) := HB1.out.cell 1
    have h21 : (w.drewN nq).cell? ⟨C, 2, Option.none⟩ = some (.int .u64 s) := HB1.out.cell 2
    have hf1 : ∀ i, (w.drewN nq).frozen? ⟨C, i, Option.none⟩ = false := fun i => HB1.out.frozen i
    have hc1 : (w.drewN nq).cell? ⟨b, off + p, Option.none⟩ = some (.int .u8 z) := hcell
    have HR1 : Hid (RdU (w.drewN nq) C (.slice (some ⟨b, off, Option.none⟩) zs.length c) zs) := HR.out
    have HK1 : Hid (KeepG C (C + 1) w (w.drewN nq)) := KeepG.drawN _ _
    generalize (w.drewN nq) = w1 at HB1 h01 h11 h21 hf1 hc1 HR1 HK1 ⊢
    clear HB HR hcell
    go_wp2_with fail
    go_quiet (fail)
    have HB2 : Hid (Blk (w1.drewN nq) C 71 [(.slice (some ⟨b, off, Option.none⟩) zs.length c), .int .i64 (p : Int), .int .u64 s]) := HB1.out
    have h02 : (w1.drewN nq).cell? ⟨C, 0, Option.none⟩ = some (.slice (some ⟨b, off, Option.none⟩) zs.length c) := HB2.out.cell 0
    have h12 : (w1.drewN nq).cell? ⟨C, 1, Option.none⟩ = some (.int .i64 (p : Int)) := HB2.out.cell 1
    have h22 : (w1.drewN nq).cell? ⟨C, 2, Option.none⟩ = some (.int .u64 s) := HB2.out.cell 2
    have hf2 : ∀ i, (w1.drewN nq).frozen? ⟨C, i, Option.none⟩ = false := fun i => HB2.out.frozen i
    have HR2 : Hid (RdU (w1.drewN nq) C (.slice (some ⟨b, off, Option.none⟩) zs.length c) zs) := HR1.out
    have HK2 : Hid (KeepG C (C + 1) w (w1.drewN nq)) := HK1.out.trans (KeepG.drawN _ _)
    clear hc1 h01 h11 h21 hf1
    generalize (w1.drewN nq) = w2 at HB2 h02 h12 h22 hf2 HR2 HK2 ⊢
    have hp1 : (0 : Int) ≤ (p : Int) + 1 := by omega
    have hS1 : ∀ x, (w2.setCell ⟨C, 1, Option.none⟩ x).cell? ⟨C, 2, Option.none⟩ = some (.int .u64 s) := fun x => (HB2.out.set_ 1 x).cell 2
    have hS2 : ∀ x, (w2.setCell ⟨C, 1, Option.none⟩ x).frozen? ⟨C, 2, Option.none⟩ = false := fun x => (HB2.out.set_ 1 x).frozen 2
    have hB3 : ∀ e, Blk ((w2.setCell ⟨C, 1, Option.none⟩ (.int .i64 ((p : Int) + 1))).setCell ⟨C, 2, Option.none⟩ (.int .u64 e)) C 71 [(.slice (some ⟨b, off, Option.none⟩) zs.length c), .int .i64 ((p : Int) + 1), .int .u64 e] := fun e => (HB2.out.set_ 1 _).set_ 2 _
    have hT0 : ∀ e, ((w2.setCell ⟨C, 1, Option.none⟩ (.int .i64 ((p : Int) + 1))).setCell ⟨C, 2, Option.none⟩ (.int .u64 e)).cell? ⟨C, 0, Option.none⟩ = some (.slice (some ⟨b, off, Option.none⟩) zs.length c) := fun e => (hB3 e).cell 0
    have hT1 : ∀ e, ((w2.setCell ⟨C, 1, Option.none⟩ (.int .i64 ((p : Int) + 1))).setCell ⟨C, 2, Option.none⟩ (.int .u64 e)).cell? ⟨C, 1, Option.none⟩ = some (.int .i64 ((p : Int) + 1)) := fun e => (hB3 e).cell 1
    have hT2 : ∀ e, ((w2.setCell ⟨C, 1, Option.none⟩ (.int .i64 ((p : Int) + 1))).setCell ⟨C, 2, Option.none⟩ (.int .u64 e)).cell? ⟨C, 2, Option.none⟩ = some (.int .u64 e) := fun e => (hB3 e).cell 2
    have hR3 : ∀ e, RdU ((w2.setCell ⟨C, 1, Option.none⟩ (.int .i64 ((p : Int) + 1))).setCell ⟨C, 2, Option.none⟩ (.int .u64 e)) C (.slice (some ⟨b, off, Option.none⟩) zs.length c) zs := fun e => HR2.out.below (((Below.refl C w2).setCell (p := ⟨C, 1, Option.none⟩) (Nat.le_refl _) _).setCell (p := ⟨C, 2, Option.none⟩) (Nat.le_refl _) _) (Nat.le_refl _)
    have hK3 : ∀ e, KeepG C (C + 1) w ((w2.setCell ⟨C, 1, Option.none⟩ (.int .i64 ((p : Int) + 1))).setCell ⟨C, 2, Option.none⟩ (.int .u64 e)) := fun e => (HK2.out.set_ (Nat.le_refl _) (Nat.lt_succ_self _) _).set_ (Nat.le_refl _) (Nat.lt_succ_self _) _
    have HB3 := Lib.hid hB3
    have HR3 := Lib.hid hR3
    have HK3 := Lib.hid hK3
    clear hB3 hR3 hK3
    go_wp2_with fail
    go_quiet (fail)
    go_wp2_with fail
    go_ret
    exact ⟨_, rfl, hz0, hz1, ⟨_, zs, p + 1, _, HB3.out _, HR3.out _, by omega⟩, (HK3.out _).trans (KeepG.drawN _ _)⟩
  · have HB := Lib.hid hb
    have HR := Lib.hid hr
    clear hb hr
    go_enter Tryz.func110, Tryz.ntmps110
    go_wp2_with fail
    go_quiet (fail)
    go_wp2_with fail
    clear h0 h1 h2 hf
    have HB2 : Hid (Blk (w.drewN nq) C 71 [(.slice A zs.length c), .int .i64 (p : Int), .int .u64 s]) := HB.out
    have h02 : (w.drewN nq).cell? ⟨C, 0, Option.none⟩ = some (.slice A zs.length c) := HB2.out.cell 0
    have h12 : (w.drewN nq).cell? ⟨C, 1, Option.none⟩ = some (.int .i64 (p : Int)) := HB2.out.cell 1
    have h22 : (w.drewN nq).cell? ⟨C, 2, Option.none⟩ = some (.int .u64 s) := HB2.out.cell 2
    have hf2 : ∀ i, (w.drewN nq).frozen? ⟨C, i, Option.none⟩ = false := fun i => HB2.out.frozen i
    have HR2 : Hid (RdU (w.drewN nq) C (.slice A zs.length c) zs) := HR.out
    have HK2 : Hid (KeepG C (C + 1) w (w.drewN nq)) := KeepG.drawN _ _
    generalize (w.drewN nq) = w2 at HB2 h02 h12 h22 hf2 HR2 HK2 ⊢
    have hp1 : (0 : Int) ≤ (p : Int) + 1 := by omega
    have hS1 : ∀ x, (w2.setCell ⟨C, 1, Option.none⟩ x).cell? ⟨C, 2, Option.none⟩ = some (.int .u64 s) := fun x => (HB2.out.set_ 1 x).cell 2
    have hS2 : ∀ x, (w2.setCell ⟨C, 1, Option.none⟩ x).frozen? ⟨C, 2, Option.none⟩ = false := fun x => (HB2.out.set_ 1 x).frozen 2
    have hB3 : ∀ e, Blk ((w2.setCell ⟨C, 1, Option.none⟩ (.int .i64 ((p : Int) + 1))).setCell ⟨C, 2, Option.none⟩ (.int .u64 e)) C 71 [(.slice A zs.length c), .int .i64 ((p : Int) + 1), .int .u64 e] := fun e => (HB2.out.set_ 1 _).set_ 2 _
    have hT0 : ∀ e, ((w2.setCell ⟨C, 1, Option.none⟩ (.int .i64 ((p : Int) + 1))).setCell ⟨C, 2, Option.none⟩ (.int .u64 e)).cell? ⟨C, 0, Option.none⟩ = some (.slice A zs.length c) := fun e => (hB3 e).cell 0
    have hT1 : ∀ e, ((w2.setCell ⟨C, 1, Option.none⟩ (.int .i64 ((p : Int) + 1))).setCell ⟨C, 2, Option.none⟩ (.int .u64 e)).cell? ⟨C, 1, Option.none⟩ = some (.int .i64 ((p : Int) + 1)) := fun e => (hB3 e).cell 1
    have hT2 : ∀ e, ((w2.setCell ⟨C, 1, Option.none⟩ (.int .i64 ((p : Int) + 1))).setCell ⟨C, 2, Option.none⟩ (.int .u64 e)).cell? ⟨C, 2, Option.none⟩ = some (.int .u64 e) := fun e => (hB3 e).cell 2
    have hR3 : ∀ e, RdU ((w2.setCell ⟨C, 1, Option.none⟩ (.int .i64 ((p : Int) + 1))).setCell ⟨C, 2, Option.none⟩ (.int .u64 e)) C (.slice A zs.length c) zs := fun e => HR2.out.below (((Below.refl C w2).setCell (p := ⟨C, 1, Option.none⟩) (Nat.le_refl _) _).setCell (p := ⟨C, 2, Option.none⟩) (Nat.le_refl _) _) (Nat.le_refl _)
    have hK3 : ∀ e, KeepG C (C + 1) w ((w2.setCell ⟨C, 1, Option.none⟩ (.int .i64 ((p : Int) + 1))).setCell ⟨C, 2, Option.none⟩ (.int .u64 e)) := fun e => (HK2.out.set_ (Nat.le_refl _) (Nat.lt_succ_self _) _).set_ (Nat.le_refl _) (Nat.lt_succ_self _) _
    have HB3 := Lib.hid hB3
    have HR3 := Lib.hid hR3
    have HK3 := Lib.hid hK3
    clear hB3 hR3 hK3
    go_wp2_with fail
    go_quiet (fail)
    go_wp2_with fail
    go_ret
    exact ⟨_, rfl, (mask255 _).1, (mask255 _).2, ⟨_, zs, p + 1, _, HB3.out _, HR3.out _, by omega⟩, (HK3.out _).trans (KeepG.drawN _ _)⟩
theorem Cur.mono {w : World} {C m m' : Nat} (h : Cur w C m) (hm : m ≤ m') : Cur w C m' := by
  obtain ⟨v, zs, p, s, h1, h2, h3⟩ := h
  exact ⟨v, zs, p, s, h1, h2, by omega⟩
theorem Cur.lt {w : World} {C m : Nat} (h : Cur w C m) : C < w.heap.size := by
  obtain ⟨v, zs, p, s, h1, _, _⟩ := h
  exact h1.lt
theorem Cur.alloc {w : World} {C m : Nat} (h : Cur w C m) (o : Obj) : Cur (w.alloc o) C m := by
  obtain ⟨v, zs, p, s, h1, h2, h3⟩ := h
  exact ⟨v, zs, p, s, h1.alloc o, h2.below ((Below.refl _ _).alloc (by have := h1.lt; omega) _) (Nat.le_refl _), h3⟩
/-- What a call that draws leaves: a number in a range, the cursor a little further, all other blocks as they were. -/
def Drawn (C m : Nat) (w : World) (p : Int → Prop) (e : Ending) (w' : World) : Prop := ∃ z : Int, e = .returned (.int .i64 z) ∧ p z ∧ Cur w' C m ∧ KeepG C (C + 1) w w'
set_option maxHeartbeats 800000 in
theorem pick_any (n : Int) (C m : Nat) (w : World) (h : Cur w C m) (hm : m ≤ 1099511627000) (h1 : 1 ≤ n) (h2 : n ≤ 1048576) :
    Calls Tryz.prog 63 #[.pointer (some ⟨C, 0, Option.none⟩), .int .i64 n] w (Drawn C (m + 2) w (fun z => 0 ≤ z ∧ z < n)) := by
  by_cases hn : n ≤ 1
  · have H := Lib.hid h
    clear h
    go_enter Tryz.func63, Tryz.ntmps63
    go_wp2_with fail
    go_ret
    exact ⟨0, rfl, ⟨Int.le_refl _, by omega⟩, H.out.mono (by omega), KeepG.refl _ _ _⟩
  · have cN := next_any C m w h (by omega)
    have CN := Lib.hid cN
    clear cN h
    by_cases hb : 200 < n
    · go_enter Tryz.func63, Tryz.ntmps63
      go_wp2_with fail
      refine CN.out.mono ?_
      rintro e w1 ⟨z, rfl, hz0, hz1, hc1, hk1⟩
      have cM := next_any C (m + 1) w1 hc1 (by omega)
      have CM := Lib.hid cM
      have HK1 := Lib.hid hk1
      clear cM hc1 hk1
      go_wp2_with fail
      refine CM.out.mono ?_
      rintro e w2 ⟨y, rfl, hy0, hy1, hc2, hk2⟩
      have HC2 := Lib.hid hc2
      have HK2 := Lib.hid hk2
      clear hc2 hk2
      have hq0 : 0 ≤ (z * 256 + y) % n := Int.emod_nonneg _ (by omega)
      have hq1 : (z * 256 + y) % n < n := Int.emod_lt_of_pos _ (by omega)
      have hnn : n ≠ 0 := by omega
      go_wp2_with fail
      go_ret
      refine ⟨(z * 256 + y) % n, ?_, ⟨hq0, hq1⟩, HC2.out, HK1.out.trans HK2.out⟩
      simp
      try rw [Int.tmod_eq_emod_of_nonneg (by omega)]
    · go_enter Tryz.func63, Tryz.ntmps63
      go_wp2_with fail
      refine CN.out.mono ?_
      rintro e w1 ⟨z, rfl, hz0, hz1, hc1, hk1⟩
      have HC1 := Lib.hid hc1
      have HK1 := Lib.hid hk1
      clear hc1 hk1
      have hq0 : 0 ≤ z % n := Int.emod_nonneg _ (by omega)
      have hq1 : z % n < n := Int.emod_lt_of_pos _ (by omega)
      have hnn : n ≠ 0 := by omega
      go_wp2_with fail
      go_ret
      refine ⟨z % n, ?_, ⟨hq0, hq1⟩, HC1.out.mono (by omega), HK1.out⟩
      simp
      try rw [Int.tmod_eq_emod_of_nonneg (by omega)]
theorem one_any (n : Int) (C m : Nat) (w : World) (h : Cur w C m) (hm : m ≤ 1099511627000) (h1 : 1 ≤ n) (h2 : n ≤ 1048576) :
    Calls Tryz.prog 64 #[.pointer (some ⟨C, 0, Option.none⟩), .int .i64 n] w fun e w' => ∃ b : Bool, e = .returned (.bool b) ∧ Cur w' C (m + 2) ∧ KeepG C (C + 1) w w' := by
  have cN := pick_any n C m w h hm h1 h2
  have CN := Lib.hid cN
  clear cN h
  go_enter Tryz.func64, Tryz.ntmps64
  go_wp2_with fail
  refine CN.out.mono ?_
  rintro e w1 ⟨z, rfl, hz, hc1, hk1⟩
  have HC1 := Lib.hid hc1
  have HK1 := Lib.hid hk1
  clear hc1 hk1
  go_wp2_with fail
  go_ret
  exact ⟨_, rfl, HC1.out, HK1.out⟩
/-- The slice value v is not empty, lies outside block C, and reads as xs. -/
def Lst (w : World) (C : Nat) (v : Value) (xs : List Int) : Prop := 1 ≤ xs.length ∧ xs.length ≤ 1048576 ∧ ∃ b off c, v = .slice (some ⟨b, off, Option.none⟩) xs.length c ∧ b ≠ C ∧ b < w.heap.size ∧ ∀ j x, xs[j]? = some x → w.cell? ⟨b, off + j, Option.none⟩ = some (.int .i64 x)
theorem KeepG.cell {lo hi : Nat} {w w' : World} (h : KeepG lo hi w w') {b o : Nat} (hb : b < w.heap.size) (hne : b < lo ∨ hi ≤ b) : w'.cell? ⟨b, o, Option.none⟩ = w.cell? ⟨b, o, Option.none⟩ := by
  unfold World.cell?
  rw [h.block b hb hne]
theorem lst_new (w : World) (C : Nat) (xs : List Int) (hC : C < w.heap.size) (h1 : 1 ≤ xs.length) (h2 : xs.length ≤ 1048576) : Lst (w.alloc (.cells (ints xs).toArray 3)) C (.slice (some ⟨w.heap.size, 0, Option.none⟩) xs.length xs.length) xs := by
  refine ⟨h1, h2, w.heap.size, 0, _, rfl, by omega, by simp, fun j x hj => ?_⟩
  rw [show (0 : Nat) + j = j by omega, (Blk.new w 3 (ints xs).toArray).cell j]
  simp [ints, hj]
theorem among_any (xs : List Int) (v : Value) (C m : Nat) (w : World) (h : Cur w C m) (hm : m ≤ 1099511627000) (hl : Lst w C v xs) :
    Calls Tryz.prog 74 #[.pointer (some ⟨C, 0, Option.none⟩), v] w (Drawn C (m + 2) w (fun z => z ∈ xs)) := by
  obtain ⟨l1, l2, b, off, c, rfl, hbC, hbw, hcell⟩ := hl
  have cN := pick_any (xs.length : Int) C m w h hm (by omega) (by omega)
  have CN := Lib.hid cN
  have HCE := Lib.hid hcell
  clear cN h hcell
  go_enter Tryz.func74, Tryz.ntmps74
  go_wp2_with fail
  refine CN.out.mono ?_
  rintro e w1 ⟨z, rfl, ⟨hz0, hz1⟩, hc1, hk1⟩
  obtain ⟨k, rfl⟩ : ∃ k : Nat, z = (k : Int) := ⟨z.toNat, by omega⟩
  have hx : xs[k]? = some xs[k] := by simp [show k < xs.length by omega]
  have hc := (hk1.cell (o := off + k) hbw (by omega)).trans (HCE.out k _ hx)
  have HX := Lib.hid (List.mem_of_getElem? hx)
  have HC1 := Lib.hid hc1
  have HK1 := Lib.hid hk1
  clear hc1 hk1 hx
  go_wp2_with fail
  go_ret
  exact ⟨_, rfl, HX.out, HC1.out, HK1.out⟩
end Go.Proofs.YtjnkdjokbamibaaGreatDoor
/- Contracts: drawn signals, drawn texts of signals. -/
namespace Go.Proofs.YtjnkdjokbamibaaGreatDoor
open Go.RowKit
theorem keepG_box {w w' : World} {o : Obj} (h : KeepG w.heap.size (w.heap.size + 1) (w.alloc o) w') : Below w.heap.size w w' := by
  have h0 : Below w.heap.size w (w.alloc o) := (Below.refl _ _).alloc (Nat.le_refl _) _
  refine ⟨h.os.trans h0.os, h.tape.trans h0.tape, h.output.trans h0.output, Nat.le_trans h0.size h.size, fun k hk => ?_⟩
  rw [h.block k (by have := h0.size; omega) (.inl hk)]
  exact h0.block k hk
theorem cur_new {w : World} {hi : Nat} {v : Value} {zs : List UInt8} (h : RdU w hi v zs) (hh : hi ≤ w.heap.size) : Cur (w.alloc (.cells #[v, .int .i64 0, .int .u64 0] 71)) w.heap.size 0 :=
  ⟨v, zs, 0, 0, Blk.new _ _ _, (Rd.mono h hh).below ((Below.refl _ _).alloc (Nat.le_refl _) _) (Nat.le_refl _), Nat.le_refl _⟩
end Go.Proofs.YtjnkdjokbamibaaGreatDoor
/- For drawn regions: append at a step; for the seats that lack the search for least lengths. -/
namespace Go.Proofs.YtjnkdjokbamibaaGreatDoor
open Go.RowKit
/-- A slice of numbers is appended to a row of the call's own: the run. -/
theorem run_appR {w : World} {B hi : Nat} {v u : Value} {xs ys : List Int} (ty : TypeId) (hown : w.ownsRow B 3 1 v xs.length (ints xs)) (hB : B ≤ w.heap.size) (hR : RdI w hi u ys) (hlen : xs.length + ys.length ≤ 1048576) :
    ∃ v' w', (Builtin.append_ #[24, 24] ty #[v, u]).run Tryz.prog w = .ok v' w' ∧ w'.ownsRow B 3 1 v' (xs ++ ys).length (ints (xs ++ ys)) ∧ w.grownBy w' v.ownBlock := by
  obtain ⟨i, hi0, hz0, hz1, hz2⟩ := info_parts info_int
  obtain ⟨hl, A, c, rfl, hc1, hc2, hcell⟩ := hR
  rcases A with _ | ad
  · have h0 : ys = [] := by
      rcases Nat.eq_zero_or_pos ys.length with h | h
      · exact List.eq_nil_of_length_eq_zero h
      · obtain ⟨b, off, e, _⟩ := hcell h; cases e
    subst h0
    exact ⟨v, w, run_append_nil B 24 ty 3 i 1 Tryz.underlying24 hi0 v xs.length (ints xs) hown c, by simpa using hown, World.grownBy.refl _ _⟩
  · have hnews : ∀ j u, (ints ys)[j]? = some u → w.cell? (ad.add j) = some u := by
      intro j u hj
      rcases Nat.eq_zero_or_pos ys.length with h | h
      · rw [List.eq_nil_of_length_eq_zero h] at hj; simp at hj
      · obtain ⟨b, off, e, _, hcc⟩ := hcell h
        cases e
        rw [Go.WideShapes.add_plain]; exact hcc j u hj
    obtain ⟨v', w', hr, ho, hg, _⟩ := run_append_own (P := Tryz.prog) w B 24 ty 3 i (.int .i64 0) 1 8 Tryz.underlying24 hi0 hz0 hz1 hz2 rfl (by decide) v xs.length (ints xs) hown ad ys.length c (ints ys) (by simp) hnews
      (by intro u hu; simp at hu; obtain ⟨z, _, rfl⟩ := hu; rfl) (by unfold maxLen; omega) (by omega) hB
    exact ⟨v', w', hr, by simpa [ints] using ho, hg⟩
/-- The same at a step of a region that draws its order. -/
theorem step_appR {w0 w : World} {B hi : Nat} {v u : Value} {xs ys : List Int} {ops : Array Oper} {o : Oper} {a : Act} {K : Act → World → Prop} {Q : Exit → Act → World → Prop} {E : Prop} (hgd : o.guard = Option.none) (s x : Operand)
    (ho : o.op = .call { callee := .builtin .append, args := #[s, x], argTypes := #[24, 24] }) (hG : GrowI w0 B w v xs) (hR : RdI w hi u ys) (hlen : xs.length + ys.length ≤ 1048576) (hs : a.eval s = v) (hx : a.eval x = u)
    (h : ∀ v' w', GrowI w0 B w' v' (xs ++ ys) → K (a.put o.dst v') w') : if Region.wanted o (yielded ops a.tmps) = true then Oper.wp Tryz.prog o a w K Q else E := by
  have hw : Region.wanted o (yielded ops a.tmps) = true := by simp [Region.wanted, hgd]
  rw [if_pos hw]
  obtain ⟨v', w', hr, h1, h2⟩ := run_appR o.type hG.1 hG.2.2 hR hlen
  unfold Oper.wp execOp
  simp only [ho, resolve, invoke, builtin, Sem.run_bind, Sem.run_pure, Result.andThen_ok, List.map_toArray, List.map_cons, List.map_nil, hs, hx, hr]
  exact h v' w' ⟨h1, hG.2.1.grown h2 hG.2.2 (fun k hk => (hG.1.lt k hk).1), Nat.le_trans hG.2.2 h2.size⟩
theorem one_rd (w : World) (x : Int) : RdI (w.alloc (.cells #[.int .i64 x] 3)) (w.heap.size + 1) (.slice (some ⟨w.heap.size, 0, Option.none⟩) 1 1) [x] := by
  refine ⟨rfl, _, 1, rfl, Nat.le_refl _, by decide, fun _ => ⟨w.heap.size, 0, rfl, by omega, fun j u hj => ?_⟩⟩
  match j, hj with
  | 0, hj =>
    simp at hj; subst hj
    exact (Blk.new w 3 #[.int .i64 x]).cell 0
end Go.Proofs.YtjnkdjokbamibaaGreatDoor
/- Contracts: drawn lists of numbers: weights, lengths; numbers of digits. -/
namespace Go.Proofs.YtjnkdjokbamibaaGreatDoor
open Go.RowKit
theorem KeepG.fresh {C D : Nat} {w0 w w' : World} (h : KeepG C D w0 w) (hb : Below w0.heap.size w w') : KeepG C D w0 w' :=
  ⟨hb.os.trans h.os, hb.tape.trans h.tape, hb.output.trans h.output, Nat.le_trans h.size hb.size, fun k hk hn => (hb.block k hk).trans (h.block k hk hn)⟩
theorem KeepG.alloc {C D : Nat} {w0 w : World} (h : KeepG C D w0 w) (o : Obj) : KeepG C D w0 (w.alloc o) := h.trans (below_g ((Below.refl _ w).alloc (Nat.le_refl _) o))
theorem Cur.fresh {w w' : World} {C m B : Nat} (h : Cur w C m) (hb : Below B w w') (hC : C < B) : Cur w' C m := by
  obtain ⟨v, zs, p, s, h1, h2, h3⟩ := h
  exact ⟨v, zs, p, s, h1.below hb hC, Rd.below h2 hb (by omega), h3⟩
theorem owns_keepG {w w' : World} {lo C size n : Nat} {e : TypeId} {v : Value} {xs : List Value} (h : w.ownsRow lo e size v n xs) (hk : KeepG C (C + 1) w w') (hC : C < lo) : w'.ownsRow lo e size v n xs := by
  refine ⟨h.1, ?_⟩
  rcases h.2 with hn | ⟨g, cap, cur, rfl, hl, hg, rest⟩
  · exact .inl hn
  · exact .inr ⟨g, cap, cur, rfl, hl, (hk.block g (Array.getElem?_eq_some_iff.1 hg).1 (by omega)).trans hg, rest⟩
/-- A row of numbers drawn since the world w0; the cursor at C. -/
def DrL (w0 : World) (C m : Nat) (wr : World) (v : Value) (xs : List Int) : Prop := wr.ownsRow w0.heap.size 3 1 v xs.length (ints xs) ∧ Cur wr C m ∧ KeepG C (C + 1) w0 wr
theorem DrL.start {w : World} {C m : Nat} (h : Cur w C m) : DrL w C m w (.slice Option.none 0 0) [] := ⟨World.ownsRow_nil _ _ _ _, h, KeepG.refl _ _ _⟩
theorem DrL.step {w0 wr w' : World} {C m m' : Nat} {v : Value} {xs : List Int} (h : DrL w0 C m wr v xs) (hC : C < w0.heap.size) (hc : Cur w' C m') (hk : KeepG C (C + 1) wr w') : DrL w0 C m' w' v xs :=
  ⟨owns_keepG h.1 hk hC, hc, h.2.2.trans hk⟩
theorem DrL.alloc {w0 wr : World} {C m : Nat} {v : Value} {xs : List Int} (h : DrL w0 C m wr v xs) (o : Obj) : DrL w0 C m (wr.alloc o) v xs :=
  ⟨h.1.alloc o, h.2.1.alloc o, h.2.2.trans (below_g ((Below.refl _ wr).alloc (Nat.le_refl _) o))⟩
theorem DrL.mono {w0 wr : World} {C m m' : Nat} {v : Value} {xs : List Int} (h : DrL w0 C m wr v xs) (hm : m ≤ m') : DrL w0 C m' wr v xs := ⟨h.1, h.2.1.mono hm, h.2.2⟩
theorem DrL.le {w0 wr : World} {C m : Nat} {v : Value} {xs : List Int} (h : DrL w0 C m wr v xs) : w0.heap.size ≤ wr.heap.size := h.2.2.size
theorem DrL.own {w0 wr : World} {C m : Nat} {v : Value} {xs : List Int} (h : DrL w0 C m wr v xs) : OwI wr w0.heap.size wr.heap.size v xs := ⟨h.1, fun k hk => (h.1.lt k hk).2⟩
theorem DrL.rd {w0 wr : World} {C m : Nat} {v : Value} {xs : List Int} (h : DrL w0 C m wr v xs) : RdI wr wr.heap.size v xs := h.own.rd
theorem DrL.form {w0 wr : World} {C m : Nat} {v : Value} {xs : List Int} (h : DrL w0 C m wr v xs) : ∃ A c, v = .slice A xs.length c := by
  obtain ⟨A, c, hv, _⟩ := Rd.form h.rd
  exact ⟨A, c, hv⟩
theorem DrL.grow {w0 wr w' : World} {C m : Nat} {v v' : Value} {xs ys : List Int} (h : DrL w0 C m wr v xs) (hC : C < w0.heap.size) (hG : GrowI wr w0.heap.size w' v' ys) : DrL w0 C m w' v' ys :=
  ⟨hG.1, h.2.1.fresh hG.2.1 hC, h.2.2.fresh hG.2.1⟩
theorem DrL.gr {w0 wr : World} {C m : Nat} {v : Value} {xs : List Int} (h : DrL w0 C m wr v xs) : GrowI wr w0.heap.size wr v xs := ⟨h.1, Below.refl _ _, h.le⟩
theorem DrL.pos {w0 wr : World} {C m : Nat} {v : Value} {xs : List Int} (h : DrL w0 C m wr v xs) (hp : 0 < xs.length) : ∃ g c, v = .slice (some ⟨g, 0, Option.none⟩) xs.length c ∧ w0.heap.size ≤ g := by
  rcases h.1.2 with ⟨_, e⟩ | ⟨g, cap, cur, hv, hl, _⟩
  · omega
  · exact ⟨g, cap, hv, hl⟩
theorem DrL.cell {w0 wr : World} {C m g c : Nat} {xs : List Int} (h : DrL w0 C m wr (.slice (some ⟨g, 0, Option.none⟩) xs.length c) xs) {j : Nat} (hj : j < xs.length) : wr.cell? ⟨g, j, Option.none⟩ = some (.int .i64 xs[j]) ∧ wr.frozen? ⟨g, j, Option.none⟩ = false := by
  refine ⟨?_, h.1.frozenAt j⟩
  rw [h.1.cellAt j (by omega)]
  simp [ints, hj]
theorem DrL.put {w0 wr : World} {C m g c : Nat} {xs : List Int} (h : DrL w0 C m wr (.slice (some ⟨g, 0, Option.none⟩) xs.length c) xs) (hC : C < w0.heap.size) (hg : w0.heap.size ≤ g) (j : Nat) (y : Int) :
    DrL w0 C m (wr.setCell ⟨g, j, Option.none⟩ (.int .i64 y)) (.slice (some ⟨g, 0, Option.none⟩) xs.length c) (xs.set j y) := by
  have h1 := (h.1.stored j (.int .i64 y)).1
  have hb : Below w0.heap.size wr (wr.setCell ⟨g, j, Option.none⟩ (.int .i64 y)) := (Below.refl _ _).setCell hg _
  refine ⟨?_, h.2.1.fresh hb hC, h.2.2.fresh hb⟩
  have h2 : ints (xs.set j y) = (ints xs).set j (.int .i64 y) := by unfold ints; rw [List.map_set]
  rw [h2, List.length_set]
  exact h1
end Go.Proofs.YtjnkdjokbamibaaGreatDoor
/- Typed rows: slices of numbers and phrases of a drawn book, of which only the kind of the cells is known. -/
namespace Go.Proofs.YtjnkdjokbamibaaGreatDoor
open Go.RowKit
/-- A slice of p to 1000 numbers in a row of numbers from block lo on; what it holds is of no matter. -/
def IntSl (w : World) (lo p : Nat) (u : Value) : Prop :=
  (u = .slice Option.none 0 0 ∧ p = 0) ∨ ∃ (b n c : Nat) (cur : Array Value), u = .slice (some ⟨b, 0, Option.none⟩) n c ∧ lo ≤ b ∧ (p ≤ n ∧ n ≤ 1000 ∧ n ≤ c) ∧ c ≤ 9223372036854775807 ∧ w.heap[b]? = some (.cells cur 3 (0, 0)) ∧ ∀ j, j < n → ∃ z : Int, cur[j]? = some (.int .i64 z)
/-- Rows of numbers stay rows of numbers. -/
def IntsKept (lo : Nat) (w w' : World) : Prop := ∀ (b : Nat) (cur : Array Value), lo ≤ b → w.heap[b]? = some (.cells cur 3 (0, 0)) → ∃ cur' : Array Value, w'.heap[b]? = some (.cells cur' 3 (0, 0)) ∧ ∀ (j : Nat) (z : Int), cur[j]? = some (.int .i64 z) → ∃ z' : Int, cur'[j]? = some (.int .i64 z')
theorem IntsKept.same {lo : Nat} {w w' : World} (h : ∀ (b : Nat) (cur : Array Value), lo ≤ b → w.heap[b]? = some (.cells cur 3 (0, 0)) → w'.heap[b]? = w.heap[b]?) : IntsKept lo w w' := fun b cur hb hg => ⟨cur, (h b cur hb hg).trans hg, fun _ z hz => ⟨z, hz⟩⟩
theorem IntsKept.refl (lo : Nat) (w : World) : IntsKept lo w w := .same fun _ _ _ _ => rfl
theorem IntsKept.trans {lo : Nat} {a b c : World} (h : IntsKept lo a b) (g : IntsKept lo b c) : IntsKept lo a c := fun k cur hk hg => by
  obtain ⟨c1, h1, h2⟩ := h k cur hk hg
  obtain ⟨c2, g1, g2⟩ := g k c1 hk h1
  refine ⟨c2, g1, fun j z hz => ?_⟩
  obtain ⟨z1, hz1⟩ := h2 j z hz
  exact g2 j z1 hz1
theorem IntsKept.keepG {lo C : Nat} {w w' : World} (h : KeepG C (C + 1) w w') (hC : C < lo) : IntsKept lo w w' := .same fun b _ hb hg => h.block b (Array.getElem?_eq_some_iff.1 hg).1 (by omega)
theorem IntsKept.below {lo : Nat} {w w' : World} (h : Below w.heap.size w w') : IntsKept lo w w' := .same fun b _ _ hg => h.block b (Array.getElem?_eq_some_iff.1 hg).1
theorem IntsKept.alloc {lo : Nat} {w w' : World} (h : IntsKept lo w w') (o : Obj) : IntsKept lo w (w'.alloc o) := h.trans (.below ((Below.refl _ _).alloc (Nat.le_refl _) _))
/-- A store into a row of another kind. -/
theorem IntsKept.far {lo : Nat} {w : World} {p : Addr} {u : Value} (h : ∀ cur, w.heap[p.block]? ≠ some (.cells cur 3 (0, 0))) : IntsKept lo w (w.setCell p u) := .same fun b cur _ hg => Below.heap_setCell w p u b (fun e => h cur (by rw [← e]; exact hg))
theorem IntsKept.setInt {lo : Nat} {w : World} {b i : Nat} (z : Int) : IntsKept lo w (w.setCell ⟨b, i, Option.none⟩ (.int .i64 z)) := fun k cur hk hg => by
  by_cases e : k = b
  · subst e
    refine ⟨cur.setIfInBounds i (.int .i64 z), heap_setCell_same w k i cur 3 (.int .i64 z) hg, fun j y hy => ?_⟩
    by_cases e2 : i = j
    · subst e2
      have hl := (Array.getElem?_eq_some_iff.1 hy).1
      exact ⟨z, by simp [hl]⟩
    · exact ⟨y, by rw [Array.getElem?_setIfInBounds, if_neg e2]; exact hy⟩
  · exact ⟨cur, (Below.heap_setCell w ⟨b, i, Option.none⟩ _ k e).trans hg, fun _ y hy => ⟨y, hy⟩⟩
theorem IntSl.kept {lo p : Nat} {w w' : World} {u : Value} (h : IntSl w lo p u) (hk : IntsKept lo w w') : IntSl w' lo p u := by
  rcases h with h0 | ⟨b, n, c, cur, rfl, hb, hn, hc, hg, hz⟩
  · exact .inl h0
  · obtain ⟨cur', h1, h2⟩ := hk b cur hb hg
    refine .inr ⟨b, n, c, cur', rfl, hb, hn, hc, h1, fun j hj => ?_⟩
    obtain ⟨z, hz1⟩ := hz j hj
    exact h2 j z hz1
theorem IntSl.nil (w : World) (lo : Nat) : IntSl w lo 0 (.slice Option.none 0 0) := .inl ⟨rfl, rfl⟩
theorem IntSl.own {w : World} {lo p : Nat} {v : Value} {xs : List Int} (h : w.ownsRow lo 3 1 v xs.length (ints xs)) (hp : p ≤ xs.length) (hx : xs.length ≤ 1000) : IntSl w lo p v := by
  rcases h.2 with ⟨rfl, hz⟩ | ⟨g, cap, cur, rfl, hl, hg, hn, hm, hs, ht⟩
  · exact .inl ⟨rfl, by omega⟩
  · refine .inr ⟨g, xs.length, cap, cur, rfl, hl, ⟨hp, hx, hn⟩, by unfold maxLen at hm; omega, hg, fun j hj => ⟨xs[j], ?_⟩⟩
    have h1 : (ints xs)[j]? = some (.int .i64 xs[j]) := by simp [ints, hj]
    rw [← ht, List.getElem?_take, if_pos (by omega)] at h1
    simpa using h1
theorem IntSl.zero {w : World} {lo p : Nat} {u : Value} (h : IntSl w lo p u) : IntSl w lo 0 u := by
  rcases h with ⟨rfl, _⟩ | ⟨b, n, c, cur, h1, h2, h3, h4⟩
  · exact .inl ⟨rfl, rfl⟩
  · exact .inr ⟨b, n, c, cur, h1, h2, ⟨Nat.zero_le _, h3.2⟩, h4⟩
theorem IntSl.form {w : World} {lo p : Nat} {u : Value} (h : IntSl w lo p u) : ∃ A n c, u = .slice A n c ∧ p ≤ n ∧ n ≤ 1000 := by
  rcases h with ⟨rfl, h0⟩ | ⟨b, n, c, cur, rfl, _, h3, _⟩
  · exact ⟨_, _, _, rfl, by omega, by omega⟩
  · exact ⟨_, _, _, rfl, h3.1, h3.2.1⟩
theorem IntSl.rd {w : World} {lo p : Nat} {u : Value} (h : IntSl w lo p u) : ∃ xs : List Int, RdI w w.heap.size u xs := by
  rcases h with ⟨rfl, _⟩ | ⟨b, n, c, cur, rfl, hb, hn, hc, hg, hz⟩
  · exact ⟨[], (owI_nil w 0 w.heap.size).rd⟩
  · have hz' : ∃ f : Nat → Int, ∀ j, j < n → cur[j]? = some (.int .i64 (f j)) := by
      refine ⟨fun j => if h : j < n then Classical.choose (hz j h) else 0, fun j hj => ?_⟩
      dsimp only
      rw [dif_pos hj]
      exact Classical.choose_spec (hz j hj)
    obtain ⟨f, hf⟩ := hz'
    have hl : ((List.range n).map f).length = n := by simp
    refine ⟨(List.range n).map f, by simp, some ⟨b, 0, Option.none⟩, c, by rw [hl], by rw [hl]; exact hn.2.2, by unfold maxLen; omega, fun _ => ⟨b, 0, rfl, (Array.getElem?_eq_some_iff.1 hg).1, fun j x hx => ?_⟩⟩
    rw [show (0 : Nat) + j = j by omega, cell_of_row w b j cur 3 (0, 0) hg]
    unfold ints at hx
    rw [List.map_map, List.getElem?_map] at hx
    by_cases hj : j < n
    · rw [List.getElem?_range hj] at hx
      rw [hf j hj]
      exact hx
    · rw [List.getElem?_eq_none (by simp; omega)] at hx; cases hx
/-- A row of n phrases of the call's own, of which only the kind is known. -/
def BookR (w : World) (lo p : Nat) (v : Value) (n : Nat) : Prop := ∃ (ts : List ByteArray) (us : List Value), ts.length = n ∧ us.length = n ∧ w.ownsRow lo 45 2 v n (zipC ts us) ∧ (∀ t ∈ ts, t.size ≤ 1000) ∧ ∀ u ∈ us, IntSl w lo p u
theorem BookR.nil (w : World) (lo p : Nat) : BookR w lo p (.slice Option.none 0 0) 0 := ⟨[], [], rfl, rfl, World.ownsRow_nil _ _ _ _, by simp, by simp⟩
theorem BookR.step {w w' : World} {lo p C n : Nat} {v : Value} (h : BookR w lo p v n) (hk : KeepG C (C + 1) w w') (hC : C < lo) : BookR w' lo p v n := by
  obtain ⟨ts, us, h1, h2, h3, h4, h5⟩ := h
  exact ⟨ts, us, h1, h2, owns_keepG h3 hk hC, h4, fun u hu => (h5 u hu).kept (.keepG hk hC)⟩
theorem BookR.zero {w : World} {lo p n : Nat} {v : Value} (h : BookR w lo p v n) : BookR w lo 0 v n := by
  obtain ⟨ts, us, h1, h2, h3, h4, h5⟩ := h
  exact ⟨ts, us, h1, h2, h3, h4, fun u hu => (h5 u hu).zero⟩
theorem BookR.rd {w : World} {lo p n : Nat} {v : Value} (h : BookR w lo p v n) : ∃ ps : List Phr, ps.length = n ∧ RdPS w w.heap.size v ps := by
  classical
  obtain ⟨ts, us, h1, h2, h3, h4, h5⟩ := h
  have hx : ∃ f : Value → List Int, ∀ u ∈ us, RdI w w.heap.size u (f u) := by
    refine ⟨fun u => if h : u ∈ us then Classical.choose (h5 u h).rd else [], fun u hu => ?_⟩
    dsimp only
    rw [dif_pos hu]
    exact Classical.choose_spec (h5 u hu).rd
  obtain ⟨f, hf⟩ := hx
  have ht : txts (ts.zip (us.map f)) = ts := by unfold txts; rw [List.map_fst_zip]; simp; omega
  have hs : sigs (ts.zip (us.map f)) = us.map f := by unfold sigs; rw [List.map_snd_zip]; simp; omega
  have hl : (ts.zip (us.map f)).length = n := by simp; omega
  refine ⟨ts.zip (us.map f), hl, us, ⟨by rw [hs]; simp, fun i u xs hu hx => ?_⟩, ?_, fun p hp => ?_⟩
  · rw [hs, List.getElem?_map, hu] at hx
    cases hx
    exact hf u (List.mem_of_getElem? hu)
  · rw [ht, hl]
    exact rd_of_owns h3 (fun k hk => (h3.lt k hk).2)
  · have := h4 p.1 (List.of_mem_zip hp).1
    omega
end Go.Proofs.YtjnkdjokbamibaaGreatDoor
/- A drawn book's row: a phrase is appended; a text, a slice of signals is stored. -/
namespace Go.Proofs.YtjnkdjokbamibaaGreatDoor
open Go.RowKit
/-- Blocks that are no rows of phrases stand. -/
def FrP (w w' : World) : Prop := ∀ (k : Nat) (c : Array Value) (e : TypeId) (fz : Nat × Nat), w.heap[k]? = some (.cells c e fz) → e ≠ 45 → w'.heap[k]? = some (.cells c e fz)
theorem Blk.frP {w w' : World} {g : Nat} {t : TypeId} {cs : List Value} (h : Blk w g t cs) (hf : FrP w w') (h1 : t ≠ 45) : Blk w' g t cs := hf _ _ _ _ h h1
theorem FrP.ints {w w' : World} (h : FrP w w') (lo : Nat) : IntsKept lo w w' := .same fun b cur _ hg => (h b cur 3 (0, 0) hg (by decide)).trans hg.symm
theorem two_cells (w : World) (u v : Value) (t : TypeId) (j : Nat) (x : Value) (h : [u, v][j]? = some x) : (w.alloc (.cells #[u, v] t)).cell? ((⟨w.heap.size, 0, Option.none⟩ : Addr).add j) = some x := by
  rw [Go.WideShapes.add_plain, show (0 : Nat) + j = j by omega, (Blk.new w t #[u, v]).cell j]
  exact h
theorem BookR.app {wr : World} {lo p n : Nat} {v : Value} {t : ByteArray} {A : Option Addr} {n1 c1 : Nat} {ops : Array Oper} {rest : List Oper} {o : Oper} {a : Act} {Q : Exit → Act → World → Prop} (hgd : o.guard = Option.none) (s x : Operand)
    (ho : o.op = .call { callee := .builtin .append, args := #[s, x], argTypes := #[39, 39] }) (hG : BookR wr lo p v n) (hlo : lo ≤ wr.heap.size) (hu : IntSl wr lo p (.slice A n1 c1)) (ht : t.size ≤ 1000) (hlen : n < 1000000)
    (hs : a.eval s = v) (hx : a.eval x = .slice (some ⟨wr.heap.size, 0, Option.none⟩) 1 1)
    (h : ∀ v' w', BookR w' lo p v' (n + 1) → Below lo wr w' → FrP wr w' → wr.heap.size ≤ w'.heap.size → wpList Tryz.prog ops Q rest (a.put o.dst v') w') : wpList Tryz.prog ops Q (o :: rest) a (wr.alloc (.cells #[.string t, .slice A n1 c1] 45)) := by
  obtain ⟨i, hi, hz0, hz1, hz2⟩ := info_parts info_phr
  obtain ⟨ts, us, h1, h2, h3, h4, h5⟩ := hG
  refine wpList_append_own _ hgd s x 39 ho lo 45 i (.agg #[.string { data := #[] }, .slice Option.none 0 0]) 2 40 Tryz.underlying39 hi hz0 hz1 hz2 rfl (by decide) v n (zipC ts us) hs (h3.alloc _) ⟨wr.heap.size, 0, Option.none⟩ 1 1 [.string t, .slice A n1 c1] hx rfl
    (two_cells _ _ _ _) (by intro u hu; simp at hu; rcases hu with rfl | rfl <;> rfl) (by unfold maxLen; omega) (by omega) (by simp; omega) ?_
  intro v' w' hown hgr _
  have hsz := hgr.size
  have hsz2 : wr.heap.size + 1 ≤ w'.heap.size := by simpa using hsz
  have hfar : ∀ g, g < wr.heap.size → v.ownBlock ≠ some g → w'.heap[g]? = wr.heap[g]? := fun g hg hne => (hgr.block g (by simp; omega) (fun e => hne e.symm)).trans (Below.heap_alloc wr _ g hg)
  have hfr : FrP wr w' := by
    intro k cs e fz hk e1
    have hlt := (Array.getElem?_eq_some_iff.1 hk).1
    rw [hfar k hlt (fun hv => ?_)]
    · exact hk
    · rcases h3.2 with ⟨rfl, _⟩ | ⟨g, cap, cur, rfl, _, hg, _⟩
      · cases hv
      · cases hv
        rw [hk] at hg
        cases hg
        exact e1 rfl
  have hb' : Below lo wr w' := ((Below.refl lo wr).alloc hlo _).grown hgr (by simp; omega) (fun k hk => ((h3.alloc (.cells #[.string t, .slice A n1 c1] 45)).lt k hk).1)
  refine h v' w' ⟨ts ++ [t], us ++ [.slice A n1 c1], by simp [h1], by simp [h2], ?_, fun t' ht' => ?_, fun u hu' => ?_⟩ hb' hfr (by omega)
  · rw [zipC_append ts us t _ (by omega)]
    simpa using hown
  · rw [List.mem_append, List.mem_singleton] at ht'
    rcases ht' with ht' | rfl
    · exact h4 _ ht'
    · exact ht
  · rw [List.mem_append, List.mem_singleton] at hu'
    rcases hu' with hu' | rfl
    · exact (h5 _ hu').kept (hfr.ints lo)
    · exact hu.kept (hfr.ints lo)
theorem zipC_setT : ∀ (ts : List ByteArray) (us : List Value) (j : Nat) (t : ByteArray), (zipC ts us).set (j * 2) (.string t) = zipC (ts.set j t) us
  | [], _, _, _ => rfl
  | _ :: _, [], 0, _ => rfl
  | _ :: _, [], _ + 1, _ => rfl
  | a :: ts, b :: us, 0, t => rfl
  | a :: ts, b :: us, j + 1, t => by
    rw [show (j + 1) * 2 = j * 2 + 1 + 1 by omega]
    simp only [zipC, List.set_cons_succ, zipC_setT ts us j t]
theorem zipC_setU : ∀ (ts : List ByteArray) (us : List Value) (j : Nat) (u : Value), (zipC ts us).set (j * 2 + 1) u = zipC ts (us.set j u)
  | [], _, _, _ => rfl
  | _ :: _, [], _, _ => by simp [zipC]
  | a :: ts, b :: us, 0, t => rfl
  | a :: ts, b :: us, j + 1, t => by
    rw [show (j + 1) * 2 + 1 = j * 2 + 1 + 1 + 1 by omega]
    simp only [zipC, List.set_cons_succ, zipC_setU ts us j t]
theorem BookR.pos {w : World} {lo p n : Nat} {v : Value} (h : BookR w lo p v n) (hn : 0 < n) : ∃ g c, v = .slice (some ⟨g, 0, Option.none⟩) n c ∧ lo ≤ g ∧ ∃ cur, w.heap[g]? = some (.cells cur 45 (0, 0)) := by
  obtain ⟨ts, us, h1, h2, h3, h4, h5⟩ := h
  rcases h3.2 with ⟨_, e⟩ | ⟨g, cap, cur, hv, hl, hg, _⟩
  · omega
  · exact ⟨g, cap, hv, hl, cur, hg⟩
theorem BookR.form {w : World} {lo p n : Nat} {v : Value} (h : BookR w lo p v n) : ∃ A c, v = .slice A n c := by
  obtain ⟨ps, h1, h2⟩ := h.rd
  obtain ⟨A, c, h3, _⟩ := h2.form
  exact ⟨A, c, by rw [h3, h1]⟩
theorem BookR.at_ {w : World} {lo p n g c : Nat} (h : BookR w lo p (.slice (some ⟨g, 0, Option.none⟩) n c) n) {j : Nat} (hj : j < n) :
    ∃ (t : ByteArray) (u : Value), w.cell? ⟨g, j * 2, Option.none⟩ = some (.string t) ∧ w.cell? ⟨g, j * 2 + 1, Option.none⟩ = some u ∧ IntSl w lo p u ∧ t.size ≤ 1000 ∧ w.frozen? ⟨g, j * 2, Option.none⟩ = false ∧ w.frozen? ⟨g, j * 2 + 1, Option.none⟩ = false := by
  obtain ⟨ts, us, h1, h2, h3, h4, h5⟩ := h
  have ht : ts[j]? = some ts[j] := by simp [show j < ts.length by omega]
  have hu : us[j]? = some us[j] := by simp [show j < us.length by omega]
  have hz := zipC_at ts us j _ _ ht hu
  exact ⟨ts[j], us[j], (h3.cellAt _ (by omega)).trans hz.1, (h3.cellAt _ (by omega)).trans hz.2, h5 _ (List.mem_of_getElem? hu), h4 _ (List.mem_of_getElem? ht), h3.frozenAt _, h3.frozenAt _⟩
theorem BookR.setText {w : World} {lo p n g c : Nat} (h : BookR w lo p (.slice (some ⟨g, 0, Option.none⟩) n c) n) {cur : Array Value} (hg : w.heap[g]? = some (.cells cur 45 (0, 0))) (j : Nat) {t : ByteArray} (ht : t.size ≤ 1000) : BookR (w.setCell ⟨g, j * 2, Option.none⟩ (.string t)) lo p (.slice (some ⟨g, 0, Option.none⟩) n c) n := by
  obtain ⟨ts, us, h1, h2, h3, h4, h5⟩ := h
  have h6 := (h3.stored (j * 2) (.string t)).1
  rw [zipC_setT] at h6
  refine ⟨ts.set j t, us, by simp [h1], h2, h6, fun t' ht' => ?_, fun u hu => (h5 u hu).kept (.far fun cur' e => ?_)⟩
  · rcases List.mem_or_eq_of_mem_set ht' with h7 | rfl
    · exact h4 _ h7
    · exact ht
  · rw [hg] at e; cases e
theorem BookR.setSig {w : World} {lo p n g c : Nat} (h : BookR w lo p (.slice (some ⟨g, 0, Option.none⟩) n c) n) {cur : Array Value} (hg : w.heap[g]? = some (.cells cur 45 (0, 0))) (j : Nat) {u : Value} (hu : IntSl w lo p u) : BookR (w.setCell ⟨g, j * 2 + 1, Option.none⟩ u) lo p (.slice (some ⟨g, 0, Option.none⟩) n c) n := by
  obtain ⟨ts, us, h1, h2, h3, h4, h5⟩ := h
  have h6 := (h3.stored (j * 2 + 1) u).1
  rw [zipC_setU] at h6
  have hk : IntsKept lo w (w.setCell ⟨g, j * 2 + 1, Option.none⟩ u) := .far fun cur' e => by rw [hg] at e; cases e
  refine ⟨ts, us.set j u, h1, by simp [h2], h6, h4, fun u' hu' => ?_⟩
  rcases List.mem_or_eq_of_mem_set hu' with h7 | rfl
  · exact (h5 _ h7).kept hk
  · exact hu.kept hk
/-- A store elsewhere. -/
theorem BookR.far {w : World} {lo k n : Nat} {v : Value} (h : BookR w lo k v n) {p : Addr} {u : Value} {cur : Array Value} {e : TypeId} {fz : Nat × Nat} (hg : w.heap[p.block]? = some (.cells cur e fz)) (he : e ≠ 45 ∨ v.ownBlock ≠ some p.block) (hk : IntsKept lo w (w.setCell p u)) : BookR (w.setCell p u) lo k v n := by
  obtain ⟨ts, us, h1, h2, h3, h4, h5⟩ := h
  refine ⟨ts, us, h1, h2, ⟨h3.1, ?_⟩, h4, fun u' hu' => (h5 u' hu').kept hk⟩
  rcases h3.2 with h6 | ⟨g, cap, cur', rfl, hl, hg', rest⟩
  · exact .inl h6
  · have hne : g ≠ p.block := by
      rintro rfl
      rcases he with he | he
      · rw [hg] at hg'; cases hg'; exact he rfl
      · exact he rfl
    exact .inr ⟨g, cap, cur', rfl, hl, (Below.heap_setCell w p u g hne).trans hg', rest⟩
end Go.Proofs.YtjnkdjokbamibaaGreatDoor
