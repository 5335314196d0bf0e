/- Contracts: what a cursor over bytes draws; its block alone turns, and new memory comes. -/
import Derived.Test.YtabiobjcfopakaaD7
import Derived.Laws.BitsLemmas
import Derived.Laws.Bits64
namespace Go.Proofs.Ytabiobjcfopakaa
open Go.RowKit
def bytesV (zs : List UInt8) : List Value := zs.map fun z => Value.int .u8 (z.toNat : Int)
def RdU (w : World) (hi : Nat) (v : Value) (zs : List UInt8) : Prop := Rd w hi 1 v zs.length (bytesV zs)
theorem RdU.at_ {w : World} {hi : Nat} {v : Value} {zs : List UInt8} (h : RdU w hi v zs) {k : Nat} (hk : k < zs.length) :
    ∃ (b off c : Nat) (z : Int), v = .slice (some ⟨b, off, Option.none⟩) zs.length c ∧ b < hi ∧ w.cell? ⟨b, off + k, Option.none⟩ = some (.int .u8 z) ∧ 0 ≤ z ∧ z ≤ 255 := by
  obtain ⟨_, A, c, hv, _, _, h4⟩ := h
  obtain ⟨b, off, rfl, hb, hc⟩ := h4 (by omega)
  refine ⟨b, off, c, ((zs[k]).toNat : Int), hv, hb, hc k _ (by simp [bytesV, hk]), by omega, ?_⟩
  have := UInt8.toNat_lt zs[k]
  omega
/-- C is the block of a cursor that has been asked at most m times. -/
def Cur (w : World) (C m : Nat) : Prop := ∃ (v : Value) (zs : List UInt8) (p : Nat) (s : Int), Blk w C 110 [v, .int .i64 (p : Int), .int .u64 s] ∧ RdU w C v zs ∧ p ≤ m
theorem KeepG.drawN {C D : Nat} (w : World) (n : Nat) : KeepG C D w (w.drewN n) := (keep_drewN C D w n).g
theorem KeepG.set_ {C D : Nat} {a w : World} (h : KeepG C D a w) {p : Addr} (h1 : C ≤ p.block) (h2 : p.block < D) (u : Value) : KeepG C D a (w.setCell p u) :=
  h.trans ((Keep.refl C D w).setCell h1 h2 u).g
theorem mask255 (y : Int) : 0 ≤ wrap64 (bits .and .u64 (IntKind.u64.wrap y / 1099511627776) 255) ∧ wrap64 (bits .and .u64 (IntKind.u64.wrap y / 1099511627776) 255) ≤ 255 := by
  have e := IntKind.wrap_u64 y
  obtain ⟨x, hx⟩ : ∃ x, x = IntKind.u64.wrap y / 1099511627776 := ⟨_, rfl⟩
  have hx0 : 0 ≤ x := by omega
  have hx1 : x < 18446744073709551616 := by omega
  rw [← hx]
  have h := bits_mask .u64 64 (by decide) (fun n h0 h1 => by rw [IntKind.wrap_u64]; omega) 8 (by decide) x hx0 (by omega)
  have h2 : bits .and .u64 x 255 = x % 256 := by simpa using h
  rw [h2]
  unfold wrap64
  omega
set_option maxRecDepth 100000 in
set_option maxHeartbeats 1600000 in
theorem next_any (C m : Nat) (w : World) (h : Cur w C m) (hm : m ≤ 1099511627776) :
    Calls Try.prog 212 #[.pointer (some ⟨C, 0, Option.none⟩)] w fun e w' => ∃ z : Int, e = .returned (.int .i64 z) ∧ 0 ≤ z ∧ z ≤ 255 ∧ Cur w' C (m + 1) ∧ KeepG C (C + 1) w w' := by
  obtain ⟨v, zs, p, s, hb, hr, hp⟩ := h
  obtain ⟨A, c, rfl, hc, hlm⟩ := Rd.form hr
  have h0 := hb.cell 0
  have h1 := hb.cell 1
  have h2 := hb.cell 2
  have hf := fun i => hb.frozen i
  by_cases hlt : p < zs.length
  · obtain ⟨b, off, c', z, hv, hbl, hcell, hz0, hz1⟩ := hr.at_ hlt
    cases hv
    have HB := Lib.hid hb
    have HR := Lib.hid hr
    clear hb hr
    go_enter Try.func212, Try.ntmps212
    go_wp2_with fail
    go_quiet (fail)
    go_wp2_with fail
    clear h0 h1 h2 hf
    have HB1 : Hid (Blk (w.drewN nq) C 110 [(.slice (some ⟨b, off, Option.none⟩) zs.length c), .int .i64 (p : Int), .int .u64 s]) := HB.out
    have h01 : (w.drewN nq).cell? ⟨C, 0, Option.none⟩ = some (.slice (some ⟨b, off, Option.none⟩) zs.length c) := HB1.out.cell 0
    have h11 : (w.drewN nq).cell? ⟨C, 1, Option.none⟩ = some (.int .i64 (p : Int)) := HB1.out.cell 1
    have h21 : (w.drewN nq).cell? ⟨C, 2, Option.none⟩ = some (.int .u64 s) := HB1.out.cell 2
    have hf1 : ∀ i, (w.drewN nq).frozen? ⟨C, i, Option.none⟩ = false := fun i => HB1.out.frozen i
    have hc1 : (w.drewN nq).cell? ⟨b, off + p, Option.none⟩ = some (.int .u8 z) := hcell
    have HR1 : Hid (RdU (w.drewN nq) C (.slice (some ⟨b, off, Option.none⟩) zs.length c) zs) := HR.out
    have HK1 : Hid (KeepG C (C + 1) w (w.drewN nq)) := KeepG.drawN _ _
    generalize (w.drewN nq) = w1 at HB1 h01 h11 h21 hf1 hc1 HR1 HK1 ⊢
    clear HB HR hcell
    go_wp2_with fail
    go_quiet (fail)
    have HB2 : Hid (Blk (w1.drewN nq) C 110 [(.slice (some ⟨b, off, Option.none⟩) zs.length c), .int .i64 (p : Int), .int .u64 s]) := HB1.out
    have h02 : (w1.drewN nq).cell? ⟨C, 0, Option.none⟩ = some (.slice (some ⟨b, off, Option.none⟩) zs.length c) := HB2.out.cell 0
    have h12 : (w1.drewN nq).cell? ⟨C, 1, Option.none⟩ = some (.int .i64 (p : Int)) := HB2.out.cell 1
    have h22 : (w1.drewN nq).cell? ⟨C, 2, Option.none⟩ = some (.int .u64 s) := HB2.out.cell 2
    have hf2 : ∀ i, (w1.drewN nq).frozen? ⟨C, i, Option.none⟩ = false := fun i => HB2.out.frozen i
    have HR2 : Hid (RdU (w1.drewN nq) C (.slice (some ⟨b, off, Option.none⟩) zs.length c) zs) := HR1.out
    have HK2 : Hid (KeepG C (C + 1) w (w1.drewN nq)) := HK1.out.trans (KeepG.drawN _ _)
    clear hc1 h01 h11 h21 hf1
    generalize (w1.drewN nq) = w2 at HB2 h02 h12 h22 hf2 HR2 HK2 ⊢
    have hp1 : (0 : Int) ≤ (p : Int) + 1 := by omega
    have hS1 : ∀ x, (w2.setCell ⟨C, 1, Option.none⟩ x).cell? ⟨C, 2, Option.none⟩ = some (.int .u64 s) := fun x => (HB2.out.set_ 1 x).cell 2
    have hS2 : ∀ x, (w2.setCell ⟨C, 1, Option.none⟩ x).frozen? ⟨C, 2, Option.none⟩ = false := fun x => (HB2.out.set_ 1 x).frozen 2
    have hB3 : ∀ e, Blk ((w2.setCell ⟨C, 1, Option.none⟩ (.int .i64 ((p : Int) + 1))).setCell ⟨C, 2, Option.none⟩ (.int .u64 e)) C 110 [(.slice (some ⟨b, off, Option.none⟩) zs.length c), .int .i64 ((p : Int) + 1), .int .u64 e] := fun e => (HB2.out.set_ 1 _).set_ 2 _
    have hT0 : ∀ e, ((w2.setCell ⟨C, 1, Option.none⟩ (.int .i64 ((p : Int) + 1))).setCell ⟨C, 2, Option.none⟩ (.int .u64 e)).cell? ⟨C, 0, Option.none⟩ = some (.slice (some ⟨b, off, Option.none⟩) zs.length c) := fun e => (hB3 e).cell 0
    have hT1 : ∀ e, ((w2.setCell ⟨C, 1, Option.none⟩ (.int .i64 ((p : Int) + 1))).setCell ⟨C, 2, Option.none⟩ (.int .u64 e)).cell? ⟨C, 1, Option.none⟩ = some (.int .i64 ((p : Int) + 1)) := fun e => (hB3 e).cell 1
    have hT2 : ∀ e, ((w2.setCell ⟨C, 1, Option.none⟩ (.int .i64 ((p : Int) + 1))).setCell ⟨C, 2, Option.none⟩ (.int .u64 e)).cell? ⟨C, 2, Option.none⟩ = some (.int .u64 e) := fun e => (hB3 e).cell 2
    have hR3 : ∀ e, RdU ((w2.setCell ⟨C, 1, Option.none⟩ (.int .i64 ((p : Int) + 1))).setCell ⟨C, 2, Option.none⟩ (.int .u64 e)) C (.slice (some ⟨b, off, Option.none⟩) zs.length c) zs := fun e => HR2.out.below (((Below.refl C w2).setCell (p := ⟨C, 1, Option.none⟩) (Nat.le_refl _) _).setCell (p := ⟨C, 2, Option.none⟩) (Nat.le_refl _) _) (Nat.le_refl _)
    have hK3 : ∀ e, KeepG C (C + 1) w ((w2.setCell ⟨C, 1, Option.none⟩ (.int .i64 ((p : Int) + 1))).setCell ⟨C, 2, Option.none⟩ (.int .u64 e)) := fun e => (HK2.out.set_ (Nat.le_refl _) (Nat.lt_succ_self _) _).set_ (Nat.le_refl _) (Nat.lt_succ_self _) _
    have HB3 := Lib.hid hB3
    have HR3 := Lib.hid hR3
    have HK3 := Lib.hid hK3
    clear hB3 hR3 hK3
    go_wp2_with fail
    go_quiet (fail)
    go_wp2_with fail
    go_ret
    exact ⟨_, rfl, hz0, hz1, ⟨_, zs, p + 1, _, HB3.out _, HR3.out _, by omega⟩, (HK3.out _).trans (KeepG.drawN _ _)⟩
  · have HB := Lib.hid hb
    have HR := Lib.hid hr
    clear hb hr
    go_enter Try.func212, Try.ntmps212
    go_wp2_with fail
    go_quiet (fail)
    go_wp2_with fail
    clear h0 h1 h2 hf
    have HB2 : Hid (Blk (w.drewN nq) C 110 [(.slice A zs.length c), .int .i64 (p : Int), .int .u64 s]) := HB.out
    have h02 : (w.drewN nq).cell? ⟨C, 0, Option.none⟩ = some (.slice A zs.length c) := HB2.out.cell 0
    have h12 : (w.drewN nq).cell? ⟨C, 1, Option.none⟩ = some (.int .i64 (p : Int)) := HB2.out.cell 1
    have h22 : (w.drewN nq).cell? ⟨C, 2, Option.none⟩ = some (.int .u64 s) := HB2.out.cell 2
    have hf2 : ∀ i, (w.drewN nq).frozen? ⟨C, i, Option.none⟩ = false := fun i => HB2.out.frozen i
    have HR2 : Hid (RdU (w.drewN nq) C (.slice A zs.length c) zs) := HR.out
    have HK2 : Hid (KeepG C (C + 1) w (w.drewN nq)) := KeepG.drawN _ _
    generalize (w.drewN nq) = w2 at HB2 h02 h12 h22 hf2 HR2 HK2 ⊢
    have hp1 : (0 : Int) ≤ (p : Int) + 1 := by omega
    have hS1 : ∀ x, (w2.setCell ⟨C, 1, Option.none⟩ x).cell? ⟨C, 2, Option.none⟩ = some (.int .u64 s) := fun x => (HB2.out.set_ 1 x).cell 2
    have hS2 : ∀ x, (w2.setCell ⟨C, 1, Option.none⟩ x).frozen? ⟨C, 2, Option.none⟩ = false := fun x => (HB2.out.set_ 1 x).frozen 2
    have hB3 : ∀ e, Blk ((w2.setCell ⟨C, 1, Option.none⟩ (.int .i64 ((p : Int) + 1))).setCell ⟨C, 2, Option.none⟩ (.int .u64 e)) C 110 [(.slice A zs.length c), .int .i64 ((p : Int) + 1), .int .u64 e] := fun e => (HB2.out.set_ 1 _).set_ 2 _
    have hT0 : ∀ e, ((w2.setCell ⟨C, 1, Option.none⟩ (.int .i64 ((p : Int) + 1))).setCell ⟨C, 2, Option.none⟩ (.int .u64 e)).cell? ⟨C, 0, Option.none⟩ = some (.slice A zs.length c) := fun e => (hB3 e).cell 0
    have hT1 : ∀ e, ((w2.setCell ⟨C, 1, Option.none⟩ (.int .i64 ((p : Int) + 1))).setCell ⟨C, 2, Option.none⟩ (.int .u64 e)).cell? ⟨C, 1, Option.none⟩ = some (.int .i64 ((p : Int) + 1)) := fun e => (hB3 e).cell 1
    have hT2 : ∀ e, ((w2.setCell ⟨C, 1, Option.none⟩ (.int .i64 ((p : Int) + 1))).setCell ⟨C, 2, Option.none⟩ (.int .u64 e)).cell? ⟨C, 2, Option.none⟩ = some (.int .u64 e) := fun e => (hB3 e).cell 2
    have hR3 : ∀ e, RdU ((w2.setCell ⟨C, 1, Option.none⟩ (.int .i64 ((p : Int) + 1))).setCell ⟨C, 2, Option.none⟩ (.int .u64 e)) C (.slice A zs.length c) zs := fun e => HR2.out.below (((Below.refl C w2).setCell (p := ⟨C, 1, Option.none⟩) (Nat.le_refl _) _).setCell (p := ⟨C, 2, Option.none⟩) (Nat.le_refl _) _) (Nat.le_refl _)
    have hK3 : ∀ e, KeepG C (C + 1) w ((w2.setCell ⟨C, 1, Option.none⟩ (.int .i64 ((p : Int) + 1))).setCell ⟨C, 2, Option.none⟩ (.int .u64 e)) := fun e => (HK2.out.set_ (Nat.le_refl _) (Nat.lt_succ_self _) _).set_ (Nat.le_refl _) (Nat.lt_succ_self _) _
    have HB3 := Lib.hid hB3
    have HR3 := Lib.hid hR3
    have HK3 := Lib.hid hK3
    clear hB3 hR3 hK3
    go_wp2_with fail
    go_quiet (fail)
    go_wp2_with fail
    go_ret
    exact ⟨_, rfl, (mask255 _).1, (mask255 _).2, ⟨_, zs, p + 1, _, HB3.out _, HR3.out _, by omega⟩, (HK3.out _).trans (KeepG.drawN _ _)⟩
theorem Cur.mono {w : World} {C m m' : Nat} (h : Cur w C m) (hm : m ≤ m') : Cur w C m' := by
  obtain ⟨v, zs, p, s, h1, h2, h3⟩ := h
  exact ⟨v, zs, p, s, h1, h2, by omega⟩
theorem Cur.lt {w : World} {C m : Nat} (h : Cur w C m) : C < w.heap.size := by
  obtain ⟨v, zs, p, s, h1, _, _⟩ := h
  exact h1.lt
theorem Cur.alloc {w : World} {C m : Nat} (h : Cur w C m) (o : Obj) : Cur (w.alloc o) C m := by
  obtain ⟨v, zs, p, s, h1, h2, h3⟩ := h
  exact ⟨v, zs, p, s, h1.alloc o, h2.below ((Below.refl _ _).alloc (by have := h1.lt; omega) _) (Nat.le_refl _), h3⟩
/-- What a call that draws leaves: a number in a range, the cursor a little further, all other blocks as they were. -/
def Drawn (C m : Nat) (w : World) (p : Int → Prop) (e : Ending) (w' : World) : Prop := ∃ z : Int, e = .returned (.int .i64 z) ∧ p z ∧ Cur w' C m ∧ KeepG C (C + 1) w w'
set_option maxHeartbeats 800000 in
theorem pick_any (n : Int) (C m : Nat) (w : World) (h : Cur w C m) (hm : m ≤ 1099511627000) (h1 : 1 ≤ n) (h2 : n ≤ 1048576) :
    Calls Try.prog 130 #[.pointer (some ⟨C, 0, Option.none⟩), .int .i64 n] w (Drawn C (m + 2) w (fun z => 0 ≤ z ∧ z < n)) := by
  by_cases hn : n ≤ 1
  · have H := Lib.hid h
    clear h
    go_enter Try.func130, Try.ntmps130
    go_wp2_with fail
    go_ret
    exact ⟨0, rfl, ⟨Int.le_refl _, by omega⟩, H.out.mono (by omega), KeepG.refl _ _ _⟩
  · have cN := next_any C m w h (by omega)
    have CN := Lib.hid cN
    clear cN h
    by_cases hb : 200 < n
    · go_enter Try.func130, Try.ntmps130
      go_wp2_with fail
      refine CN.out.mono ?_
      rintro e w1 ⟨z, rfl, hz0, hz1, hc1, hk1⟩
      have cM := next_any C (m + 1) w1 hc1 (by omega)
      have CM := Lib.hid cM
      have HK1 := Lib.hid hk1
      clear cM hc1 hk1
      go_wp2_with fail
      refine CM.out.mono ?_
      rintro e w2 ⟨y, rfl, hy0, hy1, hc2, hk2⟩
      have HC2 := Lib.hid hc2
      have HK2 := Lib.hid hk2
      clear hc2 hk2
      have hq0 : 0 ≤ (z * 256 + y) % n := Int.emod_nonneg _ (by omega)
      have hq1 : (z * 256 + y) % n < n := Int.emod_lt_of_pos _ (by omega)
      have hnn : n ≠ 0 := by omega
      go_wp2_with fail
      go_ret
      refine ⟨(z * 256 + y) % n, ?_, ⟨hq0, hq1⟩, HC2.out, HK1.out.trans HK2.out⟩
      simp
      try rw [Int.tmod_eq_emod_of_nonneg (by omega)]
    · go_enter Try.func130, Try.ntmps130
      go_wp2_with fail
      refine CN.out.mono ?_
      rintro e w1 ⟨z, rfl, hz0, hz1, hc1, hk1⟩
      have HC1 := Lib.hid hc1
      have HK1 := Lib.hid hk1
      clear hc1 hk1
      have hq0 : 0 ≤ z % n := Int.emod_nonneg _ (by omega)
      have hq1 : z % n < n := Int.emod_lt_of_pos _ (by omega)
      have hnn : n ≠ 0 := by omega
      go_wp2_with fail
      go_ret
      refine ⟨z % n, ?_, ⟨hq0, hq1⟩, HC1.out.mono (by omega), HK1.out⟩
      simp
      try rw [Int.tmod_eq_emod_of_nonneg (by omega)]
theorem one_any (n : Int) (C m : Nat) (w : World) (h : Cur w C m) (hm : m ≤ 1099511627000) (h1 : 1 ≤ n) (h2 : n ≤ 1048576) :
    Calls Try.prog 131 #[.pointer (some ⟨C, 0, Option.none⟩), .int .i64 n] w fun e w' => ∃ b : Bool, e = .returned (.bool b) ∧ Cur w' C (m + 2) ∧ KeepG C (C + 1) w w' := by
  have cN := pick_any n C m w h hm h1 h2
  have CN := Lib.hid cN
  clear cN h
  go_enter Try.func131, Try.ntmps131
  go_wp2_with fail
  refine CN.out.mono ?_
  rintro e w1 ⟨z, rfl, hz, hc1, hk1⟩
  have HC1 := Lib.hid hc1
  have HK1 := Lib.hid hk1
  clear hc1 hk1
  go_wp2_with fail
  go_ret
  exact ⟨_, rfl, HC1.out, HK1.out⟩
/-- The slice value v is not empty, lies outside block C, and reads as xs. -/
def Lst (w : World) (C : Nat) (v : Value) (xs : List Int) : Prop := 1 ≤ xs.length ∧ xs.length ≤ 1048576 ∧ ∃ b off c, v = .slice (some ⟨b, off, Option.none⟩) xs.length c ∧ b ≠ C ∧ b < w.heap.size ∧ ∀ j x, xs[j]? = some x → w.cell? ⟨b, off + j, Option.none⟩ = some (.int .i64 x)
theorem KeepG.cell {lo hi : Nat} {w w' : World} (h : KeepG lo hi w w') {b o : Nat} (hb : b < w.heap.size) (hne : b < lo ∨ hi ≤ b) : w'.cell? ⟨b, o, Option.none⟩ = w.cell? ⟨b, o, Option.none⟩ := by
  unfold World.cell?
  rw [h.block b hb hne]
theorem lst_new (w : World) (C : Nat) (xs : List Int) (hC : C < w.heap.size) (h1 : 1 ≤ xs.length) (h2 : xs.length ≤ 1048576) : Lst (w.alloc (.cells (ints xs).toArray 3)) C (.slice (some ⟨w.heap.size, 0, Option.none⟩) xs.length xs.length) xs := by
  refine ⟨h1, h2, w.heap.size, 0, _, rfl, by omega, by simp, fun j x hj => ?_⟩
  rw [show (0 : Nat) + j = j by omega, (Blk.new w 3 (ints xs).toArray).cell j]
  simp [ints, hj]
theorem among_any (xs : List Int) (v : Value) (C m : Nat) (w : World) (h : Cur w C m) (hm : m ≤ 1099511627000) (hl : Lst w C v xs) :
    Calls Try.prog 187 #[.pointer (some ⟨C, 0, Option.none⟩), v] w (Drawn C (m + 2) w (fun z => z ∈ xs)) := by
  obtain ⟨l1, l2, b, off, c, rfl, hbC, hbw, hcell⟩ := hl
  have cN := pick_any (xs.length : Int) C m w h hm (by omega) (by omega)
  have CN := Lib.hid cN
  have HCE := Lib.hid hcell
  clear cN h hcell
  go_enter Try.func187, Try.ntmps187
  go_wp2_with fail
  refine CN.out.mono ?_
  rintro e w1 ⟨z, rfl, ⟨hz0, hz1⟩, hc1, hk1⟩
  obtain ⟨k, rfl⟩ : ∃ k : Nat, z = (k : Int) := ⟨z.toNat, by omega⟩
  have hx : xs[k]? = some xs[k] := by simp [show k < xs.length by omega]
  have hc := (hk1.cell (o := off + k) hbw (by omega)).trans (HCE.out k _ hx)
  have HX := Lib.hid (List.mem_of_getElem? hx)
  have HC1 := Lib.hid hc1
  have HK1 := Lib.hid hk1
  clear hc1 hk1 hx
  go_wp2_with fail
  go_ret
  exact ⟨_, rfl, HX.out, HC1.out, HK1.out⟩
end Go.Proofs.Ytabiobjcfopakaa
