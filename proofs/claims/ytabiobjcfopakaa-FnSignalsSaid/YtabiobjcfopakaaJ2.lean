/- Contracts: drawn signals, drawn texts of signals. -/
import Derived.Test.YtabiobjcfopakaaJ1
namespace Go.Proofs.Ytabiobjcfopakaa
open Go.RowKit
theorem keepG_box {w w' : World} {o : Obj} (h : KeepG w.heap.size (w.heap.size + 1) (w.alloc o) w') : Below w.heap.size w w' := by
  have h0 : Below w.heap.size w (w.alloc o) := (Below.refl _ _).alloc (Nat.le_refl _) _
  refine ⟨h.os.trans h0.os, h.tape.trans h0.tape, h.output.trans h0.output, Nat.le_trans h0.size h.size, fun k hk => ?_⟩
  rw [h.block k (by have := h0.size; omega) (.inl hk)]
  exact h0.block k hk
theorem cur_new {w : World} {hi : Nat} {v : Value} {zs : List UInt8} (h : RdU w hi v zs) (hh : hi ≤ w.heap.size) : Cur (w.alloc (.cells #[v, .int .i64 0, .int .u64 0] 110)) w.heap.size 0 :=
  ⟨v, zs, 0, 0, Blk.new _ _ _, (Rd.mono h hh).below ((Below.refl _ _).alloc (Nat.le_refl _) _) (Nat.le_refl _), Nat.le_refl _⟩
set_option maxHeartbeats 800000 in
theorem signal_any (C m : Nat) (w : World) (h : Cur w C m) (hm : m ≤ 1099511600000) :
    Calls Try.prog 127 #[.pointer (some ⟨C, 0, Option.none⟩)] w (Drawn C (m + 10) w (fun _ => True)) := by
  have c1 := Lib.hid (pick_any 64 C m w h (by omega) (by omega) (by omega))
  clear h
  go_enter Try.func127, Try.ntmps127
  go_wp2_with fail
  refine c1.out.mono ?_
  rintro e w1 ⟨z1, rfl, _, hc1, hk1⟩
  have c2 := Lib.hid (pick_any 64 C (m + 2) w1 hc1 (by omega) (by omega) (by omega))
  have HK1 := Lib.hid hk1
  clear hc1 hk1
  go_wp2_with fail
  refine c2.out.mono ?_
  rintro e w2 ⟨z2, rfl, _, hc2, hk2⟩
  have c3 := Lib.hid (pick_any 64 C (m + 4) w2 hc2 (by omega) (by omega) (by omega))
  have HK2 := Lib.hid (HK1.out.trans hk2)
  clear hc2 hk2
  go_wp2_with fail
  refine c3.out.mono ?_
  rintro e w3 ⟨z3, rfl, _, hc3, hk3⟩
  have hl4 : Lst (w3.alloc (.cells #[.int .i64 (-1), .int .i64 64] 3)) C (.slice (some ⟨w3.heap.size, 0, Option.none⟩) 2 2) [-1, 64] := lst_new w3 C [-1, 64] hc3.lt (by decide) (by decide)
  have c4 := Lib.hid (among_any [-1, 64] _ C (m + 6) _ (hc3.alloc _) (by omega) hl4)
  have HK3 := Lib.hid ((HK2.out.trans hk3).trans (below_g ((Below.refl _ w3).alloc (Nat.le_refl _) (.cells #[.int .i64 (-1), .int .i64 64] 3))))
  clear hc3 hk3 hl4
  go_wp2_with fail
  refine c4.out.mono ?_
  rintro e w4 ⟨z4, rfl, _, hc4, hk4⟩
  have hl5 : Lst (w4.alloc (.cells #[.int .i64 0, .int .i64 5, .int .i64 12, .int .i64 60, .int .i64 61, .int .i64 62, .int .i64 63, .int .i64 z1, .int .i64 z2, .int .i64 z3, .int .i64 z4] 3)) C (.slice (some ⟨w4.heap.size, 0, Option.none⟩) 11 11) [0, 5, 12, 60, 61, 62, 63, z1, z2, z3, z4] := lst_new w4 C [0, 5, 12, 60, 61, 62, 63, z1, z2, z3, z4] hc4.lt (by simp) (by simp)
  have c5 := Lib.hid (among_any _ _ C (m + 8) _ (hc4.alloc _) (by omega) hl5)
  have HK4 := Lib.hid ((HK3.out.trans hk4).trans (below_g ((Below.refl _ w4).alloc (Nat.le_refl _) (.cells #[.int .i64 0, .int .i64 5, .int .i64 12, .int .i64 60, .int .i64 61, .int .i64 62, .int .i64 63, .int .i64 z1, .int .i64 z2, .int .i64 z3, .int .i64 z4] 3))))
  clear hc4 hk4 hl5
  go_wp2_with fail
  refine c5.out.mono ?_
  rintro e w5 ⟨z5, rfl, _, hc5, hk5⟩
  have HC5 := Lib.hid hc5
  have HK5 := Lib.hid (HK4.out.trans hk5)
  clear hc5 hk5
  go_wp2_with fail
  go_ret
  exact ⟨z5, rfl, trivial, HC5.out, HK5.out⟩
/-- A drawn number. -/
def DrewI (w : World) (e : Ending) (w' : World) : Prop := ∃ z : Int, e = .returned (.int .i64 z) ∧ Below w.heap.size w w'
theorem DrawIsContent_any (zs : List UInt8) (v : Value) (hi : Nat) (w : World) (h : RdU w hi v zs) (hh : hi ≤ w.heap.size) :
    Calls Try.prog 118 #[v] w (DrewI w) := by
  obtain ⟨A, c, rfl, hc, hm⟩ := Rd.form h
  have cS := signal_any w.heap.size 0 _ (cur_new h hh) (by omega)
  have CS := Lib.hid cS
  clear cS h
  go_enter Try.func118, Try.ntmps118
  go_wp2_with fail
  refine CS.out.mono ?_
  rintro e w1 ⟨z, rfl, _, _, hk⟩
  have HK := Lib.hid hk
  clear hk
  go_wp2_with fail
  go_ret
  exact ⟨z, rfl, keepG_box HK.out⟩
theorem DrawSignalText_any (zs : List UInt8) (v : Value) (hi : Nat) (w : World) (h : RdU w hi v zs) (hh : hi ≤ w.heap.size) :
    Calls Try.prog 16 #[v] w (DrewI w) := by
  have cS := DrawIsContent_any zs v hi w h hh
  obtain ⟨A, c, rfl, hc, hm⟩ := Rd.form h
  have CS := Lib.hid cS
  clear cS h
  go_enter Try.func16, Try.ntmps16
  go_wp2_with fail
  refine CS.out.mono ?_
  rintro e w1 ⟨z, rfl, hb⟩
  have HB := Lib.hid hb
  clear hb
  go_wp2_with fail
  go_ret
  exact ⟨z, rfl, HB.out⟩
theorem DrawSignalDistance_any (zs : List UInt8) (v : Value) (hi : Nat) (w : World) (h : RdU w hi v zs) (hh : hi ≤ w.heap.size) :
    Calls Try.prog 29 #[v] w fun e w' => ∃ y z : Int, e = .returned (.tuple #[.int .i64 y, .int .i64 z]) ∧ Below w.heap.size w w' := by
  obtain ⟨A, c, rfl, hc, hm⟩ := Rd.form h
  have cS := signal_any w.heap.size 0 _ (cur_new h hh) (by omega)
  have CS := Lib.hid cS
  clear cS h
  go_enter Try.func29, Try.ntmps29
  go_wp2_with fail
  refine CS.out.mono ?_
  rintro e w1 ⟨y, rfl, _, hc1, hk1⟩
  have cT := signal_any w.heap.size 10 w1 hc1 (by omega)
  have CT := Lib.hid cT
  have HK1 := Lib.hid hk1
  clear cT hc1 hk1
  go_wp2_with fail
  refine CT.out.mono ?_
  rintro e w2 ⟨z, rfl, _, _, hk2⟩
  have HK2 := Lib.hid (HK1.out.trans hk2)
  clear hk2
  go_wp2_with fail
  go_ret2
  exact ⟨y, z, ret_val rfl, keepG_box HK2.out⟩
end Go.Proofs.Ytabiobjcfopakaa
