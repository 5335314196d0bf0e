/- Texts of one claim, joined: T1, T2. -/
import Derived.Test.YtabiobjcfopakaaC8LeastCodes
/- Contracts: drawn lists of numbers: weights, lengths; numbers of digits. -/
namespace Go.Proofs.Ytabiobjcfopakaa
open Go.RowKit
theorem KeepG.fresh {C D : Nat} {w0 w w' : World} (h : KeepG C D w0 w) (hb : Below w0.heap.size w w') : KeepG C D w0 w' :=
  ⟨hb.os.trans h.os, hb.tape.trans h.tape, hb.output.trans h.output, Nat.le_trans h.size hb.size, fun k hk hn => (hb.block k hk).trans (h.block k hk hn)⟩
theorem KeepG.alloc {C D : Nat} {w0 w : World} (h : KeepG C D w0 w) (o : Obj) : KeepG C D w0 (w.alloc o) := h.trans (below_g ((Below.refl _ w).alloc (Nat.le_refl _) o))
theorem Cur.fresh {w w' : World} {C m B : Nat} (h : Cur w C m) (hb : Below B w w') (hC : C < B) : Cur w' C m := by
  obtain ⟨v, zs, p, s, h1, h2, h3⟩ := h
  exact ⟨v, zs, p, s, h1.below hb hC, Rd.below h2 hb (by omega), h3⟩
theorem owns_keepG {w w' : World} {lo C size n : Nat} {e : TypeId} {v : Value} {xs : List Value} (h : w.ownsRow lo e size v n xs) (hk : KeepG C (C + 1) w w') (hC : C < lo) : w'.ownsRow lo e size v n xs := by
  refine ⟨h.1, ?_⟩
  rcases h.2 with hn | ⟨g, cap, cur, rfl, hl, hg, rest⟩
  · exact .inl hn
  · exact .inr ⟨g, cap, cur, rfl, hl, (hk.block g (Array.getElem?_eq_some_iff.1 hg).1 (by omega)).trans hg, rest⟩
/-- A row of numbers drawn since the world w0; the cursor at C. -/
def DrL (w0 : World) (C m : Nat) (wr : World) (v : Value) (xs : List Int) : Prop := wr.ownsRow w0.heap.size 3 1 v xs.length (ints xs) ∧ Cur wr C m ∧ KeepG C (C + 1) w0 wr
theorem DrL.start {w : World} {C m : Nat} (h : Cur w C m) : DrL w C m w (.slice Option.none 0 0) [] := ⟨World.ownsRow_nil _ _ _ _, h, KeepG.refl _ _ _⟩
theorem DrL.step {w0 wr w' : World} {C m m' : Nat} {v : Value} {xs : List Int} (h : DrL w0 C m wr v xs) (hC : C < w0.heap.size) (hc : Cur w' C m') (hk : KeepG C (C + 1) wr w') : DrL w0 C m' w' v xs :=
  ⟨owns_keepG h.1 hk hC, hc, h.2.2.trans hk⟩
theorem DrL.alloc {w0 wr : World} {C m : Nat} {v : Value} {xs : List Int} (h : DrL w0 C m wr v xs) (o : Obj) : DrL w0 C m (wr.alloc o) v xs :=
  ⟨h.1.alloc o, h.2.1.alloc o, h.2.2.trans (below_g ((Below.refl _ wr).alloc (Nat.le_refl _) o))⟩
theorem DrL.mono {w0 wr : World} {C m m' : Nat} {v : Value} {xs : List Int} (h : DrL w0 C m wr v xs) (hm : m ≤ m') : DrL w0 C m' wr v xs := ⟨h.1, h.2.1.mono hm, h.2.2⟩
theorem DrL.le {w0 wr : World} {C m : Nat} {v : Value} {xs : List Int} (h : DrL w0 C m wr v xs) : w0.heap.size ≤ wr.heap.size := h.2.2.size
theorem DrL.own {w0 wr : World} {C m : Nat} {v : Value} {xs : List Int} (h : DrL w0 C m wr v xs) : OwI wr w0.heap.size wr.heap.size v xs := ⟨h.1, fun k hk => (h.1.lt k hk).2⟩
theorem DrL.rd {w0 wr : World} {C m : Nat} {v : Value} {xs : List Int} (h : DrL w0 C m wr v xs) : RdI wr wr.heap.size v xs := h.own.rd
theorem DrL.form {w0 wr : World} {C m : Nat} {v : Value} {xs : List Int} (h : DrL w0 C m wr v xs) : ∃ A c, v = .slice A xs.length c := by
  obtain ⟨A, c, hv, _⟩ := Rd.form h.rd
  exact ⟨A, c, hv⟩
theorem DrL.grow {w0 wr w' : World} {C m : Nat} {v v' : Value} {xs ys : List Int} (h : DrL w0 C m wr v xs) (hC : C < w0.heap.size) (hG : GrowI wr w0.heap.size w' v' ys) : DrL w0 C m w' v' ys :=
  ⟨hG.1, h.2.1.fresh hG.2.1 hC, h.2.2.fresh hG.2.1⟩
theorem DrL.gr {w0 wr : World} {C m : Nat} {v : Value} {xs : List Int} (h : DrL w0 C m wr v xs) : GrowI wr w0.heap.size wr v xs := ⟨h.1, Below.refl _ _, h.le⟩
theorem DrL.pos {w0 wr : World} {C m : Nat} {v : Value} {xs : List Int} (h : DrL w0 C m wr v xs) (hp : 0 < xs.length) : ∃ g c, v = .slice (some ⟨g, 0, Option.none⟩) xs.length c ∧ w0.heap.size ≤ g := by
  rcases h.1.2 with ⟨_, e⟩ | ⟨g, cap, cur, hv, hl, _⟩
  · omega
  · exact ⟨g, cap, hv, hl⟩
theorem DrL.cell {w0 wr : World} {C m g c : Nat} {xs : List Int} (h : DrL w0 C m wr (.slice (some ⟨g, 0, Option.none⟩) xs.length c) xs) {j : Nat} (hj : j < xs.length) : wr.cell? ⟨g, j, Option.none⟩ = some (.int .i64 xs[j]) ∧ wr.frozen? ⟨g, j, Option.none⟩ = false := by
  refine ⟨?_, h.1.frozenAt j⟩
  rw [h.1.cellAt j (by omega)]
  simp [ints, hj]
theorem DrL.put {w0 wr : World} {C m g c : Nat} {xs : List Int} (h : DrL w0 C m wr (.slice (some ⟨g, 0, Option.none⟩) xs.length c) xs) (hC : C < w0.heap.size) (hg : w0.heap.size ≤ g) (j : Nat) (y : Int) :
    DrL w0 C m (wr.setCell ⟨g, j, Option.none⟩ (.int .i64 y)) (.slice (some ⟨g, 0, Option.none⟩) xs.length c) (xs.set j y) := by
  have h1 := (h.1.stored j (.int .i64 y)).1
  have hb : Below w0.heap.size wr (wr.setCell ⟨g, j, Option.none⟩ (.int .i64 y)) := (Below.refl _ _).setCell hg _
  refine ⟨?_, h.2.1.fresh hb hC, h.2.2.fresh hb⟩
  have h2 : ints (xs.set j y) = (ints xs).set j (.int .i64 y) := by unfold ints; rw [List.map_set]
  rw [h2, List.length_set]
  exact h1
/-- What a call that draws a list leaves. -/
def DrewL (C m N : Nat) (w : World) (e : Ending) (w' : World) : Prop := ∃ v xs, e = .returned v ∧ xs.length ≤ N ∧ DrL w C m w' v xs
theorem drL_box {w w' : World} {o : Obj} {C m : Nat} {v : Value} {xs : List Int} (hC : C = w.heap.size) (h : DrL (w.alloc o) C m w' v xs) : RdI w' w'.heap.size v xs ∧ Below w.heap.size w w' := by
  subst hC
  exact ⟨h.rd, keepG_box h.2.2⟩
/-- A literal row reads on. -/
theorem lit_rd {X w' : World} {C g n : Nat} {zs : List Int} {arr : Array Value} {k : Nat} (hk : KeepG C (C + 1) (X.alloc (.cells arr 3)) w') (hC : C < X.heap.size) (ha : arr.toList = ints zs) (hg : g = X.heap.size) (hn : n = zs.length) (hz : k ≤ zs.length) (hz2 : zs.length ≤ 1000) : RdI w' w'.heap.size (.slice (some ⟨g, 0, Option.none⟩) k n) (zs.take k) := by
  subst hg hn
  have hb : Blk w' X.heap.size 3 (ints zs) := by
    have h0 := Blk.new X 3 arr
    rw [ha] at h0
    exact (hk.block X.heap.size (by simp) (by omega)).trans h0
  have hl : (zs.take k).length = k := by rw [List.length_take]; omega
  have hs := hk.size
  refine ⟨by simp, some ⟨X.heap.size, 0, Option.none⟩, zs.length, by rw [hl], by rw [hl]; omega, by unfold maxLen; omega, fun _ => ⟨X.heap.size, 0, rfl, by simp at hs; omega, fun j u hj => ?_⟩⟩
  rw [show (0 : Nat) + j = j by omega, hb.cell j]
  unfold ints at hj ⊢
  rw [List.map_take, List.getElem?_take] at hj
  split at hj
  · exact hj
  · cases hj
theorem lit_rdD {X w' : World} {C g n : Nat} {zs : List Int} {arr : Array Value} {k : Nat} (hk : KeepG C (C + 1) (X.alloc (.cells arr 3)).drew w') (hC : C < X.heap.size) (ha : arr.toList = ints zs) (hg : g = X.heap.size) (hn : n = zs.length) (hz : k ≤ zs.length) (hz2 : zs.length ≤ 1000) : RdI w' w'.heap.size (.slice (some ⟨g, 0, Option.none⟩) k n) (zs.take k) :=
  lit_rd ((KeepG.drawN _ 1).trans hk) hC ha hg hn hz hz2
set_option maxRecDepth 100000 in
set_option maxHeartbeats 8000000 in
theorem digitsOf_any (C m : Nat) (w : World) (h : Cur w C m) (hm : m ≤ 1099511600000) :
    Calls Try.prog 186 #[.pointer (some ⟨C, 0, Option.none⟩)] w (Drawn C (m + 4) w (fun _ => True)) := by
  have HC := Lib.hid h.lt
  have D0 := Lib.hid (DrL.start h)
  clear h
  go_enter Try.func186, Try.ntmps186
  have hl1 : Lst (w.alloc (.cells #[.int .i64 1, .int .i64 61] 3)) C (.slice (some ⟨w.heap.size, 0, Option.none⟩) 2 2) [1, 61] := lst_new w C [1, 61] D0.out.2.1.lt (by simp) (by simp)
  have c1 := Lib.hid (among_any _ _ C _ _ (D0.out.2.1.alloc _) (by omega) hl1)
  clear hl1
  go_wp2_with fail
  refine c1.out.mono ?_
  rintro e w1 ⟨z1, rfl, hm1, hc1, hk1⟩
  have D1 := Lib.hid ((D0.out.alloc _).step HC.out hc1 hk1)
  have HM1 := Lib.hid hm1
  clear hc1 hk1 hm1 D0
  have hl2 : Lst (w1.alloc (.cells #[.int .i64 2, .int .i64 2, .int .i64 3, .int .i64 4, .int .i64 10, .int .i64 60, .int .i64 z1] 3)) C (.slice (some ⟨w1.heap.size, 0, Option.none⟩) 7 7) [2, 2, 3, 4, 10, 60, z1] := lst_new w1 C [2, 2, 3, 4, 10, 60, z1] D1.out.2.1.lt (by simp) (by simp)
  have c2 := Lib.hid (among_any _ _ C _ _ (D1.out.2.1.alloc _) (by omega) hl2)
  clear hl2
  go_wp2_with fail
  refine c2.out.mono ?_
  rintro e w2 ⟨z2, rfl, hm2, hc2, hk2⟩
  have D2 := Lib.hid ((D1.out.alloc _).step HC.out hc2 hk2)
  have HM2 := Lib.hid hm2
  clear hc2 hk2 hm2 D1
  go_wp2_with fail
  go_ret
  exact ⟨z2, rfl, trivial, D2.out.2.1, D2.out.2.2⟩
set_option maxRecDepth 100000 in
set_option maxHeartbeats 8000000 in
theorem weights_any (C m : Nat) (w : World) (h : Cur w C m) (hm : m ≤ 1099511600000) :
    Calls Try.prog 185 #[.pointer (some ⟨C, 0, Option.none⟩)] w (DrewL C (m + 200) 21 w) := by
  have HC := Lib.hid h.lt
  have D0 := Lib.hid (DrL.start h)
  clear h
  go_enter Try.func185, Try.ntmps185
  have c1 := Lib.hid (pick_any 9 C _ w D0.out.2.1 (by omega) (by omega) (by omega))
  go_wp2_with fail
  refine c1.out.mono ?_
  rintro e w1 ⟨z1, rfl, ⟨hz1, hy1⟩, hc1, hk1⟩
  have D1 := Lib.hid (D0.out.step HC.out hc1 hk1)
  clear hc1 hk1 D0
  have c2 := Lib.hid (one_any 16 C _ w1 D1.out.2.1 (by omega) (by omega) (by omega))
  go_wp2_with fail
  refine c2.out.mono ?_
  rintro e w2 ⟨z2, rfl, hc2, hk2⟩
  have D2 := Lib.hid (D1.out.step HC.out hc2 hk2)
  clear hc2 hk2 D1
  cases z2
  · obtain ⟨n0, hn0, hn1⟩ : ∃ n0 : Nat, 1 + z1 = (n0 : Int) ∧ n0 ≤ 21 := ⟨(1 + z1).toNat, by omega, by omega⟩

    have HD := Lib.hid (D2.out.mono (show _ ≤ m + 10 + 4 * 0 by omega))
    clear D2
    go_wp2_with fail
    go_loopw [3] (fun q wr => ∃ (A : Option Addr) (c : Nat) (xs : List Int), q = .slice A xs.length c ∧ xs.length ≤ n0 ∧ Hid (DrL w C (m + 10 + 4 * xs.length) wr (.slice A xs.length c) xs)) (fun q _ => n0 - lenV q)
    case atStart => exact ⟨Option.none, 0, [], rfl, Nat.zero_le _, HD.out⟩
    case round =>
      obtain ⟨A, c, xs, rfl, hxn, DR⟩ := hrel
      clear HD
      by_cases hlt : xs.length < n0
      · have c21 := Lib.hid (pick_any 900 C _ wr DR.out.2.1 (by omega) (by omega) (by omega))
        go_wp2_with fail
        refine c21.out.mono ?_
        rintro e w21 ⟨z21, rfl, ⟨hz21, hy21⟩, hc21, hk21⟩
        have D21 := Lib.hid (DR.out.step HC.out hc21 hk21)
        clear hc21 hk21 DR
        have hl22 : Lst (w21.alloc (.cells #[.int .i64 0, .int .i64 1, .int .i64 1, .int .i64 2, .int .i64 3, .int .i64 5, .int .i64 8, .int .i64 100, .int .i64 z21] 3)) C (.slice (some ⟨w21.heap.size, 0, Option.none⟩) 9 9) [0, 1, 1, 2, 3, 5, 8, 100, z21] := lst_new w21 C [0, 1, 1, 2, 3, 5, 8, 100, z21] D21.out.2.1.lt (by simp) (by simp)
        have c22 := Lib.hid (among_any _ _ C _ _ (D21.out.2.1.alloc _) (by omega) hl22)
        clear hl22
        go_wp2_with fail
        refine c22.out.mono ?_
        rintro e w22 ⟨z22, rfl, hm22, hc22, hk22⟩
        have D22 := Lib.hid ((D21.out.alloc _).step HC.out hc22 hk22)
        have HM22 := Lib.hid hm22
        clear hc22 hk22 hm22 D21
        go_wp2_with (at_builtin; refine GrowI.app rfl (.tmp 17) (.tmp 23) rfl D22.out.gr (by omega) rfl rfl ?_; intro v' w' hG')
        have hG2 := D22.out.grow HC.out hG'
        obtain ⟨A', c', rfl⟩ := hG2.form
        have HGG := Lib.hid hG2
        have hlen : (xs ++ [z22]).length = xs.length + 1 := by simp
        clear hG' hG2
        rw [hlen] at HGG ⊢
        go_wp2_with fail
        go_roundw
        case rel => exact ⟨A', c', xs ++ [z22], by rw [hlen], by rw [hlen]; omega, by rw [hlen]; exact HGG.out.mono (by omega)⟩
        case measure => (simp [lenV]; try omega)
      · obtain rfl : n0 = xs.length := by omega
        have DE := DR
        clear DR
        have hmx : m + 10 + 4 * xs.length ≤ 1099511626000 := by omega
        rcases Nat.eq_zero_or_pos xs.length with h0 | hpos
        · have hgz : decide (0 < xs.length) = false := decide_eq_false (by omega)
          go_wp2_with fail
          go_ret
          exact ⟨_, xs, rfl, by omega, DE.out.mono (by omega)⟩
        · have hgz : decide (0 < xs.length) = true := decide_eq_true hpos
          have c41 := Lib.hid (one_any 24 C _ wr DE.out.2.1 (by omega) (by omega) (by omega))
          go_wp2_with fail
          refine c41.out.mono ?_
          rintro e w41 ⟨z41, rfl, hc41, hk41⟩
          have D41 := Lib.hid (DE.out.step HC.out hc41 hk41)
          clear hc41 hk41 DE
          cases z41
          · go_wp2_with fail
            go_ret
            exact ⟨_, xs, rfl, by omega, D41.out.mono (by omega)⟩
          · have c61 := Lib.hid (pick_any (xs.length : Int) C _ w41 D41.out.2.1 (by omega) (by omega) (by omega))
            go_wp2_with fail
            refine c61.out.mono ?_
            rintro e w61 ⟨z61, rfl, ⟨hz61, hy61⟩, hc61, hk61⟩
            have D61 := Lib.hid (D41.out.step HC.out hc61 hk61)
            clear hc61 hk61 D41
            have hl62 : Lst (w61.alloc (.cells #[.int .i64 (-1), .int .i64 10000, .int .i64 10001] 3)) C (.slice (some ⟨w61.heap.size, 0, Option.none⟩) 3 3) [-1, 10000, 10001] := lst_new w61 C [-1, 10000, 10001] D61.out.2.1.lt (by simp) (by simp)
            have c62 := Lib.hid (among_any _ _ C _ _ (D61.out.2.1.alloc _) (by omega) hl62)
            clear hl62
            go_wp2_with fail
            refine c62.out.mono ?_
            rintro e w62 ⟨z62, rfl, hm62, hc62, hk62⟩
            have D62 := Lib.hid ((D61.out.alloc _).step HC.out hc62 hk62)
            have HM62 := Lib.hid hm62
            clear hc62 hk62 hm62 D61
            obtain ⟨j, rfl⟩ : ∃ k : Nat, z61 = (k : Int) := ⟨z61.toNat, by omega⟩
            have hjx : j < xs.length := by omega
            obtain ⟨g, c2, hv, hg⟩ := D62.out.pos hpos
            cases hv
            have hce := D62.out.cell hjx
            obtain ⟨ow, how⟩ : ∃ ow, ow = xs[j] := ⟨_, rfl⟩
            rw [← how] at hce
            have hc1 := hce.1
            have hc2 := hce.2
            have HP := Lib.hid (D62.out.put HC.out hg j z62)
            have HLS : Hid ((xs.set j z62).length = xs.length) := by show _ = _; rw [List.length_set]
            clear hce how
            go_wp2_with fail
            go_ret
            exact ⟨_, xs.set j z62, rfl, by rw [HLS.out]; omega, HP.out.mono (by omega)⟩
  · have hl3 : Lst (w2.alloc (.cells #[.int .i64 0, .int .i64 20, .int .i64 21] 3)) C (.slice (some ⟨w2.heap.size, 0, Option.none⟩) 3 3) [0, 20, 21] := lst_new w2 C [0, 20, 21] D2.out.2.1.lt (by simp) (by simp)
    have c3 := Lib.hid (among_any _ _ C _ _ (D2.out.2.1.alloc _) (by omega) hl3)
    clear hl3
    go_wp2_with fail
    refine c3.out.mono ?_
    rintro e w3 ⟨z3, rfl, hm3, hc3, hk3⟩
    have D3 := Lib.hid ((D2.out.alloc _).step HC.out hc3 hk3)
    have HM3 := Lib.hid hm3
    clear hc3 hk3 hm3 D2
    obtain ⟨n0, rfl, hn1⟩ : ∃ n0 : Nat, z3 = (n0 : Int) ∧ n0 ≤ 21 := by
      have h3 := HM3.out
      simp at h3
      exact ⟨z3.toNat, by omega, by omega⟩
    have HD := Lib.hid (D3.out.mono (show _ ≤ m + 10 + 4 * 0 by omega))
    clear D3
    go_wp2_with fail
    go_loopw [3] (fun q wr => ∃ (A : Option Addr) (c : Nat) (xs : List Int), q = .slice A xs.length c ∧ xs.length ≤ n0 ∧ Hid (DrL w C (m + 10 + 4 * xs.length) wr (.slice A xs.length c) xs)) (fun q _ => n0 - lenV q)
    case atStart => exact ⟨Option.none, 0, [], rfl, Nat.zero_le _, HD.out⟩
    case round =>
      obtain ⟨A, c, xs, rfl, hxn, DR⟩ := hrel
      clear HD
      by_cases hlt : xs.length < n0
      · have c21 := Lib.hid (pick_any 900 C _ wr DR.out.2.1 (by omega) (by omega) (by omega))
        go_wp2_with fail
        refine c21.out.mono ?_
        rintro e w21 ⟨z21, rfl, ⟨hz21, hy21⟩, hc21, hk21⟩
        have D21 := Lib.hid (DR.out.step HC.out hc21 hk21)
        clear hc21 hk21 DR
        have hl22 : Lst (w21.alloc (.cells #[.int .i64 0, .int .i64 1, .int .i64 1, .int .i64 2, .int .i64 3, .int .i64 5, .int .i64 8, .int .i64 100, .int .i64 z21] 3)) C (.slice (some ⟨w21.heap.size, 0, Option.none⟩) 9 9) [0, 1, 1, 2, 3, 5, 8, 100, z21] := lst_new w21 C [0, 1, 1, 2, 3, 5, 8, 100, z21] D21.out.2.1.lt (by simp) (by simp)
        have c22 := Lib.hid (among_any _ _ C _ _ (D21.out.2.1.alloc _) (by omega) hl22)
        clear hl22
        go_wp2_with fail
        refine c22.out.mono ?_
        rintro e w22 ⟨z22, rfl, hm22, hc22, hk22⟩
        have D22 := Lib.hid ((D21.out.alloc _).step HC.out hc22 hk22)
        have HM22 := Lib.hid hm22
        clear hc22 hk22 hm22 D21
        go_wp2_with (at_builtin; refine GrowI.app rfl (.tmp 17) (.tmp 23) rfl D22.out.gr (by omega) rfl rfl ?_; intro v' w' hG')
        have hG2 := D22.out.grow HC.out hG'
        obtain ⟨A', c', rfl⟩ := hG2.form
        have HGG := Lib.hid hG2
        have hlen : (xs ++ [z22]).length = xs.length + 1 := by simp
        clear hG' hG2
        rw [hlen] at HGG ⊢
        go_wp2_with fail
        go_roundw
        case rel => exact ⟨A', c', xs ++ [z22], by rw [hlen], by rw [hlen]; omega, by rw [hlen]; exact HGG.out.mono (by omega)⟩
        case measure => (simp [lenV]; try omega)
      · obtain rfl : n0 = xs.length := by omega
        have DE := DR
        clear DR
        have hmx : m + 10 + 4 * xs.length ≤ 1099511626000 := by omega
        rcases Nat.eq_zero_or_pos xs.length with h0 | hpos
        · have hgz : decide (0 < xs.length) = false := decide_eq_false (by omega)
          go_wp2_with fail
          go_ret
          exact ⟨_, xs, rfl, by omega, DE.out.mono (by omega)⟩
        · have hgz : decide (0 < xs.length) = true := decide_eq_true hpos
          have c41 := Lib.hid (one_any 24 C _ wr DE.out.2.1 (by omega) (by omega) (by omega))
          go_wp2_with fail
          refine c41.out.mono ?_
          rintro e w41 ⟨z41, rfl, hc41, hk41⟩
          have D41 := Lib.hid (DE.out.step HC.out hc41 hk41)
          clear hc41 hk41 DE
          cases z41
          · go_wp2_with fail
            go_ret
            exact ⟨_, xs, rfl, by omega, D41.out.mono (by omega)⟩
          · have c61 := Lib.hid (pick_any (xs.length : Int) C _ w41 D41.out.2.1 (by omega) (by omega) (by omega))
            go_wp2_with fail
            refine c61.out.mono ?_
            rintro e w61 ⟨z61, rfl, ⟨hz61, hy61⟩, hc61, hk61⟩
            have D61 := Lib.hid (D41.out.step HC.out hc61 hk61)
            clear hc61 hk61 D41
            have hl62 : Lst (w61.alloc (.cells #[.int .i64 (-1), .int .i64 10000, .int .i64 10001] 3)) C (.slice (some ⟨w61.heap.size, 0, Option.none⟩) 3 3) [-1, 10000, 10001] := lst_new w61 C [-1, 10000, 10001] D61.out.2.1.lt (by simp) (by simp)
            have c62 := Lib.hid (among_any _ _ C _ _ (D61.out.2.1.alloc _) (by omega) hl62)
            clear hl62
            go_wp2_with fail
            refine c62.out.mono ?_
            rintro e w62 ⟨z62, rfl, hm62, hc62, hk62⟩
            have D62 := Lib.hid ((D61.out.alloc _).step HC.out hc62 hk62)
            have HM62 := Lib.hid hm62
            clear hc62 hk62 hm62 D61
            obtain ⟨j, rfl⟩ : ∃ k : Nat, z61 = (k : Int) := ⟨z61.toNat, by omega⟩
            have hjx : j < xs.length := by omega
            obtain ⟨g, c2, hv, hg⟩ := D62.out.pos hpos
            cases hv
            have hce := D62.out.cell hjx
            obtain ⟨ow, how⟩ : ∃ ow, ow = xs[j] := ⟨_, rfl⟩
            rw [← how] at hce
            have hc1 := hce.1
            have hc2 := hce.2
            have HP := Lib.hid (D62.out.put HC.out hg j z62)
            have HLS : Hid ((xs.set j z62).length = xs.length) := by show _ = _; rw [List.length_set]
            clear hce how
            go_wp2_with fail
            go_ret
            exact ⟨_, xs.set j z62, rfl, by rw [HLS.out]; omega, HP.out.mono (by omega)⟩
theorem ask_lit : ∀ k : Nat, 1 ≤ k → k ≤ 5 → ∀ r : Nat, 2 ≤ r → r ≤ 3 → askB ([8, 4, 2, 1, 1].take k) (r : Int) 6 = true := by
  intro k h1 h2 r h3 h4
  have h : k = 1 ∨ k = 2 ∨ k = 3 ∨ k = 4 ∨ k = 5 := by omega
  have g : r = 2 ∨ r = 3 := by omega
  rcases h with rfl | rfl | rfl | rfl | rfl <;> rcases g with rfl | rfl <;> decide
theorem cmLengths6 (ls : List Int) (r : Nat) (v : Value) (hi : Nat) (w : World) (h : RdI w hi v ls) (hh : hi ≤ w.heap.size) (hask : askB ls (r : Int) 6 = true) :
    Calls Try.prog 164 #[v, .int .i64 (r : Int), .int .i64 6] w (RetOwT (leastL ls (r : Int) 6) (leastB ls (r : Int) 6) w) := cmLengths_any ls r 6 v hi w h hh hask
theorem drL_fresh {w0 wr w7 : World} {C m : Nat} {v : Value} {xs : List Int} (hc : Cur wr C m) (hk : KeepG C (C + 1) w0 wr) (ho : OwI w7 wr.heap.size w7.heap.size v xs) (hb : Below wr.heap.size wr w7) (hC : C < w0.heap.size) : DrL w0 C m w7 v xs :=
  ⟨(ho.mono hk.size (Nat.le_refl _)).1, hc.fresh hb (by have := hk.size; omega), hk.trans (below_g hb)⟩
set_option maxRecDepth 100000 in
set_option maxHeartbeats 8000000 in
theorem lengths_any (C m : Nat) (w : World) (h : Cur w C m) (hm : m ≤ 1099511600000) :
    Calls Try.prog 188 #[.pointer (some ⟨C, 0, Option.none⟩)] w (DrewL C (m + 200) 21 w) := by
  have HC := Lib.hid h.lt
  have D0 := Lib.hid (DrL.start h)
  clear h
  go_enter Try.func188, Try.ntmps188
  have c1 := Lib.hid (one_any 2 C _ w D0.out.2.1 (by omega) (by omega) (by omega))
  go_wp2_with fail
  refine c1.out.mono ?_
  rintro e w1 ⟨z1, rfl, hc1, hk1⟩
  have D1 := Lib.hid (D0.out.step HC.out hc1 hk1)
  clear hc1 hk1 D0
  cases z1
  · have c2 := Lib.hid (pick_any 7 C _ w1 D1.out.2.1 (by omega) (by omega) (by omega))
    go_wp2_with fail
    refine c2.out.mono ?_
    rintro e w2 ⟨z2, rfl, ⟨hz2, hy2⟩, hc2, hk2⟩
    have D2 := Lib.hid (D1.out.step HC.out hc2 hk2)
    clear hc2 hk2 D1
    have c3 := Lib.hid (one_any 16 C _ w2 D2.out.2.1 (by omega) (by omega) (by omega))
    go_wp2_with fail
    refine c3.out.mono ?_
    rintro e w3 ⟨z3, rfl, hc3, hk3⟩
    have D3 := Lib.hid (D2.out.step HC.out hc3 hk3)
    clear hc3 hk3 D2
    cases z3
    · obtain ⟨n0, hn0, hn1⟩ : ∃ n0 : Nat, 1 + z2 = (n0 : Int) ∧ n0 ≤ 21 := ⟨(1 + z2).toNat, by omega, by omega⟩

      have HD := Lib.hid (D3.out.mono (show _ ≤ m + 14 + 4 * 0 by omega))
      clear D3
      go_wp2_with fail
      go_loopw [5] (fun q wr => ∃ (A : Option Addr) (c : Nat) (xs : List Int), q = .slice A xs.length c ∧ xs.length ≤ n0 ∧ Hid (DrL w C (m + 14 + 4 * xs.length) wr (.slice A xs.length c) xs)) (fun q _ => n0 - lenV q)
      case atStart => exact ⟨Option.none, 0, [], rfl, Nat.zero_le _, HD.out⟩
      case round =>
        obtain ⟨A, c, xs, rfl, hxn, DR⟩ := hrel
        clear HD
        by_cases hlt : xs.length < n0
        · have hl21 : Lst (wr.alloc (.cells #[.int .i64 1, .int .i64 2, .int .i64 2, .int .i64 3, .int .i64 3, .int .i64 4, .int .i64 6] 3)) C (.slice (some ⟨wr.heap.size, 0, Option.none⟩) 7 7) [1, 2, 2, 3, 3, 4, 6] := lst_new wr C [1, 2, 2, 3, 3, 4, 6] DR.out.2.1.lt (by simp) (by simp)
          have c21 := Lib.hid (among_any _ _ C _ _ (DR.out.2.1.alloc _) (by omega) hl21)
          clear hl21
          go_wp2_with fail
          refine c21.out.mono ?_
          rintro e w21 ⟨z21, rfl, hm21, hc21, hk21⟩
          have D21 := Lib.hid ((DR.out.alloc _).step HC.out hc21 hk21)
          have HM21 := Lib.hid hm21
          clear hc21 hk21 hm21 DR
          go_wp2_with (at_builtin; refine GrowI.app rfl (.tmp 35) (.tmp 39) rfl D21.out.gr (by omega) rfl rfl ?_; intro v' w' hG')
          have hG2 := D21.out.grow HC.out hG'
          obtain ⟨A', c', rfl⟩ := hG2.form
          have HGG := Lib.hid hG2
          have hlen : (xs ++ [z21]).length = xs.length + 1 := by simp
          clear hG' hG2
          rw [hlen] at HGG ⊢
          go_wp2_with fail
          go_roundw
          case rel => exact ⟨A', c', xs ++ [z21], by rw [hlen], by rw [hlen]; omega, by rw [hlen]; exact HGG.out.mono (by omega)⟩
          case measure => (simp [lenV]; try omega)
        · obtain rfl : n0 = xs.length := by omega
          have DE := DR
          clear DR
          have hmx : m + 14 + 4 * xs.length ≤ 1099511626000 := by omega
          rcases Nat.eq_zero_or_pos xs.length with h0 | hpos
          · have hgz : decide (0 < xs.length) = false := decide_eq_false (by omega)
            go_wp2_with fail
            go_ret
            exact ⟨_, xs, rfl, by omega, DE.out.mono (by omega)⟩
          · have hgz : decide (0 < xs.length) = true := decide_eq_true hpos
            have c41 := Lib.hid (one_any 24 C _ wr DE.out.2.1 (by omega) (by omega) (by omega))
            go_wp2_with fail
            refine c41.out.mono ?_
            rintro e w41 ⟨z41, rfl, hc41, hk41⟩
            have D41 := Lib.hid (DE.out.step HC.out hc41 hk41)
            clear hc41 hk41 DE
            cases z41
            · go_wp2_with fail
              go_ret
              exact ⟨_, xs, rfl, by omega, D41.out.mono (by omega)⟩
            · have c61 := Lib.hid (pick_any (xs.length : Int) C _ w41 D41.out.2.1 (by omega) (by omega) (by omega))
              go_wp2_with fail
              refine c61.out.mono ?_
              rintro e w61 ⟨z61, rfl, ⟨hz61, hy61⟩, hc61, hk61⟩
              have D61 := Lib.hid (D41.out.step HC.out hc61 hk61)
              clear hc61 hk61 D41
              have hl62 : Lst (w61.alloc (.cells #[.int .i64 0, .int .i64 6, .int .i64 7] 3)) C (.slice (some ⟨w61.heap.size, 0, Option.none⟩) 3 3) [0, 6, 7] := lst_new w61 C [0, 6, 7] D61.out.2.1.lt (by simp) (by simp)
              have c62 := Lib.hid (among_any _ _ C _ _ (D61.out.2.1.alloc _) (by omega) hl62)
              clear hl62
              go_wp2_with fail
              refine c62.out.mono ?_
              rintro e w62 ⟨z62, rfl, hm62, hc62, hk62⟩
              have D62 := Lib.hid ((D61.out.alloc _).step HC.out hc62 hk62)
              have HM62 := Lib.hid hm62
              clear hc62 hk62 hm62 D61
              obtain ⟨j, rfl⟩ : ∃ k : Nat, z61 = (k : Int) := ⟨z61.toNat, by omega⟩
              have hjx : j < xs.length := by omega
              obtain ⟨g, c2, hv, hg⟩ := D62.out.pos hpos
              cases hv
              have hce := D62.out.cell hjx
              obtain ⟨ow, how⟩ : ∃ ow, ow = xs[j] := ⟨_, rfl⟩
              rw [← how] at hce
              have hc1 := hce.1
              have hc2 := hce.2
              have HP := Lib.hid (D62.out.put HC.out hg j z62)
              have HLS : Hid ((xs.set j z62).length = xs.length) := by show _ = _; rw [List.length_set]
              clear hce how
              go_wp2_with fail
              go_ret
              exact ⟨_, xs.set j z62, rfl, by rw [HLS.out]; omega, HP.out.mono (by omega)⟩
    · have hl4 : Lst (w3.alloc (.cells #[.int .i64 0, .int .i64 20, .int .i64 21] 3)) C (.slice (some ⟨w3.heap.size, 0, Option.none⟩) 3 3) [0, 20, 21] := lst_new w3 C [0, 20, 21] D3.out.2.1.lt (by simp) (by simp)
      have c4 := Lib.hid (among_any _ _ C _ _ (D3.out.2.1.alloc _) (by omega) hl4)
      clear hl4
      go_wp2_with fail
      refine c4.out.mono ?_
      rintro e w4 ⟨z4, rfl, hm4, hc4, hk4⟩
      have D4 := Lib.hid ((D3.out.alloc _).step HC.out hc4 hk4)
      have HM4 := Lib.hid hm4
      clear hc4 hk4 hm4 D3
      obtain ⟨n0, rfl, hn1⟩ : ∃ n0 : Nat, z4 = (n0 : Int) ∧ n0 ≤ 21 := by
        have h3 := HM4.out
        simp at h3
        exact ⟨z4.toNat, by omega, by omega⟩
      have HD := Lib.hid (D4.out.mono (show _ ≤ m + 14 + 4 * 0 by omega))
      clear D4
      go_wp2_with fail
      go_loopw [5] (fun q wr => ∃ (A : Option Addr) (c : Nat) (xs : List Int), q = .slice A xs.length c ∧ xs.length ≤ n0 ∧ Hid (DrL w C (m + 14 + 4 * xs.length) wr (.slice A xs.length c) xs)) (fun q _ => n0 - lenV q)
      case atStart => exact ⟨Option.none, 0, [], rfl, Nat.zero_le _, HD.out⟩
      case round =>
        obtain ⟨A, c, xs, rfl, hxn, DR⟩ := hrel
        clear HD
        by_cases hlt : xs.length < n0
        · have hl21 : Lst (wr.alloc (.cells #[.int .i64 1, .int .i64 2, .int .i64 2, .int .i64 3, .int .i64 3, .int .i64 4, .int .i64 6] 3)) C (.slice (some ⟨wr.heap.size, 0, Option.none⟩) 7 7) [1, 2, 2, 3, 3, 4, 6] := lst_new wr C [1, 2, 2, 3, 3, 4, 6] DR.out.2.1.lt (by simp) (by simp)
          have c21 := Lib.hid (among_any _ _ C _ _ (DR.out.2.1.alloc _) (by omega) hl21)
          clear hl21
          go_wp2_with fail
          refine c21.out.mono ?_
          rintro e w21 ⟨z21, rfl, hm21, hc21, hk21⟩
          have D21 := Lib.hid ((DR.out.alloc _).step HC.out hc21 hk21)
          have HM21 := Lib.hid hm21
          clear hc21 hk21 hm21 DR
          go_wp2_with (at_builtin; refine GrowI.app rfl (.tmp 35) (.tmp 39) rfl D21.out.gr (by omega) rfl rfl ?_; intro v' w' hG')
          have hG2 := D21.out.grow HC.out hG'
          obtain ⟨A', c', rfl⟩ := hG2.form
          have HGG := Lib.hid hG2
          have hlen : (xs ++ [z21]).length = xs.length + 1 := by simp
          clear hG' hG2
          rw [hlen] at HGG ⊢
          go_wp2_with fail
          go_roundw
          case rel => exact ⟨A', c', xs ++ [z21], by rw [hlen], by rw [hlen]; omega, by rw [hlen]; exact HGG.out.mono (by omega)⟩
          case measure => (simp [lenV]; try omega)
        · obtain rfl : n0 = xs.length := by omega
          have DE := DR
          clear DR
          have hmx : m + 14 + 4 * xs.length ≤ 1099511626000 := by omega
          rcases Nat.eq_zero_or_pos xs.length with h0 | hpos
          · have hgz : decide (0 < xs.length) = false := decide_eq_false (by omega)
            go_wp2_with fail
            go_ret
            exact ⟨_, xs, rfl, by omega, DE.out.mono (by omega)⟩
          · have hgz : decide (0 < xs.length) = true := decide_eq_true hpos
            have c41 := Lib.hid (one_any 24 C _ wr DE.out.2.1 (by omega) (by omega) (by omega))
            go_wp2_with fail
            refine c41.out.mono ?_
            rintro e w41 ⟨z41, rfl, hc41, hk41⟩
            have D41 := Lib.hid (DE.out.step HC.out hc41 hk41)
            clear hc41 hk41 DE
            cases z41
            · go_wp2_with fail
              go_ret
              exact ⟨_, xs, rfl, by omega, D41.out.mono (by omega)⟩
            · have c61 := Lib.hid (pick_any (xs.length : Int) C _ w41 D41.out.2.1 (by omega) (by omega) (by omega))
              go_wp2_with fail
              refine c61.out.mono ?_
              rintro e w61 ⟨z61, rfl, ⟨hz61, hy61⟩, hc61, hk61⟩
              have D61 := Lib.hid (D41.out.step HC.out hc61 hk61)
              clear hc61 hk61 D41
              have hl62 : Lst (w61.alloc (.cells #[.int .i64 0, .int .i64 6, .int .i64 7] 3)) C (.slice (some ⟨w61.heap.size, 0, Option.none⟩) 3 3) [0, 6, 7] := lst_new w61 C [0, 6, 7] D61.out.2.1.lt (by simp) (by simp)
              have c62 := Lib.hid (among_any _ _ C _ _ (D61.out.2.1.alloc _) (by omega) hl62)
              clear hl62
              go_wp2_with fail
              refine c62.out.mono ?_
              rintro e w62 ⟨z62, rfl, hm62, hc62, hk62⟩
              have D62 := Lib.hid ((D61.out.alloc _).step HC.out hc62 hk62)
              have HM62 := Lib.hid hm62
              clear hc62 hk62 hm62 D61
              obtain ⟨j, rfl⟩ : ∃ k : Nat, z61 = (k : Int) := ⟨z61.toNat, by omega⟩
              have hjx : j < xs.length := by omega
              obtain ⟨g, c2, hv, hg⟩ := D62.out.pos hpos
              cases hv
              have hce := D62.out.cell hjx
              obtain ⟨ow, how⟩ : ∃ ow, ow = xs[j] := ⟨_, rfl⟩
              rw [← how] at hce
              have hc1 := hce.1
              have hc2 := hce.2
              have HP := Lib.hid (D62.out.put HC.out hg j z62)
              have HLS : Hid ((xs.set j z62).length = xs.length) := by show _ = _; rw [List.length_set]
              clear hce how
              go_wp2_with fail
              go_ret
              exact ⟨_, xs.set j z62, rfl, by rw [HLS.out]; omega, HP.out.mono (by omega)⟩
  · have HASK := Lib.hid ask_lit
    have hcA : ∀ o, Cur (w1.alloc o).drew C (m + 2) := fun o => D1.out.2.1.alloc o
    have hcB : Cur w1.drew C (m + 2) := D1.out.2.1
    have hkA : ∀ o, KeepG C (C + 1) w (w1.alloc o).drew := fun o => (D1.out.2.2.alloc o).trans (KeepG.drawN (w1.alloc o) 1)
    have hkB : KeepG C (C + 1) w w1.drew := D1.out.2.2.trans (KeepG.drawN w1 1)
    have HC1 := Lib.hid D1.out.2.1.lt
    go_wp2_with fail
    go_region_law (first
      | ((go_simp; go_at_call 130; (with_reducible refine (pick_any 5 C (m + 2) _ (by first | (with_reducible exact hcA _) | (with_reducible exact hcB)) (by omega) (by omega) (by omega)).mono ?_); rintro e w5 ⟨z5, rfl, ⟨hz5, hy5⟩, hc5, hk5⟩; obtain ⟨k5, h5e⟩ : ∃ k : Nat, 1 + z5 = (k : Int) := ⟨(1 + z5).toNat, by omega⟩; have hw5 : (k5 : Int) ≤ 5 := (by omega); have hv5 : 1 ≤ (k5 : Int) := (by omega); have hwr5 : IntKind.i64.wrap (k5 : Int) = (k5 : Int) := wrap_in (by omega); have kk5 : KeepG C (C + 1) w w5 := (by first | (with_reducible exact (hkA _).trans hk5) | (with_reducible exact hkB.trans hk5))))
      | ((go_simp; go_at_call 130; (with_reducible refine (pick_any 2 C (m + 2 + 2) _ (by first | (with_reducible exact hc5) | (with_reducible exact Cur.alloc hc5 _)) (by omega) (by omega) (by omega)).mono ?_); rintro e w6 ⟨z6, rfl, ⟨hz6, hy6⟩, hc6, hk6⟩; obtain ⟨r6, h6e⟩ : ∃ k : Nat, 2 + z6 = (k : Int) := ⟨(2 + z6).toNat, by omega⟩; have hw6 : (r6 : Int) ≤ 3 := (by omega); have hv6 : 2 ≤ (r6 : Int) := (by omega); have hwr6 : IntKind.i64.wrap (r6 : Int) = (r6 : Int) := wrap_in (by omega); have kk6 : KeepG C (C + 1) w w6 := (by first | (with_reducible exact kk5.trans hk6) | (with_reducible exact (kk5.alloc _).trans hk6))))
      | ((go_simp; go_at_call 164; (with_reducible refine (cmLengths6 ([8, 4, 2, 1, 1].take k5) r6 _ _ _ (by (first | (with_reducible refine lit_rdD (zs := [8, 4, 2, 1, 1]) (hk5.trans hk6) ?_ ?_ ?_ ?_ ?_ ?_) | (with_reducible refine lit_rd (zs := [8, 4, 2, 1, 1]) hk6 ?_ ?_ ?_ ?_ ?_ ?_) | (with_reducible refine lit_rd (zs := [8, 4, 2, 1, 1]) (KeepG.refl C (C + 1) _) ?_ ?_ ?_ ?_ ?_ ?_)) <;> first | rfl | exact HC1.out | exact hc5.lt | exact hc6.lt | (simp; omega) | simp) (Nat.le_refl _) (HASK.out k5 (by omega) (by omega) r6 (by omega) (by omega))).mono ?_); rintro e w7 ⟨v7, rfl, ho7, hb7⟩; have D7 := Lib.hid (show DrL w C (m + 2 + 2 + 2) w7 v7 (leastL ([8, 4, 2, 1, 1].take k5) (r6 : Int) 6) by first | (with_reducible exact drL_fresh hc6 kk6 ho7 hb7 HC.out) | (with_reducible exact drL_fresh (hc6.alloc _) (kk6.alloc _) ho7 hb7 HC.out)))))
    all_goals
      have hlb := leastL_len ([8, 4, 2, 1, 1].take k5) (r6 : Int) 6
      have HLB := Lib.hid hlb
      obtain ⟨lst, hlst⟩ : ∃ lst, lst = leastL ([8, 4, 2, 1, 1].take k5) (r6 : Int) 6 := ⟨_, rfl⟩
      rw [← hlst] at D7 HLB
      clear hlst hlb
      clear hc5 hc6 hk5 hk6 kk5 kk6 hcA hcB hkA hkB ho7 hb7
      cases hok : leastB ([8, 4, 2, 1, 1].take k5) (r6 : Int) 6
      · clear hok
        have DN : Hid (DrL w C (m + 2 + 2 + 2) w7 (.slice Option.none 0 0) []) := ⟨World.ownsRow_nil _ _ _ _, D7.out.2⟩
        go_wp2_with fail
        have c8 := Lib.hid (pick_any 7 C _ w7 DN.out.2.1 (by omega) (by omega) (by omega))
        go_wp2_with fail
        refine c8.out.mono ?_
        rintro e w8 ⟨z8, rfl, ⟨hz8, hy8⟩, hc8, hk8⟩
        have D8 := Lib.hid (DN.out.step HC.out hc8 hk8)
        clear hc8 hk8 DN
        have c9 := Lib.hid (one_any 16 C _ w8 D8.out.2.1 (by omega) (by omega) (by omega))
        go_wp2_with fail
        refine c9.out.mono ?_
        rintro e w9 ⟨z9, rfl, hc9, hk9⟩
        have D9 := Lib.hid (D8.out.step HC.out hc9 hk9)
        clear hc9 hk9 D8
        cases z9
        · obtain ⟨n0, hn0, hn1⟩ : ∃ n0 : Nat, 1 + z8 = (n0 : Int) ∧ n0 ≤ 21 := ⟨(1 + z8).toNat, by omega, by omega⟩

          have HD := Lib.hid (D9.out.mono (show _ ≤ m + 14 + 4 * 0 by omega))
          clear D9
          go_wp2_with fail
          go_loopw [5] (fun q wr => ∃ (A : Option Addr) (c : Nat) (xs : List Int), q = .slice A xs.length c ∧ xs.length ≤ n0 ∧ Hid (DrL w C (m + 14 + 4 * xs.length) wr (.slice A xs.length c) xs)) (fun q _ => n0 - lenV q)
          case atStart => exact ⟨Option.none, 0, [], rfl, Nat.zero_le _, HD.out⟩
          case round =>
            obtain ⟨A, c, xs, rfl, hxn, DR⟩ := hrel
            clear HD
            by_cases hlt : xs.length < n0
            · have hl21 : Lst (wr.alloc (.cells #[.int .i64 1, .int .i64 2, .int .i64 2, .int .i64 3, .int .i64 3, .int .i64 4, .int .i64 6] 3)) C (.slice (some ⟨wr.heap.size, 0, Option.none⟩) 7 7) [1, 2, 2, 3, 3, 4, 6] := lst_new wr C [1, 2, 2, 3, 3, 4, 6] DR.out.2.1.lt (by simp) (by simp)
              have c21 := Lib.hid (among_any _ _ C _ _ (DR.out.2.1.alloc _) (by omega) hl21)
              clear hl21
              go_wp2_with fail
              refine c21.out.mono ?_
              rintro e w21 ⟨z21, rfl, hm21, hc21, hk21⟩
              have D21 := Lib.hid ((DR.out.alloc _).step HC.out hc21 hk21)
              have HM21 := Lib.hid hm21
              clear hc21 hk21 hm21 DR
              go_wp2_with (at_builtin; refine GrowI.app rfl (.tmp 35) (.tmp 39) rfl D21.out.gr (by omega) rfl rfl ?_; intro v' w' hG')
              have hG2 := D21.out.grow HC.out hG'
              obtain ⟨A', c', rfl⟩ := hG2.form
              have HGG := Lib.hid hG2
              have hlen : (xs ++ [z21]).length = xs.length + 1 := by simp
              clear hG' hG2
              rw [hlen] at HGG ⊢
              go_wp2_with fail
              go_roundw
              case rel => exact ⟨A', c', xs ++ [z21], by rw [hlen], by rw [hlen]; omega, by rw [hlen]; exact HGG.out.mono (by omega)⟩
              case measure => (simp [lenV]; try omega)
            · obtain rfl : n0 = xs.length := by omega
              have DE := DR
              clear DR
              have hmx : m + 14 + 4 * xs.length ≤ 1099511626000 := by omega
              rcases Nat.eq_zero_or_pos xs.length with h0 | hpos
              · have hgz : decide (0 < xs.length) = false := decide_eq_false (by omega)
                go_wp2_with fail
                go_ret
                exact ⟨_, xs, rfl, by omega, DE.out.mono (by omega)⟩
              · have hgz : decide (0 < xs.length) = true := decide_eq_true hpos
                have c41 := Lib.hid (one_any 24 C _ wr DE.out.2.1 (by omega) (by omega) (by omega))
                go_wp2_with fail
                refine c41.out.mono ?_
                rintro e w41 ⟨z41, rfl, hc41, hk41⟩
                have D41 := Lib.hid (DE.out.step HC.out hc41 hk41)
                clear hc41 hk41 DE
                cases z41
                · go_wp2_with fail
                  go_ret
                  exact ⟨_, xs, rfl, by omega, D41.out.mono (by omega)⟩
                · have c61 := Lib.hid (pick_any (xs.length : Int) C _ w41 D41.out.2.1 (by omega) (by omega) (by omega))
                  go_wp2_with fail
                  refine c61.out.mono ?_
                  rintro e w61 ⟨z61, rfl, ⟨hz61, hy61⟩, hc61, hk61⟩
                  have D61 := Lib.hid (D41.out.step HC.out hc61 hk61)
                  clear hc61 hk61 D41
                  have hl62 : Lst (w61.alloc (.cells #[.int .i64 0, .int .i64 6, .int .i64 7] 3)) C (.slice (some ⟨w61.heap.size, 0, Option.none⟩) 3 3) [0, 6, 7] := lst_new w61 C [0, 6, 7] D61.out.2.1.lt (by simp) (by simp)
                  have c62 := Lib.hid (among_any _ _ C _ _ (D61.out.2.1.alloc _) (by omega) hl62)
                  clear hl62
                  go_wp2_with fail
                  refine c62.out.mono ?_
                  rintro e w62 ⟨z62, rfl, hm62, hc62, hk62⟩
                  have D62 := Lib.hid ((D61.out.alloc _).step HC.out hc62 hk62)
                  have HM62 := Lib.hid hm62
                  clear hc62 hk62 hm62 D61
                  obtain ⟨j, rfl⟩ : ∃ k : Nat, z61 = (k : Int) := ⟨z61.toNat, by omega⟩
                  have hjx : j < xs.length := by omega
                  obtain ⟨g, c2, hv, hg⟩ := D62.out.pos hpos
                  cases hv
                  have hce := D62.out.cell hjx
                  obtain ⟨ow, how⟩ : ∃ ow, ow = xs[j] := ⟨_, rfl⟩
                  rw [← how] at hce
                  have hc1 := hce.1
                  have hc2 := hce.2
                  have HP := Lib.hid (D62.out.put HC.out hg j z62)
                  have HLS : Hid ((xs.set j z62).length = xs.length) := by show _ = _; rw [List.length_set]
                  clear hce how
                  go_wp2_with fail
                  go_ret
                  exact ⟨_, xs.set j z62, rfl, by rw [HLS.out]; omega, HP.out.mono (by omega)⟩
        · have hl10 : Lst (w9.alloc (.cells #[.int .i64 0, .int .i64 20, .int .i64 21] 3)) C (.slice (some ⟨w9.heap.size, 0, Option.none⟩) 3 3) [0, 20, 21] := lst_new w9 C [0, 20, 21] D9.out.2.1.lt (by simp) (by simp)
          have c10 := Lib.hid (among_any _ _ C _ _ (D9.out.2.1.alloc _) (by omega) hl10)
          clear hl10
          go_wp2_with fail
          refine c10.out.mono ?_
          rintro e w10 ⟨z10, rfl, hm10, hc10, hk10⟩
          have D10 := Lib.hid ((D9.out.alloc _).step HC.out hc10 hk10)
          have HM10 := Lib.hid hm10
          clear hc10 hk10 hm10 D9
          obtain ⟨n0, rfl, hn1⟩ : ∃ n0 : Nat, z10 = (n0 : Int) ∧ n0 ≤ 21 := by
            have h3 := HM10.out
            simp at h3
            exact ⟨z10.toNat, by omega, by omega⟩
          have HD := Lib.hid (D10.out.mono (show _ ≤ m + 14 + 4 * 0 by omega))
          clear D10
          go_wp2_with fail
          go_loopw [5] (fun q wr => ∃ (A : Option Addr) (c : Nat) (xs : List Int), q = .slice A xs.length c ∧ xs.length ≤ n0 ∧ Hid (DrL w C (m + 14 + 4 * xs.length) wr (.slice A xs.length c) xs)) (fun q _ => n0 - lenV q)
          case atStart => exact ⟨Option.none, 0, [], rfl, Nat.zero_le _, HD.out⟩
          case round =>
            obtain ⟨A, c, xs, rfl, hxn, DR⟩ := hrel
            clear HD
            by_cases hlt : xs.length < n0
            · have hl21 : Lst (wr.alloc (.cells #[.int .i64 1, .int .i64 2, .int .i64 2, .int .i64 3, .int .i64 3, .int .i64 4, .int .i64 6] 3)) C (.slice (some ⟨wr.heap.size, 0, Option.none⟩) 7 7) [1, 2, 2, 3, 3, 4, 6] := lst_new wr C [1, 2, 2, 3, 3, 4, 6] DR.out.2.1.lt (by simp) (by simp)
              have c21 := Lib.hid (among_any _ _ C _ _ (DR.out.2.1.alloc _) (by omega) hl21)
              clear hl21
              go_wp2_with fail
              refine c21.out.mono ?_
              rintro e w21 ⟨z21, rfl, hm21, hc21, hk21⟩
              have D21 := Lib.hid ((DR.out.alloc _).step HC.out hc21 hk21)
              have HM21 := Lib.hid hm21
              clear hc21 hk21 hm21 DR
              go_wp2_with (at_builtin; refine GrowI.app rfl (.tmp 35) (.tmp 39) rfl D21.out.gr (by omega) rfl rfl ?_; intro v' w' hG')
              have hG2 := D21.out.grow HC.out hG'
              obtain ⟨A', c', rfl⟩ := hG2.form
              have HGG := Lib.hid hG2
              have hlen : (xs ++ [z21]).length = xs.length + 1 := by simp
              clear hG' hG2
              rw [hlen] at HGG ⊢
              go_wp2_with fail
              go_roundw
              case rel => exact ⟨A', c', xs ++ [z21], by rw [hlen], by rw [hlen]; omega, by rw [hlen]; exact HGG.out.mono (by omega)⟩
              case measure => (simp [lenV]; try omega)
            · obtain rfl : n0 = xs.length := by omega
              have DE := DR
              clear DR
              have hmx : m + 14 + 4 * xs.length ≤ 1099511626000 := by omega
              rcases Nat.eq_zero_or_pos xs.length with h0 | hpos
              · have hgz : decide (0 < xs.length) = false := decide_eq_false (by omega)
                go_wp2_with fail
                go_ret
                exact ⟨_, xs, rfl, by omega, DE.out.mono (by omega)⟩
              · have hgz : decide (0 < xs.length) = true := decide_eq_true hpos
                have c41 := Lib.hid (one_any 24 C _ wr DE.out.2.1 (by omega) (by omega) (by omega))
                go_wp2_with fail
                refine c41.out.mono ?_
                rintro e w41 ⟨z41, rfl, hc41, hk41⟩
                have D41 := Lib.hid (DE.out.step HC.out hc41 hk41)
                clear hc41 hk41 DE
                cases z41
                · go_wp2_with fail
                  go_ret
                  exact ⟨_, xs, rfl, by omega, D41.out.mono (by omega)⟩
                · have c61 := Lib.hid (pick_any (xs.length : Int) C _ w41 D41.out.2.1 (by omega) (by omega) (by omega))
                  go_wp2_with fail
                  refine c61.out.mono ?_
                  rintro e w61 ⟨z61, rfl, ⟨hz61, hy61⟩, hc61, hk61⟩
                  have D61 := Lib.hid (D41.out.step HC.out hc61 hk61)
                  clear hc61 hk61 D41
                  have hl62 : Lst (w61.alloc (.cells #[.int .i64 0, .int .i64 6, .int .i64 7] 3)) C (.slice (some ⟨w61.heap.size, 0, Option.none⟩) 3 3) [0, 6, 7] := lst_new w61 C [0, 6, 7] D61.out.2.1.lt (by simp) (by simp)
                  have c62 := Lib.hid (among_any _ _ C _ _ (D61.out.2.1.alloc _) (by omega) hl62)
                  clear hl62
                  go_wp2_with fail
                  refine c62.out.mono ?_
                  rintro e w62 ⟨z62, rfl, hm62, hc62, hk62⟩
                  have D62 := Lib.hid ((D61.out.alloc _).step HC.out hc62 hk62)
                  have HM62 := Lib.hid hm62
                  clear hc62 hk62 hm62 D61
                  obtain ⟨j, rfl⟩ : ∃ k : Nat, z61 = (k : Int) := ⟨z61.toNat, by omega⟩
                  have hjx : j < xs.length := by omega
                  obtain ⟨g, c2, hv, hg⟩ := D62.out.pos hpos
                  cases hv
                  have hce := D62.out.cell hjx
                  obtain ⟨ow, how⟩ : ∃ ow, ow = xs[j] := ⟨_, rfl⟩
                  rw [← how] at hce
                  have hc1 := hce.1
                  have hc2 := hce.2
                  have HP := Lib.hid (D62.out.put HC.out hg j z62)
                  have HLS : Hid ((xs.set j z62).length = xs.length) := by show _ = _; rw [List.length_set]
                  clear hce how
                  go_wp2_with fail
                  go_ret
                  exact ⟨_, xs.set j z62, rfl, by rw [HLS.out]; omega, HP.out.mono (by omega)⟩
      · clear hok
        go_wp2_with fail
        go_ret
        exact ⟨v7, _, rfl, Nat.le_trans HLB.out (by omega), D7.out.mono (by omega)⟩
end Go.Proofs.Ytabiobjcfopakaa
/- Contracts: drawn arguments of the functions on codes. -/
namespace Go.Proofs.Ytabiobjcfopakaa
open Go.RowKit
theorem DrL.after {w0 w1 w' : World} {C m m' : Nat} {v u : Value} {xs ys : List Int} (h : DrL w0 C m w1 v xs) (hC : C < w0.heap.size) (g : DrL w1 C m' w' u ys) : DrL w0 C m' w' v xs := h.step hC g.2.1 g.2.2
set_option maxRecDepth 100000 in
set_option maxHeartbeats 8000000 in
theorem DrawLeastLengths_any (zs : List UInt8) (v : Value) (hi : Nat) (w : World) (h : RdU w hi v zs) (hh : hi ≤ w.heap.size) :
    Calls Try.prog 82 #[v] w fun e w' => ∃ (u : Value) (xs : List Int) (r l : Int), e = .returned (.tuple #[u, .int .i64 r, .int .i64 l]) ∧ xs.length ≤ 21 ∧ RdI w' w'.heap.size u xs ∧ Below w.heap.size w w' := by
  obtain ⟨A, c, rfl, hc, hm⟩ := Rd.form h
  have HCU := Lib.hid (cur_new h hh)
  have HC : Hid (w.heap.size < (w.alloc (.cells #[.slice A zs.length c, .int .i64 0, .int .u64 0] 110)).heap.size) := by show _ < _; simp
  have HBX : Hid (∀ w', KeepG w.heap.size (w.heap.size + 1) (w.alloc (.cells #[.slice A zs.length c, .int .i64 0, .int .u64 0] 110)) w' → Below w.heap.size w w') := fun w' hk => keepG_box hk
  clear h
  go_enter Try.func82, Try.ntmps82
  have hsz : (w.alloc (.cells #[.slice A zs.length c, .int .i64 0, .int .u64 0] 110)).heap.size = w.heap.size + 1 := by simp
  go_wp2_with fail
  generalize (w.alloc (.cells #[.slice A zs.length c, .int .i64 0, .int .u64 0] 110)) = wb at HCU HC HBX hsz ⊢
  have c1 := Lib.hid (weights_any w.heap.size _ _ HCU.out (by omega))
  go_wp2_with fail
  refine c1.out.mono ?_
  rintro e w1 ⟨v1, xs1, rfl, hn1, hd1⟩
  obtain ⟨A1, q1, rfl⟩ := hd1.form
  have D1 := Lib.hid hd1
  clear hd1
  have c2 := Lib.hid (digitsOf_any w.heap.size _ w1 D1.out.2.1 (by omega))
  go_wp2_with fail
  refine c2.out.mono ?_
  rintro e w2 ⟨z2, rfl, _, hc2, hk2⟩
  have D2 := Lib.hid (D1.out.step HC.out hc2 hk2)
  clear hc2 hk2 D1
  have hl3 : Lst (w2.alloc (.cells #[.int .i64 0, .int .i64 7] 3)) w.heap.size (.slice (some ⟨w2.heap.size, 0, Option.none⟩) 2 2) [0, 7] := lst_new w2 w.heap.size [0, 7] D2.out.2.1.lt (by simp) (by simp)
  have c3 := Lib.hid (among_any _ _ w.heap.size _ _ (D2.out.2.1.alloc _) (by omega) hl3)
  clear hl3
  go_wp2_with fail
  refine c3.out.mono ?_
  rintro e w3 ⟨z3, rfl, hm3, hc3, hk3⟩
  have D3 := Lib.hid ((D2.out.alloc _).step HC.out hc3 hk3)
  have HM3 := Lib.hid hm3
  clear hc3 hk3 hm3 D2
  have hl4 : Lst (w3.alloc (.cells #[.int .i64 1, .int .i64 2, .int .i64 3, .int .i64 4, .int .i64 6, .int .i64 6, .int .i64 z3] 3)) w.heap.size (.slice (some ⟨w3.heap.size, 0, Option.none⟩) 7 7) [1, 2, 3, 4, 6, 6, z3] := lst_new w3 w.heap.size [1, 2, 3, 4, 6, 6, z3] D3.out.2.1.lt (by simp) (by simp)
  have c4 := Lib.hid (among_any _ _ w.heap.size _ _ (D3.out.2.1.alloc _) (by omega) hl4)
  clear hl4
  go_wp2_with fail
  refine c4.out.mono ?_
  rintro e w4 ⟨z4, rfl, hm4, hc4, hk4⟩
  have D4 := Lib.hid ((D3.out.alloc _).step HC.out hc4 hk4)
  have HM4 := Lib.hid hm4
  clear hc4 hk4 hm4 D3
  go_wp2_with fail
  go_ret3
  exact ⟨_, xs1, z2, z4, ret_val rfl, hn1, D4.out.rd, HBX.out _ D4.out.2.2⟩
set_option maxRecDepth 100000 in
set_option maxHeartbeats 8000000 in
theorem DrawKraftSum_any (zs : List UInt8) (v : Value) (hi : Nat) (w : World) (h : RdU w hi v zs) (hh : hi ≤ w.heap.size) :
    Calls Try.prog 201 #[v] w fun e w' => ∃ (u : Value) (xs : List Int) (r : Int), e = .returned (.tuple #[u, .int .i64 r]) ∧ xs.length ≤ 21 ∧ RdI w' w'.heap.size u xs ∧ Below w.heap.size w w' := by
  obtain ⟨A, c, rfl, hc, hm⟩ := Rd.form h
  have HCU := Lib.hid (cur_new h hh)
  have HC : Hid (w.heap.size < (w.alloc (.cells #[.slice A zs.length c, .int .i64 0, .int .u64 0] 110)).heap.size) := by show _ < _; simp
  have HBX : Hid (∀ w', KeepG w.heap.size (w.heap.size + 1) (w.alloc (.cells #[.slice A zs.length c, .int .i64 0, .int .u64 0] 110)) w' → Below w.heap.size w w') := fun w' hk => keepG_box hk
  clear h
  go_enter Try.func201, Try.ntmps201
  have hsz : (w.alloc (.cells #[.slice A zs.length c, .int .i64 0, .int .u64 0] 110)).heap.size = w.heap.size + 1 := by simp
  go_wp2_with fail
  generalize (w.alloc (.cells #[.slice A zs.length c, .int .i64 0, .int .u64 0] 110)) = wb at HCU HC HBX hsz ⊢
  have c1 := Lib.hid (lengths_any w.heap.size _ _ HCU.out (by omega))
  go_wp2_with fail
  refine c1.out.mono ?_
  rintro e w1 ⟨v1, xs1, rfl, hn1, hd1⟩
  obtain ⟨A1, q1, rfl⟩ := hd1.form
  have D1 := Lib.hid hd1
  clear hd1
  have c2 := Lib.hid (digitsOf_any w.heap.size _ w1 D1.out.2.1 (by omega))
  go_wp2_with fail
  refine c2.out.mono ?_
  rintro e w2 ⟨z2, rfl, _, hc2, hk2⟩
  have D2 := Lib.hid (D1.out.step HC.out hc2 hk2)
  clear hc2 hk2 D1
  go_wp2_with fail
  go_ret2
  exact ⟨_, xs1, z2, ret_val rfl, hn1, D2.out.rd, HBX.out _ D2.out.2.2⟩
theorem DrawCanonicalCode_any (zs : List UInt8) (v : Value) (hi : Nat) (w : World) (h : RdU w hi v zs) (hh : hi ≤ w.heap.size) :
    Calls Try.prog 108 #[v] w fun e w' => ∃ (u : Value) (xs : List Int) (r : Int), e = .returned (.tuple #[u, .int .i64 r]) ∧ xs.length ≤ 21 ∧ RdI w' w'.heap.size u xs ∧ Below w.heap.size w w' := by
  have cS := DrawKraftSum_any zs v hi w h hh
  obtain ⟨A, c, rfl, hc, hm⟩ := Rd.form h
  have CS := Lib.hid cS
  clear cS h
  go_enter Try.func108, Try.ntmps108
  go_wp2_with fail
  refine CS.out.mono ?_
  rintro e w1 ⟨u, xs, r, rfl, hn, hr, hb⟩
  have HR := Lib.hid hr
  have HB := Lib.hid hb
  clear hr hb
  go_wp2_with fail
  go_ret2
  exact ⟨u, xs, r, ret_val rfl, hn, HR.out, HB.out⟩
set_option maxRecDepth 100000 in
set_option maxHeartbeats 8000000 in
theorem DrawFlatLength_any (zs : List UInt8) (v : Value) (hi : Nat) (w : World) (h : RdU w hi v zs) (hh : hi ≤ w.heap.size) :
    Calls Try.prog 86 #[v] w fun e w' => ∃ a b : Int, e = .returned (.tuple #[.int .i64 a, .int .i64 b]) ∧ Below w.heap.size w w' := by
  obtain ⟨A, c, rfl, hc, hm⟩ := Rd.form h
  have HCU := Lib.hid (cur_new h hh)
  have HC : Hid (w.heap.size < (w.alloc (.cells #[.slice A zs.length c, .int .i64 0, .int .u64 0] 110)).heap.size) := by show _ < _; simp
  have HBX : Hid (∀ w', KeepG w.heap.size (w.heap.size + 1) (w.alloc (.cells #[.slice A zs.length c, .int .i64 0, .int .u64 0] 110)) w' → Below w.heap.size w w') := fun w' hk => keepG_box hk
  clear h
  go_enter Try.func86, Try.ntmps86
  have hsz : (w.alloc (.cells #[.slice A zs.length c, .int .i64 0, .int .u64 0] 110)).heap.size = w.heap.size + 1 := by simp
  go_wp2_with fail
  generalize (w.alloc (.cells #[.slice A zs.length c, .int .i64 0, .int .u64 0] 110)) = wb at HCU HC HBX hsz ⊢
  have D0 := Lib.hid (DrL.start HCU.out)
  have hl1 : Lst (wb.alloc (.cells #[.int .i64 1, .int .i64 2, .int .i64 3, .int .i64 4, .int .i64 5, .int .i64 9, .int .i64 16, .int .i64 17, .int .i64 20, .int .i64 21, .int .i64 0] 3)) w.heap.size (.slice (some ⟨wb.heap.size, 0, Option.none⟩) 11 11) [1, 2, 3, 4, 5, 9, 16, 17, 20, 21, 0] := lst_new wb w.heap.size [1, 2, 3, 4, 5, 9, 16, 17, 20, 21, 0] D0.out.2.1.lt (by simp) (by simp)
  have c1 := Lib.hid (among_any _ _ w.heap.size _ _ (D0.out.2.1.alloc _) (by omega) hl1)
  rw [hsz] at c1
  clear hl1
  go_wp2_with fail
  refine c1.out.mono ?_
  rintro e w1 ⟨z1, rfl, hm1, hc1, hk1⟩
  have D1 := Lib.hid ((D0.out.alloc _).step HC.out hc1 hk1)
  have HM1 := Lib.hid hm1
  clear hc1 hk1 hm1 D0
  have c2 := Lib.hid (digitsOf_any w.heap.size _ w1 D1.out.2.1 (by omega))
  go_wp2_with fail
  refine c2.out.mono ?_
  rintro e w2 ⟨z2, rfl, _, hc2, hk2⟩
  have D2 := Lib.hid (D1.out.step HC.out hc2 hk2)
  clear hc2 hk2 D1
  go_wp2_with fail
  go_ret2
  exact ⟨z1, z2, ret_val rfl, HBX.out _ D2.out.2.2⟩
set_option maxRecDepth 100000 in
set_option maxHeartbeats 8000000 in
theorem DrawCostOf_any (zs : List UInt8) (v : Value) (hi : Nat) (w : World) (h : RdU w hi v zs) (hh : hi ≤ w.heap.size) :
    Calls Try.prog 83 #[v] w fun e w' => ∃ (u u2 : Value) (ys xs : List Int), e = .returned (.tuple #[u, u2]) ∧ ys.length ≤ 22 ∧ xs.length ≤ 21 ∧ RdI w' w'.heap.size u ys ∧ RdI w' w'.heap.size u2 xs ∧ Below w.heap.size w w' := by
  obtain ⟨A, c, rfl, hc, hm⟩ := Rd.form h
  have HCU := Lib.hid (cur_new h hh)
  have HC : Hid (w.heap.size < (w.alloc (.cells #[.slice A zs.length c, .int .i64 0, .int .u64 0] 110)).heap.size) := by show _ < _; simp
  have HBX : Hid (∀ w', KeepG w.heap.size (w.heap.size + 1) (w.alloc (.cells #[.slice A zs.length c, .int .i64 0, .int .u64 0] 110)) w' → Below w.heap.size w w') := fun w' hk => keepG_box hk
  clear h
  go_enter Try.func83, Try.ntmps83
  have hsz : (w.alloc (.cells #[.slice A zs.length c, .int .i64 0, .int .u64 0] 110)).heap.size = w.heap.size + 1 := by simp
  go_wp2_with fail
  generalize (w.alloc (.cells #[.slice A zs.length c, .int .i64 0, .int .u64 0] 110)) = wb at HCU HC HBX hsz ⊢
  have c1 := Lib.hid (lengths_any w.heap.size _ _ HCU.out (by omega))
  go_wp2_with fail
  refine c1.out.mono ?_
  rintro e w1 ⟨v1, xs1, rfl, hn1, hd1⟩
  obtain ⟨A1, q1, rfl⟩ := hd1.form
  have D1 := Lib.hid hd1
  clear hd1
  have HCO := HC
  have HC : Hid (w.heap.size < w1.heap.size) := by show _ < _; have h1 := HCO.out; have h2 := D1.out.le; omega
  go_wp2_with fail
  go_loopw [6] (fun q wr => ∃ (A : Option Addr) (c : Nat) (xs : List Int), q = .slice A xs.length c ∧ xs.length ≤ xs1.length + 1 ∧ Hid (DrL w1 w.heap.size (0 + 200 + 6 * xs.length) wr (.slice A xs.length c) xs)) (fun q _ => xs1.length + 1 - lenV q)
  case atStart => exact ⟨Option.none, 0, [], rfl, by simp, DrL.start D1.out.2.1⟩
  case round =>
    obtain ⟨A, c, xs, rfl, hxn, DR⟩ := hrel
    have c21 := Lib.hid (pick_any 16 w.heap.size _ wr DR.out.2.1 (by omega) (by omega) (by omega))
    go_wp2_with fail
    refine c21.out.mono ?_
    rintro e w21 ⟨z21, rfl, ⟨hz21, hy21⟩, hc21, hk21⟩
    have D21 := Lib.hid (DR.out.step HC.out hc21 hk21)
    clear hc21 hk21 DR
    have hq : z21.tdiv 15 = 0 ∨ z21.tdiv 15 = 1 := by
      rw [Int.tdiv_eq_ediv_of_nonneg (by omega)]; omega
    obtain ⟨t, ht, ht1⟩ : ∃ t : Nat, z21.tdiv 15 = (t : Int) ∧ t ≤ 1 := ⟨(z21.tdiv 15).toNat, by omega, by omega⟩
    clear hq
    by_cases hlt : xs.length < xs1.length + t
    · have c31 := Lib.hid (pick_any 900 w.heap.size _ w21 D21.out.2.1 (by omega) (by omega) (by omega))
      go_wp2_with fail
      refine c31.out.mono ?_
      rintro e w31 ⟨z31, rfl, ⟨hz31, hy31⟩, hc31, hk31⟩
      have D31 := Lib.hid (D21.out.step HC.out hc31 hk31)
      clear hc31 hk31 D21
      have hl32 : Lst (w31.alloc (.cells #[.int .i64 0, .int .i64 1, .int .i64 5, .int .i64 10000, .int .i64 z31] 3)) w.heap.size (.slice (some ⟨w31.heap.size, 0, Option.none⟩) 5 5) [0, 1, 5, 10000, z31] := lst_new w31 w.heap.size [0, 1, 5, 10000, z31] D31.out.2.1.lt (by simp) (by simp)
      have c32 := Lib.hid (among_any _ _ w.heap.size _ _ (D31.out.2.1.alloc _) (by omega) hl32)
      clear hl32
      go_wp2_with fail
      refine c32.out.mono ?_
      rintro e w32 ⟨z32, rfl, hm32, hc32, hk32⟩
      have D32 := Lib.hid ((D31.out.alloc _).step HC.out hc32 hk32)
      have HM32 := Lib.hid hm32
      clear hc32 hk32 hm32 D31
      go_wp2_with (at_builtin; refine GrowI.app rfl (.tmp 21) (.tmp 27) rfl D32.out.gr (by omega) rfl rfl ?_; intro v' w' hG')
      have hG2 := D32.out.grow HC.out hG'
      obtain ⟨A', c', rfl⟩ := hG2.form
      have HGG := Lib.hid hG2
      have hlen : (xs ++ [z32]).length = xs.length + 1 := by simp
      clear hG' hG2
      rw [hlen] at HGG ⊢
      go_wp2_with fail
      go_roundw
      case rel => exact ⟨A', c', xs ++ [z32], by rw [hlen], by rw [hlen]; omega, by rw [hlen]; exact HGG.out.mono (by omega)⟩
      case measure => (simp [lenV]; try omega)
    · have DE := D21
      clear D21
      rcases Nat.eq_zero_or_pos xs.length with h0 | hpos
      · obtain rfl := List.eq_nil_of_length_eq_zero h0
        have hgz : decide (0 < (0 : Nat)) = false := rfl
        go_wp2_with fail
        go_ret2
        exact ⟨_, _, [], xs1, ret_val rfl, by simp, hn1, DE.out.rd, (D1.out.after HCO.out DE.out).rd, HBX.out _ (D1.out.after HCO.out DE.out).2.2⟩
      · have hgz : decide (0 < xs.length) = true := decide_eq_true hpos
        have c41 := Lib.hid (one_any 24 w.heap.size _ w21 DE.out.2.1 (by omega) (by omega) (by omega))
        go_wp2_with fail
        refine c41.out.mono ?_
        rintro e w41 ⟨z41, rfl, hc41, hk41⟩
        have D41 := Lib.hid (DE.out.step HC.out hc41 hk41)
        clear hc41 hk41 DE
        cases z41
        · go_wp2_with fail
          go_ret2
          exact ⟨_, _, xs, xs1, ret_val rfl, by omega, hn1, D41.out.rd, (D1.out.after HCO.out D41.out).rd, HBX.out _ (D1.out.after HCO.out D41.out).2.2⟩
        · have hl61 : Lst (w41.alloc (.cells #[.int .i64 (-1), .int .i64 10001] 3)) w.heap.size (.slice (some ⟨w41.heap.size, 0, Option.none⟩) 2 2) [-1, 10001] := lst_new w41 w.heap.size [-1, 10001] D41.out.2.1.lt (by simp) (by simp)
          have c61 := Lib.hid (among_any _ _ w.heap.size _ _ (D41.out.2.1.alloc _) (by omega) hl61)
          clear hl61
          go_wp2_with fail
          refine c61.out.mono ?_
          rintro e w61 ⟨z61, rfl, hm61, hc61, hk61⟩
          have D61 := Lib.hid ((D41.out.alloc _).step HC.out hc61 hk61)
          have HM61 := Lib.hid hm61
          clear hc61 hk61 hm61 D41
          obtain ⟨g, c2, hv, hg⟩ := D61.out.pos hpos
          cases hv
          have hce := D61.out.cell hpos
          obtain ⟨ow, how⟩ : ∃ ow, ow = xs[0] := ⟨_, rfl⟩
          rw [← how] at hce
          have hc1 := hce.1
          have hc2 := hce.2
          have HP := Lib.hid (D61.out.put HC.out hg 0 z61)
          have HLS : Hid ((xs.set 0 z61).length = xs.length) := by show _ = _; rw [List.length_set]
          clear hce how
          go_wp2_with fail
          go_ret2
          exact ⟨_, _, xs.set 0 z61, xs1, ret_val rfl, by rw [HLS.out]; omega, hn1, HP.out.rd, (D1.out.after HCO.out HP.out).rd, HBX.out _ (D1.out.after HCO.out HP.out).2.2⟩
end Go.Proofs.Ytabiobjcfopakaa
