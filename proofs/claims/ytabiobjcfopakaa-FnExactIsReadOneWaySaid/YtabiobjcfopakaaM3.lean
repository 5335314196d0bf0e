/- Contracts of the helpers of the laws on slices of integers: copies, comparisons, marks; and of the tests that all numbers of a list lie within bounds. -/
import Derived.Test.YtabiobjcfopakaaM2
import Derived.Laws.MakeOwn
import Derived.Laws.Entries
import Derived.Deep.QuietTactic
import Derived.BigQuiet
namespace Go.Proofs.Ytabiobjcfopakaa
open Go.RowKit
/-- Block g is just the cells cs of element type t. -/
def Blk (w : World) (g : Nat) (t : TypeId) (cs : List Value) : Prop := w.heap[g]? = some (.cells cs.toArray t (0, 0))
section
variable {w w' : World} {g : Nat} {t : TypeId} {cs : List Value}
theorem Blk.lt (h : Blk w g t cs) : g < w.heap.size := by
  rcases Nat.lt_or_ge g w.heap.size with hlt | hge
  · exact hlt
  · unfold Blk at h; rw [Array.getElem?_eq_none hge] at h; cases h
theorem Blk.cell (h : Blk w g t cs) (i : Nat) : w.cell? ⟨g, i, Option.none⟩ = cs[i]? := by
  have := cell_of_row w g i cs.toArray t (0, 0) h
  rw [this]; simp
theorem Blk.frozen (h : Blk w g t cs) (i : Nat) : w.frozen? ⟨g, i, Option.none⟩ = false := by
  unfold Blk at h
  simp [World.frozen?, h]
theorem Blk.new (w : World) (t : TypeId) (cs : Array Value) : Blk (w.alloc (.cells cs t)) w.heap.size t cs.toList := heap_alloc_new w _
theorem Blk.alloc (h : Blk w g t cs) (o : Obj) : Blk (w.alloc o) g t cs := (Below.heap_alloc w o g h.lt).trans h
theorem Blk.set_ (h : Blk w g t cs) (i : Nat) (u : Value) : Blk (w.setCell ⟨g, i, Option.none⟩ u) g t (cs.set i u) := by
  unfold Blk at h ⊢
  simp [World.setCell, Array.getElem?_modify, h]
theorem Blk.far (h : Blk w g t cs) {p : Addr} (hp : g ≠ p.block) (u : Value) : Blk (w.setCell p u) g t cs := (Below.heap_setCell w p u g hp).trans h
theorem Blk.below {B : Nat} (h : Blk w g t cs) (hb : Below B w w') (hg : g < B) : Blk w' g t cs := (hb.block g hg).trans h
end
theorem bel_drewN (B : Nat) (w : World) (n : Nat) : Below B w (w.drewN n) := ⟨rfl, rfl, rfl, Nat.le_refl _, fun _ _ => rfl⟩
theorem set_mid (A B : List Value) (u v : Value) : (A ++ u :: B).set A.length v = A ++ v :: B := by
  rw [List.set_append_right _ _ (Nat.le_refl _)]; simp
/-- Nothing outside the blocks from lo to below hi has turned, and none has come. -/
structure Keep (lo hi : Nat) (w w' : World) : Prop where
  os : w'.os = w.os
  tape : w'.tape = w.tape
  output : w'.output = w.output
  size : w'.heap.size = w.heap.size
  block : ∀ k, k < lo ∨ hi ≤ k → w'.heap[k]? = w.heap[k]?
theorem Keep.refl (lo hi : Nat) (w : World) : Keep lo hi w w := ⟨rfl, rfl, rfl, rfl, fun _ _ => rfl⟩
theorem Keep.trans {lo hi : Nat} {a b c : World} (h : Keep lo hi a b) (k : Keep lo hi b c) : Keep lo hi a c :=
  ⟨k.os.trans h.os, k.tape.trans h.tape, k.output.trans h.output, k.size.trans h.size, fun i hi => (k.block i hi).trans (h.block i hi)⟩
theorem keep_drewN (lo hi : Nat) (w : World) (n : Nat) : Keep lo hi w (w.drewN n) := ⟨rfl, rfl, rfl, rfl, fun _ _ => rfl⟩
theorem Keep.mono {lo hi lo' hi' : Nat} {w w' : World} (h : Keep lo hi w w') (h1 : lo' ≤ lo) (h2 : hi ≤ hi') : Keep lo' hi' w w' :=
  ⟨h.os, h.tape, h.output, h.size, fun k hk => h.block k (by omega)⟩
theorem Keep.setCell {lo hi : Nat} {a w : World} (h : Keep lo hi a w) {p : Addr} (h1 : lo ≤ p.block) (h2 : p.block < hi) (u : Value) : Keep lo hi a (w.setCell p u) :=
  h.trans ⟨rfl, rfl, rfl, by simp [World.setCell], fun k hk => Below.heap_setCell _ _ _ _ (by omega)⟩
theorem Keep.bel {lo hi : Nat} {w w' : World} (h : Keep lo hi w w') : Below lo w w' := ⟨h.os, h.tape, h.output, Nat.le_of_eq h.size.symm, fun k hk => h.block k (.inl hk)⟩
/-- Nothing but block b has turned, and none has come. -/
structure Only (b : Option Nat) (w w' : World) : Prop where
  os : w'.os = w.os
  tape : w'.tape = w.tape
  output : w'.output = w.output
  size : w'.heap.size = w.heap.size
  block : ∀ k, some k ≠ b → w'.heap[k]? = w.heap[k]?
theorem Only.refl (b : Option Nat) (w : World) : Only b w w := ⟨rfl, rfl, rfl, rfl, fun _ _ => rfl⟩
theorem Only.setCell {b : Nat} {a w : World} (h : Only (some b) a w) {p : Addr} (hp : p.block = b) (u : Value) : Only (some b) a (w.setCell p u) :=
  ⟨h.os, h.tape, h.output, by simpa [World.setCell] using h.size, fun k hk => (Below.heap_setCell _ _ _ _ (by rintro rfl; exact hk (by rw [hp]))).trans (h.block k hk)⟩
theorem Only.keep {b : Option Nat} {lo hi : Nat} {w w' : World} (h : Only b w w') (hb : ∀ g, b = some g → lo ≤ g ∧ g < hi) : Keep lo hi w w' :=
  ⟨h.os, h.tape, h.output, h.size, fun k hk => h.block k (fun e => by have := hb k e.symm; omega)⟩
theorem OwI.only {w w' : World} {lo hi : Nat} {b : Option Nat} {v : Value} {xs : List Int} (h : OwI w lo hi v xs) (hk : Only b w w') (hd : ∀ g, v.ownBlock = some g → b ≠ some g) : OwI w' lo hi v xs := by
  refine ⟨⟨h.1.1, ?_⟩, h.2⟩
  rcases h.1.2 with hn | ⟨g, cap, cur, rfl, hl, hg, rest⟩
  · exact .inl hn
  · exact .inr ⟨g, cap, cur, rfl, hl, (hk.block g (fun e => hd g rfl e.symm)).trans hg, rest⟩
theorem OwI.range {w : World} {lo hi : Nat} {v : Value} {xs : List Int} (h : OwI w lo hi v xs) : ∀ g, v.ownBlock = some g → lo ≤ g ∧ g < hi := fun g hg => ⟨(h.1.lt g hg).1, h.2 g hg⟩
theorem OwI.keep {w w' : World} {lo hi a b : Nat} {v : Value} {xs : List Int} (h : OwI w lo hi v xs) (hk : Keep a b w w') (hd : hi ≤ a ∨ b ≤ lo) : OwI w' lo hi v xs := by
  refine ⟨⟨h.1.1, ?_⟩, h.2⟩
  have h2 := h.2
  rcases h.1.2 with hn | ⟨g, cap, cur, rfl, hl, hg, rest⟩
  · exact .inl hn
  · exact .inr ⟨g, cap, cur, rfl, hl, (hk.block g (by have := h2 g rfl; omega)).trans hg, rest⟩
theorem own_of_blk {w : World} {lo hi g : Nat} {xs : List Int} (h : Blk w g 3 (ints xs)) (h1 : lo ≤ g) (h2 : g < hi) (hm : xs.length ≤ maxLen) : OwI w lo hi (.slice (some ⟨g, 0, Option.none⟩) xs.length xs.length) xs :=
  ⟨⟨by simp, .inr ⟨g, xs.length, (ints xs).toArray, rfl, h1, h, Nat.le_refl _, hm, by simp, by simp [ints, List.take_of_length_le]⟩⟩, fun k hk => by cases hk; exact h2⟩
theorem run_make_rowN {P : Program} (t e : TypeId) (i : TypeInfo) (z : Value) (ht : P.underlying t = some (.slice e)) (hi : P.info? e = some i) (hz : i.zero = some z)
    (kl kc : IntKind) (n c : Nat) (hnc : n ≤ c) (hbytes : i.bytes * c ≤ 281474976710656) (h63 : c ≤ 9223372036854775807) (w : World) :
    (Instr.makeSlice t (.int kl (n : Int)) (.int kc (c : Int))).run P w = .ok (.slice (some ⟨w.heap.size, 0, Option.none⟩) n c) (w.alloc (.cells (madeCells z.cells (c * i.size)) e)) := by
  have hb : (i.bytes : Int) * (c : Int) ≤ 281474976710656 := by
    have h : ((i.bytes * c : Nat) : Int) ≤ 281474976710656 := by omega
    rwa [Int.natCast_mul] at h
  have hr := run_make (P := P) w t e i z ht hi hz kl kc n c (by omega) (by omega) hb (by omega)
  simp only [Int.toNat_natCast] at hr
  exact hr
/-- Room for n integers, all 0, behind a name. -/
def zeros (n : Nat) : Array Value := (List.replicate n (Value.int .i64 0)).toArray
theorem make_ints (n : Nat) (hn : n ≤ 1099511627776) (w : World) :
    (Instr.makeSlice 29 (.int .i64 (n : Int)) (.int .i64 (n : Int))).run Try.prog w = .ok (.slice (some ⟨w.heap.size, 0, Option.none⟩) n n) (w.alloc (.cells (zeros n) 3)) := by
  obtain ⟨i, hi, hz0, hz1, hz2⟩ := info_parts info_int
  have h := run_make_rowN (P := Try.prog) 29 3 i (.int .i64 0) Try.underlying29 hi hz0 .i64 .i64 n n (Nat.le_refl _) (by rw [hz2]; omega) (by omega) w
  rw [h, hz1]
  have e : madeCells (Value.int .i64 0).cells (n * 1) = zeros n := by
    apply Array.ext
    · simp [madeCells, zeros]
    · intro j h1 h2
      simp [madeCells, zeros, Value.cells, Nat.mod_one]
  rw [e]
theorem Rd.at_ {w : World} {hi : Nat} {v : Value} {n : Nat} {xs : List Int} (h : Rd w hi 1 v n (ints xs)) {k : Nat} (hk : k < n) :
    ∃ b off c y, v = .slice (some ⟨b, off, Option.none⟩) n c ∧ b < hi ∧ xs[k]? = some y ∧ w.cell? ⟨b, off + k, Option.none⟩ = some (.int .i64 y) := by
  obtain ⟨h0, A, c, h1, _, _, h4⟩ := h
  obtain ⟨b, off, rfl, hb, hc⟩ := h4 (by omega)
  have hl : xs.length = n := by simpa using h0
  exact ⟨b, off, c, xs[k], h1, hb, by simp [hl, hk], hc k _ (by simp [hl, hk])⟩
theorem Rd.form {w : World} {hi size : Nat} {v : Value} {n : Nat} {xs : List Value} (h : Rd w hi size v n xs) : ∃ A c, v = .slice A n c ∧ n ≤ c ∧ n ≤ 9223372036854775807 := by
  obtain ⟨_, A, c, h1, h2, h3, _⟩ := h
  exact ⟨A, c, h1, h2, by unfold maxLen at h3; omega⟩
def allB (xs : List Int) (a b : Int) : Bool := xs.all fun x => inB x a b
theorem take_snocI {xs : List Int} {k : Nat} {y : Int} (h : xs[k]? = some y) : xs.take (k + 1) = xs.take k ++ [y] := by rw [List.take_add_one, h]; rfl
theorem allB_take {xs : List Int} {k : Nat} {y a b : Int} (h : xs[k]? = some y) (ht : allB (xs.take k) a b = true) (hy : inB y a b = true) : allB (xs.take (k + 1)) a b = true := by
  rw [take_snocI h]; unfold allB at *; rw [List.all_append, ht]; simp [hy]
theorem allB_no {xs : List Int} {k : Nat} {y a b : Int} (h : xs[k]? = some y) (hy : inB y a b = false) : allB xs a b = false := by
  unfold allB; rw [List.all_eq_false]
  exact ⟨y, List.mem_of_getElem? h, by simp [hy]⟩
theorem allB_full {xs : List Int} {k : Nat} {a b : Int} (h : ¬ k < xs.length) (ht : allB (xs.take k) a b = true) : allB xs a b = true := by rwa [List.take_of_length_le (by omega)] at ht
theorem allWithin_any (xs : List Int) (a b : Int) (v : Value) (hi : Nat) (w : World) (h : RdI w hi v xs) : Calls Try.prog 181 #[v, .int .i64 a, .int .i64 b] w fun e w' => e = .returned (.bool (allB xs a b)) ∧ w = w' := by
  obtain ⟨A, c, rfl, hc, hm⟩ := Rd.form h
  have H := Lib.hid h
  clear h
  go_enter Try.func181, Try.ntmps181
  go_wp2
  go_loop [11] (fun i => ∃ k : Nat, k ≤ xs.length ∧ i = .int .i64 k ∧ Hid (allB (xs.take k) a b = true)) (fun i => xs.length - (intOf i).toNat)
  case atStart => exact ⟨0, Nat.zero_le _, rfl, rfl⟩
  case round =>
    obtain ⟨k, hk, rfl, hall⟩ := hrel
    by_cases hlt : k < xs.length
    · obtain ⟨b', off, c', y, hv, _, hy, hcell⟩ := Rd.at_ H.out hlt
      cases hv
      have HY := Lib.hid hy
      clear hy
      cases hin : inB y a b
      · go_wp2_with (go_at_call 125; refine (within_any _ _ _ _).mono ?_; rintro e w' ⟨rfl, rfl⟩)
        go_ret
        exact ⟨ret_bool (allB_no HY.out hin).symm, rfl⟩
      · go_wp2_with (go_at_call 125; refine (within_any _ _ _ _).mono ?_; rintro e w' ⟨rfl, rfl⟩)
        go_round
        case rel => exact ⟨k + 1, by omega, by go_num, allB_take HY.out hall.out hin⟩
        case measure => simp [intOf]; omega
    · go_wp2
      go_ret
      exact ⟨ret_bool (allB_full hlt hall.out).symm, rfl⟩
theorem l1All_any (xs : List Int) (a b : Int) (v : Value) (hi : Nat) (w : World) (h : RdI w hi v xs) : Calls Try.prog 184 #[v, .int .i64 a, .int .i64 b] w fun e w' => e = .returned (.bool (allB xs a b)) ∧ w = w' := by
  obtain ⟨A, c, rfl, hc, hm⟩ := Rd.form h
  have H := Lib.hid h
  clear h
  go_enter Try.func184, Try.ntmps184
  go_wp2
  go_loop [11] (fun i => ∃ k : Nat, k ≤ xs.length ∧ i = .int .i64 k ∧ Hid (allB (xs.take k) a b = true)) (fun i => xs.length - (intOf i).toNat)
  case atStart => exact ⟨0, Nat.zero_le _, rfl, rfl⟩
  case round =>
    obtain ⟨k, hk, rfl, hall⟩ := hrel
    by_cases hlt : k < xs.length
    · obtain ⟨b', off, c', y, hv, _, hy, hcell⟩ := Rd.at_ H.out hlt
      cases hv
      have HY := Lib.hid hy
      clear hy
      cases hin : inB y a b
      · go_wp2_with (go_at_call 191; refine (l1In_any _ _ _ _).mono ?_; rintro e w' ⟨rfl, rfl⟩)
        go_ret
        exact ⟨ret_bool (allB_no HY.out hin).symm, rfl⟩
      · go_wp2_with (go_at_call 191; refine (l1In_any _ _ _ _).mono ?_; rintro e w' ⟨rfl, rfl⟩)
        go_round
        case rel => exact ⟨k + 1, by omega, by go_num, allB_take HY.out hall.out hin⟩
        case measure => simp [intOf]; omega
    · go_wp2
      go_ret
      exact ⟨ret_bool (allB_full hlt hall.out).symm, rfl⟩
theorem eq_take {xs ys : List Int} {k : Nat} {y : Int} (hx : xs[k]? = some y) (hy : ys[k]? = some y) (ht : xs.take k = ys.take k) : xs.take (k + 1) = ys.take (k + 1) := by rw [take_snocI hx, take_snocI hy, ht]
theorem eq_no {xs ys : List Int} {k : Nat} {x y : Int} (hx : xs[k]? = some x) (hy : ys[k]? = some y) (hne : x ≠ y) : decide (xs = ys) = false := by
  rw [decide_eq_false_iff_not]; rintro rfl; rw [hx] at hy; cases hy; exact hne rfl
theorem eq_full {xs ys : List Int} {k : Nat} (h : ¬ k < xs.length) (hl : xs.length = ys.length) (ht : xs.take k = ys.take k) : decide (xs = ys) = true := by
  rw [List.take_of_length_le (by omega), List.take_of_length_le (by omega)] at ht; simp [ht]
theorem eqIntS_any (xs ys : List Int) (v u : Value) (hi hj : Nat) (w : World) (h : RdI w hi v xs) (g : RdI w hj u ys) : Calls Try.prog 57 #[v, u] w fun e w' => e = .returned (.bool (decide (xs = ys))) ∧ ∃ n, w' = w.drewN n := by
  obtain ⟨A, c, rfl, hc, hm⟩ := Rd.form h
  obtain ⟨A', c', rfl, hc', hm'⟩ := Rd.form g
  have H := Lib.hid h
  have G := Lib.hid g
  clear h g
  by_cases hl : xs.length = ys.length
  · have HL := Lib.hid hl
    rw [← hl]
    rw [← hl] at hc' hm'
    clear hl
    go_enter Try.func57, Try.ntmps57
    go_wp2
    go_loopw [5] (fun i wr => ∃ k : Nat, k ≤ xs.length ∧ i = .int .i64 k ∧ Hid (xs.take k = ys.take k) ∧ ∃ n, wr = w.drewN n) (fun i _ => xs.length - (intOf i).toNat)
    case atStart => exact ⟨0, Nat.zero_le _, rfl, rfl, 0, rfl⟩
    case round =>
      obtain ⟨k, hk, rfl, heq, n, rfl⟩ := hrel
      by_cases hlt : k < xs.length
      · obtain ⟨b1, o1, c1, x, hv, _, hx, hcell1⟩ := Rd.at_ H.out hlt
        cases hv
        obtain ⟨b2, o2, c2, y, hv, _, hy, hcell2⟩ := Rd.at_ G.out (by rw [← HL.out]; exact hlt)
        have HX := Lib.hid hx
        have HY := Lib.hid hy
        injection hv with hv1 hv2 hv3
        subst hv1
        clear hx hy hv2 hv3
        by_cases hxy : x = y
        · subst hxy
          go_wp2
          go_quiet (fail)
          go_wp2
          go_roundw
          case rel => exact ⟨k + 1, by omega, by go_num, eq_take HX.out HY.out heq.out, _, rfl⟩
          case measure => simp [intOf]; omega
        · have hbe : (x == y) = false := by simpa using hxy
          have hbn : (x != y) = true := by simpa using hxy
          go_wp2
          go_quiet (fail)
          go_wp2
          go_ret
          exact ⟨ret_bool (eq_no HX.out HY.out hxy).symm, _, World.drewN_drewN _ _ _⟩
      · go_wp2
        go_ret
        exact ⟨ret_bool (eq_full hlt HL.out heq.out).symm, _, rfl⟩
  · have hne : (((xs.length : Nat) : Int) != ((ys.length : Nat) : Int)) = true := by rw [bne_iff_ne]; omega
    go_enter Try.func57, Try.ntmps57
    go_wp2
    go_ret
    refine ⟨ret_bool ?_, 0, rfl⟩
    symm; rw [decide_eq_false_iff_not]; rintro rfl; exact hl rfl
/-- The first k of the numbers, then zeros, in n cells. -/
def partI (xs : List Int) (k : Nat) : List Value := ints (xs.take k) ++ List.replicate (xs.length - k) (Value.int .i64 0)
theorem partI_zero (xs : List Int) : partI xs 0 = (zeros xs.length).toList := by simp [partI, zeros, ints]
theorem partI_full (xs : List Int) : partI xs xs.length = ints xs := by simp [partI, ints]
theorem partI_step {xs : List Int} {k : Nat} {y : Int} (h : xs[k]? = some y) : (partI xs k).set k (.int .i64 y) = partI xs (k + 1) := by
  have hk : k < xs.length := (List.getElem?_eq_some_iff.1 h).1
  have e : List.replicate (xs.length - k) (Value.int .i64 0) = Value.int .i64 0 :: List.replicate (xs.length - (k + 1)) (Value.int .i64 0) := by
    rw [show xs.length - k = (xs.length - (k + 1)) + 1 by omega]; rfl
  have hl : (ints (xs.take k)).length = k := by simp; omega
  unfold partI
  rw [e, take_snocI h]
  have := set_mid (ints (xs.take k)) (List.replicate (xs.length - (k + 1)) (Value.int .i64 0)) (Value.int .i64 0) (.int .i64 y)
  rw [hl] at this
  rw [this]; simp [ints]
theorem partI_at {xs : List Int} {k : Nat} (h : k < xs.length) : (partI xs k)[k]? = some (.int .i64 0) := by
  have hl : (ints (xs.take k)).length = k := by simp; omega
  unfold partI
  rw [List.getElem?_append_right (by omega), hl, Nat.sub_self, List.getElem?_replicate, if_pos (by omega)]
theorem toIntS_any (xs : List Int) (v : Value) (hi : Nat) (w : World) (h : RdI w hi v xs) (hlen : xs.length ≤ 1099511627776) (hhi : hi ≤ w.heap.size) : Calls Try.prog 54 #[v] w (RetOwI xs w) := by
  obtain ⟨A, c, rfl, hc, hm⟩ := Rd.form h
  have H := Lib.hid h
  clear h
  have hmk := make_ints xs.length hlen
  go_enter Try.func54, Try.ntmps54
  go_wp2
  go_loopw [4] (fun i wr => ∃ k : Nat, k ≤ xs.length ∧ i = .int .i64 k ∧ Blk wr w.heap.size 3 (partI xs k) ∧ Below w.heap.size w wr) (fun i _ => xs.length - (intOf i).toNat)
  case atStart => exact ⟨0, Nat.zero_le _, rfl, by rw [partI_zero]; exact Blk.new _ _ _, (Below.refl _ _).alloc (Nat.le_refl _) _⟩
  case round =>
    obtain ⟨k, hk, rfl, hblk, hbel⟩ := hrel
    by_cases hlt : k < xs.length
    · obtain ⟨b1, o1, c1, x, hv, hb1, hx, hcell1⟩ := Rd.at_ (Rd.below H.out hbel hhi) hlt
      cases hv
      have hcell2 := hblk.cell k
      rw [partI_at hlt] at hcell2
      have hfr := hblk.frozen k
      have HX := Lib.hid hx
      clear hx
      go_wp2
      go_roundw
      case rel => exact ⟨k + 1, by omega, by go_num, by rw [← partI_step HX.out]; exact hblk.set_ _ _, hbel.setCell (Nat.le_refl _) _⟩
      case measure => simp [intOf]; omega
    · obtain rfl : k = xs.length := by omega
      rw [partI_full] at hblk
      go_wp2
      go_ret
      exact ⟨_, rfl, own_of_blk hblk (Nat.le_refl _) hblk.lt (by unfold maxLen; omega), hbel⟩
/-- n numbers from k on. -/
def marks (k n : Nat) : List Int := (List.range n).map fun i : Nat => ((k + i : Nat) : Int)
theorem marks_len (k n : Nat) : (marks k n).length = n := by simp [marks]
theorem marks_succ (k n : Nat) : marks k (n + 1) = marks k n ++ [((k + n : Nat) : Int)] := by simp [marks, List.range_succ]
theorem marks_at {k n j : Nat} (h : j < n) : (marks k n)[j]? = some ((k + j : Nat) : Int) := by simp [marks, h]
/-- Behind j rounds: j marks, then what was there. -/
def mixI (k j : Nat) (xs : List Int) (rest : List Value) : List Value := ints (marks k j) ++ (ints (xs.drop j) ++ rest)
theorem mixI_step {k j : Nat} {xs : List Int} {rest : List Value} (h : j < xs.length) : (mixI k j xs rest).set j (.int .i64 ((k + j : Nat) : Int)) = mixI k (j + 1) xs rest := by
  have e : xs.drop j = xs[j] :: xs.drop (j + 1) := List.drop_eq_getElem_cons h
  have hl : (ints (marks k j)).length = j := by simp [marks_len]
  unfold mixI
  rw [e]
  have := set_mid (ints (marks k j)) (ints (xs.drop (j + 1)) ++ rest) (.int .i64 xs[j]) (.int .i64 ((k + j : Nat) : Int))
  rw [hl] at this
  simp only [ints, List.map_cons, List.cons_append] at this ⊢
  rw [this, marks_succ]; simp
theorem mixI_at {k j : Nat} {xs : List Int} {rest : List Value} (h : j < xs.length) : ∃ u, (mixI k j xs rest)[j]? = some (.int .i64 u) := by
  have hl : (ints (marks k j)).length = j := by simp [marks_len]
  unfold mixI
  rw [List.getElem?_append_right (by omega), hl, Nat.sub_self, List.drop_eq_getElem_cons h]
  exact ⟨xs[j], rfl⟩
set_option maxHeartbeats 400000 in
theorem markIntS_only (xs : List Int) (v : Value) (lo hi k : Nat) (w : World) (h : OwI w lo hi v xs) (hk : k ≤ 1099511627776) (hlen : xs.length ≤ 1099511627776) :
    Calls Try.prog 58 #[v, .int .i64 (k : Int)] w fun e w' => e = .returned (.int .i64 ((k + xs.length : Nat) : Int)) ∧ OwI w' lo hi v (marks k xs.length) ∧ Only v.ownBlock w w' := by
  rcases h.1.2 with ⟨rfl, hn⟩ | ⟨g, cap, cur, rfl, hg1, hg2, hcap, hm, hs, ht⟩
  · have : xs = [] := List.eq_nil_of_length_eq_zero hn
    subst this
    have H := Lib.hid h
    clear h hn
    go_enter Try.func58, Try.ntmps58
    go_wp2
    go_loop [1, 5] (fun q i => i = .int .i64 0 ∧ q = .int .i64 (k : Int)) (fun _ _ => 0)
    case atStart => exact ⟨rfl, rfl⟩
    case round =>
      obtain ⟨rfl, rfl⟩ := hrel
      go_wp2
      go_ret
      exact ⟨rfl, H.out, Only.refl _ _⟩
  · have hg3 := h.2 g rfl
    have hrest : ∃ rest, cur.toList = ints xs ++ rest ∧ rest.length = cap - xs.length := ⟨cur.toList.drop xs.length, by rw [← List.take_append_drop xs.length cur.toList]; congr 1 <;> simp_all, by simp; omega⟩
    obtain ⟨rest, hcur, hrl⟩ := hrest
    have hb0 : Blk w g 3 (mixI k 0 xs rest) := by
      unfold Blk; rw [hg2]; congr 2
      unfold mixI; simp [marks, ← hcur]
    have HL := Lib.hid hrl
    clear hg2 hs ht hcur hrl h
    unfold maxLen at hm
    go_enter Try.func58, Try.ntmps58
    go_wp2
    go_loopw [1, 5] (fun q i wr => ∃ j : Nat, j ≤ xs.length ∧ i = .int .i64 j ∧ q = .int .i64 ((k + j : Nat) : Int) ∧ Blk wr g 3 (mixI k j xs rest) ∧ Only (some g) w wr) (fun _ i _ => xs.length - (intOf i).toNat)
    case atStart => exact ⟨0, Nat.zero_le _, rfl, rfl, hb0, Only.refl _ _⟩
    case round =>
      obtain ⟨j, hj, rfl, rfl, hblk, hkeep⟩ := hrel
      by_cases hlt : j < xs.length
      · obtain ⟨u, hu⟩ := mixI_at (k := k) (rest := rest) hlt
        have hcell2 := hblk.cell j
        rw [hu] at hcell2
        have hfr := hblk.frozen j
        clear hu
        go_wp2
        go_roundw
        case rel => exact ⟨j + 1, by omega, by go_num, int_val (by omega), by rw [← mixI_step hlt]; exact hblk.set_ _ _, hkeep.setCell (p := ⟨g, j, Option.none⟩) rfl _⟩
        case measure => simp [intOf]; omega
      · obtain rfl : j = xs.length := by omega
        go_wp2
        go_ret
        refine ⟨rfl, ⟨⟨by simp [marks_len], .inr ⟨g, cap, (mixI k xs.length xs rest).toArray, by rw [marks_len], hg1, hblk, by rw [marks_len]; exact hcap, by unfold maxLen; omega, ?_, ?_⟩⟩, fun q hq => by cases hq; exact hg3⟩, hkeep⟩
        · have := HL.out; simp [mixI, marks_len]; omega
        · simp [mixI, marks_len, ints]
theorem markIntS_any (xs : List Int) (v : Value) (lo hi k : Nat) (w : World) (h : OwI w lo hi v xs) (hk : k ≤ 1099511627776) (hlen : xs.length ≤ 1099511627776) :
    Calls Try.prog 58 #[v, .int .i64 (k : Int)] w fun e w' => e = .returned (.int .i64 ((k + xs.length : Nat) : Int)) ∧ OwI w' lo hi v (marks k xs.length) ∧ Keep lo hi w w' :=
  (markIntS_only xs v lo hi k w h hk hlen).mono fun _ _ ⟨he, h1, h2⟩ => ⟨he, h1, h2.keep h.range⟩
theorem markIntS_ex (xs : List Int) (v : Value) (lo hi k : Nat) (w : World) (h : OwI w lo hi v xs) (hk : k ≤ 1099511627776) (hlen : xs.length ≤ 1099511627776) :
    Calls Try.prog 58 #[v, .int .i64 (k : Int)] w fun e w' => ∃ q : Nat, e = .returned (.int .i64 (q : Int)) ∧ q ≤ k + xs.length ∧ OwI w' lo hi v (marks k xs.length) ∧ Keep lo hi w w' :=
  (markIntS_any xs v lo hi k w h hk hlen).mono fun _ _ ⟨he, h1, h2⟩ => ⟨_, he, Nat.le_refl _, h1, h2⟩
theorem heldIntS_any (n : Nat) (v : Value) (hi k : Nat) (w : World) (h : RdI w hi v (marks k n)) (hk : k ≤ 1099511627776) (hlen : n ≤ 1099511627776) :
    Calls Try.prog 63 #[v, .int .i64 (k : Int)] w fun e w' => e = .returned (.int .i64 ((k + n : Nat) : Int)) ∧ w = w' := by
  unfold RdI at h
  rw [marks_len] at h
  obtain ⟨A, c, rfl, hc, hm⟩ := Rd.form h
  have H := Lib.hid h
  clear h
  go_enter Try.func63, Try.ntmps63
  go_wp2
  go_loop [1, 5] (fun q i => ∃ j : Nat, j ≤ n ∧ i = .int .i64 j ∧ q = .int .i64 ((k + j : Nat) : Int)) (fun _ i => n - (intOf i).toNat)
  case atStart => exact ⟨0, Nat.zero_le _, rfl, rfl⟩
  case round =>
    obtain ⟨j, hj, rfl, rfl⟩ := hrel
    by_cases hlt : j < n
    · obtain ⟨b1, o1, c1, x, hv, _, hx, hcell1⟩ := Rd.at_ H.out hlt
      cases hv
      rw [marks_at hlt] at hx
      cases hx
      go_wp2
      go_round
      case rel => exact ⟨j + 1, by omega, by go_num, int_val (by omega)⟩
      case measure => simp [intOf]; omega
    · obtain rfl : j = n := by omega
      go_wp2
      go_ret
      exact ⟨rfl, rfl⟩
/-- Two results: a row of ints of the call's own, and a bool. -/
def RetOwT (xs : List Int) (b : Bool) (w : World) (e : Ending) (w' : World) : Prop := ∃ v, e = .returned (.tuple #[v, .bool b]) ∧ OwI w' w.heap.size w'.heap.size v xs ∧ Below w.heap.size w w'
theorem owI_nil (w : World) (lo hi : Nat) : OwI w lo hi (.slice Option.none 0 0) [] := ⟨World.ownsRow_nil _ _ _ _, fun k hk => by cases hk⟩
theorem retOwT_nil (w : World) (b : Bool) : RetOwT [] b w (.returned (.tuple #[.slice Option.none 0 0, .bool b])) w := ⟨_, rfl, owI_nil _ _ _, Below.refl _ _⟩
theorem OwI.form {w : World} {lo hi : Nat} {v : Value} {xs : List Int} (h : OwI w lo hi v xs) : ∃ A c, v = .slice A xs.length c ∧ xs.length ≤ 9223372036854775807 := by
  obtain ⟨A, c, h1, _, h2⟩ := Rd.form h.rd
  exact ⟨A, c, h1, h2⟩
theorem eqIntS_same (xs : List Int) (v u : Value) (hi hj : Nat) (w : World) (h : RdI w hi v xs) (g : RdI w hj u xs) : Calls Try.prog 57 #[v, u] w fun e w' => e = .returned (.bool true) ∧ ∃ n, w' = w.drewN n :=
  (eqIntS_any xs xs v u hi hj w h g).mono fun _ _ ⟨he, hw⟩ => ⟨by rw [he]; simp, hw⟩
theorem eqIntS_sameB (xs : List Int) (v u : Value) (hi hj : Nat) (w : World) (h : RdI w hi v xs) (g : RdI w hj u xs) : Calls Try.prog 57 #[v, u] w fun e w' => e = .returned (.bool true) ∧ Below w.heap.size w w' :=
  (eqIntS_same xs v u hi hj w h g).mono fun _ _ ⟨he, _, hw⟩ => ⟨he, by rw [hw]; exact bel_drewN _ _ _⟩
end Go.Proofs.Ytabiobjcfopakaa
