/- Texts of one claim, joined: J4, U2, B3, C1, K, D3, D4, D5, D6, D8, D9, E1, E2, H1. -/
import Derived.Deep.QuietTactic
import Derived.BigQuiet
import Derived.Shelf.GgClosure.Gives
import Derived.Test.YtabiobjcfopakaaShelf
import Derived.Test.YtabiobjcfopakaaC2ReadOneWay
/- Contracts: comparison of lists of numbers in a law, the bound on a law's inputs; what a list of bytes is; plain laws of signals. -/
namespace Go.Proofs.Ytabiobjcfopakaa
open Go.RowKit Go.ChangeShapes Go.WideShapes Go.ChangeAt Go.Deep
theorem u8_of (vs : List Value) (h : ∀ (i : Nat) (u : Value), vs[i]? = some u → ∃ n, u = Value.int .u8 n ∧ 0 ≤ n ∧ n ≤ 255) : ∃ zs, vs = bytesV zs := by
  induction vs with
  | nil => exact ⟨[], rfl⟩
  | cons v r ih =>
    obtain ⟨n, hn, h0, h1⟩ := h 0 v rfl
    obtain ⟨zs, hzs⟩ := ih (fun i u hu => h (i + 1) u (by simpa using hu))
    refine ⟨UInt8.ofNat n.toNat :: zs, ?_⟩
    rw [hn, hzs]
    have : ((UInt8.ofNat n.toNat).toNat : Int) = n := by
      rw [UInt8.toNat_ofNat']
      omega
    simp [bytesV]
    omega
theorem trod_u8 {H : Type} {enc : TypeId × Value → H} {P : Program} {w : World} {base : Nat} {spare : Nat → Bool} {held : Bool} {fuel : Nat} {t : TypeId} {v : Value} {x : DataW H × List MemPlace}
    (ht : P.underlying t = some (.int .u8)) (h : DataW.trod enc P w base spare held fuel t [v] = some x) : ∃ n, v = .int .u8 n ∧ 0 ≤ n ∧ n ≤ 255 := by
  obtain ⟨n, e1, _, e3⟩ := DataW.trod_int ht h
  refine ⟨n, by simpa using e1, ?_⟩
  simp [Lit.wf] at e3
  have a0 : IntKind.u8.min = 0 := by decide
  have a1 : IntKind.u8.max = 255 := by decide
  omega
theorem open_byteS {H : Type} {enc : TypeId × Value → H} {w : World} {spare : Nat → Bool} {held : Bool} {fuel : Nat} {v : Value} {x : DataW H × List MemPlace}
    (h : DataW.trod enc Try.prog w 0 spare held fuel 22 [v] = some x) : ∃ zs, RdU w w.heap.size v zs := by
  obtain ⟨n, vs, hr, hl, hk⟩ := open_row Try.underlying22 (by kernel_rfl) h
  obtain ⟨zs, rfl⟩ := u8_of vs (fun i u hu => by
    obtain ⟨f, y, hy⟩ := hk i u hu
    exact trod_u8 Try.underlying5 hy)
  have : zs.length = n := by simpa [bytesV] using hl
  subst this
  exact ⟨zs, hr⟩
theorem RdU.below {w w' : World} {hi : Nat} {v : Value} {zs : List UInt8} (h : RdU w hi v zs) {B : Nat} (hb : Below B w w') (hB : hi ≤ B) : RdU w' hi v zs := Rd.below h hb hB
set_option maxHeartbeats 400000 in
theorem sameInts_same (xs : List Int) (v u : Value) (hi hj : Nat) (w : World) (h : RdI w hi v xs) (g : RdI w hj u xs) : Calls Try.prog 25 #[v, u] w fun e w' => e = .returned (.bool true) ∧ ∃ n, w' = w.drewN n := by
  obtain ⟨A, c, rfl, hc, hm⟩ := Rd.form h
  obtain ⟨A', c', rfl, hc', hm'⟩ := Rd.form g
  have H := Lib.hid h
  have G := Lib.hid g
  clear h g
  go_enter Try.func25, Try.ntmps25
  go_wp2
  go_loopw [13] (fun i wr => ∃ k : Nat, k ≤ xs.length ∧ i = .int .i64 k ∧ ∃ n, wr = w.drewN n) (fun i _ => xs.length - (intOf i).toNat)
  case atStart => exact ⟨0, Nat.zero_le _, rfl, 0, rfl⟩
  case round =>
    obtain ⟨k, hk, rfl, n, rfl⟩ := hrel
    by_cases hlt : k < xs.length
    · obtain ⟨b1, o1, c1, x, hv, _, hx, hcell1⟩ := Rd.at_ H.out hlt
      cases hv
      obtain ⟨b2, o2, c2, y, hv, _, hy, hcell2⟩ := Rd.at_ G.out hlt
      injection hv with hv1 hv2 hv3
      subst hv1
      rw [hx] at hy
      cases hy
      clear hx hv2 hv3
      go_wp2
      go_quiet (fail)
      go_wp2
      go_roundw
      case rel => exact ⟨k + 1, by omega, by go_num, _, rfl⟩
      case measure => simp [intOf]; omega
    · go_wp2
      go_ret
      exact ⟨rfl, _, rfl⟩
set_option maxHeartbeats 400000 in
theorem qInts_same (xs : List Int) (v u : Value) (hi hj : Nat) (w : World) (h : RdI w hi v xs) (g : RdI w hj u xs) : Calls Try.prog 51 #[v, u] w fun e w' => e = .returned (.bool true) ∧ ∃ n, w' = w.drewN n := by
  obtain ⟨A, c, rfl, hc, hm⟩ := Rd.form h
  obtain ⟨A', c', rfl, hc', hm'⟩ := Rd.form g
  have H := Lib.hid h
  have G := Lib.hid g
  clear h g
  go_enter Try.func51, Try.ntmps51
  go_wp2
  go_loopw [13] (fun i wr => ∃ k : Nat, k ≤ xs.length ∧ i = .int .i64 k ∧ ∃ n, wr = w.drewN n) (fun i _ => xs.length - (intOf i).toNat)
  case atStart => exact ⟨0, Nat.zero_le _, rfl, 0, rfl⟩
  case round =>
    obtain ⟨k, hk, rfl, n, rfl⟩ := hrel
    by_cases hlt : k < xs.length
    · obtain ⟨b1, o1, c1, x, hv, _, hx, hcell1⟩ := Rd.at_ H.out hlt
      cases hv
      obtain ⟨b2, o2, c2, y, hv, _, hy, hcell2⟩ := Rd.at_ G.out hlt
      injection hv with hv1 hv2 hv3
      subst hv1
      rw [hx] at hy
      cases hy
      clear hx hv2 hv3
      go_wp2
      go_quiet (fail)
      go_wp2
      go_roundw
      case rel => exact ⟨k + 1, by omega, by go_num, _, rfl⟩
      case measure => simp [intOf]; omega
    · go_wp2
      go_ret
      exact ⟨rfl, _, rfl⟩
theorem big_any (a b : List UInt8) (v u : Value) (hi hj : Nat) (w : World) (h : RdU w hi v a) (g : RdU w hj u b) : Calls Try.prog 15 #[v, u] w fun e w' => e = .returned (.bool (decide (1048576 < a.length) || decide (1048576 - (a.length : Int) < b.length))) ∧ w = w' := by
  obtain ⟨A, c, rfl, hc, hm⟩ := Rd.form h
  obtain ⟨A', c', rfl, hc', hm'⟩ := Rd.form g
  clear h g
  by_cases h1 : 1048576 < a.length
  · go_enter Try.func15, Try.ntmps15
    go_wp2
    go_ret
    exact ⟨ret_bool (by simp), rfl⟩
  · by_cases h2 : 1048576 - (a.length : Int) < b.length
    · go_enter Try.func15, Try.ntmps15
      go_wp2
      go_ret
      exact ⟨ret_bool (by simp [h2]), rfl⟩
    · go_enter Try.func15, Try.ntmps15
      go_wp2
      go_ret
      exact ⟨ret_bool (by simp; omega), rfl⟩
theorem read_text : ∀ n, n < 64 → readM (sgT n 6) = some n := by decide +kernel
theorem mir_mir : ∀ n, n < 64 → (n / 8 + n % 8 * 8) / 8 + (n / 8 + n % 8 * 8) % 8 * 8 = n := by decide +kernel
theorem mir_lt : ∀ n, n < 64 → n / 8 + n % 8 * 8 < 64 := by decide +kernel
theorem open_closed : ∀ n, n < 64 → (shutM (63 - n) 6).length + (shutM n 6).length = 6 := by decide +kernel
theorem dist_sym : ∀ n, n < 64 → ∀ m, m < 64 → distM m n = distM n m := by decide +kernel
theorem dist_mir : ∀ n, n < 64 → ∀ m, m < 64 → distM (n / 8 + n % 8 * 8) (m / 8 + m % 8 * 8) = distM n m := by decide +kernel
end Go.Proofs.Ytabiobjcfopakaa
/- Contracts for the laws over drawn things: equal lists are told equal, and nothing that was there changes. -/
namespace Go.Proofs.Ytabiobjcfopakaa
open Go.RowKit
theorem qInts_sameB (xs : List Int) (v u : Value) (hi hj : Nat) (w : World) (h : RdI w hi v xs) (g : RdI w hj u xs) : Calls Try.prog 51 #[v, u] w fun e w' => e = .returned (.bool true) ∧ Below w.heap.size w w' :=
  (qInts_same xs v u hi hj w h g).mono fun _ _ ⟨he, n, hw⟩ => ⟨he, by rw [hw]; exact bel_drewN _ _ _⟩
end Go.Proofs.Ytabiobjcfopakaa
/- Contracts of the sums of a word, of the cost of lengths and of their bounds. -/
namespace Go.Proofs.Ytabiobjcfopakaa
open Go.RowKit
theorem allB_mem {xs : List Int} {k : Nat} {y a b : Int} (h : xs[k]? = some y) (hb : allB xs a b = true) : a ≤ y ∧ y ≤ b := by
  unfold allB at hb; rw [List.all_eq_true] at hb
  exact inB_iff.1 (hb y (List.mem_of_getElem? h))
theorem allB_takeT {xs : List Int} {a b : Int} (hb : allB xs a b = true) (k : Nat) : allB (xs.take k) a b = true := by
  unfold allB at *; rw [List.all_eq_true] at *
  intro x hx; exact hb x (List.mem_of_mem_take hx)
theorem sum_bd (xs : List Int) (b : Int) (hb : allB xs 0 b = true) : 0 ≤ xs.sum ∧ xs.sum ≤ b * xs.length := by
  induction xs with
  | nil => simp
  | cons x r ih =>
    unfold allB at hb ih
    simp only [List.all_cons, Bool.and_eq_true] at hb
    have h1 := inB_iff.1 hb.1
    have h2 := ih hb.2
    simp only [List.sum_cons, List.length_cons]
    have e : b * ((r.length + 1 : Nat) : Int) = b * r.length + b := by rw [Int.natCast_add, Int.mul_add]; simp
    rw [e]; omega
theorem allB_mono {xs : List Int} {a b a' b' : Int} (h : allB xs a b = true) (h1 : a' ≤ a) (h2 : b ≤ b') : allB xs a' b' = true := by
  unfold allB at *; rw [List.all_eq_true] at *
  intro x hx; have := inB_iff.1 (h x hx); exact inB_iff.2 ⟨by omega, by omega⟩
/-- The sum of the numbers, each times its place, from place i + 1 on. -/
def wsumI : Nat → List Int → Int
  | _, [] => 0
  | i, x :: r => ((i : Int) + 1) * x + wsumI (i + 1) r
theorem wsumI_snoc (i : Nat) (l : List Int) (y : Int) : wsumI i (l ++ [y]) = wsumI i l + ((i : Int) + l.length + 1) * y := by
  induction l generalizing i with
  | nil => simp [wsumI]
  | cons x r ih =>
    simp only [List.cons_append, wsumI, ih, List.length_cons]
    have e : ((i + 1 : Nat) : Int) + r.length + 1 = (i : Int) + ((r.length + 1 : Nat) : Int) + 1 := by omega
    rw [e]; omega
theorem wsum_bd (k : Nat) (xs : List Int) (hb : allB xs 1 61 = true) (hk : k ≤ xs.length) (hl : xs.length ≤ 50) : 0 ≤ wsumI 0 (xs.take k) ∧ wsumI 0 (xs.take k) ≤ 3050 * k := by
  induction k with
  | zero => simp [wsumI]
  | succ k ih =>
    have ih := ih (by omega)
    have hy : xs[k]? = some xs[k] := by simp [show k < xs.length by omega]
    rw [take_snocI hy, wsumI_snoc]
    have hm := allB_mem hy hb
    have hlen : (xs.take k).length = k := by simp; omega
    rw [hlen]
    have h0 : 0 ≤ ((0 : Nat) : Int) + k + 1 := by omega
    have h1 : (((0 : Nat) : Int) + k + 1) * xs[k] ≤ 50 * 61 := Int.mul_le_mul (by omega) hm.2 (by omega) (by omega)
    have h2 : 0 ≤ (((0 : Nat) : Int) + k + 1) * xs[k] := Int.mul_nonneg h0 (by omega)
    omega
theorem w_step {k : Nat} {xs : List Int} {y : Int} (h : xs[k]? = some y) (hb : allB xs 1 61 = true) (hl : xs.length ≤ 50) :
    wrap64 ((k + 1 : Int) * y) = (k + 1 : Int) * y ∧ wsumI 0 (xs.take k) + (k + 1 : Int) * y = wsumI 0 (xs.take (k + 1)) ∧ 0 ≤ (k + 1 : Int) * y ∧ (k + 1 : Int) * y ≤ 3050 := by
  have hk : k < xs.length := (List.getElem?_eq_some_iff.1 h).1
  have hm := allB_mem h hb
  have h1 : ((k : Int) + 1) * y ≤ 50 * 61 := Int.mul_le_mul (by omega) hm.2 (by omega) (by omega)
  have h2 : 0 ≤ ((k : Int) + 1) * y := Int.mul_nonneg (by omega) (by omega)
  refine ⟨wrap_id (by omega) (by omega), ?_, h2, by omega⟩
  have hlen : (xs.take k).length = k := by simp; omega
  rw [take_snocI h, wsumI_snoc, hlen]; simp
theorem sum_takeI {xs : List Int} {k : Nat} {y : Int} (h : xs[k]? = some y) : (xs.take (k + 1)).sum = (xs.take k).sum + y := by rw [take_snocI h, List.sum_append]; simp

def lenB (xs : List Int) (n : Nat) : Bool := decide (xs.length ≤ n)
def wordB (xs : List Int) : Bool := lenB xs 50 && allB xs 1 61
theorem wordB_iff {xs : List Int} : wordB xs = true ↔ xs.length ≤ 50 ∧ allB xs 1 61 = true := by simp [wordB, lenB]
def sumHoldsT (xs : List Int) : Value := if wordB xs then .tuple #[.bool (xs.sum % 61 == 0), .bool true] else .tuple #[.bool false, .bool false]
def synOfT (xs : List Int) : Value := if wordB xs then .tuple #[.int .i64 (xs.sum % 61), .int .i64 (wsumI 0 xs % 61), .bool true] else .tuple #[.int .i64 0, .int .i64 0, .bool false]
end Go.Proofs.Ytabiobjcfopakaa
/- Contracts of the comparisons of lists and of their beginnings, of the program and of the reference. -/
namespace Go.Proofs.Ytabiobjcfopakaa
open Go.RowKit
/-- A slice cut off at its end. -/
theorem Rd.cut {w : World} {hi n c : Nat} {A : Option Addr} {xs : List Value} (h : Rd w hi 1 (.slice A n c) n xs) {k : Nat} (hk : k ≤ n) : Rd w hi 1 (.slice A k c) k (xs.take k) := by
  obtain ⟨h0, A', c', hv, h1, h2, h3⟩ := h
  cases hv
  refine ⟨by rw [List.length_take]; omega, A, c, rfl, by omega, h2, fun hp => ?_⟩
  obtain ⟨b, off, hA, hb, hc⟩ := h3 (by omega)
  refine ⟨b, off, hA, hb, fun j u hu => hc j u ?_⟩
  rw [List.getElem?_take] at hu
  split at hu
  · exact hu
  · cases hu
theorem RdI.cut {w : World} {hi c : Nat} {A : Option Addr} {xs : List Int} (h : RdI w hi (.slice A xs.length c) xs) {k : Nat} (hk : k ≤ xs.length) : RdI w hi (.slice A k c) (xs.take k) := by
  have h1 := Rd.cut h hk
  have hl : (xs.take k).length = k := by rw [List.length_take]; omega
  unfold RdI
  rw [hl]
  simpa [ints] using h1
/-- Does the first list begin the second? -/
def begB (xs ys : List Int) : Bool := decide (xs.length ≤ ys.length) && decide (xs = ys.take xs.length)
theorem begB_iff {xs ys : List Int} : begB xs ys = true ↔ xs <+: ys := by
  unfold begB
  rw [Bool.and_eq_true, decide_eq_true_eq, decide_eq_true_eq, List.prefix_iff_eq_take]
  constructor
  · rintro ⟨_, h⟩; exact h
  · intro h
    refine ⟨?_, h⟩
    have := congrArg List.length h
    rw [List.length_take] at this
    omega
set_option maxHeartbeats 400000 in
theorem l1Same_any (xs ys : List Int) (v u : Value) (hi hj : Nat) (w : World) (h : RdI w hi v xs) (g : RdI w hj u ys) : Calls Try.prog 249 #[v, u] w fun e w' => e = .returned (.bool (decide (xs = ys))) ∧ ∃ n, w' = w.drewN n := by
  obtain ⟨A, c, rfl, hc, hm⟩ := Rd.form h
  obtain ⟨A', c', rfl, hc', hm'⟩ := Rd.form g
  have H := Lib.hid h
  have G := Lib.hid g
  clear h g
  by_cases hl : xs.length = ys.length
  · have HL := Lib.hid hl
    rw [← hl]
    rw [← hl] at hc' hm'
    clear hl
    go_enter Try.func249, Try.ntmps249
    go_wp2
    go_loopw [13] (fun i wr => ∃ k : Nat, k ≤ xs.length ∧ i = .int .i64 k ∧ Hid (xs.take k = ys.take k) ∧ ∃ n, wr = w.drewN n) (fun i _ => xs.length - (intOf i).toNat)
    case atStart => exact ⟨0, Nat.zero_le _, rfl, rfl, 0, rfl⟩
    case round =>
      obtain ⟨k, hk, rfl, heq, n, rfl⟩ := hrel
      by_cases hlt : k < xs.length
      · obtain ⟨b1, o1, c1, x, hv, _, hx, hcell1⟩ := Rd.at_ H.out hlt
        cases hv
        obtain ⟨b2, o2, c2, y, hv, _, hy, hcell2⟩ := Rd.at_ G.out (by rw [← HL.out]; exact hlt)
        have HX := Lib.hid hx
        have HY := Lib.hid hy
        injection hv with hv1 hv2 hv3
        subst hv1
        clear hx hy hv2 hv3
        by_cases hxy : x = y
        · subst hxy
          go_wp2
          go_quiet (fail)
          go_wp2
          go_roundw
          case rel => exact ⟨k + 1, by omega, by go_num, eq_take HX.out HY.out heq.out, _, rfl⟩
          case measure => simp [intOf]; omega
        · have hbe : (x == y) = false := by simpa using hxy
          have hbn : (x != y) = true := by simpa using hxy
          go_wp2
          go_quiet (fail)
          go_wp2
          go_ret
          exact ⟨ret_bool (eq_no HX.out HY.out hxy).symm, _, World.drewN_drewN _ _ _⟩
      · go_wp2
        go_ret
        exact ⟨ret_bool (eq_full hlt HL.out heq.out).symm, _, rfl⟩
  · have hne : (((xs.length : Nat) : Int) != ((ys.length : Nat) : Int)) = true := by rw [bne_iff_ne]; omega
    go_enter Try.func249, Try.ntmps249
    go_wp2
    go_ret
    refine ⟨ret_bool ?_, 0, rfl⟩
    symm; rw [decide_eq_false_iff_not]; rintro rfl; exact hl rfl
set_option maxHeartbeats 400000 in
theorem slicesEqual_any (xs ys : List Int) (v u : Value) (hi hj : Nat) (w : World) (h : RdI w hi v xs) (g : RdI w hj u ys) : Calls Try.prog 221 #[v, u] w fun e w' => e = .returned (.bool (decide (xs = ys))) ∧ ∃ n, w' = w.drewN n := by
  obtain ⟨A, c, rfl, hc, hm⟩ := Rd.form h
  obtain ⟨A', c', rfl, hc', hm'⟩ := Rd.form g
  have H := Lib.hid h
  have G := Lib.hid g
  clear h g
  by_cases hl : xs.length = ys.length
  · have HL := Lib.hid hl
    rw [← hl]
    rw [← hl] at hc' hm'
    clear hl
    go_enter Try.func221, Try.ntmps221
    go_wp2
    go_loopw [13] (fun i wr => ∃ k : Nat, k ≤ xs.length ∧ i = .int .i64 k ∧ Hid (xs.take k = ys.take k) ∧ ∃ n, wr = w.drewN n) (fun i _ => xs.length - (intOf i).toNat)
    case atStart => exact ⟨0, Nat.zero_le _, rfl, rfl, 0, rfl⟩
    case round =>
      obtain ⟨k, hk, rfl, heq, n, rfl⟩ := hrel
      by_cases hlt : k < xs.length
      · obtain ⟨b1, o1, c1, x, hv, _, hx, hcell1⟩ := Rd.at_ H.out hlt
        cases hv
        obtain ⟨b2, o2, c2, y, hv, _, hy, hcell2⟩ := Rd.at_ G.out (by rw [← HL.out]; exact hlt)
        have HX := Lib.hid hx
        have HY := Lib.hid hy
        injection hv with hv1 hv2 hv3
        subst hv1
        clear hx hy hv2 hv3
        by_cases hxy : x = y
        · subst hxy
          go_wp2
          go_quiet (fail)
          go_wp2
          go_roundw
          case rel => exact ⟨k + 1, by omega, by go_num, eq_take HX.out HY.out heq.out, _, rfl⟩
          case measure => simp [intOf]; omega
        · have hbe : (x == y) = false := by simpa using hxy
          have hbn : (x != y) = true := by simpa using hxy
          go_wp2
          go_quiet (fail)
          go_wp2
          go_ret
          exact ⟨ret_bool (eq_no HX.out HY.out hxy).symm, _, World.drewN_drewN _ _ _⟩
      · go_wp2
        go_ret
        exact ⟨ret_bool (eq_full hlt HL.out heq.out).symm, _, rfl⟩
  · have hne : (((xs.length : Nat) : Int) != ((ys.length : Nat) : Int)) = true := by rw [bne_iff_ne]; omega
    go_enter Try.func221, Try.ntmps221
    go_wp2
    go_ret
    refine ⟨ret_bool ?_, 0, rfl⟩
    symm; rw [decide_eq_false_iff_not]; rintro rfl; exact hl rfl
theorem bkBegins_any (xs ys : List Int) (v u : Value) (hi hj : Nat) (w : World) (h : RdI w hi v xs) (g : RdI w hj u ys) : Calls Try.prog 209 #[v, u] w fun e w' => e = .returned (.bool (begB xs ys)) ∧ ∃ n, w' = w.drewN n := by
  obtain ⟨A, c, rfl, hc, hm⟩ := Rd.form h
  obtain ⟨A', c', rfl, hc', hm'⟩ := Rd.form g
  unfold begB
  by_cases hl : xs.length ≤ ys.length
  · rw [decide_eq_true hl, Bool.true_and]
    have H := Lib.hid h
    have G := Lib.hid (RdI.cut g hl)
    clear h g
    go_enter Try.func209, Try.ntmps209
    go_wp2_with fail
    refine (l1Same_any xs (ys.take xs.length) _ _ hi hj _ H.out G.out).mono ?_
    rintro e w' ⟨rfl, n, rfl⟩
    go_wp2
    go_ret
    exact ⟨rfl, n, rfl⟩
  · rw [decide_eq_false hl, Bool.false_and]
    clear h g
    go_enter Try.func209, Try.ntmps209
    go_wp2_with fail
    go_ret
    exact ⟨rfl, 0, rfl⟩
theorem begins_any (xs ys : List Int) (v u : Value) (hi hj : Nat) (w : World) (h : RdI w hi v xs) (g : RdI w hj u ys) : Calls Try.prog 208 #[v, u] w fun e w' => e = .returned (.bool (begB xs ys)) ∧ ∃ n, w' = w.drewN n := by
  obtain ⟨A, c, rfl, hc, hm⟩ := Rd.form h
  obtain ⟨A', c', rfl, hc', hm'⟩ := Rd.form g
  unfold begB
  by_cases hl : xs.length ≤ ys.length
  · rw [decide_eq_true hl, Bool.true_and]
    have H := Lib.hid h
    have G := Lib.hid (RdI.cut g hl)
    clear h g
    go_enter Try.func208, Try.ntmps208
    go_wp2_with fail
    refine (slicesEqual_any xs (ys.take xs.length) _ _ hi hj _ H.out G.out).mono ?_
    rintro e w' ⟨rfl, n, rfl⟩
    go_wp2
    go_ret
    exact ⟨rfl, n, rfl⟩
  · rw [decide_eq_false hl, Bool.false_and]
    clear h g
    go_enter Try.func208, Try.ntmps208
    go_wp2_with fail
    go_ret
    exact ⟨rfl, 0, rfl⟩
end Go.Proofs.Ytabiobjcfopakaa
/- A drawn region whose operations only read old memory and whose calls may lay new memory: one walk in the order of the text serves every order. Facts on worlds that came later. -/
namespace Go.Proofs.Ytabiobjcfopakaa
open Go Go.RowKit
/-- A world in which all below block B is as in w. -/
structure LaterW (B : Nat) (w : World) where
  val : World
  bel : Below B w val
instance laterSome {B : Nat} {w : World} : Nonempty (LaterW B w) := ⟨⟨w, Below.refl _ _⟩⟩
theorem wp_region_later {P : Program} {id : Nat} {Q : Exit → Act → World → Prop} {a : Act} {w : World} {l : List Oper} (B : Nat) (hm : P.follows .mixedOrders = true) (hB : Region.lexB .any l.toArray = true)
    (h : wpQuiet P l.toArray (fun w' => ∃ x : LaterW B w, w' = x.val) (fun a' => ∀ w', (∃ x : LaterW B w, w' = x.val) → Q .normal a' w') l a) : (Code.region id l.toArray true).wp P Q a w :=
  wp_region_quiet (C := fun w' => ∃ x : LaterW B w, w' = x.val) hm hB ⟨⟨_, bel_drewN B w 1⟩, rfl⟩ (by simpa using h)
theorem later_nil {P : Program} {ops : Array Oper} {C : World → Prop} {B : Nat} {w : World} {a : Act} {Q : Act → World → Prop}
    (h : ∀ w', Below B w w' → Q a w') : wpQuiet P ops C (fun a' => ∀ w', (∃ x : LaterW B w, w' = x.val) → Q a' w') [] a :=
  wpQuiet_nil fun _ ⟨x, e⟩ => e ▸ h _ x.bel
theorem later_of {P : Program} {f : FuncId} {args : Array Value} {B : Nat} {w : World} {x : LaterW B w} {v : Value} (hB : B ≤ w.heap.size)
    (h : Calls P f args x.val fun e w' => e = .returned v ∧ Below x.val.heap.size x.val w') : Calls P f args x.val fun e w'' => e = .returned v ∧ ∃ y : LaterW B w, w'' = y.val :=
  h.mono fun _ w' ⟨he, hb⟩ => ⟨he, ⟨w', x.bel.trans (hb.mono (by have := x.bel.size; omega))⟩, rfl⟩
theorem later_same {P : Program} {f : FuncId} {args : Array Value} {B : Nat} {w : World} {x : LaterW B w} {v : Value}
    (h : Calls P f args x.val fun e w' => e = .returned v ∧ x.val = w') : Calls P f args x.val fun e w'' => e = .returned v ∧ ∃ y : LaterW B w, w'' = y.val :=
  h.mono fun _ _ ⟨he, hb⟩ => ⟨he, x, hb.symm⟩
theorem later_drawn {P : Program} {f : FuncId} {args : Array Value} {B : Nat} {w : World} {x : LaterW B w} {v : Value}
    (h : Calls P f args x.val fun e w' => e = .returned v ∧ ∃ n, w' = x.val.drewN n) : Calls P f args x.val fun e w'' => e = .returned v ∧ ∃ y : LaterW B w, w'' = y.val :=
  h.mono fun _ w' ⟨he, n, hb⟩ => ⟨he, ⟨w', by rw [hb]; exact x.bel.trans (bel_drewN _ _ _)⟩, rfl⟩
theorem later_cell {B : Nat} {w : World} {b o : Nat} {v : Value} (h : w.cell? ⟨b, o, Option.none⟩ = some v) (hb : b < B) : ∀ x : LaterW B w, x.val.cell? ⟨b, o, Option.none⟩ = some v :=
  fun x => (x.bel.cell (p := ⟨b, o, Option.none⟩) hb).trans h
theorem later_fact {B : Nat} {w : World} {p : World → Prop} (h : ∀ w', Below B w w' → p w') : ∀ x : LaterW B w, p x.val := fun x => h _ x.bel
end Go.Proofs.Ytabiobjcfopakaa
/- Contracts of the tests whether a book is valid, of the reference. -/
namespace Go.Proofs.Ytabiobjcfopakaa
open Go.RowKit
def sigOk (xs : List Int) : Bool := inB xs.length 1 3 && allB xs 1 60
theorem bkSignals_any (xs : List Int) (v : Value) (hi : Nat) (w : World) (h : RdI w hi v xs) : Calls Try.prog 214 #[v] w fun e w' => e = .returned (.bool (sigOk xs)) ∧ w = w' := by
  obtain ⟨A, c, hv, hc, hm⟩ := Rd.form h
  have H := Lib.hid h
  clear h
  unfold sigOk
  cases hl : inB xs.length 1 3
  · rw [Bool.false_and]
    subst hv
    go_enter Try.func214, Try.ntmps214
    go_wp2_with (first | (go_at_call 191; refine (l1In_any _ _ _ _).mono ?_; rintro e w' ⟨rfl, rfl⟩) | (go_at_call 184; refine (l1All_any xs _ _ _ hi _ H.out).mono ?_; rintro e w' ⟨rfl, rfl⟩))
    go_ret
    exact ⟨rfl, rfl⟩
  · rw [Bool.true_and]
    subst hv
    go_enter Try.func214, Try.ntmps214
    go_wp2_with (first | (go_at_call 191; refine (l1In_any _ _ _ _).mono ?_; rintro e w' ⟨rfl, rfl⟩) | (go_at_call 184; refine (l1All_any xs _ _ _ hi _ H.out).mono ?_; rintro e w' ⟨rfl, rfl⟩))
    go_ret
    exact ⟨rfl, rfl⟩
/-- The place of the phrase with some signals. -/
def sigIx (ps : List Phr) (xs : List Int) : Option Nat := ps.findIdx? fun p => decide (p.2 = xs)
def ixI : Option Nat → Int
  | some i => (i : Int)
  | Option.none => -1
theorem findIdx_take {α : Type} {f : α → Bool} {l : List α} {k : Nat} (h : ∀ j, j < k → ∀ x, l[j]? = some x → f x = false) {x : α} (hx : l[k]? = some x) (hf : f x = true) : l.findIdx? f = some k := by
  induction l generalizing k with
  | nil => simp at hx
  | cons a r ih =>
    rw [List.findIdx?_cons]
    cases k with
    | zero => simp at hx; subst hx; rw [hf]; rfl
    | succ k =>
      have ha : f a = false := h 0 (by omega) a rfl
      rw [ha]
      have := ih (k := k) (fun j hj x hx => h (j + 1) (by omega) x (by simpa using hx)) (by simpa using hx)
      rw [this]; rfl
theorem findIdx_none {α : Type} {f : α → Bool} {l : List α} (h : ∀ (j : Nat) (x : α), l[j]? = some x → f x = false) : l.findIdx? f = Option.none := by
  rw [List.findIdx?_eq_none_iff]
  intro x hx
  obtain ⟨j, hj⟩ := List.getElem?_of_mem hx
  exact h j x hj
set_option maxHeartbeats 800000 in
theorem bkOf_any (ps : List Phr) (xs : List Int) (v u : Value) (hi hj : Nat) (w : World) (h : RdB w hi v ps) (g : RdI w hj u xs) (hh : hi ≤ w.heap.size) (hg : hj ≤ w.heap.size) :
    Calls Try.prog 215 #[v, u] w fun e w' => e = .returned (.int .i64 (ixI (sigIx ps xs))) ∧ Below w.heap.size w w' := by
  obtain ⟨a, rfl, ha⟩ := h
  obtain ⟨A, c, rfl, hc, hm⟩ := ha.form
  have hba : Below w.heap.size w (w.alloc (.cells #[.slice A ps.length c] 48)) := (Below.refl _ _).alloc (Nat.le_refl _) _
  have H := Lib.hid ha
  have G := Lib.hid g
  clear ha g
  go_enter Try.func215, Try.ntmps215
  go_wp2_with fail
  go_loopw [10] (fun i wr => ∃ k : Nat, k ≤ ps.length ∧ i = .int .i64 k ∧ Hid (∀ j, j < k → ∀ x, ps[j]? = some x → decide (x.2 = xs) = false) ∧ Below w.heap.size w wr) (fun i _ => ps.length - (intOf i).toNat)
  case atStart => exact ⟨0, Nat.zero_le _, rfl, fun j hj => by omega, hba⟩
  case round =>
    obtain ⟨k, hk, rfl, hno, hbr⟩ := hrel
    by_cases hlt : k < ps.length
    · obtain ⟨b1, o1, c1, a, t, ys, hv, hb1, hx, hcell1, hcell2, hra, hta⟩ := (H.out.below hbr hh).at_ hlt
      cases hv
      obtain ⟨A2, c2, rfl, hc2, hm2⟩ := Rd.form hra
      have hs := hbr.size
      have hb2 : Below w.heap.size w (wr.alloc (.cells #[.string t, .slice A2 ys.length c2] 60)) := hbr.alloc hs _
      have HA := Lib.hid (hra.below ((Below.refl wr.heap.size wr).alloc (Nat.le_refl _) (.cells #[.string t, .slice A2 ys.length c2] 60)) (by omega))
      have HX := Lib.hid hx
      clear hra hx
      by_cases hys : ys = xs
      · have HYS := Lib.hid hys
        clear hys
        go_wp2_with fail
        refine (l1Same_any ys xs _ _ hi hj _ HA.out (Rd.below G.out hb2 hg)).mono ?_
        rw [decide_eq_true HYS.out]
        rintro e w' ⟨rfl, n, rfl⟩
        go_wp2_with fail
        go_ret
        refine ⟨ret_int ?_, hb2.trans (bel_drewN _ _ _)⟩
        unfold sigIx
        rw [findIdx_take (fun j hj x hx => hno.out j hj x hx) HX.out (decide_eq_true HYS.out)]
        rfl
      · have HYS : Hid (decide (ys = xs) = false) := decide_eq_false hys
        clear hys
        go_wp2_with fail
        refine (l1Same_any ys xs _ _ hi hj _ HA.out (Rd.below G.out hb2 hg)).mono ?_
        rw [HYS.out]
        rintro e w' ⟨rfl, n, rfl⟩
        go_wp2_with fail
        go_roundw
        case rel => exact ⟨k + 1, by omega, by go_num, fun j hj x hx => by
          by_cases e : j = k
          · subst e; rw [HX.out] at hx; cases hx; exact HYS.out
          · exact hno.out j (by omega) x hx, hb2.trans (bel_drewN _ _ _)⟩
        case measure => simp [intOf]; omega
    · obtain rfl : k = ps.length := by omega
      go_wp2_with fail
      go_ret
      refine ⟨ret_int ?_, hbr⟩
      unfold sigIx
      rw [findIdx_none (fun j x hx => hno.out j (List.getElem?_eq_some_iff.1 hx).1 x hx)]
      rfl
theorem still_of {P : Program} {f : FuncId} {args : Array Value} {w : World} {v : Value} (h : Calls P f args w fun e w' => e = .returned v ∧ w = w') : Calls P f args w fun e w' => e = .returned v ∧ w' = w :=
  h.mono fun _ _ ⟨he, hw⟩ => ⟨he, hw.symm⟩
def ltT (a b : ByteArray) : Bool := Op.bytesLess a.toList b.toList
def phrOk (p : Phr) : Bool := phraseB p.1.data.toList && sigOk p.2
/-- Is the phrase at j fine, and fine behind those before it? -/
def goodAt (ps : List Phr) (j : Nat) : Bool := match ps[j]? with
  | some p => phrOk p && ((match j with | 0 => true | i + 1 => match ps[i]? with | some q => ltT q.1 p.1 | Option.none => true) && (sigIx ps p.2 == some j))
  | Option.none => true
def goodB (ps : List Phr) : Bool := (List.range ps.length).all fun j => goodAt ps j
def bookB (ps : List Phr) : Bool := inB ps.length 1 40 && goodB ps
theorem goodB_no {ps : List Phr} {k : Nat} (hk : k < ps.length) (h : goodAt ps k = false) : goodB ps = false := by
  unfold goodB; rw [List.all_eq_false]; exact ⟨k, List.mem_range.2 hk, by simp [h]⟩
theorem goodB_yes {ps : List Phr} (h : ∀ j, j < ps.length → goodAt ps j = true) : goodB ps = true := by
  unfold goodB; rw [List.all_eq_true]; intro j hj; exact h j (List.mem_range.1 hj)
theorem goodAt_phr {ps : List Phr} {k : Nat} {p : Phr} (hp : ps[k]? = some p) (h : phrOk p = false) : goodAt ps k = false := by unfold goodAt; rw [hp]; simp [h]
theorem goodAt_lt {ps : List Phr} {k : Nat} {p q : Phr} (hp : ps[k + 1]? = some p) (hq : ps[k]? = some q) (h : ltT q.1 p.1 = false) : goodAt ps (k + 1) = false := by unfold goodAt; rw [hp]; simp [hq, h]
theorem goodAt_ix {ps : List Phr} {k : Nat} {p : Phr} (hp : ps[k]? = some p) (h : sigIx ps p.2 ≠ some k) : goodAt ps k = false := by unfold goodAt; rw [hp]; simp [h]
theorem goodAt_0 {ps : List Phr} {p : Phr} (hp : ps[0]? = some p) (h : phrOk p = true) (h2 : sigIx ps p.2 = some 0) : goodAt ps 0 = true := by unfold goodAt; rw [hp]; simp [h, h2]
theorem goodAt_s {ps : List Phr} {k : Nat} {p q : Phr} (hp : ps[k + 1]? = some p) (hq : ps[k]? = some q) (h : phrOk p = true) (h1 : ltT q.1 p.1 = true) (h2 : sigIx ps p.2 = some (k + 1)) : goodAt ps (k + 1) = true := by unfold goodAt; rw [hp]; simp [h, h1, h2, hq]
theorem ixI_ne {o : Option Nat} {k : Nat} (h : o ≠ some k) : (ixI o != (k : Int)) = true := by
  rw [bne_iff_ne]; intro e; apply h
  cases o with
  | none => simp only [ixI] at e; omega
  | some i => simp only [ixI] at e; congr 1; omega
theorem ixI_eq {o : Option Nat} {k : Nat} (h : o = some k) : (ixI o != (k : Int)) = false := by subst h; simp [ixI]
end Go.Proofs.Ytabiobjcfopakaa
/- Contracts of the tests whether a book is valid, of the reference. -/
namespace Go.Proofs.Ytabiobjcfopakaa
open Go.RowKit
theorem bookB_no {ps : List Phr} {k : Nat} (hk : k < ps.length) (h : goodAt ps k = false) : bookB ps = false := by unfold bookB; rw [goodB_no hk h, Bool.and_false]
set_option maxRecDepth 100000 in
set_option maxHeartbeats 4000000 in
theorem bkGood_any (ps : List Phr) (v : Value) (hi : Nat) (w : World) (h : RdB w hi v ps) (hh : hi ≤ w.heap.size) :
    Calls Try.prog 134 #[v] w fun e w' => e = .returned (.bool (bookB ps)) ∧ Below w.heap.size w w' := by
  obtain ⟨a, rfl, ha⟩ := h
  obtain ⟨A, c, rfl, hc, hm⟩ := ha.form
  have hba : Below w.heap.size w (w.alloc (.cells #[.slice A ps.length c] 48)) := (Below.refl _ _).alloc (Nat.le_refl _) _
  have HBA := Lib.hid hba
  have H := Lib.hid (ha.below hba hh)
  have hbox : (w.alloc (.cells #[.slice A ps.length c] 48)).cell? ⟨w.heap.size, 0, Option.none⟩ = some (.slice A ps.length c) := (Blk.new w 48 #[.slice A ps.length c]).cell 0
  have HBOX := Lib.hid hbox
  clear ha hba hbox
  go_enter Try.func134, Try.ntmps134
  go_wp2_with fail
  go_loopw [8] (fun i wr => ∃ k : Nat, k ≤ ps.length ∧ i = .int .i64 k ∧ Hid (∀ j, j < k → goodAt ps j = true) ∧ Below (w.heap.size + 1) (w.alloc (.cells #[.slice A ps.length c] 48)) wr) (fun i _ => ps.length - (intOf i).toNat)
  case atStart => exact ⟨0, Nat.zero_le _, rfl, fun j hj => by omega, Below.refl _ _⟩
  case round =>
    obtain ⟨k, hk, rfl, hup, hbr⟩ := hrel
    have hs : w.heap.size + 1 ≤ wr.heap.size := by have := hbr.size; simpa using this
    have hboxr : wr.cell? ⟨w.heap.size, 0, Option.none⟩ = some (.slice A ps.length c) := (hbr.cell (p := ⟨w.heap.size, 0, Option.none⟩) (by show w.heap.size < _; omega)).trans HBOX.out
    by_cases hlt : k < ps.length
    · obtain ⟨b1, o1, c1, a, t, xs, hv, hb1, hx, hcell1, hcell2, hra, hta⟩ := (H.out.below hbr (by omega)).at_ hlt
      cases hv
      obtain ⟨A2, c2, rfl, hc2, hm2⟩ := Rd.form hra
      have HX := Lib.hid hx
      have HBR := Lib.hid (HBA.out.trans (hbr.mono (by omega)))
      have hbw1 : Below (w.heap.size + 1) (w.alloc (.cells #[.slice (some ⟨b1, o1, Option.none⟩) ps.length c] 48)) (wr.alloc (.cells #[.string t, .slice A2 xs.length c2] 60)) := hbr.alloc hs _
      have HBR2 := Lib.hid hbw1
      have hra2 := hra.below ((Below.refl wr.heap.size wr).alloc (Nat.le_refl _) (.cells #[.string t, .slice A2 xs.length c2] 60)) (by omega)
      have HRA := Lib.hid hra2
      have HPS : Hid (RdB (wr.alloc (.cells #[.string t, .slice A2 xs.length c2] 60)) hi (.agg #[.slice (some ⟨b1, o1, Option.none⟩) ps.length c]) ps) := ⟨_, rfl, H.out.below hbw1 (by omega)⟩
      have HPQ : Hid (RdPS (wr.alloc (.cells #[.string t, .slice A2 xs.length c2] 60)) hi (.slice (some ⟨b1, o1, Option.none⟩) ps.length c) ps) := H.out.below hbw1 (by omega)
      have hlat := fun {b o : Nat} {u : Value} (hq : (wr.alloc (.cells #[.string t, .slice A2 xs.length c2] 60)).cell? ⟨b, o, Option.none⟩ = some u) (hb : b < wr.heap.size + 1) => later_cell (B := wr.heap.size + 1) hq hb
      have l0 := hlat ((Blk.new wr 60 #[.string t, .slice A2 xs.length c2]).cell 0) (by omega)
      have l1 := hlat ((Blk.new wr 60 #[.string t, .slice A2 xs.length c2]).cell 1) (by omega)
      have lb := hlat ((hbw1.cell (p := ⟨w.heap.size, 0, Option.none⟩) (by show w.heap.size < _; omega)).trans HBOX.out) (by omega)
      clear hlat hra hra2 hx hbw1 hbr hboxr
      have hxs : wr.heap.size + 1 ≤ (wr.alloc (.cells #[.string t, .slice A2 xs.length c2] 60)).heap.size := by simp
      have HXS := Lib.hid hxs
      clear hxs
      have cT := fun x : LaterW (wr.heap.size + 1) (wr.alloc (.cells #[.string t, .slice A2 xs.length c2] 60)) => bkPhraseText_any t (by unfold maxLen; omega) x.val
      have cS := fun x : LaterW (wr.heap.size + 1) (wr.alloc (.cells #[.string t, .slice A2 xs.length c2] 60)) => bkSignals_any xs (.slice A2 xs.length c2) hi x.val (HRA.out.below x.bel (by omega))
      have cO := fun x : LaterW (wr.heap.size + 1) (wr.alloc (.cells #[.string t, .slice A2 xs.length c2] 60)) => bkOf_any ps xs (.agg #[.slice (some ⟨b1, o1, Option.none⟩) ps.length c]) (.slice A2 xs.length c2) hi hi x.val (HPS.out.below x.bel (by omega)) (HRA.out.below x.bel (by omega)) (by have := x.bel.size; have := HXS.out; omega) (by have := x.bel.size; have := HXS.out; omega)
      cases hp1 : phraseB t.data.toList
      · rw [hp1] at cT
        have CT := Lib.hid cT
        clear cT cS cO
        go_wp2_with fail
        refine wp_region_later (wr.heap.size + 1) (by kernel_rfl) (by kernel_rfl) ?_; (repeat (go_big_quiet_step ((go_at_call 213; exact later_same (CT.out _))))); refine later_nil ?_; intro w2 hb2
        go_wp2_with fail
        go_ret
        exact ⟨ret_bool (bookB_no hlt (goodAt_phr HX.out (by unfold phrOk; rw [hp1]; rfl))).symm, (HBA.out.trans (HBR2.out.mono (by omega))).trans (hb2.mono (by omega))⟩
      · cases hp2 : sigOk xs
        · rw [hp1] at cT
          rw [hp2] at cS
          have CT := Lib.hid cT
          have CS := Lib.hid cS
          clear cT cS cO
          go_wp2_with fail
          refine wp_region_later (wr.heap.size + 1) (by kernel_rfl) (by kernel_rfl) ?_; (repeat (go_big_quiet_step ((first | (go_at_call 213; exact later_same (CT.out _)) | (go_at_call 214; exact later_same (CS.out _)))))); refine later_nil ?_; intro w2 hb2
          go_wp2_with fail
          go_ret
          exact ⟨ret_bool (bookB_no hlt (goodAt_phr HX.out (by unfold phrOk; rw [hp1, hp2]; rfl))).symm, (HBA.out.trans (HBR2.out.mono (by omega))).trans (hb2.mono (by omega))⟩
        · have HP : Hid (phrOk (t, xs) = true) := by show phrOk (t, xs) = true; unfold phrOk; rw [hp1, hp2]; rfl
          rw [hp1] at cT
          rw [hp2] at cS
          have CT := Lib.hid cT
          have CS := Lib.hid cS
          have CO := Lib.hid cO
          clear cT cS cO
          rcases Nat.eq_zero_or_pos k with h0 | hpos
          · have hk0 : decide (0 < k) = false := by rw [decide_eq_false_iff_not]; omega
            have H0 := Lib.hid h0
            clear h0
            by_cases hix : sigIx ps xs = some k
            · have hne := ixI_eq hix
              have HIX := Lib.hid hix
              clear hix
              go_wp2_with fail
              refine wp_region_later (wr.heap.size + 1) (by kernel_rfl) (by kernel_rfl) ?_; (repeat (go_big_quiet_step ((first | (go_at_call 213; exact later_same (CT.out _)) | (go_at_call 214; exact later_same (CS.out _)) | (go_at_call 215; exact later_of (HXS.out) (CO.out _)))))); refine later_nil ?_; intro w2 hb2
              go_wp2_with fail
              go_roundw
              case rel => exact ⟨k + 1, by omega, by go_num, fun j hj => by
                obtain rfl : k = 0 := H0.out
                obtain rfl : j = 0 := by omega
                exact goodAt_0 HX.out HP.out HIX.out, HBR2.out.trans (hb2.mono (by omega))⟩
              case measure => simp [intOf]; omega
            · have hne := ixI_ne hix
              go_wp2_with fail
              refine wp_region_later (wr.heap.size + 1) (by kernel_rfl) (by kernel_rfl) ?_; (repeat (go_big_quiet_step ((first | (go_at_call 213; exact later_same (CT.out _)) | (go_at_call 214; exact later_same (CS.out _)) | (go_at_call 215; exact later_of (HXS.out) (CO.out _)))))); refine later_nil ?_; intro w2 hb2
              go_wp2_with fail
              go_ret
              exact ⟨ret_bool (bookB_no hlt (goodAt_ix HX.out hix)).symm, (HBA.out.trans (HBR2.out.mono (by omega))).trans (hb2.mono (by omega))⟩
          · have hk0 : decide (0 < k) = true := by rw [decide_eq_true_eq]; omega
            obtain ⟨b3, o3, c3, a3, q, ys, hv, hb3, hq, hcq, _, _, hqs⟩ := (HPQ.out).at_ (show k - 1 < ps.length by omega)
            cases hv
            have lq := later_cell (B := wr.heap.size + 1) hcq (by omega)
            have hi1 : (0 : Int) ≤ (k : Int) - 1 := by omega
            have hi2 : (k : Int) - 1 < (ps.length : Int) := by omega
            have hi3 : ((k : Int) - 1).toNat = k - 1 := by omega
            have HQ : Hid (ps[k - 1]? = some (q, ys)) := hq
            clear hq hcq
            have HK : Hid (∃ m, k = m + 1) := ⟨k - 1, by omega⟩
            cases hlt2 : ltT q t
            · have hl1 : Op.bytesLess q.toList t.toList = false := hlt2
              go_wp2_with fail
              refine wp_region_later (wr.heap.size + 1) (by kernel_rfl) (by kernel_rfl) ?_; (repeat (go_big_quiet_step ((first | (go_at_call 213; exact later_same (CT.out _)) | (go_at_call 214; exact later_same (CS.out _)) | (go_at_call 215; exact later_of (HXS.out) (CO.out _)))))); refine later_nil ?_; intro w2 hb2
              go_wp2_with fail
              go_ret
              refine ⟨ret_bool ?_, (HBA.out.trans (HBR2.out.mono (by omega))).trans (hb2.mono (by omega))⟩
              obtain ⟨m, rfl⟩ := HK.out
              exact (bookB_no hlt (goodAt_lt HX.out HQ.out hlt2)).symm
            · have hl1 : Op.bytesLess q.toList t.toList = true := hlt2
              by_cases hix : sigIx ps xs = some k
              · have hne := ixI_eq hix
                have HIX := Lib.hid hix
                clear hix
                go_wp2_with fail
                refine wp_region_later (wr.heap.size + 1) (by kernel_rfl) (by kernel_rfl) ?_; (repeat (go_big_quiet_step ((first | (go_at_call 213; exact later_same (CT.out _)) | (go_at_call 214; exact later_same (CS.out _)) | (go_at_call 215; exact later_of (HXS.out) (CO.out _)))))); refine later_nil ?_; intro w2 hb2
                go_wp2_with fail
                go_roundw
                case rel => exact ⟨k + 1, by omega, by go_num, fun j hj => by
                  by_cases e : j = k
                  · subst e
                    obtain ⟨m, rfl⟩ := HK.out
                    exact goodAt_s HX.out HQ.out HP.out hlt2 HIX.out
                  · exact hup.out j (by omega), HBR2.out.trans (hb2.mono (by omega))⟩
                case measure => simp [intOf]; omega
              · have hne := ixI_ne hix
                go_wp2_with fail
                refine wp_region_later (wr.heap.size + 1) (by kernel_rfl) (by kernel_rfl) ?_; (repeat (go_big_quiet_step ((first | (go_at_call 213; exact later_same (CT.out _)) | (go_at_call 214; exact later_same (CS.out _)) | (go_at_call 215; exact later_of (HXS.out) (CO.out _)))))); refine later_nil ?_; intro w2 hb2
                go_wp2_with fail
                go_ret
                exact ⟨ret_bool (bookB_no hlt (goodAt_ix HX.out hix)).symm, (HBA.out.trans (HBR2.out.mono (by omega))).trans (hb2.mono (by omega))⟩
    · obtain rfl : k = ps.length := by omega
      go_wp2_with (go_at_call 191; refine (l1In_any _ _ _ _).mono ?_; rintro e w' ⟨rfl, rfl⟩)
      go_ret
      refine ⟨ret_bool ?_, HBA.out.trans (hbr.mono (by omega))⟩
      unfold bookB
      rw [goodB_yes hup.out, Bool.and_true]
end Go.Proofs.Ytabiobjcfopakaa
/- Contracts of the tests whether a book is valid, of the program; of the search for a phrase by a predicate. -/
namespace Go.Proofs.Ytabiobjcfopakaa
open Go.RowKit
theorem zipC_take : ∀ (ts : List ByteArray) (us : List Value) (k : Nat), (zipC ts us).take (k * 2) = zipC (ts.take k) (us.take k)
  | [], us, k => by simp [zipC]
  | t :: ts, [], k => by simp [zipC]
  | t :: ts, u :: us, 0 => by simp [zipC]
  | t :: ts, u :: us, k + 1 => by simp only [zipC, List.take_succ_cons, show (k + 1) * 2 = k * 2 + 1 + 1 by omega, zipC_take ts us k]
theorem RowsR.take {w : World} {hi : Nat} {us : List Value} {xss : List (List Int)} (h : RowsR w hi us xss) (k : Nat) : RowsR w hi (us.take k) (xss.take k) := by
  refine ⟨by simp [h.1], fun i u xs hu hx => ?_⟩
  rw [List.getElem?_take] at hu hx
  split at hu
  · rename_i hlt; rw [if_pos hlt] at hx; exact h.2 i u xs hu hx
  · cases hu
theorem RdPS.cut {w : World} {hi n c : Nat} {A : Option Addr} {ps : List Phr} (h : RdPS w hi (.slice A n c) ps) {k : Nat} (hk : k ≤ ps.length) : RdPS w hi (.slice A k c) (ps.take k) := by
  obtain ⟨us, h1, ⟨h0, A', c', hv, h2, h3, h4⟩, ht⟩ := h
  cases hv
  refine ⟨us.take k, ?_, ⟨?_, A, c, ?_, ?_, h3, fun hp => ?_⟩, fun p hp => ht p (List.mem_of_mem_take hp)⟩
  · have := h1.take k; unfold sigs at *; rwa [← List.map_take] at this
  · have e := zipC_take (txts ps) us k
    unfold txts at *
    rw [← List.map_take] at e
    rw [← e, List.length_take, h0, List.length_take]; omega
  · rw [List.length_take]; congr 1; omega
  · rw [List.length_take]; omega
  · obtain ⟨b, off, hA, hb, hc⟩ := h4 (by rw [List.length_take] at hp; omega)
    refine ⟨b, off, hA, hb, fun j u hu => hc j u ?_⟩
    have e := zipC_take (txts ps) us k
    unfold txts at *
    rw [← List.map_take] at e
    rw [← e, List.getElem?_take] at hu
    split at hu
    · exact hu
    · cases hu
/-- What is asked of a predicate on phrases. -/
def PredP (g : Nat) (lb : Array Value) (hi : Nat) (p : Phr → Bool) (w : World) : Prop :=
  ∀ (W : World) (x : Phr) (u : Value), Below w.heap.size w W → RdI W hi u x.2 → x.1.size ≤ 9223372036854775807 → Calls Try.prog g (#[.agg #[.string x.1, u]] ++ lb) W fun e w' => e = .returned (.bool (p x)) ∧ Below W.heap.size W w'
set_option maxHeartbeats 800000 in
theorem indexP_any (ps : List Phr) (v : Value) (hi : Nat) (w : World) (g : Nat) (lb : Array Value) (p : Phr → Bool) (h : RdPS w hi v ps) (hh : hi ≤ w.heap.size) (hp : PredP g lb hi p w)
    (eg : ∀ args w, (callFunc g args).run Try.prog w = .ok (.enter g args) w) :
    Calls Try.prog 224 #[v, .func (.func g) #[] lb] w fun e w' => e = .returned (.int .i64 (ixI (ps.findIdx? p))) ∧ Below w.heap.size w w' := by
  obtain ⟨A, c, rfl, hc, hm⟩ := h.form
  have H := Lib.hid h
  have HP := Lib.hid hp
  clear h hp
  go_enter Try.func224, Try.ntmps224
  go_wp2
  go_loopw [8] (fun i wr => ∃ k : Nat, k ≤ ps.length ∧ i = .int .i64 k ∧ Hid (∀ j, j < k → ∀ x, ps[j]? = some x → p x = false) ∧ Below w.heap.size w wr) (fun i _ => ps.length - (intOf i).toNat)
  case atStart => exact ⟨0, Nat.zero_le _, rfl, fun j hj => by omega, Below.refl _ _⟩
  case round =>
    obtain ⟨k, hk, rfl, hno, hbr⟩ := hrel
    by_cases hlt : k < ps.length
    · obtain ⟨b1, o1, c1, a, t, xs, hv, _, hx, hcell1, hcell2, hra, hts⟩ := (H.out.below hbr hh).at_ hlt
      cases hv
      obtain ⟨A2, c2, rfl, hc2, hm2⟩ := Rd.form hra
      have hcall := HP.out wr (t, xs) _ hbr hra hts
      have HX := Lib.hid hx
      have hs := hbr.size
      have HBR := Lib.hid hbr
      clear hra hx hbr
      cases hq : p (t, xs)
      · have HQ := Lib.hid hq
        rw [hq] at hcall
        clear hq
        have HC := Lib.hid hcall
        clear hcall
        go_wp2_with (go_at_fn g; refine HC.out.mono ?_; rintro e w' ⟨rfl, hb'⟩)
        go_roundw
        case rel => exact ⟨k + 1, by omega, by go_num, fun j hj x hx => by
          by_cases e : j = k
          · subst e; rw [HX.out] at hx; cases hx; exact HQ.out
          · exact hno.out j (by omega) x hx, HBR.out.trans (hb'.mono hs)⟩
        case measure => simp [intOf]; omega
      · have HQ := Lib.hid hq
        rw [hq] at hcall
        clear hq
        have HC := Lib.hid hcall
        clear hcall
        go_wp2_with (go_at_fn g; refine HC.out.mono ?_; rintro e w' ⟨rfl, hb'⟩)
        go_ret
        refine ⟨ret_int ?_, HBR.out.trans (hb'.mono hs)⟩
        rw [findIdx_take (fun j hj x hx => hno.out j hj x hx) HX.out HQ.out]
        rfl
    · obtain rfl : k = ps.length := by omega
      go_wp2_with fail
      go_ret
      refine ⟨ret_int ?_, hbr⟩
      rw [findIdx_none (fun j x hx => hno.out j (List.getElem?_eq_some_iff.1 hx).1 x hx)]
      rfl
theorem phraseIndex1_any (x : Phr) (ys : List Int) (u s : Value) (B hi hj : Nat) (w : World) (h : RdI w hi u x.2) (g : RdI w hj s ys) (hh : hi ≤ w.heap.size) (hg : hj ≤ w.heap.size) (hB : B < w.heap.size) (hc : w.cell? ⟨B, 0, Option.none⟩ = some s) :
    Calls Try.prog 251 #[.agg #[.string x.1, u], .pointer (some ⟨B, 0, Option.none⟩)] w fun e w' => e = .returned (.bool (decide (x.2 = ys))) ∧ Below w.heap.size w w' := by
  obtain ⟨A, c, rfl, hc1, hm⟩ := Rd.form h
  obtain ⟨A', c', rfl, hc2, hm'⟩ := Rd.form g
  have hba : Below w.heap.size w (w.alloc (.cells #[.string x.1, .slice A x.2.length c] 60)) := (Below.refl _ _).alloc (Nat.le_refl _) _
  have H := Lib.hid (RdI.below h hba hh)
  have G := Lib.hid (RdI.below g hba hg)
  clear h g
  go_enter Try.func251, Try.ntmps251
  go_wp2_with fail
  refine (slicesEqual_any x.2 ys _ _ hi hj _ H.out G.out).mono ?_
  rintro e w' ⟨rfl, n, rfl⟩
  go_wp2_with fail
  go_ret
  exact ⟨rfl, hba.trans (bel_drewN _ _ _)⟩
theorem phraseIndex_any (ps : List Phr) (xs : List Int) (v u : Value) (hi hj : Nat) (w : World) (h : RdB w hi v ps) (g : RdI w hj u xs) (hh : hi ≤ w.heap.size) (hg : hj ≤ w.heap.size) :
    Calls Try.prog 217 #[v, u] w fun e w' => e = .returned (.int .i64 (ixI (sigIx ps xs))) ∧ Below w.heap.size w w' := by
  obtain ⟨a, rfl, ha⟩ := h
  obtain ⟨A, c, rfl, hc, hm⟩ := ha.form
  obtain ⟨A', c', rfl, hc', hm'⟩ := Rd.form g
  have hba : Below w.heap.size w ((w.alloc (.cells #[.slice A ps.length c] 48)).alloc (.cells #[.slice A' xs.length c'] 29)) := ((Below.refl _ _).alloc (Nat.le_refl _) _).alloc (by simp) _
  have H := Lib.hid (ha.below hba hh)
  have G := Lib.hid (RdI.below g hba hg)
  clear ha g
  have HB := Lib.hid hba
  clear hba
  have hcap : ((w.alloc (.cells #[.slice A ps.length c] 48)).alloc (.cells #[.slice A' xs.length c'] 29)).cell? ⟨w.heap.size + 1, 0, Option.none⟩ = some (.slice A' xs.length c') := by
    have := (Blk.new (w.alloc (.cells #[.slice A ps.length c] 48)) 29 #[.slice A' xs.length c']).cell 0
    simp at this ⊢
  have hpred : PredP 251 #[.pointer (some ⟨w.heap.size + 1, 0, Option.none⟩)] hi (fun p => decide (p.2 = xs)) ((w.alloc (.cells #[.slice A ps.length c] 48)).alloc (.cells #[.slice A' xs.length c'] 29)) := by
    intro W x u hb hu _
    have hs := hb.size
    have h2 : ((w.alloc (.cells #[.slice A ps.length c] 48)).alloc (.cells #[.slice A' xs.length c'] 29)).heap.size = w.heap.size + 1 + 1 := by simp
    refine phraseIndex1_any x xs u (.slice A' xs.length c') (w.heap.size + 1) hi hj W hu (RdI.below G.out hb (by omega)) (by omega) (by omega) (by omega) ?_
    exact (hb.cell (p := ⟨w.heap.size + 1, 0, Option.none⟩) (by show w.heap.size + 1 < _; omega)).trans hcap
  have HPR := Lib.hid hpred
  have HC := Lib.hid (indexP_any ps _ hi _ _ _ _ H.out (by simp; omega) HPR.out (enters_of Try.func251 (by kernel_rfl) rfl))
  clear hpred hcap
  go_enter Try.func217, Try.ntmps217
  go_wp2_with fail
  refine HC.out.mono ?_
  rintro e w' ⟨rfl, hb'⟩
  go_wp2_with fail
  go_ret
  exact ⟨rfl, HB.out.trans (hb'.mono (by simp; omega))⟩
set_option maxHeartbeats 400000 in
theorem isPhrase_any (p : Phr) (v : Value) (hi : Nat) (w : World) (h : RdP w hi v p) (hh : hi ≤ w.heap.size) : Calls Try.prog 169 #[v] w fun e w' => e = .returned (.bool (phrOk p)) ∧ Below w.heap.size w w' := by
  obtain ⟨u, rfl, hu, ht⟩ := h
  obtain ⟨A, c, rfl, hc, hm⟩ := Rd.form hu
  have hba : Below w.heap.size w (w.alloc (.cells #[.string p.1, .slice A p.2.length c] 60)) := (Below.refl _ _).alloc (Nat.le_refl _) _
  have H := Lib.hid (RdI.below hu hba hh)
  clear hu
  have cT := IsPhraseText_any p.1 (by unfold maxLen; omega)
  have cA := allWithin_any p.2 1 60 (.slice A p.2.length c) hi _ H.out
  unfold phrOk sigOk
  cases h1 : phraseB p.1.data.toList
  · rw [h1] at cT
    have CT := Lib.hid cT
    clear cT cA
    go_enter Try.func169, Try.ntmps169
    go_wp2_with (go_at_call 223; refine (CT.out _).mono ?_; rintro e w' ⟨rfl, rfl⟩)
    go_ret
    exact ⟨rfl, hba⟩
  · rw [h1] at cT
    cases h2 : inB p.2.length 1 3
    · have CT := Lib.hid cT
      clear cT cA
      go_enter Try.func169, Try.ntmps169
      go_wp2_with (first | (go_at_call 223; refine (CT.out _).mono ?_; rintro e w' ⟨rfl, rfl⟩) | (go_at_call 125; refine (within_any _ _ _ _).mono ?_; rintro e w' ⟨rfl, rfl⟩))
      go_ret
      exact ⟨rfl, hba⟩
    · have CT := Lib.hid cT
      have CA := Lib.hid cA
      clear cT cA
      go_enter Try.func169, Try.ntmps169
      go_wp2_with (first | (go_at_call 223; refine (CT.out _).mono ?_; rintro e w' ⟨rfl, rfl⟩) | (go_at_call 125; refine (within_any _ _ _ _).mono ?_; rintro e w' ⟨rfl, rfl⟩) | (go_at_call 181; refine (CA.out).mono ?_; rintro e w' ⟨rfl, rfl⟩))
      go_ret
      exact ⟨rfl, hba⟩
theorem sigIx_take {ps : List Phr} {k : Nat} {p : Phr} (hp : ps[k]? = some p) : sigIx ps p.2 = some k ↔ sigIx (ps.take k) p.2 = Option.none := by
  unfold sigIx
  have hk := (List.getElem?_eq_some_iff.1 hp).1
  constructor
  · intro h
    rw [List.findIdx?_eq_none_iff]
    intro x hx
    rw [List.findIdx?_eq_some_iff_getElem] at h
    obtain ⟨_, _, h3⟩ := h
    obtain ⟨j, hj⟩ := List.getElem?_of_mem hx
    rw [List.getElem?_take] at hj
    split at hj
    · rename_i hlt
      have := h3 j hlt
      have e := (List.getElem?_eq_some_iff.1 hj).2
      rw [← e]; simpa using this
    · cases hj
  · intro h
    rw [List.findIdx?_eq_none_iff] at h
    refine findIdx_take (fun j hj x hx => h x ?_) hp (by simp)
    exact List.mem_of_getElem? (by rw [List.getElem?_take, if_pos hj]; exact hx)
theorem ixI_nonneg {o : Option Nat} : (0 ≤ ixI o) ↔ o ≠ Option.none := by cases o <;> simp [ixI]
end Go.Proofs.Ytabiobjcfopakaa
/- Contracts of the tests whether a book is valid, of the program. -/
namespace Go.Proofs.Ytabiobjcfopakaa
open Go.RowKit
set_option maxRecDepth 100000 in
set_option maxHeartbeats 4000000 in
theorem IsBook_any (ps : List Phr) (v : Value) (hi : Nat) (w : World) (h : RdB w hi v ps) (hh : hi ≤ w.heap.size) :
    Calls Try.prog 137 #[v] w fun e w' => e = .returned (.bool (bookB ps)) ∧ Below w.heap.size w w' := by
  obtain ⟨a, rfl, ha⟩ := h
  obtain ⟨A, c, rfl, hc, hm⟩ := ha.form
  have hba : Below w.heap.size w (w.alloc (.cells #[.slice A ps.length c] 48)) := (Below.refl _ _).alloc (Nat.le_refl _) _
  have HBA := Lib.hid hba
  have H := Lib.hid (ha.below hba hh)
  have hbox : (w.alloc (.cells #[.slice A ps.length c] 48)).cell? ⟨w.heap.size, 0, Option.none⟩ = some (.slice A ps.length c) := (Blk.new w 48 #[.slice A ps.length c]).cell 0
  have HBOX := Lib.hid hbox
  clear ha hba hbox
  cases hl40 : inB ps.length 1 40
  · go_enter Try.func137, Try.ntmps137
    go_wp2_with (go_at_call 125; refine (within_any _ _ _ _).mono ?_; rintro e w' ⟨rfl, rfl⟩)
    go_ret
    exact ⟨ret_bool (by unfold bookB; rw [hl40]; rfl), HBA.out⟩
  go_enter Try.func137, Try.ntmps137
  go_wp2_with (go_at_call 125; refine (within_any _ _ _ _).mono ?_; rintro e w' ⟨rfl, rfl⟩)
  go_loopw [13] (fun i wr => ∃ k : Nat, k ≤ ps.length ∧ i = .int .i64 k ∧ Hid (∀ j, j < k → goodAt ps j = true) ∧ Below (w.heap.size + 1) (w.alloc (.cells #[.slice A ps.length c] 48)) wr) (fun i _ => ps.length - (intOf i).toNat)
  case atStart => exact ⟨0, Nat.zero_le _, rfl, fun j hj => by omega, Below.refl _ _⟩
  case round =>
    obtain ⟨k, hk, rfl, hup, hbr⟩ := hrel
    have hs : w.heap.size + 1 ≤ wr.heap.size := by have := hbr.size; simpa using this
    have hboxr : wr.cell? ⟨w.heap.size, 0, Option.none⟩ = some (.slice A ps.length c) := (hbr.cell (p := ⟨w.heap.size, 0, Option.none⟩) (by show w.heap.size < _; omega)).trans HBOX.out
    by_cases hlt : k < ps.length
    · obtain ⟨b1, o1, c1, a, t, xs, hv, hb1, hx, hcell1, hcell2, hra, hta⟩ := (H.out.below hbr (by omega)).at_ hlt
      cases hv
      obtain ⟨A2, c2, rfl, hc2, hm2⟩ := Rd.form hra
      have HX := Lib.hid hx
      have HBR := Lib.hid (HBA.out.trans (hbr.mono (by omega)))
      have hbw1 : Below (w.heap.size + 1) (w.alloc (.cells #[.slice (some ⟨b1, o1, Option.none⟩) ps.length c] 48)) (wr.alloc (.cells #[.string t, .slice A2 xs.length c2] 60)) := hbr.alloc hs _
      have HBR2 := Lib.hid hbw1
      have hra2 := hra.below ((Below.refl wr.heap.size wr).alloc (Nat.le_refl _) (.cells #[.string t, .slice A2 xs.length c2] 60)) (by omega)
      have HRA := Lib.hid hra2
      have HPS : Hid (RdB (wr.alloc (.cells #[.string t, .slice A2 xs.length c2] 60)) hi (.agg #[.slice (some ⟨b1, o1, Option.none⟩) ps.length c]) ps) := ⟨_, rfl, H.out.below hbw1 (by omega)⟩
      have HPQ : Hid (RdPS (wr.alloc (.cells #[.string t, .slice A2 xs.length c2] 60)) hi (.slice (some ⟨b1, o1, Option.none⟩) ps.length c) ps) := H.out.below hbw1 (by omega)
      have hlat := fun {b o : Nat} {u : Value} (hq : (wr.alloc (.cells #[.string t, .slice A2 xs.length c2] 60)).cell? ⟨b, o, Option.none⟩ = some u) (hb : b < wr.heap.size + 1) => later_cell (B := wr.heap.size + 1) hq hb
      have l0 := hlat ((Blk.new wr 60 #[.string t, .slice A2 xs.length c2]).cell 0) (by omega)
      have l1 := hlat ((Blk.new wr 60 #[.string t, .slice A2 xs.length c2]).cell 1) (by omega)
      have lb := hlat ((hbw1.cell (p := ⟨w.heap.size, 0, Option.none⟩) (by show w.heap.size < _; omega)).trans HBOX.out) (by omega)
      clear hlat hra hra2 hx hbw1 hbr hboxr
      have hxs : wr.heap.size + 1 ≤ (wr.alloc (.cells #[.string t, .slice A2 xs.length c2] 60)).heap.size := by simp
      have HXS := Lib.hid hxs
      clear hxs
      have hcut : RdB (wr.alloc (.cells #[.string t, .slice A2 xs.length c2] 60)) hi (.agg #[.slice (some ⟨b1, o1, Option.none⟩) k c]) (ps.take k) := ⟨_, rfl, HPQ.out.cut hk⟩
      have HCUT := Lib.hid hcut
      clear hcut
      have cT := fun x : LaterW (wr.heap.size + 1) (wr.alloc (.cells #[.string t, .slice A2 xs.length c2] 60)) => isPhrase_any (t, xs) (.agg #[.string t, .slice A2 xs.length c2]) hi x.val ⟨_, rfl, HRA.out.below x.bel (by omega), hta⟩ (by have := x.bel.size; have := HXS.out; omega)
      have cO := fun x : LaterW (wr.heap.size + 1) (wr.alloc (.cells #[.string t, .slice A2 xs.length c2] 60)) => phraseIndex_any (ps.take k) xs (.agg #[.slice (some ⟨b1, o1, Option.none⟩) k c]) (.slice A2 xs.length c2) hi hi x.val (HCUT.out.below x.bel (by omega)) (HRA.out.below x.bel (by omega)) (by have := x.bel.size; have := HXS.out; omega) (by have := x.bel.size; have := HXS.out; omega)
      have hkc : (k : Int) ≤ (c : Int) := by omega
      have hk0' : (0 : Int) ≤ (k : Int) := by omega
      cases hp1 : phrOk (t, xs)
      · rw [hp1] at cT
        have CT := Lib.hid cT
        have CO := Lib.hid cO
        clear cT cO
        go_wp2_with fail
        refine wp_region_later (wr.heap.size + 1) (by kernel_rfl) (by kernel_rfl) ?_; (repeat (go_big_quiet_step ((first | (go_at_call 169; exact later_of HXS.out (CT.out _)) | (go_at_call 217; exact later_of HXS.out (CO.out _)))))); refine later_nil ?_; intro w2 hb2
        go_wp2_with fail
        go_ret
        exact ⟨ret_bool (bookB_no hlt (goodAt_phr HX.out hp1)).symm, (HBA.out.trans (HBR2.out.mono (by omega))).trans (hb2.mono (by omega))⟩
      · have HP := Lib.hid hp1
        rw [hp1] at cT
        have CT := Lib.hid cT
        have CO := Lib.hid cO
        clear cT cO
        rcases Nat.eq_zero_or_pos k with h0 | hpos
        · have hk0 : decide (0 < k) = false := by rw [decide_eq_false_iff_not]; omega
          have H0 := Lib.hid h0
          clear h0
          by_cases hix : sigIx (ps.take k) xs = Option.none
          · have hne : decide (0 ≤ ixI (sigIx (ps.take k) xs)) = false := by rw [decide_eq_false_iff_not, ixI_nonneg]; exact fun h => h hix
            have HIX := Lib.hid hix
            clear hix
            go_wp2_with fail
            refine wp_region_later (wr.heap.size + 1) (by kernel_rfl) (by kernel_rfl) ?_; (repeat (go_big_quiet_step ((first | (go_at_call 169; exact later_of HXS.out (CT.out _)) | (go_at_call 217; exact later_of HXS.out (CO.out _)))))); refine later_nil ?_; intro w2 hb2
            go_wp2_with fail
            go_roundw
            case rel => exact ⟨k + 1, by omega, by go_num, fun j hj => by
              obtain rfl : k = 0 := H0.out
              obtain rfl : j = 0 := by omega
              exact goodAt_0 HX.out HP.out ((sigIx_take HX.out).2 HIX.out), HBR2.out.trans (hb2.mono (by omega))⟩
            case measure => simp [intOf]; omega
          · have hne : decide (0 ≤ ixI (sigIx (ps.take k) xs)) = true := by rw [decide_eq_true_eq, ixI_nonneg]; exact hix
            have HIX := Lib.hid hix
            clear hix
            go_wp2_with fail
            refine wp_region_later (wr.heap.size + 1) (by kernel_rfl) (by kernel_rfl) ?_; (repeat (go_big_quiet_step ((first | (go_at_call 169; exact later_of HXS.out (CT.out _)) | (go_at_call 217; exact later_of HXS.out (CO.out _)))))); refine later_nil ?_; intro w2 hb2
            go_wp2_with fail
            go_ret
            exact ⟨ret_bool (bookB_no hlt (goodAt_ix HX.out (fun h => HIX.out ((sigIx_take HX.out).1 h)))).symm, (HBA.out.trans (HBR2.out.mono (by omega))).trans (hb2.mono (by omega))⟩
        · have hk0 : decide (0 < k) = true := by rw [decide_eq_true_eq]; omega
          obtain ⟨b3, o3, c3, a3, q, ys, hv, hb3, hq, hcq, _, _, hqs⟩ := (HPQ.out).at_ (show k - 1 < ps.length by omega)
          cases hv
          have lq := later_cell (B := wr.heap.size + 1) hcq (by omega)
          have hi1 : (0 : Int) ≤ (k : Int) - 1 := by omega
          have hi2 : (k : Int) - 1 < (ps.length : Int) := by omega
          have hi3 : ((k : Int) - 1).toNat = k - 1 := by omega
          have HQ : Hid (ps[k - 1]? = some (q, ys)) := hq
          clear hq hcq
          have HK : Hid (∃ m, k = m + 1) := ⟨k - 1, by omega⟩
          cases hlt2 : ltT q t
          · have hl1 : Op.bytesLess q.toList t.toList = false := hlt2
            go_wp2_with fail
            refine wp_region_later (wr.heap.size + 1) (by kernel_rfl) (by kernel_rfl) ?_; (repeat (go_big_quiet_step ((first | (go_at_call 169; exact later_of HXS.out (CT.out _)) | (go_at_call 217; exact later_of HXS.out (CO.out _)))))); refine later_nil ?_; intro w2 hb2
            go_wp2_with fail
            go_ret
            refine ⟨ret_bool ?_, (HBA.out.trans (HBR2.out.mono (by omega))).trans (hb2.mono (by omega))⟩
            obtain ⟨m, rfl⟩ := HK.out
            exact (bookB_no hlt (goodAt_lt HX.out HQ.out hlt2)).symm
          · have hl1 : Op.bytesLess q.toList t.toList = true := hlt2
            by_cases hix : sigIx (ps.take k) xs = Option.none
            · have hne : decide (0 ≤ ixI (sigIx (ps.take k) xs)) = false := by rw [decide_eq_false_iff_not, ixI_nonneg]; exact fun h => h hix
              have HIX := Lib.hid hix
              clear hix
              go_wp2_with fail
              refine wp_region_later (wr.heap.size + 1) (by kernel_rfl) (by kernel_rfl) ?_; (repeat (go_big_quiet_step ((first | (go_at_call 169; exact later_of HXS.out (CT.out _)) | (go_at_call 217; exact later_of HXS.out (CO.out _)))))); refine later_nil ?_; intro w2 hb2
              go_wp2_with fail
              go_roundw
              case rel => exact ⟨k + 1, by omega, by go_num, fun j hj => by
                by_cases e : j = k
                · subst e
                  have h5 := (sigIx_take HX.out).2 HIX.out
                  obtain ⟨m, rfl⟩ := HK.out
                  exact goodAt_s HX.out HQ.out HP.out hlt2 h5
                · exact hup.out j (by omega), HBR2.out.trans (hb2.mono (by omega))⟩
              case measure => simp [intOf]; omega
            · have hne : decide (0 ≤ ixI (sigIx (ps.take k) xs)) = true := by rw [decide_eq_true_eq, ixI_nonneg]; exact hix
              have HIX := Lib.hid hix
              clear hix
              go_wp2_with fail
              refine wp_region_later (wr.heap.size + 1) (by kernel_rfl) (by kernel_rfl) ?_; (repeat (go_big_quiet_step ((first | (go_at_call 169; exact later_of HXS.out (CT.out _)) | (go_at_call 217; exact later_of HXS.out (CO.out _)))))); refine later_nil ?_; intro w2 hb2
              go_wp2_with fail
              go_ret
              exact ⟨ret_bool (bookB_no hlt (goodAt_ix HX.out (fun h => HIX.out ((sigIx_take HX.out).1 h)))).symm, (HBA.out.trans (HBR2.out.mono (by omega))).trans (hb2.mono (by omega))⟩
    · obtain rfl : k = ps.length := by omega
      go_wp2_with fail
      go_ret
      refine ⟨ret_bool ?_, HBA.out.trans (hbr.mono (by omega))⟩
      unfold bookB
      rw [goodB_yes hup.out, hl40, Bool.and_true]
end Go.Proofs.Ytabiobjcfopakaa
/- Contracts of the searches in a book by a text, by signals, and for texts of one letter; of the program and of the reference. -/
namespace Go.Proofs.Ytabiobjcfopakaa
open Go.RowKit
theorem str_inj {a b : ByteArray} (h : (a.toList == b.toList) = true) : a = b := by
  rw [ByteArray.toList_eq, ByteArray.toList_eq, beq_iff_eq] at h
  exact ByteArray.ext (Array.toList_inj.1 h)
/-- The place of the phrase with a text. -/
def txtIx (ps : List Phr) (s : ByteArray) : Option Nat := ps.findIdx? fun p => p.1.toList == s.toList
/-- A place, if the book is good and there is one. -/
def findV (b : Bool) (o : Option Nat) : Value := match b, o with
  | true, some i => .tuple #[.int .i64 (i : Int), .bool true]
  | _, _ => .tuple #[.int .i64 0, .bool false]
theorem findV_form (b : Bool) (o : Option Nat) : ∃ p q, findV b o = .tuple #[.int .i64 p, .bool q] := by
  cases b <;> cases o <;> exact ⟨_, _, rfl⟩
theorem txtIx_lt {ps : List Phr} {s : ByteArray} {i : Nat} (h : txtIx ps s = some i) : i < ps.length := by
  unfold txtIx at h; rw [List.findIdx?_eq_some_iff_getElem] at h; exact h.1
theorem sigIx_lt {ps : List Phr} {s : List Int} {i : Nat} (h : sigIx ps s = some i) : i < ps.length := by
  unfold sigIx at h; rw [List.findIdx?_eq_some_iff_getElem] at h; exact h.1
theorem bookB_phr {ps : List Phr} {p : Phr} (h : bookB ps = true) (hp : p ∈ ps) : phrOk p = true := by
  obtain ⟨j, hj⟩ := List.getElem?_of_mem hp
  have hl := (List.getElem?_eq_some_iff.1 hj).1
  unfold bookB goodB at h
  rw [Bool.and_eq_true, List.all_eq_true] at h
  have := h.2 j (List.mem_range.2 hl)
  unfold goodAt at this
  rw [hj] at this
  simp only [Bool.and_eq_true] at this
  exact this.1
theorem txtIx_no {ps : List Phr} {s : ByteArray} (h : bookB ps = true) (hp : phraseB s.data.toList = false) : txtIx ps s = Option.none := by
  unfold txtIx
  rw [List.findIdx?_eq_none_iff]
  intro x hx
  rcases he : (x.1.toList == s.toList)
  · rfl
  · have := bookB_phr h hx
    unfold phrOk at this
    rw [str_inj he, hp] at this
    cases this
theorem bookB_len {ps : List Phr} (h : bookB ps = true) : 1 ≤ ps.length ∧ ps.length ≤ 40 := by
  unfold bookB at h
  rw [Bool.and_eq_true, inB_iff] at h
  omega
set_option maxHeartbeats 800000 in
theorem bkFind_any (ps : List Phr) (s : ByteArray) (v : Value) (hi : Nat) (w : World) (h : RdB w hi v ps) (hh : hi ≤ w.heap.size) :
    Calls Try.prog 140 #[v, .string s] w fun e w' => e = .returned (.int .i64 (ixI (txtIx ps s))) ∧ Below w.heap.size w w' := by
  obtain ⟨a, rfl, ha⟩ := h
  obtain ⟨A, c, rfl, hc, hm⟩ := ha.form
  have hba : Below w.heap.size w (w.alloc (.cells #[.slice A ps.length c] 48)) := (Below.refl _ _).alloc (Nat.le_refl _) _
  have HB := Lib.hid hba
  have HA := Lib.hid (ha.below hba hh)
  have HG : Hid (RdB (w.alloc (.cells #[.slice A ps.length c] 48)) hi (.agg #[.slice A ps.length c]) ps) := ⟨_, rfl, HA.out⟩
  have hcb0 : (w.alloc (.cells #[.slice A ps.length c] 48)).cell? ⟨w.heap.size, 0, Option.none⟩ = some (.slice A ps.length c) := (Blk.new w 48 #[.slice A ps.length c]).cell 0
  have HCB := Lib.hid hcb0
  have hsz1 : hi ≤ (w.alloc (.cells #[.slice A ps.length c] 48)).heap.size := by simp; omega
  clear ha hba hcb0
  go_enter Try.func140, Try.ntmps140
  go_wp2_with fail
  go_loopw [10] (fun i wr => ∃ k : Nat, k ≤ ps.length ∧ i = .int .i64 k ∧ Hid (∀ j, j < k → ∀ x, ps[j]? = some x → (x.1.toList == s.toList) = false) ∧ Below (w.heap.size + 1) (w.alloc (.cells #[.slice A ps.length c] 48)) wr) (fun i _ => ps.length - (intOf i).toNat)
  case atStart => exact ⟨0, Nat.zero_le _, rfl, fun j hj => by omega, Below.refl _ _⟩
  case round =>
    obtain ⟨k, hk, rfl, hno, hbr⟩ := hrel
    have hs : w.heap.size + 1 ≤ wr.heap.size := by have := hbr.size; simpa using this
    by_cases hlt : k < ps.length
    · obtain ⟨b1, o1, c1, a, t, xs, hv, hb1, hx, hcell1, hcell2, hra, hta⟩ := (HA.out.below hbr (by omega)).at_ hlt
      cases hv
      obtain ⟨A2, c2, rfl, hc2, hm2⟩ := Rd.form hra
      have HX := Lib.hid hx
      have HRA := Lib.hid hra
      clear hx hra
      cases hts : (t.toList == s.toList)
      · have HTS := Lib.hid hts
        go_wp2_with fail
        go_roundw
        case rel => exact ⟨k + 1, by omega, by go_num, fun j hj x hx => by
          by_cases e : j = k
          · subst e; rw [HX.out] at hx; cases hx; exact HTS.out
          · exact hno.out j (by omega) x hx, hbr.alloc hs _⟩
        case measure => simp [intOf]; omega
      · have HTS := Lib.hid hts
        go_wp2_with fail
        go_ret
        refine ⟨ret_int ?_, HB.out.trans ((hbr.alloc hs _).mono (by omega))⟩
        unfold txtIx
        rw [findIdx_take (fun j hj x hx => hno.out j hj x hx) HX.out HTS.out]
        rfl
    · obtain rfl : k = ps.length := by omega
      go_wp2_with fail
      go_ret
      refine ⟨ret_int ?_, HB.out.trans (hbr.mono (by omega))⟩
      unfold txtIx
      rw [findIdx_none (fun j x hx => hno.out j (List.getElem?_eq_some_iff.1 hx).1 x hx)]
      rfl
theorem FindPhrase1_any (x : Phr) (s : ByteArray) (u : Value) (B hi : Nat) (w : World) (h : RdI w hi u x.2) (hB : B < w.heap.size) (hc : w.cell? ⟨B, 0, Option.none⟩ = some (.string s)) :
    Calls Try.prog 225 #[.agg #[.string x.1, u], .pointer (some ⟨B, 0, Option.none⟩)] w fun e w' => e = .returned (.bool (x.1.toList == s.toList)) ∧ Below w.heap.size w w' := by
  obtain ⟨A, c, rfl, hc1, hm⟩ := Rd.form h
  have hba : Below w.heap.size w (w.alloc (.cells #[.string x.1, .slice A x.2.length c] 60)) := (Below.refl _ _).alloc (Nat.le_refl _) _
  clear h
  go_enter Try.func225, Try.ntmps225
  go_wp2_with fail
  go_ret
  exact ⟨rfl, hba⟩
set_option maxHeartbeats 1600000 in
theorem FindPhrase_any (ps : List Phr) (s : ByteArray) (v : Value) (hi : Nat) (w : World) (hs0 : s.size ≤ maxLen) (h : RdB w hi v ps) (hh : hi ≤ w.heap.size) :
    Calls Try.prog 143 #[v, .string s] w fun e w' => e = .returned (findV (bookB ps) (txtIx ps s)) ∧ Below w.heap.size w w' := by
  obtain ⟨a, rfl, ha⟩ := h
  obtain ⟨A, c, rfl, hc, hm⟩ := ha.form
  have hba : Below w.heap.size w ((w.alloc (.cells #[.slice A ps.length c] 48)).alloc (.cells #[.string s] 9)) := ((Below.refl _ _).alloc (Nat.le_refl _) _).alloc (by simp) _
  have HB := Lib.hid hba
  have HA := Lib.hid (ha.below hba hh)
  have HG : Hid (RdB ((w.alloc (.cells #[.slice A ps.length c] 48)).alloc (.cells #[.string s] 9)) hi (.agg #[.slice A ps.length c]) ps) := ⟨_, rfl, HA.out⟩
  have hcb0 : ((w.alloc (.cells #[.slice A ps.length c] 48)).alloc (.cells #[.string s] 9)).cell? ⟨w.heap.size, 0, Option.none⟩ = some (.slice A ps.length c) := ((Blk.new w 48 #[.slice A ps.length c]).alloc _).cell 0
  have hcs0 : ((w.alloc (.cells #[.slice A ps.length c] 48)).alloc (.cells #[.string s] 9)).cell? ⟨w.heap.size + 1, 0, Option.none⟩ = some (.string s) := by
    have := (Blk.new (w.alloc (.cells #[.slice A ps.length c] 48)) 9 #[.string s]).cell 0
    simp at this ⊢
  have HCB := Lib.hid hcb0
  have HCS := Lib.hid hcs0
  have hsz1 : hi ≤ ((w.alloc (.cells #[.slice A ps.length c] 48)).alloc (.cells #[.string s] 9)).heap.size := by simp; omega
  clear ha hba hcb0 hcs0
  have cB := IsBook_any ps (.agg #[.slice A ps.length c]) hi ((w.alloc (.cells #[.slice A ps.length c] 48)).alloc (.cells #[.string s] 9)) HG.out hsz1
  cases hbk : bookB ps
  · rw [hbk] at cB
    have CB := Lib.hid cB
    clear cB
    go_enter Try.func143, Try.ntmps143
    go_wp2_with (go_at_call 137; refine CB.out.mono ?_; rintro e w1 ⟨rfl, hb1⟩)
    go_ret2
    exact ⟨ret_val rfl, HB.out.trans (hb1.mono (by simp; omega))⟩
  · rw [hbk] at cB
    have CB := Lib.hid cB
    have cT := IsPhraseText_any s hs0
    cases hp : phraseB s.data.toList
    · have hno : txtIx ps s = Option.none := txtIx_no hbk hp
      rw [hp] at cT
      have CT := Lib.hid cT
      clear cB cT
      go_enter Try.func143, Try.ntmps143
      go_wp2_with fail
      refine CB.out.mono ?_
      rintro e w1 ⟨rfl, hb1⟩
      have hcs := (hb1.cell (p := ⟨w.heap.size + 1, 0, Option.none⟩) (by simp)).trans HCS.out
      go_wp2_with (go_at_call 223; refine (CT.out _).mono ?_; rintro e w' ⟨rfl, rfl⟩)
      go_ret2
      exact ⟨ret_val (by rw [hno]; rfl), HB.out.trans (hb1.mono (by simp; omega))⟩
    · rw [hp] at cT
      have CT := Lib.hid cT
      clear cB cT
      go_enter Try.func143, Try.ntmps143
      go_wp2_with fail
      refine CB.out.mono ?_
      rintro e w1 ⟨rfl, hb1⟩
      have hcs := (hb1.cell (p := ⟨w.heap.size + 1, 0, Option.none⟩) (by simp)).trans HCS.out
      have hcb := (hb1.cell (p := ⟨w.heap.size, 0, Option.none⟩) (by simp; omega)).trans HCB.out
      have hs1 : w.heap.size + 2 ≤ w1.heap.size := by have := hb1.size; simpa using this
      have HA1 := Lib.hid (HA.out.below hb1 hsz1)
      have HB1 := Lib.hid (HB.out.trans (hb1.mono (by simp; omega)))
      have hpred : PredP 225 #[.pointer (some ⟨w.heap.size + 1, 0, Option.none⟩)] hi (fun p => p.1.toList == s.toList) w1 := by
        intro W x u hb hu _
        have hs := hb.size
        exact FindPhrase1_any x s u (w.heap.size + 1) hi W hu (by omega) ((hb.cell (p := ⟨w.heap.size + 1, 0, Option.none⟩) (by show w.heap.size + 1 < _; omega)).trans hcs)
      have HC := Lib.hid (indexP_any ps _ hi w1 _ _ _ HA1.out (by omega) hpred (enters_of Try.func225 (by kernel_rfl) rfl))
      clear hpred hb1
      go_wp2_with (go_at_call 223; refine (CT.out _).mono ?_; rintro e w' ⟨rfl, rfl⟩)
      refine HC.out.mono ?_
      rintro e w2 ⟨rfl, hb2⟩
      have HB2 := Lib.hid (HB1.out.trans (hb2.mono (by omega)))
      clear hb2
      show _
      cases ho : txtIx ps s with
      | none =>
        have ho' : ps.findIdx? (fun p => p.1.toList == s.toList) = Option.none := ho
        rw [ho']
        unfold ixI
        go_wp2_with fail
        go_ret2
        exact ⟨ret_val (by rw [ho]; rfl), HB2.out⟩
      | some i =>
        have hil : i < ps.length := txtIx_lt ho
        have ho' : ps.findIdx? (fun p => p.1.toList == s.toList) = some i := ho
        rw [ho']
        unfold ixI
        have HO := Lib.hid ho
        clear ho ho'
        go_wp2_with fail
        go_ret2
        exact ⟨ret_val (by rw [HO.out]; rfl), HB2.out⟩
end Go.Proofs.Ytabiobjcfopakaa
/- Contracts of the searches for phrases of which one begins another; of the program and of the reference. -/
namespace Go.Proofs.Ytabiobjcfopakaa
open Go.RowKit
def sigAt (ps : List Phr) (i : Nat) : List Int := (sigs ps).getD i []
theorem sigAt_eq {ps : List Phr} {i : Nat} {p : Phr} (h : ps[i]? = some p) : sigAt ps i = p.2 := by simp [sigAt, sigs, List.getD_eq_getElem?_getD, h]
/-- Does phrase i begin phrase k, another one? -/
def preB (ps : List Phr) (i k : Nat) : Bool := !(i == k) && begB (sigAt ps i) (sigAt ps k)
/-- The first two phrases of which one begins the other. -/
def firstPre (ps : List Phr) : Option (Nat × Nat) :=
  match (List.range ps.length).find? fun i => (List.range ps.length).any fun k => preB ps i k with
  | some i => ((List.range ps.length).find? fun k => preB ps i k).map fun k => (i, k)
  | Option.none => Option.none
theorem preB_no {ps : List Phr} {i : Nat} (h : ∀ k, k < ps.length → preB ps i k = false) : ((List.range ps.length).any fun k => preB ps i k) = false := by
  rw [List.any_eq_false]; intro k hk; rw [h k (List.mem_range.1 hk)]; exact Bool.false_ne_true
theorem firstPre_none {ps : List Phr} (h : ∀ i, i < ps.length → ∀ k, k < ps.length → preB ps i k = false) : firstPre ps = Option.none := by
  have : ((List.range ps.length).find? fun i => (List.range ps.length).any fun k => preB ps i k) = Option.none := by
    rw [List.find?_eq_none]; intro i hi; rw [preB_no (h i (List.mem_range.1 hi))]; exact Bool.false_ne_true
  unfold firstPre; rw [this]
theorem firstPre_some {ps : List Phr} {i k : Nat} (h : ∀ j, j < i → ∀ k, k < ps.length → preB ps j k = false) (h2 : ∀ j, j < k → preB ps i j = false) (hi : i < ps.length) (hk : k < ps.length) (hp : preB ps i k = true) : firstPre ps = some (i, k) := by
  have e1 : ((List.range ps.length).find? fun i => (List.range ps.length).any fun k => preB ps i k) = some i := by
    rw [List.find?_range_eq_some]
    refine ⟨?_, List.mem_range.2 hi, fun j hj => by rw [preB_no (h j hj)]; rfl⟩
    rw [List.any_eq_true]; exact ⟨k, List.mem_range.2 hk, hp⟩
  have e2 : ((List.range ps.length).find? fun k => preB ps i k) = some k := by
    rw [List.find?_range_eq_some]
    exact ⟨hp, List.mem_range.2 hk, fun j hj => by rw [h2 j hj]; rfl⟩
  unfold firstPre; rw [e1]; show Option.map _ _ = _; rw [e2]; rfl
theorem firstPre_lt {ps : List Phr} {i k : Nat} (h : firstPre ps = some (i, k)) : i < ps.length ∧ k < ps.length := by
  unfold firstPre at h
  split at h
  · rename_i i' he
    rw [List.find?_range_eq_some] at he
    rw [Option.map_eq_some_iff] at h
    obtain ⟨k', h1, h2⟩ := h
    rw [List.find?_range_eq_some] at h1
    cases h2
    exact ⟨List.mem_range.1 he.2.1, List.mem_range.1 h1.2.1⟩
  · cases h
def preS : Option (Nat × Nat) → Value
  | some (i, k) => .tuple #[.int .i64 (i : Int), .int .i64 (k : Int)]
  | Option.none => .tuple #[.int .i64 (-1), .int .i64 (-1)]
def preI : Option (Nat × Nat) → Value
  | some (i, k) => .tuple #[.int .i64 (i : Int), .int .i64 (k : Int), .bool true]
  | Option.none => .tuple #[.int .i64 0, .int .i64 0, .bool false]
set_option maxHeartbeats 1600000 in
theorem bkPrefix_any (ps : List Phr) (v : Value) (hi : Nat) (w : World) (h : RdB w hi v ps) (hh : hi ≤ w.heap.size) :
    Calls Try.prog 150 #[v] w fun e w' => e = .returned (preS (firstPre ps)) ∧ Below w.heap.size w w' := by
  obtain ⟨a, rfl, ha⟩ := h
  obtain ⟨A, c, rfl, hc, hm⟩ := ha.form
  have hba : Below w.heap.size w (w.alloc (.cells #[.slice A ps.length c] 48)) := (Below.refl _ _).alloc (Nat.le_refl _) _
  have HB := Lib.hid hba
  have HA := Lib.hid (ha.below hba hh)
  have HG : Hid (RdB (w.alloc (.cells #[.slice A ps.length c] 48)) hi (.agg #[.slice A ps.length c]) ps) := ⟨_, rfl, HA.out⟩
  have hcb0 : (w.alloc (.cells #[.slice A ps.length c] 48)).cell? ⟨w.heap.size, 0, Option.none⟩ = some (.slice A ps.length c) := (Blk.new w 48 #[.slice A ps.length c]).cell 0
  have HCB := Lib.hid hcb0
  have hsz1 : hi ≤ (w.alloc (.cells #[.slice A ps.length c] 48)).heap.size := by simp; omega
  clear ha hba hcb0
  go_enter Try.func150, Try.ntmps150
  go_wp2_with fail
  go_loopw [11] (fun i wr => ∃ k : Nat, k ≤ ps.length ∧ i = .int .i64 k ∧ Hid (∀ j, j < k → ∀ q, q < ps.length → preB ps j q = false) ∧ Below (w.heap.size + 1) (w.alloc (.cells #[.slice A ps.length c] 48)) wr) (fun i _ => ps.length - (intOf i).toNat)
  case atStart => exact ⟨0, Nat.zero_le _, rfl, fun j hj => by omega, Below.refl _ _⟩
  case round =>
    obtain ⟨k, hk, rfl, hup, hbr⟩ := hrel
    have hs : w.heap.size + 1 ≤ wr.heap.size := by have := hbr.size; simpa using this
    by_cases hlt : k < ps.length
    · obtain ⟨b1, o1, c1, a, t, xs, hv, hb1, hx, hcell1, hcell2, hra, hta⟩ := (HA.out.below hbr (by omega)).at_ hlt
      cases hv
      obtain ⟨A2, c2, rfl, hc2, hm2⟩ := Rd.form hra
      have HX := Lib.hid hx
      have HRA := Lib.hid hra
      clear hx hra
      have hbx : Below (w.heap.size + 1) (w.alloc (.cells #[.slice (some ⟨b1, o1, Option.none⟩) ps.length c] 48)) (wr.alloc (.cells #[.string t, .slice A2 xs.length c2] 60)) := hbr.alloc hs _
      have HBX := Lib.hid hbx
      have HRX := Lib.hid (HRA.out.below ((Below.refl wr.heap.size wr).alloc (Nat.le_refl _) (.cells #[.string t, .slice A2 xs.length c2] 60)) (by omega))
      have HCX := Lib.hid ((Blk.new wr 60 #[.string t, .slice A2 xs.length c2]).cell 1)
      have hsx : (wr.alloc (.cells #[.string t, .slice A2 xs.length c2] 60)).heap.size = wr.heap.size + 1 := by simp
      have HSX := Lib.hid hsx
      have hboxx := (hbx.cell (p := ⟨w.heap.size, 0, Option.none⟩) (by show w.heap.size < _; omega)).trans HCB.out
      clear hbx hsx hbr
      rename World => wo
      go_wp2_with fail
      go_loopw [19] (fun i wr => ∃ q : Nat, q ≤ ps.length ∧ i = .int .i64 q ∧ Hid (∀ j, j < q → preB ps k j = false) ∧ Below (wo.heap.size + 1) (wo.alloc (.cells #[.string t, .slice A2 xs.length c2] 60)) wr) (fun i _ => ps.length - (intOf i).toNat)
      case atStart => exact ⟨0, Nat.zero_le _, rfl, fun j hj => by omega, Below.refl _ _⟩
      case round =>
        obtain ⟨q, hq, rfl, hin, hbi⟩ := hrel
        have hsi : wo.heap.size + 1 ≤ wr.heap.size := by have := hbi.size; have := HSX.out; omega
        by_cases hltq : q < ps.length
        · obtain ⟨b3, o3, c3, a2, t2, ys, hv, _, hy, hcell3, hcell4, hrb, htb⟩ := (HA.out.below (HBX.out.trans (hbi.mono (by omega))) (by omega)).at_ hltq
          cases hv
          obtain ⟨A4, c4, rfl, hc4, hm4⟩ := Rd.form hrb
          have hcx1 := (hbi.cell (p := ⟨wo.heap.size, 1, Option.none⟩) (by show wo.heap.size < _; omega)).trans HCX.out
          have HY := Lib.hid hy
          have hry := hrb.below ((Below.refl wr.heap.size wr).alloc (Nat.le_refl _) (.cells #[.string t2, .slice A4 ys.length c4] 60)) (by omega)
          have hrx := (HRX.out.below hbi (by omega)).below ((Below.refl wr.heap.size wr).alloc (Nat.le_refl _) (.cells #[.string t2, .slice A4 ys.length c4] 60)) (by omega)
          have HRY := Lib.hid hry
          have HRX2 := Lib.hid hrx
          have HBI := Lib.hid (hbi.alloc hsi (.cells #[.string t2, .slice A4 ys.length c4] 60))
          clear hrb hry hrx hy hbi
          have hcx2 : (wr.alloc (.cells #[.string t2, .slice A4 ys.length c4] 60)).cell? ⟨wo.heap.size, 1, Option.none⟩ = some (.slice A2 xs.length c2) := by
            have := (((Below.refl wr.heap.size wr).alloc (Nat.le_refl _) (.cells #[.string t2, .slice A4 ys.length c4] 60)).cell (p := ⟨wo.heap.size, 1, Option.none⟩) (by show wo.heap.size < _; omega)).trans hcx1
            exact this
          by_cases hne : k = q
          · have hne1 : ((k : Int) != (q : Int)) = false := by rw [hne]; simp
            have HNE := Lib.hid hne
            clear hne
            go_wp2_with fail
            go_roundw
            case rel => exact ⟨q + 1, by omega, by go_num, fun j hj => by
              by_cases e : j = q
              · subst e; unfold preB; simp [HNE.out]
              · exact hin.out j (by omega), HBI.out⟩
            case measure => simp [intOf]; omega
          · have hne1 : ((k : Int) != (q : Int)) = true := by rw [bne_iff_ne]; omega
            have hpre : preB ps k q = begB xs ys := by unfold preB; rw [sigAt_eq HX.out, sigAt_eq HY.out]; simp [hne]
            cases hbg : begB xs ys
            · rw [hbg] at hpre
              have HP := Lib.hid hpre
              clear hpre
              have cB := bkBegins_any xs ys _ _ hi hi _ HRX2.out HRY.out
              rw [hbg] at cB
              have CB := Lib.hid cB
              clear cB
              go_wp2_with (go_at_call 209; refine CB.out.mono ?_; rintro e w' ⟨rfl, n, rfl⟩)
              go_roundw
              case rel => exact ⟨q + 1, by omega, by go_num, fun j hj => by
                by_cases e : j = q
                · subst e; exact HP.out
                · exact hin.out j (by omega), HBI.out.trans (bel_drewN _ _ _)⟩
              case measure => simp [intOf]; omega
            · rw [hbg] at hpre
              have HP := Lib.hid hpre
              clear hpre
              have cB := bkBegins_any xs ys _ _ hi hi _ HRX2.out HRY.out
              rw [hbg] at cB
              have CB := Lib.hid cB
              clear cB
              go_wp2_with (go_at_call 209; refine CB.out.mono ?_; rintro e w' ⟨rfl, n, rfl⟩)
              go_ret2
              exact ⟨ret_val (by rw [firstPre_some hup.out hin.out hlt hltq HP.out]; rfl), (HB.out.trans (HBX.out.mono (by omega))).trans ((HBI.out.mono (by omega)).trans (bel_drewN _ _ _))⟩
        · obtain rfl : q = ps.length := by omega
          go_wp2_with fail
          go_roundw
          case rel => exact ⟨k + 1, by omega, by go_num, fun j hj => by
            by_cases e : j = k
            · subst e; exact hin.out
            · exact hup.out j (by omega), HBX.out.trans (hbi.mono (by omega))⟩
          case measure => simp [intOf]; omega
    · obtain rfl : k = ps.length := by omega
      go_wp2_with fail
      go_ret2
      exact ⟨ret_val (by rw [firstPre_none hup.out]; rfl), HB.out.trans (hbr.mono (by omega))⟩
set_option maxHeartbeats 1600000 in
theorem firstPrefix_any (ps : List Phr) (v : Value) (hi : Nat) (w : World) (h : RdB w hi v ps) (hh : hi ≤ w.heap.size) :
    Calls Try.prog 149 #[v] w fun e w' => e = .returned (preI (firstPre ps)) ∧ Below w.heap.size w w' := by
  obtain ⟨a, rfl, ha⟩ := h
  obtain ⟨A, c, rfl, hc, hm⟩ := ha.form
  have hba : Below w.heap.size w (w.alloc (.cells #[.slice A ps.length c] 48)) := (Below.refl _ _).alloc (Nat.le_refl _) _
  have HB := Lib.hid hba
  have HA := Lib.hid (ha.below hba hh)
  have HG : Hid (RdB (w.alloc (.cells #[.slice A ps.length c] 48)) hi (.agg #[.slice A ps.length c]) ps) := ⟨_, rfl, HA.out⟩
  have hcb0 : (w.alloc (.cells #[.slice A ps.length c] 48)).cell? ⟨w.heap.size, 0, Option.none⟩ = some (.slice A ps.length c) := (Blk.new w 48 #[.slice A ps.length c]).cell 0
  have HCB := Lib.hid hcb0
  have hsz1 : hi ≤ (w.alloc (.cells #[.slice A ps.length c] 48)).heap.size := by simp; omega
  clear ha hba hcb0
  go_enter Try.func149, Try.ntmps149
  go_wp2_with fail
  go_loopw [12] (fun i wr => ∃ k : Nat, k ≤ ps.length ∧ i = .int .i64 k ∧ Hid (∀ j, j < k → ∀ q, q < ps.length → preB ps j q = false) ∧ Below (w.heap.size + 1) (w.alloc (.cells #[.slice A ps.length c] 48)) wr) (fun i _ => ps.length - (intOf i).toNat)
  case atStart => exact ⟨0, Nat.zero_le _, rfl, fun j hj => by omega, Below.refl _ _⟩
  case round =>
    obtain ⟨k, hk, rfl, hup, hbr⟩ := hrel
    have hs : w.heap.size + 1 ≤ wr.heap.size := by have := hbr.size; simpa using this
    by_cases hlt : k < ps.length
    · obtain ⟨b1, o1, c1, a, t, xs, hv, hb1, hx, hcell1, hcell2, hra, hta⟩ := (HA.out.below hbr (by omega)).at_ hlt
      cases hv
      obtain ⟨A2, c2, rfl, hc2, hm2⟩ := Rd.form hra
      have HX := Lib.hid hx
      have HRA := Lib.hid hra
      clear hx hra
      have hbx : Below (w.heap.size + 1) (w.alloc (.cells #[.slice (some ⟨b1, o1, Option.none⟩) ps.length c] 48)) (wr.alloc (.cells #[.string t, .slice A2 xs.length c2] 60)) := hbr.alloc hs _
      have HBX := Lib.hid hbx
      have HRX := Lib.hid (HRA.out.below ((Below.refl wr.heap.size wr).alloc (Nat.le_refl _) (.cells #[.string t, .slice A2 xs.length c2] 60)) (by omega))
      have HCX := Lib.hid ((Blk.new wr 60 #[.string t, .slice A2 xs.length c2]).cell 1)
      have hsx : (wr.alloc (.cells #[.string t, .slice A2 xs.length c2] 60)).heap.size = wr.heap.size + 1 := by simp
      have HSX := Lib.hid hsx
      have hboxx := (hbx.cell (p := ⟨w.heap.size, 0, Option.none⟩) (by show w.heap.size < _; omega)).trans HCB.out
      clear hbx hsx hbr
      rename World => wo
      go_wp2_with fail
      go_loopw [20] (fun i wr => ∃ q : Nat, q ≤ ps.length ∧ i = .int .i64 q ∧ Hid (∀ j, j < q → preB ps k j = false) ∧ Below (wo.heap.size + 1) (wo.alloc (.cells #[.string t, .slice A2 xs.length c2] 60)) wr) (fun i _ => ps.length - (intOf i).toNat)
      case atStart => exact ⟨0, Nat.zero_le _, rfl, fun j hj => by omega, Below.refl _ _⟩
      case round =>
        obtain ⟨q, hq, rfl, hin, hbi⟩ := hrel
        have hsi : wo.heap.size + 1 ≤ wr.heap.size := by have := hbi.size; have := HSX.out; omega
        by_cases hltq : q < ps.length
        · obtain ⟨b3, o3, c3, a2, t2, ys, hv, _, hy, hcell3, hcell4, hrb, htb⟩ := (HA.out.below (HBX.out.trans (hbi.mono (by omega))) (by omega)).at_ hltq
          cases hv
          obtain ⟨A4, c4, rfl, hc4, hm4⟩ := Rd.form hrb
          have hcx1 := (hbi.cell (p := ⟨wo.heap.size, 1, Option.none⟩) (by show wo.heap.size < _; omega)).trans HCX.out
          have HY := Lib.hid hy
          have hry := hrb.below ((Below.refl wr.heap.size wr).alloc (Nat.le_refl _) (.cells #[.string t2, .slice A4 ys.length c4] 60)) (by omega)
          have hrx := (HRX.out.below hbi (by omega)).below ((Below.refl wr.heap.size wr).alloc (Nat.le_refl _) (.cells #[.string t2, .slice A4 ys.length c4] 60)) (by omega)
          have HRY := Lib.hid hry
          have HRX2 := Lib.hid hrx
          have HBI := Lib.hid (hbi.alloc hsi (.cells #[.string t2, .slice A4 ys.length c4] 60))
          clear hrb hry hrx hy hbi
          have hcx2 : (wr.alloc (.cells #[.string t2, .slice A4 ys.length c4] 60)).cell? ⟨wo.heap.size, 1, Option.none⟩ = some (.slice A2 xs.length c2) := by
            have := (((Below.refl wr.heap.size wr).alloc (Nat.le_refl _) (.cells #[.string t2, .slice A4 ys.length c4] 60)).cell (p := ⟨wo.heap.size, 1, Option.none⟩) (by show wo.heap.size < _; omega)).trans hcx1
            exact this
          by_cases hne : k = q
          · have hne1 : ((k : Int) != (q : Int)) = false := by rw [hne]; simp
            have HNE := Lib.hid hne
            clear hne
            go_wp2_with fail
            go_roundw
            case rel => exact ⟨q + 1, by omega, by go_num, fun j hj => by
              by_cases e : j = q
              · subst e; unfold preB; simp [HNE.out]
              · exact hin.out j (by omega), HBI.out⟩
            case measure => simp [intOf]; omega
          · have hne1 : ((k : Int) != (q : Int)) = true := by rw [bne_iff_ne]; omega
            have hpre : preB ps k q = begB xs ys := by unfold preB; rw [sigAt_eq HX.out, sigAt_eq HY.out]; simp [hne]
            cases hbg : begB xs ys
            · rw [hbg] at hpre
              have HP := Lib.hid hpre
              clear hpre
              have cB := begins_any xs ys _ _ hi hi _ HRX2.out HRY.out
              rw [hbg] at cB
              have CB := Lib.hid cB
              clear cB
              go_wp2_with (go_at_call 208; refine CB.out.mono ?_; rintro e w' ⟨rfl, n, rfl⟩)
              go_roundw
              case rel => exact ⟨q + 1, by omega, by go_num, fun j hj => by
                by_cases e : j = q
                · subst e; exact HP.out
                · exact hin.out j (by omega), HBI.out.trans (bel_drewN _ _ _)⟩
              case measure => simp [intOf]; omega
            · rw [hbg] at hpre
              have HP := Lib.hid hpre
              clear hpre
              have cB := begins_any xs ys _ _ hi hi _ HRX2.out HRY.out
              rw [hbg] at cB
              have CB := Lib.hid cB
              clear cB
              go_wp2_with (go_at_call 208; refine CB.out.mono ?_; rintro e w' ⟨rfl, n, rfl⟩)
              go_ret3
              exact ⟨ret_val (by rw [firstPre_some hup.out hin.out hlt hltq HP.out]; rfl), (HB.out.trans (HBX.out.mono (by omega))).trans ((HBI.out.mono (by omega)).trans (bel_drewN _ _ _))⟩
        · obtain rfl : q = ps.length := by omega
          go_wp2_with fail
          go_roundw
          case rel => exact ⟨k + 1, by omega, by go_num, fun j hj => by
            by_cases e : j = k
            · subst e; exact hin.out
            · exact hup.out j (by omega), HBX.out.trans (hbi.mono (by omega))⟩
          case measure => simp [intOf]; omega
    · obtain rfl : k = ps.length := by omega
      go_wp2_with fail
      go_ret3
      exact ⟨ret_val (by rw [firstPre_none hup.out]; rfl), HB.out.trans (hbr.mono (by omega))⟩
end Go.Proofs.Ytabiobjcfopakaa
/- Plain laws: the tables of how many ways there are from each place on; their bounds. -/
namespace Go.Proofs.Ytabiobjcfopakaa
theorem sum_perm {a b : List Nat} (h : a.Perm b) : a.sum = b.sum := by
  induction h with
  | nil => rfl
  | cons x _ ih => simp [ih]
  | swap x y l => simp; omega
  | trans _ _ h1 h2 => exact h1.trans h2
theorem sum_pow_lt : ∀ (r : Nat) (L : List Nat), L.Nodup → (∀ e ∈ L, e < r) → (L.map fun e => 2 ^ e).sum < 2 ^ r
  | 0, L, _, h => by
    cases L with
    | nil => simp
    | cons a l => have := h a (by simp); omega
  | r + 1, L, hn, h => by
    by_cases hr : r ∈ L
    · have hp := List.perm_cons_erase hr
      have h1 := sum_perm (hp.map fun e => 2 ^ e)
      have h2 := sum_pow_lt r (L.erase r) (hn.erase r) (fun e he => by
        have h3 := h e (List.mem_of_mem_erase he)
        have h4 : e ≠ r := by rintro rfl; exact (hn.mem_erase_iff.1 he).1 rfl
        omega)
      rw [h1, List.map_cons, List.sum_cons, Nat.pow_succ]
      omega
    · have h2 := sum_pow_lt r L hn (fun e he => by
        have h3 := h e he
        have h4 : e ≠ r := by rintro rfl; exact hr he
        omega)
      rw [Nat.pow_succ]
      omega
/-- The ways at a place: of each phrase that fits there the ways behind it. -/
def wayAt (fit : Phr → Bool) (len : Phr → Nat) (ps : List Phr) (tb : List Nat) : Nat := (ps.map fun p => if fit p then tb.getD (len p - 1) 0 else 0).sum
/-- The ways from the last k places on. -/
def dpW (fit : Nat → Phr → Bool) (len : Phr → Nat) (ps : List Phr) (n : Nat) : Nat → List Nat
  | 0 => [1]
  | k + 1 => wayAt (fit (n - (k + 1))) len ps (dpW fit len ps n k) :: dpW fit len ps n k
theorem dpW_len (fit : Nat → Phr → Bool) (len : Phr → Nat) (ps : List Phr) (n k : Nat) : (dpW fit len ps n k).length = k + 1 := by
  induction k with
  | zero => rfl
  | succ k ih => simp [dpW, ih]
theorem wayAt_snoc {fit : Phr → Bool} {len : Phr → Nat} {ps : List Phr} {tb : List Nat} {j : Nat} {p : Phr} (h : ps[j]? = some p) : wayAt fit len (ps.take (j + 1)) tb = wayAt fit len (ps.take j) tb + if fit p then tb.getD (len p - 1) 0 else 0 := by
  unfold wayAt; rw [take_snocN h, List.map_append, List.sum_append]; simp
theorem wayAt_nil {fit : Phr → Bool} {len : Phr → Nat} {tb : List Nat} : wayAt fit len [] tb = 0 := rfl
/-- Phrases that fit at one place have lengths of their own. -/
def Apart (fit : Phr → Bool) (len : Phr → Nat) (r : Nat) (ps : List Phr) : Prop :=
  ps.Pairwise (fun p q => fit p = true → fit q = true → len p ≠ len q) ∧ ∀ p ∈ ps, fit p = true → 1 ≤ len p ∧ len p ≤ r
theorem Apart.take {fit : Phr → Bool} {len : Phr → Nat} {r : Nat} {ps : List Phr} (h : Apart fit len r ps) (j : Nat) : Apart fit len r (ps.take j) :=
  ⟨h.1.sublist (List.take_sublist j ps), fun p hp => h.2 p (List.mem_of_mem_take hp)⟩
theorem wayAt_lt {fit : Phr → Bool} {len : Phr → Nat} {r : Nat} {ps : List Phr} {tb : List Nat} (h : Apart fit len r ps) (ht : ∀ i m, tb[i]? = some m → m ≤ 2 ^ (r - (i + 1))) : wayAt fit len ps tb < 2 ^ r := by
  have h1 : wayAt fit len ps tb ≤ (((ps.filter fit).map fun p => r - len p).map fun e => 2 ^ e).sum := by
    have h2 := h.2
    clear h
    induction ps with
    | nil => simp [wayAt]
    | cons p l ih =>
      have hi := ih (fun q hq => h2 q (List.mem_cons_of_mem _ hq))
      unfold wayAt at *
      cases hf : fit p
      · simpa [hf] using hi
      · have hl := h2 p (by simp) hf
        have hv : tb.getD (len p - 1) 0 ≤ 2 ^ (r - len p) := by
          rw [List.getD_eq_getElem?_getD]
          cases hg : tb[len p - 1]? with
          | none => simp
          | some m => have := ht _ _ hg; rw [show len p - 1 + 1 = len p by omega] at this; simpa using this
        simp only [List.map_cons, hf, if_true, List.sum_cons, List.filter_cons_of_pos] at hi ⊢
        omega
  refine Nat.lt_of_le_of_lt h1 (sum_pow_lt r _ ?_ ?_)
  · obtain ⟨h1, h2⟩ := h
    rw [List.Nodup, List.pairwise_map, List.pairwise_filter]
    refine h1.imp_of_mem ?_
    intro p q hp hq hne fp fq
    have := hne fp fq
    have := h2 p hp fp
    have := h2 q hq fq
    omega
  · intro e he
    rw [List.mem_map] at he
    obtain ⟨p, hp, rfl⟩ := he
    rw [List.mem_filter] at hp
    have := h.2 p hp.1 hp.2
    omega
theorem dpW_le {fit : Nat → Phr → Bool} {len : Phr → Nat} {ps : List Phr} {n : Nat} (h : ∀ k, k < n → Apart (fit (n - (k + 1))) len (k + 1) ps) :
    ∀ k, k ≤ n → ∀ i m, (dpW fit len ps n k)[i]? = some m → m ≤ 2 ^ (k - i)
  | 0, _, i, m, hi => by
    cases i with
    | zero => simp [dpW] at hi; subst hi; simp
    | succ i => simp [dpW] at hi
  | k + 1, hk, i, m, hi => by
    have ih := dpW_le h k (by omega)
    cases i with
    | zero =>
      simp only [dpW, List.getElem?_cons_zero, Option.some.injEq] at hi
      subst hi
      exact Nat.le_of_lt (wayAt_lt (h k (by omega)) (fun i m hm => by have := ih i m hm; rwa [show k + 1 - 0 - (i + 1) = k - i by omega]))
    | succ i =>
      simp only [dpW, List.getElem?_cons_succ] at hi
      have := ih i m hi
      rwa [show k + 1 - (i + 1) = k - i by omega]
/-- Numbers as cells. -/
abbrev nats (l : List Nat) : List Value := l.map fun m : Nat => Value.int .i64 (m : Int)
/-- The table's cells, j phrases seen at a place: those ahead still empty. -/
def tblC (at_ : Nat) (sofar : Nat) (tb : List Nat) : List Value := List.replicate at_ (Value.int .i64 0) ++ nats (sofar :: tb)
theorem tblC_at {at_ sofar : Nat} {tb : List Nat} : (tblC at_ sofar tb)[at_]? = some (.int .i64 (sofar : Int)) := by
  unfold tblC; rw [List.getElem?_append_right (by simp)]; simp
theorem tblC_on {at_ sofar d : Nat} {tb : List Nat} {m : Nat} (h : tb[d]? = some m) : (tblC at_ sofar tb)[at_ + 1 + d]? = some (.int .i64 (m : Int)) := by
  unfold tblC; rw [List.getElem?_append_right (by simp; omega)]; simp [show at_ + 1 + d - at_ = d + 1 by omega, h]
theorem tblC_set {at_ a b : Nat} {tb : List Nat} : (tblC at_ a tb).set at_ (.int .i64 (b : Int)) = tblC at_ b tb := by
  unfold tblC
  rw [List.set_append_right _ _ (by simp)]; simp
theorem tblC_down {at_ m : Nat} {tb : List Nat} : tblC (at_ + 1) m tb = tblC at_ 0 (m :: tb) := by
  unfold tblC
  rw [List.replicate_succ']; simp
end Go.Proofs.Ytabiobjcfopakaa
/- Plain laws on good books: no two phrases have one text, nor the same signals; phrases that fit at one place have lengths of their own. Slices cut off at their head. -/
namespace Go.Proofs.Ytabiobjcfopakaa
open Go.RowKit
theorem less_irrefl : ∀ a : List UInt8, Op.bytesLess a a = false
  | [] => by simp [Op.bytesLess]
  | x :: a => by simp [Op.bytesLess, less_irrefl a]
theorem less_trans : ∀ {a b c : List UInt8}, Op.bytesLess a b = true → Op.bytesLess b c = true → Op.bytesLess a c = true
  | a, [], c, h, _ => by cases a <;> simp [Op.bytesLess] at h
  | a, b :: bs, [], _, h => by simp [Op.bytesLess] at h
  | [], b :: bs, c :: cs, _, _ => by simp [Op.bytesLess]
  | a :: l, b :: bs, c :: cs, h, g => by
    simp only [Op.bytesLess, Bool.or_eq_true, Bool.and_eq_true, decide_eq_true_eq, beq_iff_eq] at h g ⊢
    rcases h with h | ⟨rfl, h⟩
    · rcases g with g | ⟨rfl, g⟩
      · exact .inl (UInt8.lt_trans h g)
      · exact .inl h
    · rcases g with g | ⟨rfl, g⟩
      · exact .inl g
      · exact .inr ⟨rfl, less_trans h g⟩
theorem bookB_at {ps : List Phr} (h : bookB ps = true) {j : Nat} (hj : j < ps.length) : goodAt ps j = true := by
  unfold bookB goodB at h
  rw [Bool.and_eq_true, List.all_eq_true] at h
  exact h.2 j (List.mem_range.2 hj)
theorem book_sig {ps : List Phr} (h : bookB ps = true) {j : Nat} {p : Phr} (hp : ps[j]? = some p) : sigIx ps p.2 = some j := by
  have hj := (List.getElem?_eq_some_iff.1 hp).1
  have := bookB_at h hj
  unfold goodAt at this
  rw [hp] at this
  simp only [Bool.and_eq_true, beq_iff_eq] at this
  exact this.2.2
theorem book_lt {ps : List Phr} (h : bookB ps = true) {j : Nat} {p q : Phr} (hp : ps[j]? = some p) (hq : ps[j + 1]? = some q) : ltT p.1 q.1 = true := by
  have hj := (List.getElem?_eq_some_iff.1 hq).1
  have := bookB_at h hj
  unfold goodAt at this
  rw [hq] at this
  simp only [hp, Bool.and_eq_true] at this
  exact this.2.1
theorem book_mono {ps : List Phr} (h : bookB ps = true) {i : Nat} {p : Phr} (hp : ps[i]? = some p) : ∀ (d : Nat) {q : Phr}, ps[i + 1 + d]? = some q → ltT p.1 q.1 = true
  | 0, q, hq => book_lt h hp hq
  | d + 1, q, hq => by
    have hl := (List.getElem?_eq_some_iff.1 hq).1
    have hr : ps[i + 1 + d]? = some ps[i + 1 + d] := List.getElem?_eq_getElem (by omega)
    have h1 := book_mono h hp d hr
    have h2 := book_lt h hr (by rw [show i + 1 + d + 1 = i + 1 + (d + 1) by omega]; exact hq)
    exact less_trans h1 h2
theorem book_txt {ps : List Phr} (h : bookB ps = true) {i j : Nat} {p q : Phr} (hp : ps[i]? = some p) (hq : ps[j]? = some q) (hij : i < j) : p.1 ≠ q.1 := by
  have := book_mono h hp (j - i - 1) (by rw [show i + 1 + (j - i - 1) = j by omega]; exact hq)
  intro e
  unfold ltT at this
  rw [e, less_irrefl] at this
  cases this
theorem book_sigs {ps : List Phr} (h : bookB ps = true) {i j : Nat} {p q : Phr} (hp : ps[i]? = some p) (hq : ps[j]? = some q) (hij : i < j) : p.2 ≠ q.2 := by
  intro e
  have h1 := book_sig h hp
  have h2 := book_sig h hq
  rw [e, h2] at h1
  injection h1 with h1
  omega
theorem phrOk_txt {p : Phr} (h : phrOk p = true) : 1 ≤ p.1.size ∧ p.1.size ≤ 12 ∧ smallB p.1.data.toList = true := by
  unfold phrOk phraseB at h
  simp only [Bool.and_eq_true, decide_eq_true_eq] at h
  obtain ⟨⟨⟨h1, h2⟩, h3⟩, _⟩ := h
  exact ⟨by simpa using h1, by simpa using h2, h3⟩
theorem phrOk_sig {p : Phr} (h : phrOk p = true) : 1 ≤ p.2.length ∧ p.2.length ≤ 3 ∧ allB p.2 1 60 = true := by
  unfold phrOk sigOk at h
  simp only [Bool.and_eq_true, inB_iff] at h
  obtain ⟨_, h1, h2⟩ := h
  exact ⟨by omega, by omega, h2⟩
/-- Does a phrase's signals lie at a place? -/
def fitS (sig : List Int) (m : Nat) (p : Phr) : Bool := begB p.2 (sig.drop m)
/-- Does a phrase's text lie at a place? -/
def fitT (s : ByteArray) (m : Nat) (p : Phr) : Bool := Lib.hasPrefix (s.extract m s.size).data.toList p.1.data.toList
theorem fitT_eq {s : ByteArray} {m : Nat} {p : Phr} : fitT s m p = true ↔ p.1.data.toList <+: s.data.toList.drop m := by
  unfold fitT Lib.hasPrefix
  rw [List.isPrefixOf_iff_prefix]
  have : (s.extract m s.size).data.toList = s.data.toList.drop m := by
    simp [List.take_of_length_le]
  rw [this]
theorem apart_sig {ps : List Phr} (h : bookB ps = true) (sig : List Int) (m : Nat) : Apart (fitS sig m) (fun p => p.2.length) (sig.length - m) ps := by
  refine ⟨?_, fun p hp hf => ?_⟩
  · rw [List.pairwise_iff_getElem]
    intro i j hi hj hij f1 f2 e
    unfold fitS at f1 f2
    rw [begB_iff, List.prefix_iff_eq_take] at f1 f2
    refine book_sigs h (List.getElem?_eq_getElem hi) (List.getElem?_eq_getElem hj) hij ?_
    have e' : ps[i].2.length = ps[j].2.length := e
    rw [f1, f2, e']
  · have h1 := phrOk_sig (bookB_phr h hp)
    unfold fitS at hf
    rw [begB_iff] at hf
    have := hf.length_le
    rw [List.length_drop] at this
    exact ⟨h1.1, this⟩
theorem apart_txt {ps : List Phr} (h : bookB ps = true) (s : ByteArray) (m : Nat) : Apart (fitT s m) (fun p => p.1.size) (s.size - m) ps := by
  refine ⟨?_, fun p hp hf => ?_⟩
  · rw [List.pairwise_iff_getElem]
    intro i j hi hj hij f1 f2 e
    rw [fitT_eq, List.prefix_iff_eq_take] at f1 f2
    refine book_txt h (List.getElem?_eq_getElem hi) (List.getElem?_eq_getElem hj) hij ?_
    have e' : ps[i].1.size = ps[j].1.size := e
    have e2 : ps[i].1.data.toList.length = ps[j].1.data.toList.length := by simpa using e'
    have : ps[i].1.data.toList = ps[j].1.data.toList := by rw [f1, f2, e2]
    exact ByteArray.ext (Array.toList_inj.1 this)
  · have h1 := phrOk_txt (bookB_phr h hp)
    rw [fitT_eq] at hf
    have := hf.length_le
    rw [List.length_drop] at this
    exact ⟨h1.1, by simpa using this⟩
/-- The table's cells: m places still empty, then the table. -/
def tblZ (m : Nat) (tb : List Nat) : List Value := List.replicate m (Value.int .i64 0) ++ nats tb
theorem tblZ_down {m : Nat} {tb : List Nat} : tblZ (m + 1) tb = tblC m 0 tb := by
  unfold tblZ tblC
  rw [List.replicate_succ']; simp
theorem tblC_Z {m a : Nat} {tb : List Nat} : tblC m a tb = tblZ m (a :: tb) := rfl
theorem tblZ_start (n : Nat) : ((zeros (n + 1)).setIfInBounds n (.int .i64 1)).toList = tblZ n [1] := by
  unfold tblZ zeros
  rw [Array.toList_setIfInBounds, List.replicate_succ']
  rw [List.set_append_right _ _ (by simp)]
  simp
theorem RdI.drop {w : World} {hi c : Nat} {b off : Nat} {xs : List Int} (h : RdI w hi (.slice (some ⟨b, off, Option.none⟩) xs.length c) xs) {k : Nat} (hk : k < xs.length) :
    RdI w hi (.slice (some ⟨b, off + k, Option.none⟩) (xs.length - k) (c - k)) (xs.drop k) := by
  obtain ⟨h0, A', c', hv, h1, h2, h3⟩ := h
  cases hv
  obtain ⟨b', off', hA, hb, hc⟩ := h3 (by omega)
  cases hA
  refine ⟨by simp, some ⟨b, off + k, Option.none⟩, c - k, by rw [List.length_drop], by rw [List.length_drop]; omega, by omega, fun _ => ⟨b, off + k, rfl, hb, fun j u hu => ?_⟩⟩
  have := hc (k + j) u (by
    rw [ints, List.getElem?_map, List.getElem?_drop] at hu
    rw [ints, List.getElem?_map]; exact hu)
  rwa [← Nat.add_assoc] at this
theorem wrap_in {x : Int} (h : -9223372036854775808 ≤ x ∧ x ≤ 9223372036854775807) : IntKind.i64.wrap x = x := IntWalk.i64_in _ h
end Go.Proofs.Ytabiobjcfopakaa
/- Plain laws: the rests that stick out where two lists of phrases have the same signals so far. -/
namespace Go.Proofs.Ytabiobjcfopakaa
open Go.RowKit
/-- A rest is put to the others, once. -/
def putR (L : List (List Int)) (r : List Int) : List (List Int) := if r ∈ L then L else L ++ [r]
theorem putR_old {L : List (List Int)} {r : List Int} (h : r ∈ L) : putR L r = L := by unfold putR; rw [if_pos h]
theorem putR_new {L : List (List Int)} {r : List Int} (h : r ∉ L) : putR L r = L ++ [r] := by unfold putR; rw [if_neg h]
theorem putR_mem {L : List (List Int)} {r : List Int} : r ∈ putR L r := by unfold putR; split <;> simp_all
theorem putR_pre {L : List (List Int)} {r : List Int} : L <+: putR L r := by
  unfold putR; split
  · exact List.prefix_refl _
  · exact List.prefix_append _ _
theorem putR_nodup {L : List (List Int)} {r : List Int} (h : L.Nodup) : (putR L r).Nodup := by
  unfold putR; split
  · exact h
  · rename_i hn
    rw [List.nodup_append]
    refine ⟨h, by simp, fun a ha b hb => ?_⟩
    rw [List.mem_singleton] at hb
    rintro rfl
    exact hn (hb ▸ ha)
/-- One pair of phrases. -/
def seed1 (ps : List Phr) (i : Nat) (x : Phr) (L : List (List Int)) (k : Nat) : List (List Int) := match ps[k]? with
  | some y => if i ≠ k ∧ begB x.2 y.2 = true then putR L (y.2.drop x.2.length) else L
  | Option.none => L
/-- One phrase with the first j others, the first i phrases with all others. -/
def seedK (ps : List Phr) (i : Nat) (x : Phr) (L : List (List Int)) (j : Nat) : List (List Int) := (List.range j).foldl (seed1 ps i x) L
def seedI (ps : List Phr) : Nat → List (List Int)
  | 0 => []
  | i + 1 => match ps[i]? with
    | some x => seedK ps i x (seedI ps i) ps.length
    | Option.none => seedI ps i
def seedR (ps : List Phr) : List (List Int) := seedI ps ps.length
theorem seedK_zero {ps : List Phr} {i : Nat} {x : Phr} {L : List (List Int)} : seedK ps i x L 0 = L := rfl
theorem seedK_succ {ps : List Phr} {i j : Nat} {x : Phr} {L : List (List Int)} : seedK ps i x L (j + 1) = seed1 ps i x (seedK ps i x L j) j := by
  unfold seedK; rw [List.range_succ, List.foldl_append]; rfl
theorem seedI_succ {ps : List Phr} {i : Nat} {x : Phr} (h : ps[i]? = some x) : seedI ps (i + 1) = seedK ps i x (seedI ps i) ps.length := by rw [seedI, h]
theorem seed1_yes {ps : List Phr} {i k : Nat} {x y : Phr} {L : List (List Int)} (hy : ps[k]? = some y) (h : i ≠ k) (hb : begB x.2 y.2 = true) : seed1 ps i x L k = putR L (y.2.drop x.2.length) := by
  unfold seed1; rw [hy]; exact if_pos ⟨h, hb⟩
theorem seed1_no {ps : List Phr} {i k : Nat} {x y : Phr} {L : List (List Int)} (hy : ps[k]? = some y) (h : ¬ (i ≠ k ∧ begB x.2 y.2 = true)) : seed1 ps i x L k = L := by
  unfold seed1; rw [hy]; exact if_neg h
/-- One phrase behind, or ahead of, a rest. -/
def turn1 (x : List Int) (L : List (List Int)) (y : Phr) : List (List Int) :=
  let L1 := if begB x y.2 then putR L (y.2.drop x.length) else L
  if begB y.2 x then putR L1 (x.drop y.2.length) else L1
def turnR (ps : List Phr) (x : List Int) (L : List (List Int)) (j : Nat) : List (List Int) := (ps.take j).foldl (turn1 x) L
theorem turnR_succ {ps : List Phr} {x : List Int} {L : List (List Int)} {j : Nat} {y : Phr} (h : ps[j]? = some y) : turnR ps x L (j + 1) = turn1 x (turnR ps x L j) y := by
  unfold turnR; rw [take_snocN h, List.foldl_append]; rfl
theorem turnR_zero {ps : List Phr} {x : List Int} {L : List (List Int)} : turnR ps x L 0 = L := rfl
/-- From the n-th rest on, until nothing new is left. -/
def runR (ps : List Phr) : Nat → Nat → List (List Int) → List (List Int)
  | 0, _, L => L
  | f + 1, n, L => match L[n]? with
    | Option.none => L
    | some x => runR ps f (n + 1) (turnR ps x L ps.length)
/-- All rests. -/
def restsR (ps : List Phr) : List (List Int) := runR ps 200 0 (seedR ps)
def oneB (ps : List Phr) : Bool := decide ([] ∉ restsR ps)
theorem runR_on {ps : List Phr} {f n : Nat} {L : List (List Int)} {x : List Int} (h : L[n]? = some x) : runR ps (f + 1) n L = runR ps f (n + 1) (turnR ps x L ps.length) := by rw [runR, h]
theorem runR_end {ps : List Phr} {f n : Nat} {L : List (List Int)} (h : L.length ≤ n) : runR ps f n L = L := by
  cases f with
  | zero => rfl
  | succ f => rw [runR, List.getElem?_eq_none h]
theorem turn1_pre {x : List Int} {L : List (List Int)} {y : Phr} : L <+: turn1 x L y := by
  unfold turn1
  dsimp only
  split <;> split
  · exact putR_pre.trans putR_pre
  · exact putR_pre
  · exact putR_pre
  · exact List.prefix_refl _
theorem turn_pre {x : List Int} : ∀ (qs : List Phr) (L : List (List Int)), L <+: qs.foldl (turn1 x) L
  | [], L => List.prefix_refl _
  | q :: qs, L => by rw [List.foldl_cons]; exact turn1_pre.trans (turn_pre qs _)
theorem turnR_pre {ps : List Phr} {x : List Int} {L : List (List Int)} {j : Nat} : L <+: turnR ps x L j := turn_pre _ _
theorem turnR_mono {ps : List Phr} {x : List Int} {L : List (List Int)} {j k : Nat} (h : j ≤ k) : turnR ps x L j <+: turnR ps x L k := by
  unfold turnR
  have : ps.take k = ps.take j ++ (ps.take k).drop j := by
    have e := List.take_append_drop j (ps.take k)
    rw [List.take_take, Nat.min_eq_left h] at e
    exact e.symm
  rw [this, List.foldl_append]
  exact turn_pre _ _
theorem runR_pre {ps : List Phr} : ∀ (f n : Nat) (L : List (List Int)), L <+: runR ps f n L
  | 0, _, L => List.prefix_refl _
  | f + 1, n, L => by
    rw [runR]
    split
    · exact List.prefix_refl _
    · exact turnR_pre.trans (runR_pre f _ _)
/-- The ends of the signals of phrases. -/
def endsP (p : Phr) : List (List Int) := (List.range (p.2.length + 1)).map fun k => p.2.drop k
def endsB (ps : List Phr) : List (List Int) := ps.flatMap endsP
theorem ends_drop {ps : List Phr} {p : Phr} (h : p ∈ ps) {k : Nat} (hk : k ≤ p.2.length) : p.2.drop k ∈ endsB ps := by
  unfold endsB endsP
  rw [List.mem_flatMap]
  exact ⟨p, h, List.mem_map.2 ⟨k, List.mem_range.2 (by omega), rfl⟩⟩
theorem ends_again {ps : List Phr} {r : List Int} (h : r ∈ endsB ps) {k : Nat} (hk : k ≤ r.length) : r.drop k ∈ endsB ps := by
  unfold endsB endsP at h
  rw [List.mem_flatMap] at h
  obtain ⟨p, hp, h⟩ := h
  rw [List.mem_map] at h
  obtain ⟨j, hj, rfl⟩ := h
  rw [List.mem_range] at hj
  rw [List.drop_drop]
  rw [List.length_drop] at hk
  exact ends_drop hp (by omega)
theorem ends_len {ps : List Phr} (h : bookB ps = true) : (endsB ps).length ≤ 160 := by
  have h1 := bookB_len h
  have h2 : ∀ p ∈ ps, p.2.length ≤ 3 := fun p hp => (phrOk_sig (bookB_phr h hp)).2.1
  have h3 : (endsB ps).length ≤ 4 * ps.length := by
    unfold endsB
    clear h h1
    induction ps with
    | nil => simp
    | cons p l ih =>
      have := ih (fun q hq => h2 q (List.mem_cons_of_mem _ hq))
      have h4 := h2 p (by simp)
      rw [List.flatMap_cons, List.length_append, List.length_cons]
      unfold endsP at this ⊢
      rw [List.length_map, List.length_range]
      omega
  omega
theorem nodup_len {α : Type} [DecidableEq α] : ∀ (L E : List α), L.Nodup → (∀ x ∈ L, x ∈ E) → L.length ≤ E.length
  | [], E, _, _ => by simp
  | a :: L, E, h, hs => by
    rw [List.nodup_cons] at h
    have ha := hs a (by simp)
    have h1 := nodup_len L (E.erase a) h.2 (fun x hx => by
      have hne : x ≠ a := by rintro rfl; exact h.1 hx
      exact (List.mem_erase_of_ne hne).2 (hs x (List.mem_cons_of_mem _ hx)))
    have h2 := List.length_erase_of_mem ha
    have h3 : 0 < E.length := List.length_pos_of_mem ha
    rw [List.length_cons]
    omega
/-- A list of rests: none twice, all of them ends of phrases. -/
structure RestOk (ps : List Phr) (L : List (List Int)) : Prop where
  nodup : L.Nodup
  ends : ∀ r ∈ L, r ∈ endsB ps
theorem RestOk.nil (ps : List Phr) : RestOk ps [] := ⟨List.nodup_nil, fun r h => by cases h⟩
theorem RestOk.put {ps : List Phr} {L : List (List Int)} {r : List Int} (h : RestOk ps L) (hr : r ∈ endsB ps) : RestOk ps (putR L r) := by
  refine ⟨putR_nodup h.nodup, fun x hx => ?_⟩
  unfold putR at hx
  split at hx
  · exact h.ends x hx
  · rw [List.mem_append, List.mem_singleton] at hx
    rcases hx with hx | rfl
    · exact h.ends x hx
    · exact hr
theorem RestOk.len {ps : List Phr} {L : List (List Int)} (h : RestOk ps L) (hb : bookB ps = true) : L.length ≤ 160 := Nat.le_trans (nodup_len L _ h.nodup h.ends) (ends_len hb)
theorem begB_le {xs ys : List Int} (h : begB xs ys = true) : xs.length ≤ ys.length := by rw [begB_iff] at h; exact h.length_le
theorem RestOk.seed1 {ps : List Phr} {L : List (List Int)} (h : RestOk ps L) (i : Nat) (x : Phr) (k : Nat) : RestOk ps (seed1 ps i x L k) := by
  unfold Go.Proofs.Ytabiobjcfopakaa.seed1
  split
  · rename_i y hy
    split
    · rename_i hc
      exact h.put (ends_drop (List.mem_of_getElem? hy) (begB_le hc.2))
    · exact h
  · exact h
theorem RestOk.seedK {ps : List Phr} {L : List (List Int)} (h : RestOk ps L) (i : Nat) (x : Phr) : ∀ j, RestOk ps (seedK ps i x L j)
  | 0 => h
  | j + 1 => by rw [seedK_succ]; exact (RestOk.seedK h i x j).seed1 i x j
theorem RestOk.seedI (ps : List Phr) : ∀ i, RestOk ps (seedI ps i)
  | 0 => RestOk.nil ps
  | i + 1 => by
    rw [Go.Proofs.Ytabiobjcfopakaa.seedI]
    split
    · exact (RestOk.seedI ps i).seedK _ _ _
    · exact RestOk.seedI ps i
theorem RestOk.turn1 {ps : List Phr} {L : List (List Int)} {x : List Int} {y : Phr} (h : RestOk ps L) (hx : x ∈ endsB ps) (hy : y ∈ ps) : RestOk ps (turn1 x L y) := by
  unfold Go.Proofs.Ytabiobjcfopakaa.turn1
  dsimp only
  have h1 : RestOk ps (if begB x y.2 then putR L (y.2.drop x.length) else L) := by
    split
    · rename_i hb; exact h.put (ends_drop hy (begB_le hb))
    · exact h
  split
  · rename_i hb; exact h1.put (ends_again hx (begB_le hb))
  · exact h1
theorem RestOk.turnR {ps : List Phr} {L : List (List Int)} {x : List Int} (h : RestOk ps L) (hx : x ∈ endsB ps) (j : Nat) : RestOk ps (turnR ps x L j) := by
  unfold Go.Proofs.Ytabiobjcfopakaa.turnR
  have : ∀ (qs : List Phr), (∀ q ∈ qs, q ∈ ps) → ∀ L, RestOk ps L → RestOk ps (qs.foldl (Go.Proofs.Ytabiobjcfopakaa.turn1 x) L) := by
    intro qs
    induction qs with
    | nil => intro _ L h; exact h
    | cons q qs ih =>
      intro hq L h
      rw [List.foldl_cons]
      exact ih (fun r hr => hq r (List.mem_cons_of_mem _ hr)) _ (h.turn1 hx (hq q (by simp)))
  exact this _ (fun q hq => List.mem_of_mem_take hq) L h
/-- So far: the n-th rest is next. -/
def RunTo (ps : List Phr) (n : Nat) (L : List (List Int)) : Prop := RestOk ps L ∧ n ≤ L.length ∧ runR ps (200 - n) n L = restsR ps
theorem RunTo.start (ps : List Phr) : RunTo ps 0 (seedR ps) := ⟨RestOk.seedI ps ps.length, Nat.zero_le _, rfl⟩
theorem RunTo.bd {ps : List Phr} {n : Nat} {L : List (List Int)} (h : RunTo ps n L) (hb : bookB ps = true) : L.length ≤ 160 ∧ n ≤ 160 := by
  have h1 := h.1.len hb
  have h2 := h.2.1
  omega
theorem RunTo.on {ps : List Phr} {n : Nat} {L : List (List Int)} {x : List Int} (h : RunTo ps n L) (hb : bookB ps = true) (hx : L[n]? = some x) : RunTo ps (n + 1) (turnR ps x L ps.length) := by
  have h0 := h.bd hb
  have hn := (List.getElem?_eq_some_iff.1 hx).1
  have hr := h.1.turnR (h.1.ends x (List.mem_of_getElem? hx)) ps.length
  have hp : L.length ≤ (turnR ps x L ps.length).length := (turnR_pre).length_le
  refine ⟨hr, by omega, ?_⟩
  have h3 := h.2.2
  rw [show 200 - n = (200 - (n + 1)) + 1 by omega, runR_on hx] at h3
  exact h3
theorem RunTo.fin {ps : List Phr} {n : Nat} {L : List (List Int)} (h : RunTo ps n L) (hl : L.length ≤ n) : L = restsR ps := by
  have h3 := h.2.2
  rwa [runR_end hl] at h3
theorem RunTo.sub {ps : List Phr} {n : Nat} {L : List (List Int)} (h : RunTo ps n L) : L <+: restsR ps := by
  rw [← h.2.2]; exact runR_pre _ _ _
/-- While the n-th rest is held against the phrases. -/
theorem RunTo.mid {ps : List Phr} {n : Nat} {L : List (List Int)} {x : List Int} (h : RunTo ps n L) (hb : bookB ps = true) (hx : L[n]? = some x) {j : Nat} (hj : j ≤ ps.length) : turnR ps x L j <+: restsR ps ∧ RestOk ps (turnR ps x L j) ∧ (turnR ps x L j).length ≤ 160 ∧ (turnR ps x L j)[n]? = some x := by
  have hr := h.1.turnR (h.1.ends x (List.mem_of_getElem? hx)) j
  refine ⟨(turnR_mono hj).trans (h.on hb hx).sub, hr, hr.len hb, ?_⟩
  obtain ⟨t, ht⟩ := turnR_pre (ps := ps) (x := x) (L := L) (j := j)
  rw [← ht, List.getElem?_append_left (List.getElem?_eq_some_iff.1 hx).1]
  exact hx
/-- A rest that is a phrase: nothing is left of it. -/
theorem turn1_same {x : List Int} {L : List (List Int)} {y : Phr} (h : x = y.2) : [] ∈ turn1 x L y := by
  unfold turn1
  have hb : begB y.2 x = true := by rw [h]; exact begB_iff.2 (List.prefix_refl _)
  dsimp only
  rw [if_pos hb, show x.drop y.2.length = [] by rw [h]; exact List.drop_length]
  exact putR_mem
theorem turn1_fore {x : List Int} {L : List (List Int)} {y : Phr} (h : x ≠ y.2) (hb : begB x y.2 = true) : turn1 x L y = putR L (y.2.drop x.length) ∧ y.2.drop x.length ≠ [] := by
  have hp := begB_iff.1 hb
  have hlt : x.length < y.2.length := by
    rcases Nat.lt_or_ge x.length y.2.length with h1 | h1
    · exact h1
    · exact absurd (hp.eq_of_length (Nat.le_antisymm hp.length_le h1)) h
  have hn : begB y.2 x = false := by
    cases e : begB y.2 x
    · rfl
    · have := begB_le e; omega
  unfold turn1
  refine ⟨by dsimp only; rw [if_pos hb, hn]; rfl, fun e => ?_⟩
  have := congrArg List.length e
  rw [List.length_drop, List.length_nil] at this
  omega
theorem turn1_aft {x : List Int} {L : List (List Int)} {y : Phr} (hb : begB x y.2 = false) (hb2 : begB y.2 x = true) : turn1 x L y = putR L (x.drop y.2.length) ∧ x.drop y.2.length ≠ [] := by
  have hp := begB_iff.1 hb2
  unfold turn1
  refine ⟨by dsimp only; rw [hb, if_pos hb2]; rfl, fun e => ?_⟩
  have h1 := congrArg List.length e
  rw [List.length_drop, List.length_nil] at h1
  have h2 := hp.eq_of_length (Nat.le_antisymm hp.length_le (by omega))
  rw [h2, begB_iff.2 (List.prefix_refl _)] at hb
  cases hb
theorem turn1_no {x : List Int} {L : List (List Int)} {y : Phr} (hb : begB x y.2 = false) (hb2 : begB y.2 x = false) : turn1 x L y = L := by
  unfold turn1; dsimp only; rw [hb, hb2]; rfl
theorem put_ne {L : List (List Int)} {r : List Int} (h : [] ∉ L) (hr : r ≠ []) : [] ∉ putR L r := by
  unfold putR; split
  · exact h
  · rw [List.mem_append, List.mem_singleton]
    rintro (h1 | h1)
    · exact h h1
    · exact hr h1.symm
theorem seed1_ne {ps : List Phr} (hb : bookB ps = true) {i k : Nat} {x : Phr} {L : List (List Int)} (hx : ps[i]? = some x) (h : [] ∉ L) : [] ∉ seed1 ps i x L k := by
  unfold seed1
  split
  · rename_i y hy
    split
    · rename_i hc
      refine put_ne h fun e => ?_
      have hp := begB_iff.1 hc.2
      have h1 := congrArg List.length e
      rw [List.length_drop, List.length_nil] at h1
      have h2 := hp.eq_of_length (Nat.le_antisymm hp.length_le (by omega))
      rcases Nat.lt_or_gt_of_ne hc.1 with hlt | hlt
      · exact book_sigs hb hx hy hlt h2
      · exact book_sigs hb hy hx hlt h2.symm
    · exact h
  · exact h
theorem seedK_ne {ps : List Phr} (hb : bookB ps = true) {i : Nat} {x : Phr} {L : List (List Int)} (hx : ps[i]? = some x) (h : [] ∉ L) : ∀ j, [] ∉ seedK ps i x L j
  | 0 => h
  | j + 1 => by rw [seedK_succ]; exact seed1_ne hb hx (seedK_ne hb hx h j)
theorem seedI_ne {ps : List Phr} (hb : bookB ps = true) : ∀ i, [] ∉ seedI ps i
  | 0 => by simp [seedI]
  | i + 1 => by
    rw [seedI]
    split
    · rename_i x hx; exact seedK_ne hb hx (seedI_ne hb i) _
    · exact seedI_ne hb i
end Go.Proofs.Ytabiobjcfopakaa
