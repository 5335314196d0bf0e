/- Contracts: comparison of lists of numbers in a law, the bound on a law's inputs; what a list of bytes is; plain laws of signals. -/
import Derived.Test.YtabiobjcfopakaaJ3
import Derived.Test.YtabiobjcfopakaaO
import Derived.Test.YtabiobjcfopakaaB2
import Derived.Test.YtabiobjcfopakaaA3
import Derived.Test.YtabiobjcfopakaaB4
namespace Go.Proofs.Ytabiobjcfopakaa
open Go.RowKit Go.ChangeShapes Go.WideShapes Go.ChangeAt Go.Deep
theorem u8_of (vs : List Value) (h : ∀ (i : Nat) (u : Value), vs[i]? = some u → ∃ n, u = Value.int .u8 n ∧ 0 ≤ n ∧ n ≤ 255) : ∃ zs, vs = bytesV zs := by
  induction vs with
  | nil => exact ⟨[], rfl⟩
  | cons v r ih =>
    obtain ⟨n, hn, h0, h1⟩ := h 0 v rfl
    obtain ⟨zs, hzs⟩ := ih (fun i u hu => h (i + 1) u (by simpa using hu))
    refine ⟨UInt8.ofNat n.toNat :: zs, ?_⟩
    rw [hn, hzs]
    have : ((UInt8.ofNat n.toNat).toNat : Int) = n := by
      rw [UInt8.toNat_ofNat']
      omega
    simp [bytesV]
    omega
theorem trod_u8 {H : Type} {enc : TypeId × Value → H} {P : Program} {w : World} {base : Nat} {spare : Nat → Bool} {held : Bool} {fuel : Nat} {t : TypeId} {v : Value} {x : DataW H × List MemPlace}
    (ht : P.underlying t = some (.int .u8)) (h : DataW.trod enc P w base spare held fuel t [v] = some x) : ∃ n, v = .int .u8 n ∧ 0 ≤ n ∧ n ≤ 255 := by
  obtain ⟨n, e1, _, e3⟩ := DataW.trod_int ht h
  refine ⟨n, by simpa using e1, ?_⟩
  simp [Lit.wf] at e3
  have a0 : IntKind.u8.min = 0 := by decide
  have a1 : IntKind.u8.max = 255 := by decide
  omega
theorem open_byteS {H : Type} {enc : TypeId × Value → H} {w : World} {spare : Nat → Bool} {held : Bool} {fuel : Nat} {v : Value} {x : DataW H × List MemPlace}
    (h : DataW.trod enc Try.prog w 0 spare held fuel 22 [v] = some x) : ∃ zs, RdU w w.heap.size v zs := by
  obtain ⟨n, vs, hr, hl, hk⟩ := open_row Try.underlying22 (by kernel_rfl) h
  obtain ⟨zs, rfl⟩ := u8_of vs (fun i u hu => by
    obtain ⟨f, y, hy⟩ := hk i u hu
    exact trod_u8 Try.underlying5 hy)
  have : zs.length = n := by simpa [bytesV] using hl
  subst this
  exact ⟨zs, hr⟩
theorem RdU.below {w w' : World} {hi : Nat} {v : Value} {zs : List UInt8} (h : RdU w hi v zs) {B : Nat} (hb : Below B w w') (hB : hi ≤ B) : RdU w' hi v zs := Rd.below h hb hB
set_option maxHeartbeats 400000 in
theorem sameInts_same (xs : List Int) (v u : Value) (hi hj : Nat) (w : World) (h : RdI w hi v xs) (g : RdI w hj u xs) : Calls Try.prog 25 #[v, u] w fun e w' => e = .returned (.bool true) ∧ ∃ n, w' = w.drewN n := by
  obtain ⟨A, c, rfl, hc, hm⟩ := Rd.form h
  obtain ⟨A', c', rfl, hc', hm'⟩ := Rd.form g
  have H := Lib.hid h
  have G := Lib.hid g
  clear h g
  go_enter Try.func25, Try.ntmps25
  go_wp2
  go_loopw [13] (fun i wr => ∃ k : Nat, k ≤ xs.length ∧ i = .int .i64 k ∧ ∃ n, wr = w.drewN n) (fun i _ => xs.length - (intOf i).toNat)
  case atStart => exact ⟨0, Nat.zero_le _, rfl, 0, rfl⟩
  case round =>
    obtain ⟨k, hk, rfl, n, rfl⟩ := hrel
    by_cases hlt : k < xs.length
    · obtain ⟨b1, o1, c1, x, hv, _, hx, hcell1⟩ := Rd.at_ H.out hlt
      cases hv
      obtain ⟨b2, o2, c2, y, hv, _, hy, hcell2⟩ := Rd.at_ G.out hlt
      injection hv with hv1 hv2 hv3
      subst hv1
      rw [hx] at hy
      cases hy
      clear hx hv2 hv3
      go_wp2
      go_quiet (fail)
      go_wp2
      go_roundw
      case rel => exact ⟨k + 1, by omega, by go_num, _, rfl⟩
      case measure => simp [intOf]; omega
    · go_wp2
      go_ret
      exact ⟨rfl, _, rfl⟩
set_option maxHeartbeats 400000 in
theorem qInts_same (xs : List Int) (v u : Value) (hi hj : Nat) (w : World) (h : RdI w hi v xs) (g : RdI w hj u xs) : Calls Try.prog 51 #[v, u] w fun e w' => e = .returned (.bool true) ∧ ∃ n, w' = w.drewN n := by
  obtain ⟨A, c, rfl, hc, hm⟩ := Rd.form h
  obtain ⟨A', c', rfl, hc', hm'⟩ := Rd.form g
  have H := Lib.hid h
  have G := Lib.hid g
  clear h g
  go_enter Try.func51, Try.ntmps51
  go_wp2
  go_loopw [13] (fun i wr => ∃ k : Nat, k ≤ xs.length ∧ i = .int .i64 k ∧ ∃ n, wr = w.drewN n) (fun i _ => xs.length - (intOf i).toNat)
  case atStart => exact ⟨0, Nat.zero_le _, rfl, 0, rfl⟩
  case round =>
    obtain ⟨k, hk, rfl, n, rfl⟩ := hrel
    by_cases hlt : k < xs.length
    · obtain ⟨b1, o1, c1, x, hv, _, hx, hcell1⟩ := Rd.at_ H.out hlt
      cases hv
      obtain ⟨b2, o2, c2, y, hv, _, hy, hcell2⟩ := Rd.at_ G.out hlt
      injection hv with hv1 hv2 hv3
      subst hv1
      rw [hx] at hy
      cases hy
      clear hx hv2 hv3
      go_wp2
      go_quiet (fail)
      go_wp2
      go_roundw
      case rel => exact ⟨k + 1, by omega, by go_num, _, rfl⟩
      case measure => simp [intOf]; omega
    · go_wp2
      go_ret
      exact ⟨rfl, _, rfl⟩
theorem big_any (a b : List UInt8) (v u : Value) (hi hj : Nat) (w : World) (h : RdU w hi v a) (g : RdU w hj u b) : Calls Try.prog 15 #[v, u] w fun e w' => e = .returned (.bool (decide (1048576 < a.length) || decide (1048576 - (a.length : Int) < b.length))) ∧ w = w' := by
  obtain ⟨A, c, rfl, hc, hm⟩ := Rd.form h
  obtain ⟨A', c', rfl, hc', hm'⟩ := Rd.form g
  clear h g
  by_cases h1 : 1048576 < a.length
  · go_enter Try.func15, Try.ntmps15
    go_wp2
    go_ret
    exact ⟨ret_bool (by simp), rfl⟩
  · by_cases h2 : 1048576 - (a.length : Int) < b.length
    · go_enter Try.func15, Try.ntmps15
      go_wp2
      go_ret
      exact ⟨ret_bool (by simp [h2]), rfl⟩
    · go_enter Try.func15, Try.ntmps15
      go_wp2
      go_ret
      exact ⟨ret_bool (by simp; omega), rfl⟩
theorem read_text : ∀ n, n < 64 → readM (sgT n 6) = some n := by decide +kernel
theorem mir_mir : ∀ n, n < 64 → (n / 8 + n % 8 * 8) / 8 + (n / 8 + n % 8 * 8) % 8 * 8 = n := by decide +kernel
theorem mir_lt : ∀ n, n < 64 → n / 8 + n % 8 * 8 < 64 := by decide +kernel
theorem open_closed : ∀ n, n < 64 → (shutM (63 - n) 6).length + (shutM n 6).length = 6 := by decide +kernel
theorem dist_sym : ∀ n, n < 64 → ∀ m, m < 64 → distM m n = distM n m := by decide +kernel
theorem dist_mir : ∀ n, n < 64 → ∀ m, m < 64 → distM (n / 8 + n % 8 * 8) (m / 8 + m % 8 * 8) = distM n m := by decide +kernel
end Go.Proofs.Ytabiobjcfopakaa
