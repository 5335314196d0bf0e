/- Contracts of the sums of a word, of the cost of lengths and of their bounds. -/
import Derived.Test.YtfkgfioghfmmnaaB1
import Derived.Test.YtfkgfioghfmmnaaM3
namespace Go.Proofs.Ytfkgfioghfmmnaa
open Go.RowKit
theorem allB_mem {xs : List Int} {k : Nat} {y a b : Int} (h : xs[k]? = some y) (hb : allB xs a b = true) : a ≤ y ∧ y ≤ b := by
  unfold allB at hb; rw [List.all_eq_true] at hb
  exact inB_iff.1 (hb y (List.mem_of_getElem? h))
theorem allB_takeT {xs : List Int} {a b : Int} (hb : allB xs a b = true) (k : Nat) : allB (xs.take k) a b = true := by
  unfold allB at *; rw [List.all_eq_true] at *
  intro x hx; exact hb x (List.mem_of_mem_take hx)
theorem sum_bd (xs : List Int) (b : Int) (hb : allB xs 0 b = true) : 0 ≤ xs.sum ∧ xs.sum ≤ b * xs.length := by
  induction xs with
  | nil => simp
  | cons x r ih =>
    unfold allB at hb ih
    simp only [List.all_cons, Bool.and_eq_true] at hb
    have h1 := inB_iff.1 hb.1
    have h2 := ih hb.2
    simp only [List.sum_cons, List.length_cons]
    have e : b * ((r.length + 1 : Nat) : Int) = b * r.length + b := by rw [Int.natCast_add, Int.mul_add]; simp
    rw [e]; omega
theorem allB_mono {xs : List Int} {a b a' b' : Int} (h : allB xs a b = true) (h1 : a' ≤ a) (h2 : b ≤ b') : allB xs a' b' = true := by
  unfold allB at *; rw [List.all_eq_true] at *
  intro x hx; have := inB_iff.1 (h x hx); exact inB_iff.2 ⟨by omega, by omega⟩
/-- The sum of the numbers, each times its place, from place i + 1 on. -/
def wsumI : Nat → List Int → Int
  | _, [] => 0
  | i, x :: r => ((i : Int) + 1) * x + wsumI (i + 1) r
theorem wsumI_snoc (i : Nat) (l : List Int) (y : Int) : wsumI i (l ++ [y]) = wsumI i l + ((i : Int) + l.length + 1) * y := by
  induction l generalizing i with
  | nil => simp [wsumI]
  | cons x r ih =>
    simp only [List.cons_append, wsumI, ih, List.length_cons]
    have e : ((i + 1 : Nat) : Int) + r.length + 1 = (i : Int) + ((r.length + 1 : Nat) : Int) + 1 := by omega
    rw [e]; omega
theorem wsum_bd (k : Nat) (xs : List Int) (hb : allB xs 1 61 = true) (hk : k ≤ xs.length) (hl : xs.length ≤ 50) : 0 ≤ wsumI 0 (xs.take k) ∧ wsumI 0 (xs.take k) ≤ 3050 * k := by
  induction k with
  | zero => simp [wsumI]
  | succ k ih =>
    have ih := ih (by omega)
    have hy : xs[k]? = some xs[k] := by simp [show k < xs.length by omega]
    rw [take_snocI hy, wsumI_snoc]
    have hm := allB_mem hy hb
    have hlen : (xs.take k).length = k := by simp; omega
    rw [hlen]
    have h0 : 0 ≤ ((0 : Nat) : Int) + k + 1 := by omega
    have h1 : (((0 : Nat) : Int) + k + 1) * xs[k] ≤ 50 * 61 := Int.mul_le_mul (by omega) hm.2 (by omega) (by omega)
    have h2 : 0 ≤ (((0 : Nat) : Int) + k + 1) * xs[k] := Int.mul_nonneg h0 (by omega)
    omega
theorem w_step {k : Nat} {xs : List Int} {y : Int} (h : xs[k]? = some y) (hb : allB xs 1 61 = true) (hl : xs.length ≤ 50) :
    wrap64 ((k + 1 : Int) * y) = (k + 1 : Int) * y ∧ wsumI 0 (xs.take k) + (k + 1 : Int) * y = wsumI 0 (xs.take (k + 1)) ∧ 0 ≤ (k + 1 : Int) * y ∧ (k + 1 : Int) * y ≤ 3050 := by
  have hk : k < xs.length := (List.getElem?_eq_some_iff.1 h).1
  have hm := allB_mem h hb
  have h1 : ((k : Int) + 1) * y ≤ 50 * 61 := Int.mul_le_mul (by omega) hm.2 (by omega) (by omega)
  have h2 : 0 ≤ ((k : Int) + 1) * y := Int.mul_nonneg (by omega) (by omega)
  refine ⟨wrap_id (by omega) (by omega), ?_, h2, by omega⟩
  have hlen : (xs.take k).length = k := by simp; omega
  rw [take_snocI h, wsumI_snoc, hlen]; simp
theorem sum_takeI {xs : List Int} {k : Nat} {y : Int} (h : xs[k]? = some y) : (xs.take (k + 1)).sum = (xs.take k).sum + y := by rw [take_snocI h, List.sum_append]; simp

theorem syndromes_any (xs : List Int) (v : Value) (hi : Nat) (w : World) (h : RdI w hi v xs) (hb : allB xs 1 61 = true) (hl : xs.length ≤ 50) : Calls Try.prog 61 #[v] w fun e w' => e = .returned (.tuple #[.int .i64 (xs.sum % 61), .int .i64 (wsumI 0 xs % 61)]) ∧ w = w' := by
  obtain ⟨A, c, rfl, hc, hm⟩ := Rd.form h
  have H := Lib.hid h
  have HB := Lib.hid hb
  clear h hb
  go_enter Try.func61, Try.ntmps61
  go_wp2
  go_loop [4, 5, 10] (fun s q i => ∃ k : Nat, k ≤ xs.length ∧ i = .int .i64 k ∧ s = .int .i64 (xs.take k).sum ∧ q = .int .i64 (wsumI 0 (xs.take k))) (fun _ _ i => xs.length - (intOf i).toNat)
  case atStart => exact ⟨0, Nat.zero_le _, rfl, rfl, rfl⟩
  case round =>
    obtain ⟨k, hk, rfl, rfl, rfl⟩ := hrel
    have hs := sum_bd _ 61 (allB_mono (allB_takeT HB.out k) (by omega) (Int.le_refl _))
    have hw := wsum_bd k xs HB.out hk hl
    have hlk : (xs.take k).length ≤ 50 := by simp; omega
    by_cases hlt : k < xs.length
    · obtain ⟨b1, o1, c1, y, hv, _, hy, hcell1⟩ := Rd.at_ H.out hlt
      cases hv
      have hst := w_step hy HB.out hl
      have hym := allB_mem hy HB.out
      have HY := Lib.hid hy
      have HS := Lib.hid hst
      clear hy hst
      have hw1 := HS.out.1
      have hw2 := HS.out.2.2
      go_wp2
      go_round
      case rel => exact ⟨k + 1, by omega, by go_num, int_val (by rw [sum_takeI HY.out]), int_val (by rw [← HS.out.2.1])⟩
      case measure => simp [intOf]; omega
    · obtain rfl : k = xs.length := by omega
      rw [List.take_of_length_le (Nat.le_refl _)] at hs hw ⊢
      go_wp2
      go_ret2
      exact ⟨rfl, rfl⟩
theorem ckSum_any (xs : List Int) (v : Value) (hi : Nat) (w : World) (h : RdI w hi v xs) (hb : allB xs 1 61 = true) (hl : xs.length ≤ 50) : Calls Try.prog 59 #[v] w fun e w' => e = .returned (.tuple #[.int .i64 (xs.sum % 61), .int .i64 (wsumI 0 xs % 61)]) ∧ w = w' := by
  obtain ⟨A, c, rfl, hc, hm⟩ := Rd.form h
  have H := Lib.hid h
  have HB := Lib.hid hb
  clear h hb
  go_enter Try.func59, Try.ntmps59
  go_wp2
  go_loop [4, 5, 10] (fun s q i => ∃ k : Nat, k ≤ xs.length ∧ i = .int .i64 k ∧ s = .int .i64 (xs.take k).sum ∧ q = .int .i64 (wsumI 0 (xs.take k))) (fun _ _ i => xs.length - (intOf i).toNat)
  case atStart => exact ⟨0, Nat.zero_le _, rfl, rfl, rfl⟩
  case round =>
    obtain ⟨k, hk, rfl, rfl, rfl⟩ := hrel
    have hs := sum_bd _ 61 (allB_mono (allB_takeT HB.out k) (by omega) (Int.le_refl _))
    have hw := wsum_bd k xs HB.out hk hl
    have hlk : (xs.take k).length ≤ 50 := by simp; omega
    by_cases hlt : k < xs.length
    · obtain ⟨b1, o1, c1, y, hv, _, hy, hcell1⟩ := Rd.at_ H.out hlt
      cases hv
      have hst := w_step hy HB.out hl
      have hym := allB_mem hy HB.out
      have HY := Lib.hid hy
      have HS := Lib.hid hst
      clear hy hst
      have hw1 := HS.out.1
      have hw2 := HS.out.2.2
      go_wp2
      go_round
      case rel => exact ⟨k + 1, by omega, by go_num, int_val (by rw [sum_takeI HY.out]), int_val (by rw [← HS.out.2.1])⟩
      case measure => simp [intOf]; omega
    · obtain rfl : k = xs.length := by omega
      rw [List.take_of_length_le (Nat.le_refl _)] at hs hw ⊢
      go_wp2
      go_ret2
      exact ⟨rfl, rfl⟩
def lenB (xs : List Int) (n : Nat) : Bool := decide (xs.length ≤ n)
def wordB (xs : List Int) : Bool := lenB xs 50 && allB xs 1 61
theorem isWord_any (xs : List Int) (v : Value) (hi : Nat) (w : World) (h : RdI w hi v xs) : Calls Try.prog 60 #[v] w fun e w' => e = .returned (.bool (wordB xs)) ∧ w = w' := by
  obtain ⟨A, c, hv, hc, hm⟩ := Rd.form h
  have H := Lib.hid h
  clear h
  by_cases hl : xs.length ≤ 50
  · have e : wordB xs = allB xs 1 61 := by simp [wordB, lenB, hl]
    rw [e]; clear e
    subst hv
    go_enter Try.func60, Try.ntmps60
    go_wp2_with (go_at_call 81; refine (allWithin_any xs _ _ _ hi _ H.out).mono ?_; rintro e w' ⟨rfl, rfl⟩)
    go_ret
    exact ⟨rfl, rfl⟩
  · have e : wordB xs = false := by simp [wordB, lenB, hl]
    rw [e]; clear e
    subst hv
    go_enter Try.func60, Try.ntmps60
    go_wp2_with (go_at_call 81; refine (allWithin_any xs _ _ _ hi _ H.out).mono ?_; rintro e w' ⟨rfl, rfl⟩)
    go_ret
    exact ⟨rfl, rfl⟩
theorem ckWord_any (xs : List Int) (v : Value) (hi : Nat) (w : World) (h : RdI w hi v xs) : Calls Try.prog 58 #[v, .int .i64 50] w fun e w' => e = .returned (.bool (wordB xs)) ∧ w = w' := by
  obtain ⟨A, c, hv, hc, hm⟩ := Rd.form h
  have H := Lib.hid h
  clear h
  by_cases hl : xs.length ≤ 50
  · have e : wordB xs = allB xs 1 61 := by simp [wordB, lenB, hl]
    rw [e]; clear e
    subst hv
    go_enter Try.func58, Try.ntmps58
    go_wp2_with (go_at_call 79; refine (l1All_any xs _ _ _ hi _ H.out).mono ?_; rintro e w' ⟨rfl, rfl⟩)
    go_ret
    exact ⟨rfl, rfl⟩
  · have e : wordB xs = false := by simp [wordB, lenB, hl]
    rw [e]; clear e
    subst hv
    go_enter Try.func58, Try.ntmps58
    go_wp2_with (go_at_call 79; refine (l1All_any xs _ _ _ hi _ H.out).mono ?_; rintro e w' ⟨rfl, rfl⟩)
    go_ret
    exact ⟨rfl, rfl⟩
theorem wordB_iff {xs : List Int} : wordB xs = true ↔ xs.length ≤ 50 ∧ allB xs 1 61 = true := by simp [wordB, lenB]
def sumHoldsT (xs : List Int) : Value := if wordB xs then .tuple #[.bool (xs.sum % 61 == 0), .bool true] else .tuple #[.bool false, .bool false]
def synOfT (xs : List Int) : Value := if wordB xs then .tuple #[.int .i64 (xs.sum % 61), .int .i64 (wsumI 0 xs % 61), .bool true] else .tuple #[.int .i64 0, .int .i64 0, .bool false]
theorem SumHolds_any (xs : List Int) (v : Value) (hi : Nat) (w : World) (h : RdI w hi v xs) : Calls Try.prog 28 #[v] w fun e w' => e = .returned (sumHoldsT xs) ∧ w = w' := by
  have H := Lib.hid h
  clear h
  cases hw : wordB xs
  · have e : sumHoldsT xs = .tuple #[.bool false, .bool false] := by simp [sumHoldsT, hw]
    rw [e]; clear e
    go_enter Try.func28, Try.ntmps28
    go_wp2_with (go_at_call 60; refine (isWord_any xs _ hi _ H.out).mono ?_; rintro e w' ⟨rfl, rfl⟩)
    go_ret2
    exact ⟨rfl, rfl⟩
  · obtain ⟨hl, hb⟩ := wordB_iff.1 hw
    have e : sumHoldsT xs = .tuple #[.bool (xs.sum % 61 == 0), .bool true] := by simp [sumHoldsT, hw]
    rw [e]; clear e
    have HB := Lib.hid hb
    clear hb
    go_enter Try.func28, Try.ntmps28
    go_wp2_with (first | (go_at_call 60; refine (isWord_any xs _ hi _ H.out).mono ?_; rintro e w' ⟨rfl, rfl⟩) | (go_at_call 61; refine (syndromes_any xs _ hi _ H.out HB.out hl).mono ?_; rintro e w' ⟨rfl, rfl⟩))
    go_ret2
    exact ⟨rfl, rfl⟩
theorem sSumHolds_any (xs : List Int) (v : Value) (hi : Nat) (w : World) (h : RdI w hi v xs) : Calls Try.prog 26 #[v] w fun e w' => e = .returned (sumHoldsT xs) ∧ w = w' := by
  have H := Lib.hid h
  clear h
  cases hw : wordB xs
  · have e : sumHoldsT xs = .tuple #[.bool false, .bool false] := by simp [sumHoldsT, hw]
    rw [e]; clear e
    go_enter Try.func26, Try.ntmps26
    go_wp2_with (go_at_call 58; refine (ckWord_any xs _ hi _ H.out).mono ?_; rintro e w' ⟨rfl, rfl⟩)
    go_ret2
    exact ⟨rfl, rfl⟩
  · obtain ⟨hl, hb⟩ := wordB_iff.1 hw
    have e : sumHoldsT xs = .tuple #[.bool (xs.sum % 61 == 0), .bool true] := by simp [sumHoldsT, hw]
    rw [e]; clear e
    have HB := Lib.hid hb
    clear hb
    go_enter Try.func26, Try.ntmps26
    go_wp2_with (first | (go_at_call 58; refine (ckWord_any xs _ hi _ H.out).mono ?_; rintro e w' ⟨rfl, rfl⟩) | (go_at_call 59; refine (ckSum_any xs _ hi _ H.out HB.out hl).mono ?_; rintro e w' ⟨rfl, rfl⟩))
    go_ret2
    exact ⟨rfl, rfl⟩
theorem SyndromesOf_any (xs : List Int) (v : Value) (hi : Nat) (w : World) (h : RdI w hi v xs) : Calls Try.prog 30 #[v] w fun e w' => e = .returned (synOfT xs) ∧ w = w' := by
  have H := Lib.hid h
  clear h
  cases hw : wordB xs
  · have e : synOfT xs = .tuple #[.int .i64 0, .int .i64 0, .bool false] := by simp [synOfT, hw]
    rw [e]; clear e
    go_enter Try.func30, Try.ntmps30
    go_wp2_with (go_at_call 60; refine (isWord_any xs _ hi _ H.out).mono ?_; rintro e w' ⟨rfl, rfl⟩)
    go_ret3
    exact ⟨rfl, rfl⟩
  · obtain ⟨hl, hb⟩ := wordB_iff.1 hw
    have e : synOfT xs = .tuple #[.int .i64 (xs.sum % 61), .int .i64 (wsumI 0 xs % 61), .bool true] := by simp [synOfT, hw]
    rw [e]; clear e
    have HB := Lib.hid hb
    clear hb
    go_enter Try.func30, Try.ntmps30
    go_wp2_with (first | (go_at_call 60; refine (isWord_any xs _ hi _ H.out).mono ?_; rintro e w' ⟨rfl, rfl⟩) | (go_at_call 61; refine (syndromes_any xs _ hi _ H.out HB.out hl).mono ?_; rintro e w' ⟨rfl, rfl⟩))
    go_ret3
    exact ⟨rfl, rfl⟩
theorem sSyndromesOf_any (xs : List Int) (v : Value) (hi : Nat) (w : World) (h : RdI w hi v xs) : Calls Try.prog 29 #[v] w fun e w' => e = .returned (synOfT xs) ∧ w = w' := by
  have H := Lib.hid h
  clear h
  cases hw : wordB xs
  · have e : synOfT xs = .tuple #[.int .i64 0, .int .i64 0, .bool false] := by simp [synOfT, hw]
    rw [e]; clear e
    go_enter Try.func29, Try.ntmps29
    go_wp2_with (go_at_call 58; refine (ckWord_any xs _ hi _ H.out).mono ?_; rintro e w' ⟨rfl, rfl⟩)
    go_ret3
    exact ⟨rfl, rfl⟩
  · obtain ⟨hl, hb⟩ := wordB_iff.1 hw
    have e : synOfT xs = .tuple #[.int .i64 (xs.sum % 61), .int .i64 (wsumI 0 xs % 61), .bool true] := by simp [synOfT, hw]
    rw [e]; clear e
    have HB := Lib.hid hb
    clear hb
    go_enter Try.func29, Try.ntmps29
    go_wp2_with (first | (go_at_call 58; refine (ckWord_any xs _ hi _ H.out).mono ?_; rintro e w' ⟨rfl, rfl⟩) | (go_at_call 59; refine (ckSum_any xs _ hi _ H.out HB.out hl).mono ?_; rintro e w' ⟨rfl, rfl⟩))
    go_ret3
    exact ⟨rfl, rfl⟩
end Go.Proofs.Ytfkgfioghfmmnaa
