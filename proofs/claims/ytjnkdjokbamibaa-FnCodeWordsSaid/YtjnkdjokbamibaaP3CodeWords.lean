/- Texts of one claim, joined: B6, R5, R6, R7, R8, R10, R11, R12, R13. -/
import Derived.Test.YtjnkdjokbamibaaShelf
import Derived.Shelf.Abstract
import Derived.Deep.RegionHeld3
import Derived.Deep.AppendLies
import Derived.Deep.RegionLaw
import Derived.Test.YtjnkdjokbamibaaP2CodeWords
/- Contracts of the costs and the Kraft sums of lengths, of the program and of the reference. -/
namespace Go.Proofs.Ytjnkdjokbamibaa
open Go.RowKit
def weightsB (xs : List Int) : Bool := inB xs.length 1 20 && allB xs 0 10000
def lengthsB (xs : List Int) : Bool := inB xs.length 1 20 && allB xs 1 6
theorem lengthsB_iff {xs : List Int} : lengthsB xs = true ↔ (1 ≤ xs.length ∧ xs.length ≤ 20) ∧ allB xs 1 6 = true := by
  unfold lengthsB; rw [Bool.and_eq_true, inB_iff]
  constructor
  · rintro ⟨⟨h1, h2⟩, h3⟩; exact ⟨⟨by omega, by omega⟩, h3⟩
  · rintro ⟨⟨h1, h2⟩, h3⟩; exact ⟨⟨by omega, by omega⟩, h3⟩
theorem areLengths_any (xs : List Int) (v : Value) (hi : Nat) (w : World) (h : RdI w hi v xs) : Calls Try.prog 96 #[v] w fun e w' => e = .returned (.bool (lengthsB xs)) ∧ w = w' := by
  obtain ⟨A, c, hv, hc, hm⟩ := Rd.form h
  have H := Lib.hid h
  clear h
  unfold lengthsB
  cases hl : inB xs.length 1 20
  · rw [Bool.false_and]
    subst hv
    go_enter Try.func96, Try.ntmps96
    go_wp2_with (first | (go_at_call 128; refine (within_any _ _ _ _).mono ?_; rintro e w' ⟨rfl, rfl⟩) | (go_at_call 87; refine (allWithin_any xs _ _ _ hi _ H.out).mono ?_; rintro e w' ⟨rfl, rfl⟩))
    go_ret
    exact ⟨rfl, rfl⟩
  · rw [Bool.true_and]
    subst hv
    go_enter Try.func96, Try.ntmps96
    go_wp2_with (first | (go_at_call 128; refine (within_any _ _ _ _).mono ?_; rintro e w' ⟨rfl, rfl⟩) | (go_at_call 87; refine (allWithin_any xs _ _ _ hi _ H.out).mono ?_; rintro e w' ⟨rfl, rfl⟩))
    go_ret
    exact ⟨rfl, rfl⟩
theorem cmGood_any (xs : List Int) (v : Value) (hi : Nat) (w : World) (h : RdI w hi v xs) : Calls Try.prog 103 #[v] w fun e w' => e = .returned (.bool (lengthsB xs)) ∧ w = w' := by
  obtain ⟨A, c, hv, hc, hm⟩ := Rd.form h
  have H := Lib.hid h
  clear h
  unfold lengthsB
  cases hl : inB xs.length 1 20
  · rw [Bool.false_and]
    subst hv
    go_enter Try.func103, Try.ntmps103
    go_wp2_with (first | (go_at_call 121; refine (l1In_any _ _ _ _).mono ?_; rintro e w' ⟨rfl, rfl⟩) | (go_at_call 113; refine (l1All_any xs _ _ _ hi _ H.out).mono ?_; rintro e w' ⟨rfl, rfl⟩))
    go_ret
    exact ⟨rfl, rfl⟩
  · rw [Bool.true_and]
    subst hv
    go_enter Try.func103, Try.ntmps103
    go_wp2_with (first | (go_at_call 121; refine (l1In_any _ _ _ _).mono ?_; rintro e w' ⟨rfl, rfl⟩) | (go_at_call 113; refine (l1All_any xs _ _ _ hi _ H.out).mono ?_; rintro e w' ⟨rfl, rfl⟩))
    go_ret
    exact ⟨rfl, rfl⟩
/-- The greatest of the lengths, or 0. -/
def mostI (ls : List Int) : Int := ls.foldl max 0
theorem mostI_step {ls : List Int} {k : Nat} {y : Int} (h : ls[k]? = some y) : mostI (ls.take (k + 1)) = max (mostI (ls.take k)) y := by
  unfold mostI; rw [take_snocI h, List.foldl_append]; rfl
theorem mostI_bd (ls : List Int) (h : allB ls 1 6 = true) (k : Nat) : 0 ≤ mostI (ls.take k) ∧ mostI (ls.take k) ≤ 6 := by
  induction k with
  | zero => simp [mostI]
  | succ k ih =>
    cases hy : ls[k]? with
    | none =>
      have h1 : ls.take (k + 1) = ls.take k := by rw [List.take_add_one, hy]; simp
      rw [h1]; exact ih
    | some y =>
      rw [mostI_step hy]
      have := allB_mem hy h
      omega
theorem mostI_mem (ls : List Int) (m : Int) : m ≤ ls.foldl max m ∧ ∀ y ∈ ls, y ≤ ls.foldl max m := by
  induction ls generalizing m with
  | nil => simp
  | cons x r ih =>
    have h := ih (max m x)
    simp only [List.foldl_cons, List.mem_cons]
    refine ⟨by omega, fun y hy => ?_⟩
    rcases hy with rfl | hy
    · omega
    · exact h.2 y hy
def kraftN (r m : Nat) (ls : List Int) : Nat := (ls.map fun l => r ^ (m - l.toNat)).sum
theorem kraftN_step {r m : Nat} {ls : List Int} {k : Nat} {y : Int} (h : ls[k]? = some y) : kraftN r m (ls.take (k + 1)) = kraftN r m (ls.take k) + r ^ (m - y.toNat) := by
  unfold kraftN; rw [take_snocI h, List.map_append, List.sum_append]; simp
theorem slicesMax_any (ls : List Int) (v : Value) (hi : Nat) (w : World) (h : RdI w hi v ls) (hb : allB ls 1 6 = true) (hpos : 0 < ls.length) : Calls Try.prog 143 #[v] w fun e w' => e = .returned (.int .i64 (mostI ls)) ∧ w = w' := by
  obtain ⟨b, off, c0, y0, hv, _, hy0, hcell0⟩ := Rd.at_ h hpos
  obtain ⟨A, c, hv2, hc, hm⟩ := Rd.form h
  subst hv
  have H := Lib.hid h
  have HB := Lib.hid hb
  have HY0 := Lib.hid hy0
  have hy0b := allB_mem hy0 hb
  have hpos1 : ¬ ((ls.length : Nat) : Int) < 1 := by omega
  have hcell00 : w.cell? ⟨b, off, Option.none⟩ = some (.int .i64 y0) := hcell0
  clear h hb hv2 hy0 hcell0
  go_enter Try.func143, Try.ntmps143
  go_wp2
  go_loop [3, 4] (fun s i => ∃ (k : Nat) (p : Int), 1 ≤ k ∧ k ≤ ls.length ∧ i = .int .i64 k ∧ Hid (p = mostI (ls.take k)) ∧ s = .int .i64 p) (fun _ i => ls.length - (intOf i).toNat)
  case atStart => exact ⟨1, y0, by omega, by omega, rfl, by rw [mostI_step HY0.out]; show y0 = max _ _; simp only [List.take_zero, mostI, List.foldl_nil]; omega, rfl⟩
  case round =>
    obtain ⟨k, p, hk1, hk, rfl, hp, rfl⟩ := hrel
    by_cases hlt : k < ls.length
    · obtain ⟨b1, o1, c1, y, hv, _, hy, hcell1⟩ := Rd.at_ H.out hlt
      cases hv
      have hst := mostI_step hy
      rw [← hp.out] at hst
      have HS := Lib.hid hst
      clear hst hy
      go_wp2
      go_round
      case rel => exact ⟨k + 1, max p y, by omega, by omega, by go_num, HS.out.symm, rfl⟩
      case measure => simp [intOf]; omega
    · obtain rfl : k = ls.length := by omega
      go_wp2
      go_ret
      refine ⟨ret_int ?_, rfl⟩
      rw [hp.out, List.take_of_length_le (Nat.le_refl _)]
theorem l1Most_any (a b : Int) (w : World) : Calls Try.prog 146 #[.int .i64 a, .int .i64 b] w fun e w' => e = .returned (.int .i64 (max a b)) ∧ w = w' := by
  by_cases h : b < a
  · have e : max a b = a := by omega
    rw [e]; clear e
    go_enter Try.func146, Try.ntmps146
    go_wp2
    go_ret
    exact ⟨rfl, rfl⟩
  · have e : max a b = b := by omega
    rw [e]; clear e
    go_enter Try.func146, Try.ntmps146
    go_wp2
    go_ret
    exact ⟨rfl, rfl⟩
set_option maxHeartbeats 400000 in
theorem kraftSum_any (ls : List Int) (r : Nat) (v : Value) (hi : Nat) (w : World) (h : RdI w hi v ls) (hll : lengthsB ls = true) (hr2 : r ≤ 60) :
    Calls Try.prog 98 #[v, .int .i64 (r : Int)] w fun e w' => e = .returned (.tuple #[.int .i64 ((kraftN r (mostI ls).toNat ls : Nat) : Int), .int .i64 ((r ^ (mostI ls).toNat : Nat) : Int)]) ∧ w = w' := by
  obtain ⟨⟨g1, g2⟩, hb⟩ := lengthsB_iff.1 hll
  obtain ⟨A, c, rfl, hc, hm⟩ := Rd.form h
  have H := Lib.hid h
  have HB := Lib.hid hb
  have hmb := mostI_bd ls hb ls.length
  rw [List.take_of_length_le (Nat.le_refl _)] at hmb
  obtain ⟨m, hmm⟩ := Int.eq_ofNat_of_zero_le hmb.1
  have HM : Hid (mostI ls = (m : Int)) := hmm
  have HM2 : Hid ((mostI ls).toNat = m) := by show _ = _; rw [hmm]; rfl
  have hm6 : m ≤ 6 := by omega
  clear h hb hll hmm hmb
  go_enter Try.func98, Try.ntmps98
  go_wp2_with fail
  refine (slicesMax_any ls _ hi _ H.out HB.out (by omega)).mono ?_
  rintro e w' ⟨rfl, rfl⟩
  rw [HM.out]
  go_wp2
  go_loop [7, 14] (fun s i => ∃ (k p : Nat), k ≤ ls.length ∧ i = .int .i64 k ∧ Hid (p = kraftN r m (ls.take k)) ∧ s = .int .i64 (p : Int) ∧ p ≤ 46656000000 * k) (fun _ i => ls.length - (intOf i).toNat)
  case atStart => exact ⟨0, 0, Nat.zero_le _, rfl, rfl, rfl, by omega⟩
  case round =>
    obtain ⟨k, p, hk, rfl, hp, rfl, hp1⟩ := hrel
    by_cases hlt : k < ls.length
    · obtain ⟨b1, o1, c1, y, hv, _, hy, hcell1⟩ := Rd.at_ H.out hlt
      cases hv
      have hyb := allB_mem hy HB.out
      have hym := (mostI_mem ls 0).2 y (List.mem_of_getElem? hy)
      have hst := kraftN_step (r := r) (m := m) hy
      rw [← hp.out] at hst
      have HS := Lib.hid hst
      obtain ⟨y, rfl⟩ := Int.eq_ofNat_of_zero_le (show 0 ≤ y by omega)
      have hym' : y ≤ m := by have := HM.out; unfold mostI at this; omega
      have hpw := pow_le hr2 (show m - y ≤ 6 by omega)
      have hpi : (r : Int) ^ (m - y) ≤ 46656000000 := by rw [← Int.natCast_pow]; omega
      have hpz : 0 ≤ (r : Int) ^ (m - y) := Int.pow_nonneg (by omega)
      have hpx : ((m : Int) - (y : Int)) = ((m - y : Nat) : Int) := by omega
      have HPX := Lib.hid hpx
      clear hst hy hym hpx
      go_wp2_with fail
      rw [HPX.out]
      refine (powerOf_any r (m - y) hr2 (by omega) _).mono ?_
      rintro e w' ⟨rfl, rfl⟩
      go_wp2
      go_round
      case rel => exact ⟨k + 1, p + r ^ (m - y), by omega, by go_num, HS.out.symm, by simp, by omega⟩
      case measure => simp [intOf]; omega
    · obtain rfl : k = ls.length := by omega
      have hpm := pow_le hr2 hm6
      go_wp2_with (go_at_call 102; refine (powerOf_any r m hr2 hm6 _).mono ?_; rintro e w' ⟨rfl, rfl⟩)
      go_ret2
      have e1 := hp.out
      rw [List.take_of_length_le (Nat.le_refl _)] at e1
      exact ⟨ret_val (by rw [HM2.out, ← e1]; simp), rfl⟩
set_option maxHeartbeats 400000 in
theorem cmKraft_any (ls : List Int) (r : Nat) (v : Value) (hi : Nat) (w : World) (h : RdI w hi v ls) (hll : lengthsB ls = true) (hr2 : r ≤ 60) :
    Calls Try.prog 108 #[v, .int .i64 (r : Int)] w fun e w' => e = .returned (.tuple #[.int .i64 ((kraftN r (mostI ls).toNat ls : Nat) : Int), .int .i64 ((r ^ (mostI ls).toNat : Nat) : Int)]) ∧ w = w' := by
  obtain ⟨⟨g1, g2⟩, hb⟩ := lengthsB_iff.1 hll
  obtain ⟨A, c, rfl, hc, hm⟩ := Rd.form h
  have H := Lib.hid h
  have HB := Lib.hid hb
  have hmb := mostI_bd ls hb ls.length
  rw [List.take_of_length_le (Nat.le_refl _)] at hmb
  obtain ⟨m, hmm⟩ := Int.eq_ofNat_of_zero_le hmb.1
  have HM : Hid (mostI ls = (m : Int)) := hmm
  have HM2 : Hid ((mostI ls).toNat = m) := by show _ = _; rw [hmm]; rfl
  have hm6 : m ≤ 6 := by omega
  clear h hb hll hmm hmb
  go_enter Try.func108, Try.ntmps108
  go_wp2
  go_loop [6, 14] (fun s i => ∃ (k : Nat) (p : Int), k ≤ ls.length ∧ i = .int .i64 k ∧ Hid (p = mostI (ls.take k)) ∧ s = .int .i64 p) (fun _ i => ls.length - (intOf i).toNat)
  case atStart => exact ⟨0, 0, by omega, rfl, rfl, rfl⟩
  case round =>
    obtain ⟨k, p, hk, rfl, hp, rfl⟩ := hrel
    by_cases hlt : k < ls.length
    · obtain ⟨b1, o1, c1, y, hv, _, hy, hcell1⟩ := Rd.at_ H.out hlt
      cases hv
      have hst := mostI_step hy
      rw [← hp.out] at hst
      have HS := Lib.hid hst
      clear hst hy
      go_wp2_with (go_at_call 146; refine (l1Most_any p y _).mono ?_; rintro e w' ⟨rfl, rfl⟩)
      go_round
      case rel => exact ⟨k + 1, max p y, by omega, by go_num, HS.out.symm, rfl⟩
      case measure => simp [intOf]; omega
    · obtain rfl : k = ls.length := by omega
      have hpm : p = (m : Int) := by rw [hp.out, List.take_of_length_le (Nat.le_refl _), HM.out]
      subst hpm
      go_wp2
      go_loop [9, 24] (fun s i => ∃ (k p : Nat), k ≤ ls.length ∧ i = .int .i64 k ∧ Hid (p = kraftN r m (ls.take k)) ∧ s = .int .i64 (p : Int) ∧ p ≤ 46656000000 * k) (fun _ i => ls.length - (intOf i).toNat)
      case atStart => exact ⟨0, 0, Nat.zero_le _, rfl, rfl, rfl, by omega⟩
      case round =>
        obtain ⟨k, p, hk, rfl, hp, rfl, hp1⟩ := hrel
        by_cases hlt : k < ls.length
        · obtain ⟨b1, o1, c1, y, hv, _, hy, hcell1⟩ := Rd.at_ H.out hlt
          cases hv
          have hyb := allB_mem hy HB.out
          have hym := (mostI_mem ls 0).2 y (List.mem_of_getElem? hy)
          have hst := kraftN_step (r := r) (m := m) hy
          rw [← hp.out] at hst
          have HS := Lib.hid hst
          obtain ⟨y, rfl⟩ := Int.eq_ofNat_of_zero_le (show 0 ≤ y by omega)
          have hym' : y ≤ m := by have := HM.out; unfold mostI at this; omega
          have hpw := pow_le hr2 (show m - y ≤ 6 by omega)
          have hpi : (r : Int) ^ (m - y) ≤ 46656000000 := by rw [← Int.natCast_pow]; omega
          have hpz : 0 ≤ (r : Int) ^ (m - y) := Int.pow_nonneg (by omega)
          have hpx : ((m : Int) - (y : Int)) = ((m - y : Nat) : Int) := by omega
          have HPX := Lib.hid hpx
          clear hst hy hym hpx
          go_wp2_with fail
          rw [HPX.out]
          refine (cmPower_any r (m - y) hr2 (by omega) _).mono ?_
          rintro e w' ⟨rfl, rfl⟩
          go_wp2
          go_round
          case rel => exact ⟨k + 1, p + r ^ (m - y), by omega, by go_num, HS.out.symm, by simp, by omega⟩
          case measure => simp [intOf]; omega
        · obtain rfl : k = ls.length := by omega
          have hpm := pow_le hr2 hm6
          go_wp2_with (go_at_call 106; refine (cmPower_any r m hr2 hm6 _).mono ?_; rintro e w' ⟨rfl, rfl⟩)
          go_ret2
          have e1 := hp.out
          rw [List.take_of_length_le (Nat.le_refl _)] at e1
          exact ⟨ret_val (by rw [HM2.out, ← e1]; simp), rfl⟩
def kraftT (ls : List Int) (r : Int) : Value := if lengthsB ls && inB r 2 60 then .tuple #[.int .i64 ((kraftN r.toNat (mostI ls).toNat ls : Nat) : Int), .int .i64 ((r.toNat ^ (mostI ls).toNat : Nat) : Int), .bool true] else .tuple #[.int .i64 0, .int .i64 0, .bool false]
def hasT (ls : List Int) (r : Int) : Value := if lengthsB ls && inB r 2 60 then .tuple #[.bool (decide ((kraftN r.toNat (mostI ls).toNat ls : Int) ≤ ((r.toNat ^ (mostI ls).toNat : Nat) : Int))), .bool true] else .tuple #[.bool false, .bool false]
theorem KraftSum_any (ls : List Int) (r : Int) (v : Value) (hi : Nat) (w : World) (h : RdI w hi v ls) : Calls Try.prog 45 #[v, .int .i64 r] w fun e w' => e = .returned (kraftT ls r) ∧ w = w' := by
  have H := Lib.hid h
  clear h
  cases hll : lengthsB ls
  · go_enter Try.func45, Try.ntmps45
    go_wp2_with (first | (go_at_call 96; refine (areLengths_any ls _ hi _ H.out).mono ?_; rintro e w' ⟨rfl, rfl⟩) | (go_at_call 97; refine (isRadix_any _ _).mono ?_; rintro e w' ⟨rfl, rfl⟩))
    go_ret3
    exact ⟨ret_val (by simp [kraftT, hll]), rfl⟩
  · cases hr : inB r 2 60
    · go_enter Try.func45, Try.ntmps45
      go_wp2_with (first | (go_at_call 96; refine (areLengths_any ls _ hi _ H.out).mono ?_; rintro e w' ⟨rfl, rfl⟩) | (go_at_call 97; refine (isRadix_any _ _).mono ?_; rintro e w' ⟨rfl, rfl⟩))
      go_ret3
      exact ⟨ret_val (by simp [kraftT, hr]), rfl⟩
    · obtain ⟨hr1, hr2⟩ := inB_iff.1 hr
      obtain ⟨r, rfl⟩ := Int.eq_ofNat_of_zero_le (show 0 ≤ r by omega)
      go_enter Try.func45, Try.ntmps45
      go_wp2_with (first | (go_at_call 96; refine (areLengths_any ls _ hi _ H.out).mono ?_; rintro e w' ⟨rfl, rfl⟩) | (go_at_call 97; refine (isRadix_any _ _).mono ?_; rintro e w' ⟨rfl, rfl⟩) | (go_at_call 98; refine (kraftSum_any ls r _ hi _ H.out hll (by omega)).mono ?_; rintro e w' ⟨rfl, rfl⟩))
      go_ret3
      exact ⟨ret_val (by simp [kraftT, hll, hr]), rfl⟩
theorem sKraftSum_any (ls : List Int) (r : Int) (v : Value) (hi : Nat) (w : World) (h : RdI w hi v ls) : Calls Try.prog 46 #[v, .int .i64 r] w fun e w' => e = .returned (kraftT ls r) ∧ w = w' := by
  have H := Lib.hid h
  clear h
  cases hll : lengthsB ls
  · go_enter Try.func46, Try.ntmps46
    go_wp2_with (first | (go_at_call 103; refine (cmGood_any ls _ hi _ H.out).mono ?_; rintro e w' ⟨rfl, rfl⟩) | (go_at_call 104; refine (cmBase_any _ _).mono ?_; rintro e w' ⟨rfl, rfl⟩))
    go_ret3
    exact ⟨ret_val (by simp [kraftT, hll]), rfl⟩
  · cases hr : inB r 2 60
    · go_enter Try.func46, Try.ntmps46
      go_wp2_with (first | (go_at_call 103; refine (cmGood_any ls _ hi _ H.out).mono ?_; rintro e w' ⟨rfl, rfl⟩) | (go_at_call 104; refine (cmBase_any _ _).mono ?_; rintro e w' ⟨rfl, rfl⟩))
      go_ret3
      exact ⟨ret_val (by simp [kraftT, hr]), rfl⟩
    · obtain ⟨hr1, hr2⟩ := inB_iff.1 hr
      obtain ⟨r, rfl⟩ := Int.eq_ofNat_of_zero_le (show 0 ≤ r by omega)
      go_enter Try.func46, Try.ntmps46
      go_wp2_with (first | (go_at_call 103; refine (cmGood_any ls _ hi _ H.out).mono ?_; rintro e w' ⟨rfl, rfl⟩) | (go_at_call 104; refine (cmBase_any _ _).mono ?_; rintro e w' ⟨rfl, rfl⟩) | (go_at_call 108; refine (cmKraft_any ls r _ hi _ H.out hll (by omega)).mono ?_; rintro e w' ⟨rfl, rfl⟩))
      go_ret3
      exact ⟨ret_val (by simp [kraftT, hll, hr]), rfl⟩
theorem HasCode_any (ls : List Int) (r : Int) (v : Value) (hi : Nat) (w : World) (h : RdI w hi v ls) : Calls Try.prog 47 #[v, .int .i64 r] w fun e w' => e = .returned (hasT ls r) ∧ w = w' := by
  have H := Lib.hid h
  clear h
  cases hll : lengthsB ls
  · go_enter Try.func47, Try.ntmps47
    go_wp2_with (first | (go_at_call 96; refine (areLengths_any ls _ hi _ H.out).mono ?_; rintro e w' ⟨rfl, rfl⟩) | (go_at_call 97; refine (isRadix_any _ _).mono ?_; rintro e w' ⟨rfl, rfl⟩))
    go_ret2
    exact ⟨ret_val (by simp [hasT, hll]), rfl⟩
  · cases hr : inB r 2 60
    · go_enter Try.func47, Try.ntmps47
      go_wp2_with (first | (go_at_call 96; refine (areLengths_any ls _ hi _ H.out).mono ?_; rintro e w' ⟨rfl, rfl⟩) | (go_at_call 97; refine (isRadix_any _ _).mono ?_; rintro e w' ⟨rfl, rfl⟩))
      go_ret2
      exact ⟨ret_val (by simp [hasT, hr]), rfl⟩
    · obtain ⟨hr1, hr2⟩ := inB_iff.1 hr
      obtain ⟨r, rfl⟩ := Int.eq_ofNat_of_zero_le (show 0 ≤ r by omega)
      go_enter Try.func47, Try.ntmps47
      go_wp2_with (first | (go_at_call 96; refine (areLengths_any ls _ hi _ H.out).mono ?_; rintro e w' ⟨rfl, rfl⟩) | (go_at_call 97; refine (isRadix_any _ _).mono ?_; rintro e w' ⟨rfl, rfl⟩) | (go_at_call 98; refine (kraftSum_any ls r _ hi _ H.out hll (by omega)).mono ?_; rintro e w' ⟨rfl, rfl⟩))
      go_ret2
      exact ⟨ret_val (by simp [hasT, hll, hr]), rfl⟩
theorem cmHas_any (ls : List Int) (r : Nat) (v : Value) (hi : Nat) (w : World) (h : RdI w hi v ls) (hll : lengthsB ls = true) (hr2 : r ≤ 60) :
    Calls Try.prog 105 #[v, .int .i64 (r : Int)] w fun e w' => e = .returned (.bool (decide ((kraftN r (mostI ls).toNat ls : Int) ≤ ((r ^ (mostI ls).toNat : Nat) : Int)))) ∧ w = w' := by
  have H := Lib.hid h
  clear h
  go_enter Try.func105, Try.ntmps105
  go_wp2_with (go_at_call 108; refine (cmKraft_any ls r _ hi _ H.out hll (by omega)).mono ?_; rintro e w' ⟨rfl, rfl⟩)
  go_ret
  exact ⟨ret_bool (by simp), rfl⟩
theorem sHasCode_any (ls : List Int) (r : Int) (v : Value) (hi : Nat) (w : World) (h : RdI w hi v ls) : Calls Try.prog 48 #[v, .int .i64 r] w fun e w' => e = .returned (hasT ls r) ∧ w = w' := by
  have H := Lib.hid h
  clear h
  cases hll : lengthsB ls
  · go_enter Try.func48, Try.ntmps48
    go_wp2_with (first | (go_at_call 103; refine (cmGood_any ls _ hi _ H.out).mono ?_; rintro e w' ⟨rfl, rfl⟩) | (go_at_call 104; refine (cmBase_any _ _).mono ?_; rintro e w' ⟨rfl, rfl⟩))
    go_ret2
    exact ⟨ret_val (by simp [hasT, hll]), rfl⟩
  · cases hr : inB r 2 60
    · go_enter Try.func48, Try.ntmps48
      go_wp2_with (first | (go_at_call 103; refine (cmGood_any ls _ hi _ H.out).mono ?_; rintro e w' ⟨rfl, rfl⟩) | (go_at_call 104; refine (cmBase_any _ _).mono ?_; rintro e w' ⟨rfl, rfl⟩))
      go_ret2
      exact ⟨ret_val (by simp [hasT, hr]), rfl⟩
    · obtain ⟨hr1, hr2⟩ := inB_iff.1 hr
      obtain ⟨r, rfl⟩ := Int.eq_ofNat_of_zero_le (show 0 ≤ r by omega)
      go_enter Try.func48, Try.ntmps48
      go_wp2_with (first | (go_at_call 103; refine (cmGood_any ls _ hi _ H.out).mono ?_; rintro e w' ⟨rfl, rfl⟩) | (go_at_call 104; refine (cmBase_any _ _).mono ?_; rintro e w' ⟨rfl, rfl⟩) | (go_at_call 105; refine (cmHas_any ls r _ hi _ H.out hll (by omega)).mono ?_; rintro e w' ⟨rfl, rfl⟩))
      go_ret2
      exact ⟨ret_val (by simp [hasT, hll, hr]), rfl⟩
end Go.Proofs.Ytjnkdjokbamibaa
/- Contracts: the stable sort of a program's order, its comparison of lengths; the digits of a number. -/
namespace Go.Proofs.Ytjnkdjokbamibaa
open Go.RowKit
set_option maxHeartbeats 800000 in
theorem insSort_none (n cp g f a : Nat) (lb : Array Value) (w : World) (ha : a ≤ 20) :
    Calls Try.prog 155 #[.slice (some ⟨g, 0, Option.none⟩) n cp, .int .i64 (a : Int), .int .i64 (a : Int), .func (.func f) #[] lb] w fun e w' => (∃ z, e = .returned z) ∧ w = w' := by
  go_enter Try.func155, Try.ntmps155
  go_wp2
  go_loopw [8] (fun i wr => i = .int .i64 ((a : Int) + 1) ∧ w = wr) (fun _ _ => 0)
  case atStart => exact ⟨rfl, rfl⟩
  case round =>
    obtain ⟨rfl, rfl⟩ := hrel
    have hno : decide ((a : Int) + 1 < (a : Int)) = false := decide_eq_false (by omega)
    have hno2 : ¬ ((a : Int) + 1 < (a : Int)) := by omega
    go_wp2_with fail
    refine bodyPost_end (results_none Try.results155 _ _ _) rfl ?_
    exact ⟨⟨_, rfl⟩, rfl⟩
set_option maxHeartbeats 4000000 in
theorem stable_any (n cp g f : Nat) (lb : Array Value) (c : Nat → Nat → Int) (w : World) (hn1 : 1 ≤ n) (hn : n ≤ 20) (hcp : n ≤ cp) (h : Blk w g 3 (nats (List.range n))) (hp : CmpI f lb g n c w)
    (eg : ∀ args w, (callFunc f args).run Try.prog w = .ok (.enter f args) w) :
    Calls Try.prog 144 #[.slice (some ⟨g, 0, Option.none⟩) n cp, .int .i64 (n : Int), .func (.func f) #[] lb] w fun e w' => (∃ z, e = .returned z) ∧ Blk w' g 3 (nats (orderBy (pOf c) n)) ∧ Only (some g) w w' := by
  have CI := Lib.hid (insSort_any n cp g f lb c w hn1 hn hcp h hp eg)
  clear h hp
  by_cases h20 : n < 20
  · have hno : ¬ (20 : Int) ≤ (n : Int) := by omega
    have hno2 : ¬ (20 : Int) < (n : Int) := by omega
    have hno3 : ¬ 20 ≤ n := by omega
    have hno4 : ¬ 20 < n := by omega
    go_enter Try.func144, Try.ntmps144
    go_wp2
    go_loopw [7, 8] (fun i j wr => i = .int .i64 0 ∧ j = .int .i64 20 ∧ w = wr) (fun _ _ _ => 0)
    case atStart => exact ⟨rfl, rfl, rfl⟩
    case round =>
      obtain ⟨rfl, rfl, rfl⟩ := hrel
      go_wp2_with fail
      refine CI.out.mono ?_
      rintro e w1 ⟨⟨z, rfl⟩, hb1, ho1⟩
      have HB1 := Lib.hid hb1
      have HO1 := Lib.hid ho1
      clear hb1 ho1
      go_wp2_with fail
      go_loopw [6] (fun i wr => i = .int .i64 20 ∧ w1 = wr) (fun _ _ => 0)
      case atStart => exact ⟨rfl, rfl⟩
      case round =>
        obtain ⟨rfl, rfl⟩ := hrel
        go_wp2_with fail
        refine bodyPost_end (results_none Try.results144 _ _ _) rfl ?_
        exact ⟨⟨_, rfl⟩, HB1.out, HO1.out⟩
  · have HN : Hid ((n : Int) = 20) := by show _ = _; omega
    have CI2 : Hid (Calls Try.prog 155 #[.slice (some ⟨g, 0, Option.none⟩) n cp, .int .i64 0, .int .i64 20, .func (.func f) #[] lb] w fun e w' => (∃ z, e = .returned z) ∧ Blk w' g 3 (nats (orderBy (pOf c) n)) ∧ Only (some g) w w') := by
      have := CI.out
      rw [HN.out] at this
      exact this
    have h1 : (20 : Int) ≤ (n : Int) := by omega
    have h2 : 20 ≤ n := by omega
    have h3 : ¬ (40 : Int) ≤ (n : Int) := by omega
    have h4 : ¬ 40 ≤ n := by omega
    have h5 : ¬ (20 : Int) < (n : Int) := by omega
    have CN0 : Hid (∀ wr, Calls Try.prog 155 #[.slice (some ⟨g, 0, Option.none⟩) n cp, .int .i64 20, .int .i64 (n : Int), .func (.func f) #[] lb] wr fun e w' => (∃ z, e = .returned z) ∧ wr = w') := by
      intro wr
      rw [HN.out]
      exact insSort_none n cp g f 20 lb wr (Nat.le_refl _)
    clear CI
    go_enter Try.func144, Try.ntmps144
    go_wp2
    go_loopw [7, 8] (fun i j wr => (i = .int .i64 0 ∧ j = .int .i64 20 ∧ w = wr) ∨ (i = .int .i64 20 ∧ j = .int .i64 40 ∧ Hid (Blk wr g 3 (nats (orderBy (pOf c) n))) ∧ Hid (Only (some g) w wr))) (fun i _ _ => 20 - (intOf i).toNat)
    case atStart => exact .inl ⟨rfl, rfl, rfl⟩
    case round =>
      rcases hrel with ⟨rfl, rfl, rfl⟩ | ⟨rfl, rfl, hb1, ho1⟩
      · go_wp2_with fail
        refine CI2.out.mono ?_
        rintro e w1 ⟨⟨z, rfl⟩, hb1, ho1⟩
        have HB1 := Lib.hid hb1
        have HO1 := Lib.hid ho1
        clear hb1 ho1
        go_wp2_with fail
        go_roundw
        case rel => exact .inr ⟨rfl, rfl, HB1.out, HO1.out⟩
        case measure => simp [intOf]
      · have CN := Lib.hid (CN0.out wr)
        go_wp2_with fail
        refine CN.out.mono ?_
        rintro e w1 ⟨⟨z, rfl⟩, rfl⟩
        go_wp2_with fail
        go_loopw [6] (fun i wx => i = .int .i64 20 ∧ wr = wx) (fun _ _ => 0)
        case atStart => exact ⟨rfl, rfl⟩
        case round =>
          obtain ⟨rfl, rfl⟩ := hrel
          go_wp2_with fail
          refine bodyPost_end (results_none Try.results144 _ _ _) rfl ?_
          exact ⟨⟨_, rfl⟩, hb1.out, ho1.out⟩
theorem sortStable_any (n cp g f : Nat) (lb : Array Value) (c : Nat → Nat → Int) (w : World) (hn1 : 1 ≤ n) (hn : n ≤ 20) (hcp : n ≤ cp) (h : Blk w g 3 (nats (List.range n))) (hp : CmpI f lb g n c w)
    (eg : ∀ args w, (callFunc f args).run Try.prog w = .ok (.enter f args) w) :
    Calls Try.prog 99 #[.slice (some ⟨g, 0, Option.none⟩) n cp, .func (.func f) #[] lb] w fun e w' => (∃ z, e = .returned z) ∧ Blk w' g 3 (nats (orderBy (pOf c) n)) ∧ Only (some g) w w' := by
  have CI := Lib.hid (stable_any n cp g f lb c w hn1 hn hcp h hp eg)
  clear h hp
  go_enter Try.func99, Try.ntmps99
  go_wp2_with fail
  refine CI.out.mono ?_
  rintro e w1 ⟨⟨z, rfl⟩, hb1, ho1⟩
  have HB1 := Lib.hid hb1
  have HO1 := Lib.hid ho1
  clear hb1 ho1
  go_wp2_with fail
  refine bodyPost_end (results_none Try.results99 _ _ _) rfl ?_
  exact ⟨⟨_, rfl⟩, HB1.out, HO1.out⟩
def cLen (ls : List Int) (x y : Nat) : Int := Lib.compareInt (ls.getD x 0) (ls.getD y 0)
theorem compare_neg (a b : Int) : decide (Lib.compareInt a b < 0) = decide (a < b) := by
  unfold Lib.compareInt
  by_cases h : a < b
  · rw [if_pos h]; simp [h]
  · rw [if_neg h]
    by_cases h2 : a > b
    · rw [if_pos h2]; simp [h]
    · rw [if_neg h2]; simp [h]
theorem pOf_len (ls : List Int) : pOf (cLen ls) = pLen ls := by funext x y; exact compare_neg _ _
theorem RdI.getD {w : World} {hi : Nat} {v : Value} {xs : List Int} (h : RdI w hi v xs) {k : Nat} (hk : k < xs.length) :
    ∃ b off c, v = .slice (some ⟨b, off, Option.none⟩) xs.length c ∧ b < hi ∧ w.cell? ⟨b, off + k, Option.none⟩ = some (.int .i64 (xs.getD k 0)) := by
  obtain ⟨b, off, c, y, hv, hb, hy, hc⟩ := Rd.at_ h hk
  refine ⟨b, off, c, hv, hb, ?_⟩
  rw [hc, List.getD_eq_getElem?_getD, hy]; rfl
theorem cmpI_any (x y : Int) (w : World) : Calls Try.prog 101 #[.int .i64 x, .int .i64 y] w fun e w' => e = .returned (.int .i64 (Lib.compareInt x y)) ∧ ∃ n, w' = w.drewN n :=
  (Try.cmp_Compare_int x y w).mono fun _ _ ⟨he, hw⟩ => ⟨he, 0, hw⟩
set_option maxHeartbeats 800000 in
theorem canon1_any (ls : List Int) (s : Value) (B hi x y : Nat) (w : World) (h : RdI w hi s ls) (hx : x < ls.length) (hy : y < ls.length) (hc : w.cell? ⟨B, 0, Option.none⟩ = some s) :
    Calls Try.prog 100 #[.int .i64 (x : Int), .int .i64 (y : Int), .pointer (some ⟨B, 0, Option.none⟩)] w fun e w' => e = .returned (.int .i64 (cLen ls x y)) ∧ ∃ n, w' = w.drewN n := by
  obtain ⟨b1, o1, c1, hv1, _, hcx⟩ := RdI.getD h hx
  obtain ⟨b2, o2, c2, hv2, _, hcy⟩ := RdI.getD h hy
  subst hv1
  cases hv2
  obtain ⟨_, _, hv3, hc3, hm3⟩ := Rd.form h
  cases hv3
  obtain ⟨zx, hzx⟩ : ∃ z, z = ls.getD x 0 := ⟨_, rfl⟩
  obtain ⟨zy, hzy⟩ : ∃ z, z = ls.getD y 0 := ⟨_, rfl⟩
  rw [← hzx] at hcx
  rw [← hzy] at hcy
  have HV : Hid (cLen ls x y = Lib.compareInt zx zy) := by show _ = _; rw [hzx, hzy]; rfl
  clear h hzx hzy
  go_enter Try.func100, Try.ntmps100
  go_wp2_with fail
  go_quiet ((go_at_call 101; exact Calls.quiet_of (cmpI_any _ _ _)))
  go_wp2_with fail
  go_ret
  exact ⟨by rw [HV.out]; rfl, nq, rfl⟩
theorem wrap_nat {d : Nat} (h : d ≤ 933120000000) : wrap64 (d : Int) = (d : Int) := by unfold wrap64; omega
/-- k zeros, then numbers. -/
def zerI (k : Nat) (D : List Int) : List Value := List.replicate k (Value.int .i64 0) ++ ints D
theorem zerI_set {k : Nat} {D : List Int} {z : Int} : (zerI (k + 1) D).set k (.int .i64 z) = zerI k (z :: D) := by
  unfold zerI
  rw [List.replicate_succ', List.append_assoc]
  have := set_mid (List.replicate k (Value.int .i64 0)) (ints D) (.int .i64 0) (.int .i64 z)
  rw [List.length_replicate] at this
  exact this
theorem zerI_at {k : Nat} {D : List Int} : (zerI (k + 1) D)[k]? = some (.int .i64 0) := by
  unfold zerI
  rw [List.getElem?_append_left (by simp), List.getElem?_replicate, if_pos (by omega)]
theorem zerI_start (n : Nat) : (zeros n).toList = zerI n [] := by simp [zeros, zerI]
/-- The last digits of a number stand, the number is cut. -/
def DigTo (r n len k m : Nat) (D : List Int) : Prop := digL r n len = digL r m k ++ D ∧ m ≤ n
theorem DigTo.start (r n len : Nat) : DigTo r n len len n [] := ⟨by simp, Nat.le_refl _⟩
theorem DigTo.step {r n len k m : Nat} {D : List Int} (h : DigTo r n len (k + 1) m D) : DigTo r n len k (m / r) (((m % r : Nat) : Int) :: D) := by
  refine ⟨?_, Nat.le_trans (Nat.div_le_self _ _) h.2⟩
  rw [h.1, digL]; simp
theorem DigTo.done {r n len m : Nat} {D : List Int} (h : DigTo r n len 0 m D) : D = digL r n len := by rw [h.1, digL]; rfl
set_option maxHeartbeats 1600000 in
theorem cmDigits_any (r n len : Nat) (w : World) (hr1 : 1 ≤ r) (hr : r ≤ 60) (hn : n ≤ 933120000000) (hl : len ≤ 6) : Calls Try.prog 107 #[.int .i64 (n : Int), .int .i64 (r : Int), .int .i64 (len : Int)] w (RetOwI (digL r n len) w) := by
  have hmk := make_ints len (by omega)
  have hr0 : (r : Int) ≠ 0 := by omega
  go_enter Try.func107, Try.ntmps107
  go_wp2
  go_loopw [0, 8] (fun m i wr => ∃ (k q : Nat) (z : Int) (D : List Int), k ≤ len ∧ m = .int .i64 (q : Int) ∧ i = .int .i64 z ∧ z + 1 = (k : Int) ∧ q ≤ n ∧ Hid (DigTo r n len k q D) ∧ Hid (Blk wr w.heap.size 3 (zerI k D)) ∧ Hid (Below w.heap.size w wr)) (fun _ i _ => (intOf i + 1).toNat)
  case atStart => exact ⟨len, n, _, [], Nat.le_refl _, rfl, rfl, by omega, Nat.le_refl _, DigTo.start _ _ _, by show Blk _ _ _ _; rw [← zerI_start]; exact Blk.new _ _ _, (Below.refl _ _).alloc (Nat.le_refl _) _⟩
  case round =>
    obtain ⟨k, q, z, D, hk, rfl, rfl, hz, hqn, hd, hb, hbel⟩ := hrel
    rcases Nat.eq_zero_or_pos k with h0 | h0
    · subst h0
      obtain rfl : z = -1 := by omega
      clear hz
      go_wp2_with fail
      go_ret
      refine ⟨_, rfl, ?_, hbel.out⟩
      have hb2 := hb.out
      have hdd := hd.out.done
      have e : zerI 0 D = ints D := rfl
      rw [e] at hb2
      have hle : D.length = len := by rw [hdd, digL_len]
      have := own_of_blk (lo := w.heap.size) (hi := wr.heap.size) hb2 (Nat.le_refl _) hb2.lt (by unfold maxLen; omega)
      rw [hle, hdd] at this
      exact this
    · obtain ⟨s, rfl⟩ : ∃ s, k = s + 1 := ⟨k - 1, by omega⟩
      obtain rfl : z = (s : Int) := by omega
      have hcell := hb.out.cell s
      rw [zerI_at] at hcell
      have hfr := hb.out.frozen s
      have hsl : (s : Int) < (len : Int) := by omega
      have HD2 := Lib.hid hd.out.step
      have HB2 : Hid (∀ u, Blk (wr.setCell ⟨w.heap.size, s, Option.none⟩ (.int .i64 u)) w.heap.size 3 (zerI s (u :: D))) := fun u => by rw [← zerI_set]; exact hb.out.set_ _ _
      have HC2 : Hid (∀ u, Below w.heap.size w (wr.setCell ⟨w.heap.size, s, Option.none⟩ u)) := fun u => hbel.out.setCell (p := ⟨w.heap.size, s, Option.none⟩) (Nat.le_refl _) _
      have hq2' : q / r ≤ 933120000000 := Nat.le_trans (Nat.div_le_self _ _) (by omega)
      have hq2 : q / r ≤ n := Nat.le_trans (Nat.div_le_self _ _) hqn
      have HQW : Hid (wrap64 ((q : Int) / (r : Int)) = ((q / r : Nat) : Int)) := by show _ = _; rw [← Int.natCast_ediv]; exact wrap_nat hq2'
      clear hz h0
      go_wp2_with fail
      go_roundw
      case rel => exact ⟨s, q / r, (s : Int) - 1, _, by omega, by rw [HQW.out], by rfl, by omega, hq2, HD2.out, HB2.out _, HC2.out _⟩
      case measure => (simp [intOf]; try omega)
end Go.Proofs.Ytjnkdjokbamibaa
/- Contracts: CanonicalCode of the reference. -/
namespace Go.Proofs.Ytjnkdjokbamibaa
open Go.RowKit
theorem make_rows (n : Nat) (hn : n ≤ 1048576) (w : World) :
    (Instr.makeSlice 61 (.int .i64 (n : Int)) (.int .i64 (n : Int))).run Try.prog w = .ok (.slice (some ⟨w.heap.size, 0, Option.none⟩) n n) (w.alloc (.cells (nils n) 35)) := by
  obtain ⟨i, hi, hz0, hz1, hz2⟩ := info_parts info_ints
  have h := run_make_rowN (P := Try.prog) 61 35 i (.slice Option.none 0 0) Try.underlying61 hi hz0 .i64 .i64 n n (Nat.le_refl _) (by rw [hz2]; omega) (by omega) w
  rw [h, hz1]
  have e : madeCells (Value.slice Option.none 0 0).cells (n * 1) = nils n := by
    apply Array.ext
    · simp [madeCells, nils]
    · intro j h1 h2
      simp [madeCells, nils, Value.cells, Nat.mod_one]
  rw [e]
/-- Two results: a slice of rows of the call's own, and a bool. -/
def RetOwIIT (xss : List (List Int)) (b : Bool) (w : World) (e : Ending) (w' : World) : Prop := ∃ v, e = .returned (.tuple #[v, .bool b]) ∧ OwII w' w.heap.size w'.heap.size v xss ∧ Below w.heap.size w w'
theorem owII_nil (w : World) (lo hi : Nat) : OwII w lo hi (.slice Option.none 0 0) [] := ⟨[], RowsO.nil _ _ _, World.ownsRow_nil _ _ _ _, fun k hk => by cases hk⟩
theorem retOwIIT_nil {w w' : World} (b : Bool) (h : Below w.heap.size w w') : RetOwIIT [] b w (.returned (.tuple #[.slice Option.none 0 0, .bool b])) w' := ⟨_, rfl, owII_nil _ _ _, h⟩
/-- One row is put in the place of another one. -/
theorem RowsO.put {w : World} {lo mid hi j : Nat} {us : List Value} {xss : List (List Int)} {u : Value} {xs : List Int} (h : RowsO w lo mid us xss) (hu : OwI w mid hi u xs) (h1 : lo ≤ mid) (h2 : mid ≤ hi) : RowsO w lo hi (us.set j u) (xss.set j xs) := by
  have hl := h.1
  refine ⟨by simp [hl], fun i a b ha hb => ?_, fun i k a b hik ha hb g hg => ?_⟩
  · by_cases e : j = i
    · subst e
      rcases Nat.lt_or_ge j us.length with hi2 | hi2
      · rw [List.getElem?_set_self hi2] at ha
        rw [List.getElem?_set_self (by omega)] at hb
        cases ha; cases hb
        exact hu.mono h1 (Nat.le_refl _)
      · rw [List.getElem?_eq_none (by simpa using hi2)] at ha; cases ha
    · rw [List.getElem?_set_ne e] at ha hb
      exact (h.2.1 i a b ha hb).mono (Nat.le_refl _) h2
  · have hold : ∀ (i : Nat) (a : Value), us[i]? = some a → ∀ g, a.ownBlock = some g → g < mid := by
      intro i a ha g hg
      have hil := (List.getElem?_eq_some_iff.1 ha).1
      exact ((h.2.1 i a xss[i] ha (List.getElem?_eq_getElem (by omega))).range g hg).2
    have hget : ∀ (i : Nat) (a : Value), (us.set j u)[i]? = some a → (i = j ∧ a = u) ∨ (i ≠ j ∧ us[i]? = some a) := by
      intro i a ha
      by_cases e : j = i
      · subst e
        rcases Nat.lt_or_ge j us.length with hi2 | hi2
        · rw [List.getElem?_set_self hi2] at ha; cases ha; exact .inl ⟨rfl, rfl⟩
        · rw [List.getElem?_eq_none (by simpa using hi2)] at ha; cases ha
      · rw [List.getElem?_set_ne e] at ha
        exact .inr ⟨fun e2 => e e2.symm, ha⟩
    intro hg2
    rcases hget i a ha with ⟨rfl, rfl⟩ | ⟨_, ha2⟩
    · rcases hget k b hb with ⟨rfl, rfl⟩ | ⟨_, hb2⟩
      · omega
      · have := hold k b hb2 g hg2
        have := (hu.range g hg).1
        omega
    · rcases hget k b hb with ⟨rfl, rfl⟩ | ⟨_, hb2⟩
      · have := hold i a ha2 g hg
        have := (hu.range g hg2).1
        omega
      · exact h.2.2 i k a b hik ha2 hb2 g hg hg2
/-- Rows that are all empty. -/
theorem RowsO.empty (w : World) (lo hi n : Nat) : RowsO w lo hi (List.replicate n (.slice Option.none 0 0)) (List.replicate n []) := by
  refine ⟨by simp, fun i u xs hu hx => ?_, fun i k a b _ ha _ g hg => ?_⟩
  · rw [List.getElem?_replicate] at hu hx
    split at hu
    · rw [if_pos (by assumption)] at hx
      cases hu; cases hx
      exact owI_nil _ _ _
    · cases hu
  · rw [List.getElem?_replicate] at ha
    split at ha
    · cases ha; cases hg
    · cases ha
theorem RowsO.form {w : World} {lo hi i : Nat} {us : List Value} {xss : List (List Int)} (h : RowsO w lo hi us xss) (hi2 : i < us.length) : ∃ A n c, us[i]? = some (.slice A n c) := by
  have hl := h.1
  obtain ⟨A, c, hv, _⟩ := (h.2.1 i us[i] xss[i] (List.getElem?_eq_getElem hi2) (List.getElem?_eq_getElem (by omega))).form
  exact ⟨A, _, c, by rw [List.getElem?_eq_getElem hi2, hv]⟩
/-- The indices that the reference has passed. -/
def preC (ls : List Int) (l i : Nat) : List Nat := grpN ls ls.length 1 (l - 1) ++ grpF ls i l
theorem preC_yes {ls : List Int} {l i : Nat} (h : ls.getD i 0 = (l : Int)) : preC ls l (i + 1) = preC ls l i ++ [i] := by unfold preC; rw [grpF_yes h, List.append_assoc]
theorem preC_no {ls : List Int} {l i : Nat} (h : ls.getD i 0 ≠ (l : Int)) : preC ls l (i + 1) = preC ls l i := by unfold preC; rw [grpF_no h]
theorem preC_end {ls : List Int} {l : Nat} (hl : 1 ≤ l) : preC ls l ls.length = grpN ls ls.length 1 l := by
  unfold preC
  have := grpN_split (ls := ls) (m := ls.length) (a := 1) (k := l - 1) (j := 1)
  rw [grpN_one, show l - 1 + 1 = l by omega, show 1 + (l - 1) = l by omega] at this
  exact this.symm
theorem preC_zero {ls : List Int} {l : Nat} : preC ls (l + 1) 0 = grpN ls ls.length 1 l := by unfold preC grpF; simp
theorem grpF_sub {ls : List Int} {i m l : Nat} (h : i ≤ m) : (grpF ls i l).Sublist (grpF ls m l) := by
  unfold grpF
  refine List.Sublist.filter _ ?_
  rw [List.range_eq_range', List.range_eq_range', show m = i + (m - i) by omega]
  have := List.range'_append (s := 0) (m := i) (n := m - i) (step := 1)
  rw [Nat.one_mul] at this
  rw [← this]
  exact List.sublist_append_left _ _
theorem preC_sub {ls : List Int} {l i : Nat} (hl : 1 ≤ l) (h6 : l ≤ 6) (hi : i ≤ ls.length) : (preC ls l i).Sublist (grpN ls ls.length 1 6) := by
  have h1 : (preC ls l i).Sublist (preC ls l ls.length) := List.Sublist.append (List.Sublist.refl _) (grpF_sub hi)
  rw [preC_end hl] at h1
  have h2 := grpN_split (ls := ls) (m := ls.length) (a := 1) (k := l) (j := 6 - l)
  rw [show l + (6 - l) = 6 by omega] at h2
  rw [h2]
  exact h1.trans (List.sublist_append_left _ _)
theorem sub_bd {ls : List Int} {r : Nat} (h : allB ls 1 6 = true) (hn : ls.length ≤ 20) (hr1 : 1 ≤ r) (hr : r ≤ 60) {is : List Nat} (hs : is.Sublist (grpN ls ls.length 1 6)) {l : Nat} (hl : (canRun ls r is).last ≤ l) (h6 : l ≤ 6) :
    1 ≤ (canRun ls r is).last ∧ (canRun ls r is).next ≤ 933120000000 ∧ (canRun ls r is).next * r ^ (l - (canRun ls r is).last) ≤ 933120000000 ∧ (is = [] ∨ ∃ i, is.getLast? = some i ∧ (canRun ls r is).last = (ls.getD i 0).toNat) := by
  have hp := (grpN_sorted ls ls.length 1 6).sublist hs
  have hm : ∀ i ∈ is, 1 ≤ ls.getD i 0 := fun i hi => by have := grpN_mem (hs.subset hi); omega
  have hb := canRun_bd hr1 is.length is rfl hp hm
  have hlen := hs.length_le
  rw [← order_grp h ls.length (Nat.le_refl _), orderBy_len] at hlen
  have e : r ^ l = r ^ (canRun ls r is).last * r ^ (l - (canRun ls r is).last) := by rw [← Nat.pow_add]; congr 1; omega
  have h2 := Nat.mul_le_mul_right (r ^ (l - (canRun ls r is).last)) hb.1
  rw [Nat.mul_assoc, ← e] at h2
  have h3 := pow_le hr h6
  have h4 : is.length * r ^ l ≤ 20 * 46656000000 := Nat.mul_le_mul (by omega) h3
  have h5 := pow_le hr (show (canRun ls r is).last ≤ 6 by omega)
  have h7 : is.length * r ^ (canRun ls r is).last ≤ 20 * 46656000000 := Nat.mul_le_mul (by omega) h5
  refine ⟨hb.2.1, by have := hb.1; omega, by omega, hb.2.2⟩
theorem preC_bd {ls : List Int} {r l i : Nat} (h : allB ls 1 6 = true) (hn : ls.length ≤ 20) (hr1 : 1 ≤ r) (hr : r ≤ 60) (hl : 1 ≤ l) (h6 : l ≤ 6) (hi : i ≤ ls.length) :
    1 ≤ (canRun ls r (preC ls l i)).last ∧ (canRun ls r (preC ls l i)).last ≤ l ∧ (canRun ls r (preC ls l i)).next ≤ 933120000000 ∧ (canRun ls r (preC ls l i)).next * r ^ (l - (canRun ls r (preC ls l i)).last) ≤ 933120000000 := by
  have hs := preC_sub (ls := ls) hl h6 hi
  have hp := (grpN_sorted ls ls.length 1 6).sublist hs
  have hm : ∀ k ∈ preC ls l i, 1 ≤ ls.getD k 0 := fun k hk => by have := grpN_mem (hs.subset hk); omega
  have hb := canRun_bd hr1 _ _ rfl hp hm
  have hla : (canRun ls r (preC ls l i)).last ≤ l := by
    rcases hb.2.2 with e | ⟨j, hj, e⟩
    · rw [e, canRun_nil]; exact hl
    · have hjm := List.mem_of_getLast? hj
      rw [e]
      unfold preC at hjm
      rcases List.mem_append.1 hjm with h1 | h1
      · have := grpN_mem h1; omega
      · have := grpF_mem h1; omega
  have := sub_bd h hn hr1 hr hs hla h6
  exact ⟨this.1, hla, this.2.1, this.2.2.1⟩
def canB (ls : List Int) (r : Int) : Bool := (lengthsB ls && inB r 2 60) && decide ((kraftN r.toNat (mostI ls).toNat ls : Int) ≤ ((r.toNat ^ (mostI ls).toNat : Nat) : Int))
def canR (ls : List Int) (r : Int) : List (List Int) := if canB ls r then canonL ls r.toNat else []
theorem sizeII_le {m : Nat} : ∀ (xss : List (List Int)), (∀ x ∈ xss, x.length ≤ m) → sizeII xss ≤ m * xss.length
  | [], _ => by simp [sizeII]
  | x :: xss, h => by
    have h1 := h x (by simp)
    have h2 := sizeII_le xss (fun y hy => h y (by simp [hy]))
    simp only [sizeII, List.length_cons, Nat.mul_add, Nat.mul_one]
    omega
theorem canRun_six {ls : List Int} {r : Nat} : ∀ (is : List Nat), (∀ i ∈ is, ls.getD i 0 ≤ 6) → ∀ s : CanS, (∀ x ∈ s.rows, x.length ≤ 6) → ∀ x ∈ (is.foldl (canStep ls r) s).rows, x.length ≤ 6
  | [], _, s, h => h
  | i :: is, hi, s, h => by
    rw [List.foldl_cons]
    refine canRun_six is (fun j hj => hi j (by simp [hj])) _ (fun x hx => ?_)
    have hi6 := hi i (by simp)
    unfold canStep at hx
    rcases List.mem_or_eq_of_mem_set hx with h1 | h1
    · exact h x h1
    · rw [h1, digL_len]; omega
theorem canR_size (ls : List Int) (r : Int) : sizeII (canR ls r) ≤ 120 ∧ (canR ls r).length ≤ 20 := by
  unfold canR
  split
  · rename_i h
    unfold canB at h
    simp only [Bool.and_eq_true] at h
    have hl := h.1.1
    unfold lengthsB at hl
    rw [Bool.and_eq_true] at hl
    have h20 := inB_iff.1 hl.1
    have h6 : ∀ x ∈ canonL ls r.toNat, x.length ≤ 6 := by
      refine canRun_six _ (fun i hi => ?_) _ (fun x hx => ?_)
      · have := grpN_mem hi; omega
      · rw [List.eq_of_mem_replicate hx]; simp
    have := sizeII_le _ h6
    rw [canonL_len] at this ⊢
    omega
  · simp [sizeII]
set_option maxRecDepth 100000 in
set_option maxHeartbeats 8000000 in
theorem sCanonicalCode_any (ls : List Int) (r : Int) (v : Value) (hi : Nat) (w : World) (h : RdI w hi v ls) (hh : hi ≤ w.heap.size) : Calls Try.prog 44 #[v, .int .i64 r] w (RetOwIIT (canR ls r) (canB ls r) w) := by
  obtain ⟨A, c, rfl, hc, hm⟩ := Rd.form h
  have H := Lib.hid h
  clear h
  cases hll : lengthsB ls
  · have HF : Hid (canB ls r = false) := by show _ = _; unfold canB; rw [hll]; rfl
    unfold canR; rw [HF.out]
    go_enter Try.func44, Try.ntmps44
    go_wp2_with (first | (go_at_call 103; refine (cmGood_any ls _ hi _ H.out).mono ?_; rintro e w' ⟨rfl, rfl⟩) | (go_at_call 104; refine (cmBase_any _ _).mono ?_; rintro e w' ⟨rfl, rfl⟩))
    go_ret2
    exact retOwIIT_nil _ (Below.refl _ _)
  · cases hr : inB r 2 60
    · have HF : Hid (canB ls r = false) := by show _ = _; unfold canB; rw [hll, hr]; rfl
      unfold canR; rw [HF.out]
      go_enter Try.func44, Try.ntmps44
      go_wp2_with (first | (go_at_call 103; refine (cmGood_any ls _ hi _ H.out).mono ?_; rintro e w' ⟨rfl, rfl⟩) | (go_at_call 104; refine (cmBase_any _ _).mono ?_; rintro e w' ⟨rfl, rfl⟩))
      go_ret2
      exact retOwIIT_nil _ (Below.refl _ _)
    · obtain ⟨hr1, hr2⟩ := inB_iff.1 hr
      obtain ⟨r, rfl⟩ := Int.eq_ofNat_of_zero_le (show 0 ≤ r by omega)
      have cH := cmHas_any ls r _ hi w H.out hll (by omega)
      cases hk : decide ((kraftN r (mostI ls).toNat ls : Int) ≤ ((r ^ (mostI ls).toNat : Nat) : Int))
      · have HF : Hid (canB ls (r : Int) = false) := by show _ = _; unfold canB; rw [Int.toNat_natCast, hk, Bool.and_false]
        rw [hk] at cH
        have CH := Lib.hid cH
        clear cH hk
        unfold canR; rw [HF.out]
        go_enter Try.func44, Try.ntmps44
        go_wp2_with (first | (go_at_call 103; refine (cmGood_any ls _ hi _ H.out).mono ?_; rintro e w' ⟨rfl, rfl⟩) | (go_at_call 104; refine (cmBase_any _ _).mono ?_; rintro e w' ⟨rfl, rfl⟩) | (go_at_call 105; refine (CH.out).mono ?_; rintro e w' ⟨rfl, rfl⟩))
        go_ret2
        exact retOwIIT_nil _ (Below.refl _ _)
      · have HF : Hid (canB ls (r : Int) = true) := by show _ = _; unfold canB; rw [Int.toNat_natCast, hk, hll, hr]; rfl
        rw [hk] at cH
        have CH := Lib.hid cH
        clear cH hk
        have hls := hll
        unfold lengthsB at hls
        rw [Bool.and_eq_true] at hls
        have hn20 := (inB_iff.1 hls.1)
        have HAL := Lib.hid hls.2
        have hmk := make_rows ls.length (by omega)
        clear hls
        go_enter Try.func44, Try.ntmps44
        go_wp2_with (first | (go_at_call 103; refine (cmGood_any ls _ hi _ H.out).mono ?_; rintro e w' ⟨rfl, rfl⟩) | (go_at_call 104; refine (cmBase_any _ _).mono ?_; rintro e w' ⟨rfl, rfl⟩) | (go_at_call 105; refine (CH.out).mono ?_; rintro e w' ⟨rfl, rfl⟩))
        go_loopw [7, 8, 9] (fun nv lv iv wr => ∃ (l nx la : Nat) (rows : List (List Int)) (us : List Value), 1 ≤ l ∧ l ≤ 7 ∧ nv = .int .i64 (nx : Int) ∧ lv = .int .i64 (la : Int) ∧ iv = .int .i64 (l : Int) ∧ Hid (canRun ls r (grpN ls ls.length 1 (l - 1)) = ⟨nx, la, rows⟩) ∧
          Hid (Blk wr w.heap.size 35 us) ∧ Hid (RowsO wr (w.heap.size + 1) wr.heap.size us rows) ∧ Hid (Below w.heap.size w wr)) (fun _ _ i _ => 7 - (intOf i).toNat)
        case atStart =>
          refine ⟨1, 0, 1, List.replicate ls.length [], List.replicate ls.length (.slice Option.none 0 0), Nat.le_refl _, by omega, rfl, rfl, rfl, canRun_nil, ?_, RowsO.empty _ _ _ _, (Below.refl _ _).alloc (Nat.le_refl _) _⟩
          have := Blk.new w 35 (nils ls.length)
          unfold nils at this
          exact this
        case round =>
          obtain ⟨l, nx, la, rows, us, hl1, hl7, rfl, rfl, rfl, hst, hbk, hrw, hbl⟩ := hrel
          by_cases hl6 : l ≤ 6
          · have hl6i : (l : Int) ≤ 6 := by omega
            have HST : Hid (canRun ls r (preC ls l 0) = ⟨nx, la, rows⟩) := by
              show _ = _
              have e := preC_zero (ls := ls) (l := l - 1)
              rw [show l - 1 + 1 = l by omega] at e
              rw [e]; exact hst.out
            clear hst
            rename World => wo
            go_wp2_with fail
            go_loopw [7, 8, 35] (fun nv lv iv wr => ∃ (i nx la : Nat) (rows : List (List Int)) (us : List Value), i ≤ ls.length ∧ nv = .int .i64 (nx : Int) ∧ lv = .int .i64 (la : Int) ∧ iv = .int .i64 (i : Int) ∧ Hid (canRun ls r (preC ls l i) = ⟨nx, la, rows⟩) ∧
              Hid (Blk wr w.heap.size 35 us) ∧ Hid (RowsO wr (w.heap.size + 1) wr.heap.size us rows) ∧ Hid (Below w.heap.size w wr)) (fun _ _ i _ => ls.length - (intOf i).toNat)
            case atStart => exact ⟨0, nx, la, rows, us, Nat.zero_le _, rfl, rfl, rfl, HST.out, hbk.out, hrw.out, hbl.out⟩
            case round =>
              obtain ⟨i, nx, la, rows, us, hil, rfl, rfl, rfl, hst, hbk, hrw, hbl⟩ := hrel
              by_cases hlt : i < ls.length
              · obtain ⟨b1, o1, c1, hv, _, hcell⟩ := RdI.getD (RdI.below H.out hbl.out hh) hlt
                cases hv
                obtain ⟨z, hz⟩ : ∃ z, z = ls.getD i 0 := ⟨_, rfl⟩
                rw [← hz] at hcell
                by_cases hzl : z = (l : Int)
                · subst hzl
                  have hbd := preC_bd (i := i) HAL.out (by omega) (show 1 ≤ r by omega) (by omega) hl1 hl6 hil
                  rw [hst.out] at hbd
                  obtain ⟨q1, q2, q3, q4⟩ := hbd
                  have q1' : 1 ≤ la := q1
                  have q2' : la ≤ l := q2
                  have q3' : nx ≤ 933120000000 := q3
                  obtain ⟨pw, hpw⟩ : ∃ pw, pw = r ^ (l - la) := ⟨_, rfl⟩
                  obtain ⟨N, hN⟩ : ∃ N, N = nx * pw := ⟨_, rfl⟩
                  have hNb : N ≤ 933120000000 := by rw [hN, hpw]; exact q4
                  have hmul : (nx : Int) * (pw : Int) = (N : Int) := by rw [hN]; simp
                  obtain ⟨d, hd⟩ : ∃ d, d = l - la := ⟨_, rfl⟩
                  have hsub : (l : Int) - (la : Int) = (d : Int) := by omega
                  have hd6 : d ≤ 6 := by omega
                  have cP := cmPower_any r d (by omega) hd6 wr
                  rw [hd, ← hpw, ← hd] at cP
                  have CP := Lib.hid cP
                  have HNX : Hid (canRun ls r (preC ls l (i + 1)) = ⟨N + 1, l, rows.set i (digL r N l)⟩) := by
                    show _ = _
                    rw [preC_yes hz.symm, canRun_snoc, hst.out]
                    unfold canStep
                    rw [← hz, Int.toNat_natCast, hN, hpw]
                  have CD := Lib.hid (cmDigits_any r N l wr (by omega) (by omega) hNb hl6)
                  have hul : us.length = ls.length := by
                    have h1 := hrw.out.1
                    have h2 := canRun_rows ls r (preC ls l i)
                    rw [hst.out] at h2
                    rw [h1]; exact h2
                  have HUL := Lib.hid hul
                  clear cP q1 q2 q3 q4 hN hpw hz hst hul hd
                  go_wp2_with (first | (go_at_call 106; refine (CP.out).mono ?_; rintro e w' ⟨rfl, rfl⟩))
                  refine CD.out.mono ?_
                  rintro e w2 ⟨u, rfl, hu, hb2⟩
                  have hs2 := hb2.size
                  have hgw : w.heap.size < wr.heap.size := hbk.out.lt
                  have hbk2 := hbk.out.below hb2 hgw
                  obtain ⟨A5, n5, c5, h5⟩ := hrw.out.form (i := i) (by rw [HUL.out]; exact hlt)
                  have hcell2 := hbk2.cell i
                  rw [h5] at hcell2
                  have hfr2 := hbk2.frozen i
                  obtain ⟨A6, c6, rfl, hm6⟩ := hu.form
                  have hset := hbk2.set_ i (.slice A6 (digL r N l).length c6)
                  have hput := (hrw.out.below hb2 (Nat.le_refl _)).put (j := i) hu (by omega) hs2
                  have hput2 := hput.keep ((Keep.refl w.heap.size (w.heap.size + 1) w2).setCell (p := ⟨w.heap.size, i, Option.none⟩) (Nat.le_refl _) (by simp) (.slice A6 (digL r N l).length c6)) (.inr (Nat.le_refl _))
                  have hblx := (hbl.out.trans (hb2.mono (by omega))).setCell (p := ⟨w.heap.size, i, Option.none⟩) (Nat.le_refl _) (.slice A6 (digL r N l).length c6)
                  have hszs : (w2.setCell ⟨w.heap.size, i, Option.none⟩ (.slice A6 (digL r N l).length c6)).heap.size = w2.heap.size := by simp [World.setCell]
                  rw [← hszs] at hput2
                  have HS := Lib.hid hset
                  have HP2 := Lib.hid hput2
                  have HBX := Lib.hid hblx
                  clear hset hput hput2 hblx hu hb2 hbk2 h5 hszs
                  go_wp2_with fail
                  go_roundw
                  case rel => exact ⟨i + 1, N + 1, l, _, _, by omega, by go_num, rfl, by go_num, HNX.out, HS.out, HP2.out, HBX.out⟩
                  case measure => (simp [intOf]; try omega)
                · have hne : (z == (l : Int)) = false := by rw [beq_eq_false_iff_ne]; exact hzl
                  have HNX : Hid (canRun ls r (preC ls l (i + 1)) = ⟨nx, la, rows⟩) := by
                    show _ = _
                    rw [preC_no (by rw [← hz]; exact hzl)]; exact hst.out
                  clear hst hz
                  go_wp2_with fail
                  go_roundw
                  case rel => exact ⟨i + 1, nx, la, rows, us, by omega, rfl, rfl, by go_num, HNX.out, hbk.out, hrw.out, hbl.out⟩
                  case measure => (simp [intOf]; try omega)
              · obtain rfl : i = ls.length := by omega
                have HNX : Hid (canRun ls r (grpN ls ls.length 1 (l + 1 - 1)) = ⟨nx, la, rows⟩) := by
                  show _ = _
                  rw [Nat.add_sub_cancel, ← preC_end hl1]; exact hst.out
                go_wp2_with fail
                go_roundw
                case rel => exact ⟨l + 1, nx, la, rows, us, by omega, by omega, rfl, rfl, by go_num, HNX.out, hbk.out, hrw.out, hbl.out⟩
                case measure => (simp [intOf]; try omega)
          · obtain rfl : l = 7 := by omega
            have HR : Hid (rows = canR ls (r : Int)) := by
              show _ = _
              unfold canR
              rw [HF.out]
              simp only [if_true, Int.toNat_natCast]
              unfold canonL
              rw [show (6 : Nat) = 7 - 1 from rfl, hst.out]
            have hul : us.length = ls.length := by
              have h1 := hrw.out.1
              have h2 := canRun_rows ls r (grpN ls ls.length 1 (7 - 1))
              rw [hst.out] at h2
              rw [h1]; exact h2
            have HUL := Lib.hid hul
            clear hst hul
            go_wp2_with fail
            go_ret2
            rw [HF.out, ← HR.out]
            refine ⟨.slice (some ⟨w.heap.size, 0, Option.none⟩) ls.length ls.length, ret_val rfl, ?_, hbl.out⟩
            refine ⟨us, hrw.out.mono (by omega) (Nat.le_refl _), ⟨?_, .inr ⟨w.heap.size, ls.length, us.toArray, ?_, Nat.le_refl _, hbk.out, ?_, by unfold maxLen; omega, by simp [HUL.out], ?_⟩⟩, fun g hg => by cases hg; exact hbk.out.lt⟩
            · rw [Nat.mul_one]; exact hrw.out.1
            · rw [← hrw.out.1, HUL.out]
            · rw [← hrw.out.1, HUL.out]; exact Nat.le_refl _
            · rw [List.take_of_length_le (by rw [← hrw.out.1]; exact Nat.le_of_eq (by simp))]
end Go.Proofs.Ytjnkdjokbamibaa
/- Contracts: CanonicalCode of the program. -/
namespace Go.Proofs.Ytjnkdjokbamibaa
open Go.RowKit
theorem nats_at {L : List Nat} {k i : Nat} (h : L[k]? = some i) : (nats L)[k]? = some (.int .i64 (i : Int)) := by unfold nats; rw [List.getElem?_map, h]; rfl
/-- The first k numbers, then zeros. -/
def cntI (n k : Nat) : List Value := nats (List.range k) ++ List.replicate (n - k) (Value.int .i64 0)
theorem cntI_zero (n : Nat) : (zeros n).toList = cntI n 0 := by simp [zeros, cntI]
theorem cntI_full (n : Nat) : cntI n n = nats (List.range n) := by simp [cntI]
theorem cntI_at {n k : Nat} (h : k < n) : (cntI n k)[k]? = some (.int .i64 0) := by
  unfold cntI
  rw [List.getElem?_append_right (by simp), List.getElem?_replicate, if_pos (by simp; omega)]
theorem cntI_set {n k : Nat} (h : k < n) : (cntI n k).set k (.int .i64 (k : Int)) = cntI n (k + 1) := by
  unfold cntI
  obtain ⟨q, hq⟩ : ∃ q, n - k = q + 1 := ⟨n - k - 1, by omega⟩
  rw [hq, show n - (k + 1) = q by omega, List.replicate_succ]
  have := set_mid (nats (List.range k)) (List.replicate q (Value.int .i64 0)) (.int .i64 0) (.int .i64 (k : Int))
  rw [show (nats (List.range k)).length = k by simp] at this
  rw [this, List.range_succ]
  simp [nats]
theorem Only.bel {w w' : World} {g lo : Nat} (h : Only (some g) w w') (hl : lo ≤ g) : Below lo w w' :=
  ⟨h.os, h.tape, h.output, Nat.le_of_eq h.size.symm, fun k hk => h.block k (by intro e; cases e; omega)⟩
/-- One step of the program. -/
theorem can_on {ls : List Int} {r : Nat} (h : allB ls 1 6 = true) (hn : ls.length ≤ 20) (hr1 : 1 ≤ r) (hr : r ≤ 60) {k i : Nat} (hi : (grpN ls ls.length 1 6)[k]? = some i) :
    ∃ li : Nat, ls.getD i 0 = (li : Int) ∧ i < ls.length ∧ 1 ≤ li ∧ li ≤ 6 ∧ (canRun ls r ((grpN ls ls.length 1 6).take k)).last ≤ li ∧ (canRun ls r ((grpN ls ls.length 1 6).take k)).next * r ^ (li - (canRun ls r ((grpN ls ls.length 1 6).take k)).last) ≤ 933120000000 ∧
      canRun ls r ((grpN ls ls.length 1 6).take (k + 1)) = canStep ls r (canRun ls r ((grpN ls ls.length 1 6).take k)) i := by
  have hm := grpN_mem (List.mem_of_getElem? hi)
  have hb := allB_at h hm.1
  refine ⟨(ls.getD i 0).toNat, by omega, hm.1, by omega, by omega, ?_⟩
  have hk := (List.getElem?_eq_some_iff.1 hi).1
  have hs := grpN_sorted ls ls.length 1 6
  rw [← List.take_append_drop k (grpN ls ls.length 1 6), List.pairwise_append] at hs
  have hd : (grpN ls ls.length 1 6).drop k = i :: (grpN ls ls.length 1 6).drop (k + 1) := by rw [List.drop_eq_getElem_cons hk]; rw [List.getElem?_eq_getElem hk] at hi; cases hi; rfl
  rw [hd] at hs
  have hmm : ∀ j ∈ (grpN ls ls.length 1 6).take k, 1 ≤ ls.getD j 0 := fun j hj => by have := grpN_mem (List.mem_of_mem_take hj); omega
  have hbd := canRun_bd hr1 _ _ rfl hs.1 hmm
  have hla : (canRun ls r ((grpN ls ls.length 1 6).take k)).last ≤ (ls.getD i 0).toNat := by
    rcases hbd.2.2 with e | ⟨j, hj, e⟩
    · rw [e, canRun_nil]; show 1 ≤ _; omega
    · have := hs.2.2 j (List.mem_of_getLast? hj) i (by simp)
      omega
  have hsb := sub_bd h hn hr1 hr (List.take_sublist k _) hla (by omega)
  exact ⟨hla, hsb.2.2.1, by rw [take_snocN hi, canRun_snoc]⟩
theorem cmp_len {ls : List Int} {s : Value} {B g hi : Nat} {w : World} (h : RdI w hi s ls) (hc : w.cell? ⟨B, 0, Option.none⟩ = some s) (hB : B < g) (hh : hi ≤ g) : CmpI 100 #[.pointer (some ⟨B, 0, Option.none⟩)] g ls.length (cLen ls) w :=
  fun w' ho x y hx hy => canon1_any ls s B hi x y w' (RdI.below h (ho.bel (Nat.le_refl g)) hh) hx hy (((ho.bel (Nat.le_refl g)).cell (p := ⟨B, 0, Option.none⟩) hB).trans hc)
set_option maxRecDepth 100000 in
set_option maxHeartbeats 8000000 in
theorem CanonicalCode_any (ls : List Int) (r : Int) (v : Value) (hi : Nat) (w : World) (h : RdI w hi v ls) (hh : hi ≤ w.heap.size) : Calls Try.prog 43 #[v, .int .i64 r] w (RetOwIIT (canR ls r) (canB ls r) w) := by
  obtain ⟨A, c, rfl, hc, hm⟩ := Rd.form h
  have hba : Below w.heap.size w (w.alloc (.cells #[.slice A ls.length c] 35)) := (Below.refl _ _).alloc (Nat.le_refl _) _
  have HBA := Lib.hid hba
  have HBX : Hid (Blk (w.alloc (.cells #[.slice A ls.length c] 35)) w.heap.size 35 [.slice A ls.length c]) := Blk.new _ _ _
  have hcb := HBX.out.cell 0
  simp only [List.getElem?_cons_zero] at hcb
  have H := Lib.hid (RdI.below h hba hh)
  clear h hba
  cases hll : lengthsB ls
  · have HF : Hid (canB ls r = false) := by show _ = _; unfold canB; rw [hll]; rfl
    unfold canR; rw [HF.out]
    go_enter Try.func43, Try.ntmps43
    go_wp2_with (first | (go_at_call 96; refine (areLengths_any ls _ hi _ H.out).mono ?_; rintro e w' ⟨rfl, rfl⟩) | (go_at_call 97; refine (isRadix_any _ _).mono ?_; rintro e w' ⟨rfl, rfl⟩))
    go_ret2
    exact retOwIIT_nil _ HBA.out
  · cases hr : inB r 2 60
    · have HF : Hid (canB ls r = false) := by show _ = _; unfold canB; rw [hll, hr]; rfl
      unfold canR; rw [HF.out]
      go_enter Try.func43, Try.ntmps43
      go_wp2_with (first | (go_at_call 96; refine (areLengths_any ls _ hi _ H.out).mono ?_; rintro e w' ⟨rfl, rfl⟩) | (go_at_call 97; refine (isRadix_any _ _).mono ?_; rintro e w' ⟨rfl, rfl⟩))
      go_ret2
      exact retOwIIT_nil _ HBA.out
    · obtain ⟨hr1, hr2⟩ := inB_iff.1 hr
      obtain ⟨r, rfl⟩ := Int.eq_ofNat_of_zero_le (show 0 ≤ r by omega)
      obtain ⟨kn, hkn⟩ : ∃ k, k = kraftN r (mostI ls).toNat ls := ⟨_, rfl⟩
      obtain ⟨ka, hka⟩ : ∃ k, k = r ^ (mostI ls).toNat := ⟨_, rfl⟩
      have cK := kraftSum_any ls r _ hi _ H.out hll (by omega)
      rw [← hkn, ← hka] at cK
      by_cases hk : ka < kn
      · have HF : Hid (canB ls (r : Int) = false) := by show _ = _; unfold canB; rw [Int.toNat_natCast, ← hkn, ← hka, decide_eq_false (by omega), Bool.and_false]
        have CK := Lib.hid cK
        have hki : (ka : Int) < (kn : Int) := by omega
        clear cK hkn hka
        unfold canR; rw [HF.out]
        go_enter Try.func43, Try.ntmps43
        go_wp2_with (first | (go_at_call 96; refine (areLengths_any ls _ hi _ H.out).mono ?_; rintro e w' ⟨rfl, rfl⟩) | (go_at_call 97; refine (isRadix_any _ _).mono ?_; rintro e w' ⟨rfl, rfl⟩) | (go_at_call 98; refine (CK.out).mono ?_; rintro e w' ⟨rfl, rfl⟩))
        go_ret2
        exact retOwIIT_nil _ HBA.out
      · have HF : Hid (canB ls (r : Int) = true) := by show _ = _; unfold canB; rw [Int.toNat_natCast, ← hkn, ← hka, decide_eq_true (by omega), hll, hr]; rfl
        have CK := Lib.hid cK
        have hki : ¬ (ka : Int) < (kn : Int) := by omega
        clear cK hkn hka
        have hls := hll
        unfold lengthsB at hls
        rw [Bool.and_eq_true] at hls
        have hn20 := (inB_iff.1 hls.1)
        have HAL := Lib.hid hls.2
        have hmk := make_ints ls.length (by omega)
        have hmr := make_rows ls.length (by omega)
        clear hls
        go_enter Try.func43, Try.ntmps43
        go_wp2_with (first | (go_at_call 96; refine (areLengths_any ls _ hi _ H.out).mono ?_; rintro e w' ⟨rfl, rfl⟩) | (go_at_call 97; refine (isRadix_any _ _).mono ?_; rintro e w' ⟨rfl, rfl⟩) | (go_at_call 98; refine (CK.out).mono ?_; rintro e w' ⟨rfl, rfl⟩))
        have hcb1 : ∀ wr, Below (w.heap.size + 1) (w.alloc (.cells #[.slice A ls.length c] 35)) wr → wr.cell? ⟨w.heap.size, 0, Option.none⟩ = some (.slice A ls.length c) := fun wr hb => (hb.cell (p := ⟨w.heap.size, 0, Option.none⟩) (Nat.lt_succ_self _)).trans hcb
        have HC1 := Lib.hid hcb1
        clear hcb hcb1
        go_loopw [40] (fun i wr => ∃ k : Nat, k ≤ ls.length ∧ i = .int .i64 (k : Int) ∧ Hid (Blk wr (w.heap.size + 1) 3 (cntI ls.length k)) ∧ Hid (Below (w.heap.size + 1) (w.alloc (.cells #[.slice A ls.length c] 35)) wr)) (fun i _ => ls.length - (intOf i).toNat)
        case atStart => 
          refine ⟨0, Nat.zero_le _, rfl, ?_, ?_⟩
          · have := Blk.new (w.alloc (.cells #[.slice A ls.length c] 35)) 3 (zeros ls.length)
            rw [cntI_zero] at this
            show Blk _ _ _ _
            simpa using this
          · exact (Below.refl _ _).alloc (by simp) _
        case round =>
          obtain ⟨k, hk2, rfl, hbk, hbl⟩ := hrel
          by_cases hlt : k < ls.length
          · have hcell := hbk.out.cell k
            rw [cntI_at hlt] at hcell
            have hfr := hbk.out.frozen k
            have HB2 := Lib.hid (hbk.out.set_ k (.int .i64 (k : Int)))
            go_wp2_with fail
            go_roundw
            case rel => exact ⟨k + 1, by omega, by go_num, by have := HB2.out; rw [cntI_set hlt] at this; exact this, hbl.out.setCell (p := ⟨w.heap.size + 1, k, Option.none⟩) (Nat.le_refl _) _⟩
            case measure => (simp [intOf]; try omega)
          · obtain rfl : k = ls.length := by omega
            have hb0 := hbk.out
            rw [cntI_full] at hb0
            have hrd := RdI.below H.out (hbl.out.mono (show w.heap.size ≤ w.heap.size + 1 by omega)) hh
            have hcx := HC1.out wr hbl.out
            have CS := Lib.hid (sortStable_any ls.length ls.length (w.heap.size + 1) 100 #[.pointer (some ⟨w.heap.size, 0, Option.none⟩)] (cLen ls) wr (by omega) (by omega) (Nat.le_refl _) hb0 (cmp_len hrd hcx (by omega) (by omega)) (enters_of Try.func100 (by kernel_rfl) rfl))
            clear hb0 hrd hcx
            go_wp2_with fail
            refine CS.out.mono ?_
            rintro e w1 ⟨⟨zz, rfl⟩, hb1, ho1⟩
            rw [pOf_len, order_grp HAL.out ls.length (Nat.le_refl _)] at hb1
            obtain ⟨L, hL⟩ : ∃ L, L = grpN ls ls.length 1 6 := ⟨_, rfl⟩
            have hLl : L.length = ls.length := by rw [hL, ← order_grp HAL.out ls.length (Nat.le_refl _), orderBy_len]
            rw [← hL] at hb1
            have hw1 : Below (w.heap.size + 1) (w.alloc (.cells #[.slice A ls.length c] 35)) w1 := hbl.out.trans (ho1.bel (Nat.le_refl _))
            have hs1 : w.heap.size + 2 ≤ w1.heap.size := by have := hb1.lt; omega
            have hcb1 := HC1.out w1 hw1
            have HCB := Lib.hid hcb1
            have H1 := Lib.hid (RdI.below H.out (hw1.mono (show w.heap.size ≤ w.heap.size + 1 by omega)) hh)
            have HB1 := Lib.hid hb1
            have HL := Lib.hid hL
            have HLL := Lib.hid hLl
            have HWB : Hid (Below w.heap.size w w1) := HBA.out.trans (hw1.mono (by omega))
            clear hb1 ho1 hw1 hL hLl hbk hbl CS hcb1
            obtain ⟨i0, hi0⟩ : ∃ i, L[0]? = some i := ⟨_, List.getElem?_eq_getElem (by rw [HLL.out]; omega)⟩
            obtain ⟨l0, z1, z2, z3, z4, _⟩ := can_on (r := r) HAL.out (by omega) (by omega) (by omega) (show (grpN ls ls.length 1 6)[0]? = some i0 by rw [← HL.out]; exact hi0)
            obtain ⟨b1, o1, c1, hv, hb1h, hcl⟩ := RdI.getD H1.out z2
            cases hv
            rw [z1] at hcl
            have hco := HB1.out.cell 0
            rw [nats_at hi0] at hco
            have hba2 : Below w1.heap.size w1 (w1.alloc (.cells (nils ls.length) 35)) := (Below.refl _ _).alloc (Nat.le_refl _) _
            have hco2 := (hba2.cell (p := ⟨w.heap.size + 1, 0, Option.none⟩) (by show w.heap.size + 1 < w1.heap.size; omega)).trans hco
            have hcl2 := (hba2.cell (p := ⟨b1, o1 + i0, Option.none⟩) (by show b1 < w1.heap.size; omega)).trans hcl
            have hcb2 := (hba2.cell (p := ⟨w.heap.size, 0, Option.none⟩) (by show w.heap.size < w1.heap.size; omega)).trans HCB.out
            have HI0 := Lib.hid hi0
            have HZ1 := Lib.hid z1
            have hcbw := HCB.out
            clear hi0 z1 hcl hco
            go_wp2_with fail
            go_quiet (fail)
            have hnx0 : Hid (canRun ls r (L.take 0) = ⟨0, 1, List.replicate ls.length []⟩) := by show _ = _; rw [List.take_zero, canRun_nil]
            have HBN : Hid (Blk ((w1.alloc (.cells (nils ls.length) 35)).drewN nq) w1.heap.size 35 (List.replicate ls.length (.slice Option.none 0 0))) := by
              have := Blk.new w1 35 (nils ls.length)
              unfold nils at this
              exact this
            have HBD : Hid (Below w1.heap.size w1 ((w1.alloc (.cells (nils ls.length) 35)).drewN nq)) := hba2.trans (bel_drewN _ _ _)
            have hsz3 : ((w1.alloc (.cells (nils ls.length) 35)).drewN nq).heap.size = w1.heap.size + 1 := by show (w1.alloc (.cells (nils ls.length) 35)).heap.size = _; simp
            have HSZ := Lib.hid hsz3
            clear hco2 hcl2 hcb2 hsz3 hba2 hcbw
            generalize ((w1.alloc (.cells (nils ls.length) 35)).drewN nq) = w2 at HBN HBD HSZ ⊢
            go_wp2_with fail
            go_loopw [11, 12, 62] (fun dv lv kv wr => ∃ (k wd lo nx la : Nat) (rows : List (List Int)) (us : List Value), k ≤ ls.length ∧ dv = .int .i64 (wd : Int) ∧ lv = .int .i64 (lo : Int) ∧ kv = .int .i64 (k : Int) ∧ Hid (canRun ls r (L.take k) = ⟨nx, la, rows⟩) ∧
              ((k = 0 ∧ wd = 0 ∧ lo = l0) ∨ (0 < k ∧ wd + 1 = nx ∧ lo = la)) ∧ Hid (Blk wr w1.heap.size 35 us) ∧ Hid (RowsO wr (w1.heap.size + 1) wr.heap.size us rows) ∧ Hid (Below w1.heap.size w1 wr)) (fun _ _ i _ => ls.length - (intOf i).toNat)
            case atStart => exact ⟨0, 0, l0, 0, 1, _, _, Nat.zero_le _, rfl, rfl, rfl, hnx0.out, .inl ⟨rfl, rfl, rfl⟩, HBN.out, RowsO.empty _ _ _ _, HBD.out⟩
            case round =>
              obtain ⟨k, wd, lo, nx, la, rows, us, hkl, rfl, rfl, rfl, hst, hlink, hbk, hrw, hbl⟩ := hrel
              have hG : w1.heap.size < wr.heap.size := hbk.out.lt
              have hul : us.length = ls.length := by
                have h1 := hrw.out.1
                have h2 := canRun_rows ls r (L.take k)
                rw [hst.out] at h2
                rw [h1]; exact h2
              have HUL := Lib.hid hul
              clear hul
              by_cases hlt : k < ls.length
              · obtain ⟨i, hi⟩ : ∃ i, L[k]? = some i := ⟨_, List.getElem?_eq_getElem (by rw [HLL.out]; exact hlt)⟩
                obtain ⟨li, z1, z2, z3, z4, z5, z6, z7⟩ := can_on (r := r) HAL.out (by omega) (by omega) (by omega) (show (grpN ls ls.length 1 6)[k]? = some i by rw [← HL.out]; exact hi)
                rw [← HL.out, hst.out] at z5 z6 z7
                have z5' : la ≤ li := z5
                have z6' : nx * r ^ (li - la) ≤ 933120000000 := z6
                obtain ⟨d, hd⟩ : ∃ d, d = li - lo := ⟨_, rfl⟩
                obtain ⟨pw, hpw⟩ : ∃ pw, pw = r ^ d := ⟨_, rfl⟩
                obtain ⟨N, hN⟩ : ∃ N, N = nx * pw := ⟨_, rfl⟩
                have hfst : k = 0 → nx = 0 ∧ la = 1 ∧ li = l0 := by
                  intro e
                  subst e
                  have h1 := hnx0.out
                  rw [hst.out] at h1
                  cases h1
                  have h2 := HI0.out
                  rw [hi] at h2
                  cases h2
                  have h3 := HZ1.out
                  rw [z1] at h3
                  exact ⟨rfl, rfl, by omega⟩
                have hNN : N = nx * r ^ (li - la) := by
                  rw [hN, hpw, hd]
                  rcases hlink with ⟨e, _, _⟩ | ⟨_, _, e⟩
                  · rw [(hfst e).1]; simp
                  · rw [e]
                have hNb : N ≤ 933120000000 := by rw [hNN]; exact z6'
                have hlo : lo ≤ li := by
                  rcases hlink with ⟨e, _, e2⟩ | ⟨_, _, e⟩
                  · have := (hfst e).2.2; omega
                  · omega
                have hnxb : nx ≤ 933120000000 := by
                  have h1 := sub_bd (r := r) HAL.out (by omega) (by omega) (by omega) (List.take_sublist k _) (l := li) (show (canRun ls r ((grpN ls ls.length 1 6).take k)).last ≤ li by rw [← HL.out, hst.out]; exact z5') z4
                  rw [← HL.out, hst.out] at h1
                  exact h1.2.1
                have HNX : Hid (canRun ls r (L.take (k + 1)) = ⟨N + 1, li, rows.set i (digL r N li)⟩) := by
                  show _ = _
                  rw [z7]
                  unfold canStep
                  rw [z1, Int.toNat_natCast, hNN]
                have hsub : (li : Int) - (lo : Int) = (d : Int) := by omega
                have hd6 : d ≤ 6 := by omega
                have cP := powerOf_any r d (by omega) hd6 wr
                rw [← hpw] at cP
                have CP := Lib.hid cP
                have hmul : (nx : Int) * (pw : Int) = (N : Int) := by rw [hN]; simp
                obtain ⟨b1', o1', c1', hv, hb1h', hcl⟩ := RdI.getD (RdI.below H1.out hbl.out (by omega)) z2
                cases hv
                rw [z1] at hcl
                have hco := (HB1.out.below hbl.out (show w.heap.size + 1 < w1.heap.size by omega)).cell k
                rw [nats_at hi] at hco
                have hcb := (hbl.out.cell (p := ⟨w.heap.size, 0, Option.none⟩) (by show w.heap.size < w1.heap.size; omega)).trans HCB.out
                have hmz := make_ints li (by omega)
                have HI := Lib.hid hi
                have hr0 : (r : Int) ≠ 0 := by omega
                have HLI := Lib.hid z2
                have HNX1 : Hid (k = 0 → nx = 0) := fun e => (hfst e).1
                have HN1 : Hid (k = 0 → N = 0) := fun e => by rw [hN, (hfst e).1, Nat.zero_mul]
                clear z1 z5 z6 z6' z7 hd hpw hN hNN cP hfst hst hi z2
                rcases hlink with ⟨e, rfl, rfl⟩ | ⟨e, e2, rfl⟩
                · have hdk : decide (0 < k) = false := decide_eq_false (by omega)
                  have hnx1 : nx = 0 := HNX1.out e
                  have HNV : Hid (Value.int .i64 0 = .int .i64 (N : Int)) := by show _ = _; rw [HN1.out e]; rfl
                  subst hnx1
                  clear e
                  go_wp2_with (first | (go_at_call 102; refine (CP.out).mono ?_; rintro e w' ⟨rfl, rfl⟩))
                  have hbm : Below wr.heap.size wr (wr.alloc (.cells (zeros li) 3)) := (Below.refl _ _).alloc (Nat.le_refl _) _
                  have HZ0 : Hid (Blk (wr.alloc (.cells (zeros li) 3)) wr.heap.size 3 (zerI li [])) := by
                    have := Blk.new wr 3 (zeros li)
                    rw [zerI_start] at this
                    exact this
                  have HBM := Lib.hid hbm
                  clear hbm hcl hco hcb
                  rename World => wo
                  go_loopw [16, 17] (fun zv qv wr => ∃ (kk q : Nat) (z : Int) (D : List Int), kk ≤ li ∧ zv = .int .i64 z ∧ qv = .int .i64 (q : Int) ∧ z + 1 = (kk : Int) ∧ q ≤ N ∧ Hid (DigTo r N li kk q D) ∧ Hid (Blk wr wo.heap.size 3 (zerI kk D)) ∧ Hid (Below wo.heap.size wo wr)) (fun i _ _ => (intOf i + 1).toNat)
                  case atStart => exact ⟨li, N, _, [], Nat.le_refl _, rfl, by first | rfl | exact HNV.out, by omega, Nat.le_refl _, DigTo.start _ _ _, HZ0.out, HBM.out⟩
                  case round =>
                    obtain ⟨kk, q, z, D, hkk, rfl, rfl, hz, hqn, hd, hb, hbel⟩ := hrel
                    rcases Nat.eq_zero_or_pos kk with h0 | h0
                    · subst h0
                      obtain rfl : z = -1 := by omega
                      have hdd := hd.out.done
                      have hdl : D.length = li := by rw [hdd, digL_len]
                      have hown : OwI wr wo.heap.size wr.heap.size (.slice (some ⟨wo.heap.size, 0, Option.none⟩) D.length D.length) D := own_of_blk (show Blk wr wo.heap.size 3 (ints D) from hb.out) (Nat.le_refl _) hb.out.lt (by unfold maxLen; omega)
                      rw [hdl] at hown
                      have hszw := hbel.out.size
                      have hbk2 := hbk.out.below hbel.out hG
                      obtain ⟨A5, n5, c5, h5⟩ := hrw.out.form (i := i) (by rw [HUL.out]; exact HLI.out)
                      have hcell2 := hbk2.cell i
                      rw [h5] at hcell2
                      have hfr2 := hbk2.frozen i
                      have hset := hbk2.set_ i (.slice (some ⟨wo.heap.size, 0, Option.none⟩) li li)
                      have hput := (hrw.out.below hbel.out (Nat.le_refl _)).put (j := i) hown (by omega) hszw
                      have hput2 := hput.keep ((Keep.refl w1.heap.size (w1.heap.size + 1) wr).setCell (p := ⟨w1.heap.size, i, Option.none⟩) (Nat.le_refl _) (by simp) (.slice (some ⟨wo.heap.size, 0, Option.none⟩) li li)) (.inr (Nat.le_refl _))
                      have hblx := (hbl.out.trans (hbel.out.mono (by omega))).setCell (p := ⟨w1.heap.size, i, Option.none⟩) (Nat.le_refl _) (.slice (some ⟨wo.heap.size, 0, Option.none⟩) li li)
                      have hszs : (wr.setCell ⟨w1.heap.size, i, Option.none⟩ (.slice (some ⟨wo.heap.size, 0, Option.none⟩) li li)).heap.size = wr.heap.size := by simp [World.setCell]
                      rw [← hszs, hdd] at hput2
                      have HS := Lib.hid hset
                      have HP2 := Lib.hid hput2
                      have HBX2 := Lib.hid hblx
                      have hli2 : i < ls.length := HLI.out
                      clear hset hput hput2 hblx hown hbk2 h5 hszs hdd hdl hz
                      go_wp2_with fail
                      go_roundw
                      case rel => exact ⟨k + 1, N, li, N + 1, li, _, _, by omega, by first | rfl | exact HNV.out, rfl, by go_num, HNX.out, .inr ⟨by omega, rfl, rfl⟩, HS.out, HP2.out, HBX2.out⟩
                      case measure => (simp [intOf]; try omega)
                    · obtain ⟨s, rfl⟩ : ∃ s, kk = s + 1 := ⟨kk - 1, by omega⟩
                      obtain rfl : z = (s : Int) := by omega
                      have hcell := hb.out.cell s
                      rw [zerI_at] at hcell
                      have hfr := hb.out.frozen s
                      have hsl : (s : Int) < (li : Int) := by omega
                      have HD2 := Lib.hid hd.out.step
                      have HB2 : Hid (∀ u, Blk (wr.setCell ⟨wo.heap.size, s, Option.none⟩ (.int .i64 u)) wo.heap.size 3 (zerI s (u :: D))) := fun u => by rw [← zerI_set]; exact hb.out.set_ _ _
                      have HC2 : Hid (∀ u, Below wo.heap.size wo (wr.setCell ⟨wo.heap.size, s, Option.none⟩ u)) := fun u => hbel.out.setCell (p := ⟨wo.heap.size, s, Option.none⟩) (Nat.le_refl _) _
                      have hq2' : q / r ≤ 933120000000 := Nat.le_trans (Nat.div_le_self _ _) (by omega)
                      have hq2 : q / r ≤ N := Nat.le_trans (Nat.div_le_self _ _) hqn
                      have HQW : Hid (wrap64 ((q : Int) / (r : Int)) = ((q / r : Nat) : Int)) := by show _ = _; rw [← Int.natCast_ediv]; exact wrap_nat hq2'
                      clear hz h0
                      go_wp2_with fail
                      go_quiet (fail)
                      go_wp2_with fail
                      go_roundw
                      case rel => exact ⟨s, q / r, (s : Int) - 1, _, by omega, by rfl, by rw [HQW.out], by omega, hq2, HD2.out, HB2.out _, (HC2.out _).trans (bel_drewN _ _ _)⟩
                      case measure => (simp [intOf]; try omega)
                · have hdk : decide (0 < k) = true := decide_eq_true e
                  have hwd : (wd : Int) + 1 = (nx : Int) := by omega
                  clear e e2
                  go_wp2_with (first | (go_at_call 102; refine (CP.out).mono ?_; rintro e w' ⟨rfl, rfl⟩))
                  have hbm : Below wr.heap.size wr (wr.alloc (.cells (zeros li) 3)) := (Below.refl _ _).alloc (Nat.le_refl _) _
                  have HZ0 : Hid (Blk (wr.alloc (.cells (zeros li) 3)) wr.heap.size 3 (zerI li [])) := by
                    have := Blk.new wr 3 (zeros li)
                    rw [zerI_start] at this
                    exact this
                  have HBM := Lib.hid hbm
                  clear hbm hcl hco hcb
                  rename World => wo
                  go_loopw [16, 17] (fun zv qv wr => ∃ (kk q : Nat) (z : Int) (D : List Int), kk ≤ li ∧ zv = .int .i64 z ∧ qv = .int .i64 (q : Int) ∧ z + 1 = (kk : Int) ∧ q ≤ N ∧ Hid (DigTo r N li kk q D) ∧ Hid (Blk wr wo.heap.size 3 (zerI kk D)) ∧ Hid (Below wo.heap.size wo wr)) (fun i _ _ => (intOf i + 1).toNat)
                  case atStart => exact ⟨li, N, _, [], Nat.le_refl _, rfl, by first | rfl | exact HNV.out, by omega, Nat.le_refl _, DigTo.start _ _ _, HZ0.out, HBM.out⟩
                  case round =>
                    obtain ⟨kk, q, z, D, hkk, rfl, rfl, hz, hqn, hd, hb, hbel⟩ := hrel
                    rcases Nat.eq_zero_or_pos kk with h0 | h0
                    · subst h0
                      obtain rfl : z = -1 := by omega
                      have hdd := hd.out.done
                      have hdl : D.length = li := by rw [hdd, digL_len]
                      have hown : OwI wr wo.heap.size wr.heap.size (.slice (some ⟨wo.heap.size, 0, Option.none⟩) D.length D.length) D := own_of_blk (show Blk wr wo.heap.size 3 (ints D) from hb.out) (Nat.le_refl _) hb.out.lt (by unfold maxLen; omega)
                      rw [hdl] at hown
                      have hszw := hbel.out.size
                      have hbk2 := hbk.out.below hbel.out hG
                      obtain ⟨A5, n5, c5, h5⟩ := hrw.out.form (i := i) (by rw [HUL.out]; exact HLI.out)
                      have hcell2 := hbk2.cell i
                      rw [h5] at hcell2
                      have hfr2 := hbk2.frozen i
                      have hset := hbk2.set_ i (.slice (some ⟨wo.heap.size, 0, Option.none⟩) li li)
                      have hput := (hrw.out.below hbel.out (Nat.le_refl _)).put (j := i) hown (by omega) hszw
                      have hput2 := hput.keep ((Keep.refl w1.heap.size (w1.heap.size + 1) wr).setCell (p := ⟨w1.heap.size, i, Option.none⟩) (Nat.le_refl _) (by simp) (.slice (some ⟨wo.heap.size, 0, Option.none⟩) li li)) (.inr (Nat.le_refl _))
                      have hblx := (hbl.out.trans (hbel.out.mono (by omega))).setCell (p := ⟨w1.heap.size, i, Option.none⟩) (Nat.le_refl _) (.slice (some ⟨wo.heap.size, 0, Option.none⟩) li li)
                      have hszs : (wr.setCell ⟨w1.heap.size, i, Option.none⟩ (.slice (some ⟨wo.heap.size, 0, Option.none⟩) li li)).heap.size = wr.heap.size := by simp [World.setCell]
                      rw [← hszs, hdd] at hput2
                      have HS := Lib.hid hset
                      have HP2 := Lib.hid hput2
                      have HBX2 := Lib.hid hblx
                      have hli2 : i < ls.length := HLI.out
                      clear hset hput hput2 hblx hown hbk2 h5 hszs hdd hdl hz
                      go_wp2_with fail
                      go_roundw
                      case rel => exact ⟨k + 1, N, li, N + 1, li, _, _, by omega, by first | rfl | exact HNV.out, rfl, by go_num, HNX.out, .inr ⟨by omega, rfl, rfl⟩, HS.out, HP2.out, HBX2.out⟩
                      case measure => (simp [intOf]; try omega)
                    · obtain ⟨s, rfl⟩ : ∃ s, kk = s + 1 := ⟨kk - 1, by omega⟩
                      obtain rfl : z = (s : Int) := by omega
                      have hcell := hb.out.cell s
                      rw [zerI_at] at hcell
                      have hfr := hb.out.frozen s
                      have hsl : (s : Int) < (li : Int) := by omega
                      have HD2 := Lib.hid hd.out.step
                      have HB2 : Hid (∀ u, Blk (wr.setCell ⟨wo.heap.size, s, Option.none⟩ (.int .i64 u)) wo.heap.size 3 (zerI s (u :: D))) := fun u => by rw [← zerI_set]; exact hb.out.set_ _ _
                      have HC2 : Hid (∀ u, Below wo.heap.size wo (wr.setCell ⟨wo.heap.size, s, Option.none⟩ u)) := fun u => hbel.out.setCell (p := ⟨wo.heap.size, s, Option.none⟩) (Nat.le_refl _) _
                      have hq2' : q / r ≤ 933120000000 := Nat.le_trans (Nat.div_le_self _ _) (by omega)
                      have hq2 : q / r ≤ N := Nat.le_trans (Nat.div_le_self _ _) hqn
                      have HQW : Hid (wrap64 ((q : Int) / (r : Int)) = ((q / r : Nat) : Int)) := by show _ = _; rw [← Int.natCast_ediv]; exact wrap_nat hq2'
                      clear hz h0
                      go_wp2_with fail
                      go_quiet (fail)
                      go_wp2_with fail
                      go_roundw
                      case rel => exact ⟨s, q / r, (s : Int) - 1, _, by omega, by rfl, by rw [HQW.out], by omega, hq2, HD2.out, HB2.out _, (HC2.out _).trans (bel_drewN _ _ _)⟩
                      case measure => (simp [intOf]; try omega)
              · obtain rfl : k = ls.length := by omega
                have HR : Hid (rows = canR ls (r : Int)) := by
                  show _ = _
                  unfold canR
                  rw [HF.out]
                  simp only [if_true, Int.toNat_natCast]
                  unfold canonL
                  have h1 := hst.out
                  rw [List.take_of_length_le (by rw [HLL.out]; exact Nat.le_refl _), HL.out] at h1
                  rw [h1]
                clear hst hlink
                go_wp2_with fail
                go_ret2
                rw [HF.out, ← HR.out]
                refine ⟨.slice (some ⟨w1.heap.size, 0, Option.none⟩) ls.length ls.length, ret_val rfl, ?_, HWB.out.trans (hbl.out.mono (by omega))⟩
                refine ⟨us, hrw.out.mono (by omega) (Nat.le_refl _), ⟨?_, .inr ⟨w1.heap.size, ls.length, us.toArray, ?_, by omega, hbk.out, ?_, by unfold maxLen; omega, by simp [HUL.out], ?_⟩⟩, fun g hg => by cases hg; exact hbk.out.lt⟩
                · rw [Nat.mul_one]; exact hrw.out.1
                · rw [← hrw.out.1, HUL.out]
                · rw [← hrw.out.1, HUL.out]; exact Nat.le_refl _
                · rw [List.take_of_length_le (by rw [← hrw.out.1]; exact Nat.le_of_eq (by simp))]
end Go.Proofs.Ytjnkdjokbamibaa
/- Contracts: the search of the least lengths. -/
namespace Go.Proofs.Ytjnkdjokbamibaa
open Go.RowKit
/-- Below block B nothing but block S has turned. -/
structure ButS (B S : Nat) (w w' : World) : Prop where
  os : w'.os = w.os
  tape : w'.tape = w.tape
  output : w'.output = w.output
  size : w.heap.size ≤ w'.heap.size
  block : ∀ k, k < B → k ≠ S → w'.heap[k]? = w.heap[k]?
theorem ButS.refl (B S : Nat) (w : World) : ButS B S w w := ⟨rfl, rfl, rfl, Nat.le_refl _, fun _ _ _ => rfl⟩
theorem ButS.trans {B S : Nat} {a b c : World} (h : ButS B S a b) (k : ButS B S b c) : ButS B S a c :=
  ⟨k.os.trans h.os, k.tape.trans h.tape, k.output.trans h.output, Nat.le_trans h.size k.size, fun i h1 h2 => (k.block i h1 h2).trans (h.block i h1 h2)⟩
theorem ButS.cell {B S : Nat} {w w' : World} (h : ButS B S w w') {b o : Nat} (hb : b < B) (hne : b ≠ S) : w'.cell? ⟨b, o, Option.none⟩ = w.cell? ⟨b, o, Option.none⟩ := by
  unfold World.cell?
  rw [h.block b hb hne]
theorem grown_set {w : World} {S : Nat} {p : Addr} (hp : p.block = S) (u : Value) : w.grownBy (w.setCell p u) (some S) :=
  ⟨rfl, rfl, rfl, by simp [World.setCell], fun k _ hk => Below.heap_setCell _ _ _ _ (by rw [hp]; exact fun e => hk (by rw [e]))⟩
end Go.Proofs.Ytjnkdjokbamibaa
/- Contracts: LeastLengths of the program. -/
namespace Go.Proofs.Ytjnkdjokbamibaa
open Go.RowKit
def askB (ws : List Int) (r l : Int) : Bool := (weightsB ws && inB r 2 60) && inB l 1 6
/-- The weights in the order of the search. -/
def sortW (ws : List Int) : List Int := (orderBy (pWei ws) ws.length).map fun i => ws.getD i 0
/-- A list in the order of the search is laid back to the order of the weights: the first k ones. -/
def layK (os : List Nat) (n : Nat) (l : List Nat) (k : Nat) : List Int := (List.range k).foldl (fun acc k => acc.set (os.getD k 0) ((l.getD k 0 : Nat) : Int)) (List.replicate n 0)
def layB (os : List Nat) (n : Nat) (l : List Nat) : List Int := layK os n l l.length
theorem layK_succ {os : List Nat} {n : Nat} {l : List Nat} {k i x : Nat} (hi : os[k]? = some i) (hx : l[k]? = some x) : layK os n l (k + 1) = (layK os n l k).set i ((x : Nat) : Int) := by
  unfold layK
  rw [List.range_succ, List.foldl_append]
  simp [List.getD_eq_getElem?_getD, hi, hx]
theorem layK_len (os : List Nat) (n : Nat) (l : List Nat) : ∀ k, (layK os n l k).length = n
  | 0 => by simp [layK]
  | k + 1 => by
    have := layK_len os n l k
    unfold layK at this ⊢
    rw [List.range_succ, List.foldl_append]
    simpa using this
theorem sortW_all {ws : List Int} {a b : Int} (h : allB ws a b = true) : allB (sortW ws) a b = true := by
  unfold allB
  rw [List.all_eq_true]
  intro x hx
  unfold sortW at hx
  rw [List.mem_map] at hx
  obtain ⟨i, hi, rfl⟩ := hx
  have := allB_at h (orderBy_lt hi)
  exact inB_iff.2 this
def leastC (ws : List Int) (r l : Int) : Cand := if askB ws r l then bst r.toNat l.toNat (sortW ws) 1 (r.toNat ^ l.toNat) else Option.none
def leastL (ws : List Int) (r l : Int) : List Int := match leastC ws r l with
  | Option.none => []
  | some x => layB (orderBy (pWei ws) ws.length) ws.length x.1
def leastB (ws : List Int) (r l : Int) : Bool := (leastC ws r l).isSome
end Go.Proofs.Ytjnkdjokbamibaa
/- Contracts: LeastLengths and LeastCost of the program; what the lengths are. -/
namespace Go.Proofs.Ytjnkdjokbamibaa
open Go.RowKit
/-- The place of an index in the order has the length that was found for it. -/
theorem layK_at {os : List Nat} {n : Nat} {l : List Nat} (hn : os.Nodup) (ho : ∀ i ∈ os, i < n) : ∀ (m : Nat), m ≤ os.length → m ≤ l.length → ∀ (k i x : Nat), k < m → os[k]? = some i → l[k]? = some x → (layK os n l m)[i]? = some ((x : Nat) : Int)
  | 0, _, _, k, i, x, hk, _, _ => by omega
  | m + 1, hm, hml, k, i, x, hk, hi, hx => by
    have hj : os[m]? = some os[m] := List.getElem?_eq_getElem (by omega)
    have hy : l[m]? = some l[m] := List.getElem?_eq_getElem (by omega)
    rw [layK_succ hj hy]
    have hil := ho i (List.mem_of_getElem? hi)
    by_cases e : k = m
    · subst e
      rw [hj] at hi; cases hi
      rw [hy] at hx; cases hx
      rw [List.getElem?_set_self (by rw [layK_len]; exact hil)]
    · have hne : os[m] ≠ i := by
        intro e2
        have h1 : os[m]? = os[k]? := by rw [hj, hi, e2]
        have := (List.getElem?_inj (i := m) (j := k) (by omega) hn).1 h1
        omega
      rw [List.getElem?_set_ne hne]
      exact layK_at hn ho m (by omega) (by omega) k i x (by omega) hi hx
theorem layB_at {ws : List Int} {l : List Nat} (hl : l.length = ws.length) {i : Nat} (hi : i < ws.length) : ∃ (k x : Nat), (orderBy (pWei ws) ws.length)[k]? = some i ∧ l[k]? = some x ∧ (layB (orderBy (pWei ws) ws.length) ws.length l)[i]? = some ((x : Nat) : Int) := by
  obtain ⟨k, hk, he⟩ := List.getElem_of_mem (orderBy_mem (p := pWei ws) hi)
  rw [orderBy_len] at hk
  refine ⟨k, l[k], by rw [List.getElem?_eq_getElem (by rw [orderBy_len]; exact hk), he], List.getElem?_eq_getElem (by omega), ?_⟩
  unfold layB
  exact layK_at (orderBy_nodup _ _) (fun j hj => orderBy_lt hj) l.length (by rw [orderBy_len]; omega) (Nat.le_refl _) k i _ (by omega) (by rw [List.getElem?_eq_getElem (by rw [orderBy_len]; exact hk), he]) (List.getElem?_eq_getElem (by omega))
theorem sortW_len (ws : List Int) : (sortW ws).length = ws.length := by unfold sortW; rw [List.length_map, orderBy_len]
theorem sortW_pos {ws : List Int} (h : allB ws 0 10000 = true) : ∀ w ∈ sortW ws, 0 ≤ w := by
  have h1 := sortW_all h
  unfold allB at h1
  rw [List.all_eq_true] at h1
  exact fun w hw => (inB_iff.1 (h1 w hw)).1
theorem askB_iff {ws : List Int} {r l : Int} : askB ws r l = true ↔ (1 ≤ ws.length ∧ ws.length ≤ 20) ∧ allB ws 0 10000 = true ∧ (2 ≤ r ∧ r ≤ 60) ∧ (1 ≤ l ∧ l ≤ 6) := by
  unfold askB weightsB
  simp only [Bool.and_eq_true, inB_iff]
  constructor
  · rintro ⟨⟨⟨h1, h2⟩, h3⟩, h4⟩; exact ⟨by omega, h2, h3, h4⟩
  · rintro ⟨h1, h2, h3, h4⟩; exact ⟨⟨⟨by omega, h2⟩, h3⟩, h4⟩
theorem leastC_ask {ws : List Int} {r l : Int} {x : List Nat × Int} (h : leastC ws r l = some x) : askB ws r l = true ∧ bst r.toNat l.toNat (sortW ws) 1 (r.toNat ^ l.toNat) = some x := by
  unfold leastC at h
  split at h
  · exact ⟨by assumption, h⟩
  · cases h
/-- The lengths that are found. -/
theorem leastL_ok {ws : List Int} {r l : Int} (h : leastB ws r l = true) : lengthsB (leastL ws r l) = true ∧ (leastL ws r l).length = ws.length ∧ ∀ i, i < ws.length → 1 ≤ (leastL ws r l).getD i 0 ∧ (leastL ws r l).getD i 0 ≤ l := by
  unfold leastB at h
  obtain ⟨x, hx⟩ := Option.isSome_iff_exists.1 h
  obtain ⟨ha, hb⟩ := leastC_ask hx
  obtain ⟨h1, h2, h3, h4⟩ := askB_iff.1 ha
  have hbd := bst_bd _ (sortW_pos h2) _ 1 _ rfl _ hb
  rw [sortW_len] at hbd
  have hL : leastL ws r l = layB (orderBy (pWei ws) ws.length) ws.length x.1 := by unfold leastL; rw [hx]
  have hlen : (leastL ws r l).length = ws.length := by rw [hL]; unfold layB; rw [layK_len]
  have hat : ∀ i, i < ws.length → 1 ≤ (leastL ws r l).getD i 0 ∧ (leastL ws r l).getD i 0 ≤ l := by
    intro i hi
    obtain ⟨k, y, _, hy, he⟩ := layB_at hbd.1 hi
    rw [hL, List.getD_eq_getElem?_getD, he]
    have := hbd.2.2.2 y (List.mem_of_getElem? hy)
    simp only [Option.getD_some]
    omega
  refine ⟨?_, hlen, hat⟩
  unfold lengthsB
  rw [Bool.and_eq_true, inB_iff, hlen]
  refine ⟨by omega, ?_⟩
  unfold allB
  rw [List.all_eq_true]
  intro y hy
  obtain ⟨i, hi, rfl⟩ := List.getElem_of_mem hy
  have := hat i (by omega)
  rw [List.getD_eq_getElem?_getD, List.getElem?_eq_getElem hi] at this
  exact inB_iff.2 (by simp only [Option.getD_some] at this; omega)
theorem leastL_no {ws : List Int} {r l : Int} (h : leastB ws r l = false) : leastL ws r l = [] := by
  unfold leastB at h
  cases hx : leastC ws r l with
  | none => unfold leastL; rw [hx]
  | some x => rw [hx] at h; cases h
theorem leastL_len (ws : List Int) (r l : Int) : (leastL ws r l).length ≤ 20 := by
  cases h : leastB ws r l
  · rw [leastL_no h]; simp
  · have h1 := (leastL_ok h).1
    unfold lengthsB at h1
    rw [Bool.and_eq_true, inB_iff] at h1
    omega
end Go.Proofs.Ytjnkdjokbamibaa
/- Contracts: the order of the weights, by the reference. -/
namespace Go.Proofs.Ytjnkdjokbamibaa
open Go.RowKit
/-- A slice of numbers is appended to a row of the call's own: the run. -/
theorem run_appR {w : World} {B hi : Nat} {v u : Value} {xs ys : List Int} (ty : TypeId) (hown : w.ownsRow B 3 1 v xs.length (ints xs)) (hB : B ≤ w.heap.size) (hR : RdI w hi u ys) (hlen : xs.length + ys.length ≤ 1048576) :
    ∃ v' w', (Builtin.append_ #[35, 35] ty #[v, u]).run Try.prog w = .ok v' w' ∧ w'.ownsRow B 3 1 v' (xs ++ ys).length (ints (xs ++ ys)) ∧ w.grownBy w' v.ownBlock := by
  obtain ⟨i, hi0, hz0, hz1, hz2⟩ := info_parts info_int
  obtain ⟨hl, A, c, rfl, hc1, hc2, hcell⟩ := hR
  rcases A with _ | ad
  · have h0 : ys = [] := by
      rcases Nat.eq_zero_or_pos ys.length with h | h
      · exact List.eq_nil_of_length_eq_zero h
      · obtain ⟨b, off, e, _⟩ := hcell h; cases e
    subst h0
    exact ⟨v, w, run_append_nil B 35 ty 3 i 1 Try.underlying35 hi0 v xs.length (ints xs) hown c, by simpa using hown, World.grownBy.refl _ _⟩
  · have hnews : ∀ j u, (ints ys)[j]? = some u → w.cell? (ad.add j) = some u := by
      intro j u hj
      rcases Nat.eq_zero_or_pos ys.length with h | h
      · rw [List.eq_nil_of_length_eq_zero h] at hj; simp at hj
      · obtain ⟨b, off, e, _, hcc⟩ := hcell h
        cases e
        rw [Go.WideShapes.add_plain]; exact hcc j u hj
    obtain ⟨v', w', hr, ho, hg, _⟩ := run_append_own (P := Try.prog) w B 35 ty 3 i (.int .i64 0) 1 8 Try.underlying35 hi0 hz0 hz1 hz2 rfl (by decide) v xs.length (ints xs) hown ad ys.length c (ints ys) (by simp) hnews
      (by intro u hu; simp at hu; obtain ⟨z, _, rfl⟩ := hu; rfl) (by unfold maxLen; omega) (by omega) hB
    exact ⟨v', w', hr, by simpa [ints] using ho, hg⟩
/-- The same at a step of a region that draws its order. -/
theorem step_appR {w0 w : World} {B hi : Nat} {v u : Value} {xs ys : List Int} {ops : Array Oper} {o : Oper} {a : Act} {K : Act → World → Prop} {Q : Exit → Act → World → Prop} {E : Prop} (hgd : o.guard = Option.none) (s x : Operand)
    (ho : o.op = .call { callee := .builtin .append, args := #[s, x], argTypes := #[35, 35] }) (hG : GrowI w0 B w v xs) (hR : RdI w hi u ys) (hlen : xs.length + ys.length ≤ 1048576) (hs : a.eval s = v) (hx : a.eval x = u)
    (h : ∀ v' w', GrowI w0 B w' v' (xs ++ ys) → K (a.put o.dst v') w') : if Region.wanted o (yielded ops a.tmps) = true then Oper.wp Try.prog o a w K Q else E := by
  have hw : Region.wanted o (yielded ops a.tmps) = true := by simp [Region.wanted, hgd]
  rw [if_pos hw]
  obtain ⟨v', w', hr, h1, h2⟩ := run_appR o.type hG.1 hG.2.2 hR hlen
  unfold Oper.wp execOp
  simp only [ho, resolve, invoke, builtin, Sem.run_bind, Sem.run_pure, Result.andThen_ok, List.map_toArray, List.map_cons, List.map_nil, hs, hx, hr]
  exact h v' w' ⟨h1, hG.2.1.grown h2 hG.2.2 (fun k hk => (hG.1.lt k hk).1), Nat.le_trans hG.2.2 h2.size⟩
theorem growI_own {w w1 w2 : World} {v : Value} {xs : List Int} (hb1 : Below w.heap.size w w1) (ho : OwI w2 w1.heap.size w2.heap.size v xs) (hb : Below w1.heap.size w1 w2) : GrowI w w.heap.size w2 v xs := by
  have hs := hb1.size
  have hs2 := hb.size
  refine ⟨⟨ho.1.1, ?_⟩, hb1.trans (hb.mono hs), by omega⟩
  rcases ho.1.2 with hn | ⟨g, cap, cur, e, hl, rest⟩
  · exact .inl hn
  · exact .inr ⟨g, cap, cur, e, by omega, rest⟩
theorem one_rd (w : World) (x : Int) : RdI (w.alloc (.cells #[.int .i64 x] 3)) (w.heap.size + 1) (.slice (some ⟨w.heap.size, 0, Option.none⟩) 1 1) [x] := by
  refine ⟨rfl, _, 1, rfl, Nat.le_refl _, by decide, fun _ => ⟨w.heap.size, 0, rfl, by omega, fun j u hj => ?_⟩⟩
  match j, hj with
  | 0, hj =>
    simp at hj; subst hj
    exact (Blk.new w 3 #[.int .i64 x]).cell 0
theorem waysI_lenN (L : List Nat) : (waysI L).length = L.length := by unfold waysI; simp
theorem RdI.takeLe {w : World} {hi c : Nat} {A : Option Addr} {xs : List Int} (h : RdI w hi (.slice A xs.length c) xs) {m : Nat} (hm : m ≤ xs.length) : RdI w hi (.slice A m c) (xs.take m) := by
  obtain ⟨_, A', c', hv, h1, h2, h3⟩ := h
  cases hv
  have hl : (xs.take m).length = m := by rw [List.length_take]; omega
  refine ⟨by simp, A, c, by rw [hl], by rw [hl]; omega, h2, fun hp => ?_⟩
  rw [hl] at hp
  obtain ⟨b, off, e, hb, hc⟩ := h3 (by omega)
  refine ⟨b, off, e, hb, fun j u hj => hc j u ?_⟩
  unfold ints at hj ⊢
  rw [List.map_take, List.getElem?_take] at hj
  split at hj
  · exact hj
  · cases hj
theorem order_next {ls : List Int} {L : List Nat} {k m : Nat} (hL : L = orderBy (pWei ls) k) (hm : m ≤ k) (hB : ∀ y ∈ L.drop m, pWei ls k y = true) (hA : ¬ (0 < m ∧ ∃ y, L[m - 1]? = some y ∧ pWei ls k y = true)) : (waysI (L.take m) ++ [(k : Int)]) ++ waysI (L.drop m) = waysI (orderBy (pWei ls) (k + 1)) := by
  subst hL
  have hl := orderBy_len (pWei ls) k
  rw [orderBy_succ, insBy_at (j := m) (by omega) hB]
  · unfold waysI; simp
  · rcases Nat.eq_zero_or_pos m with h | h
    · exact .inl h
    · right
      have hy : (orderBy (pWei ls) k)[m - 1]? = some (orderBy (pWei ls) k)[m - 1] := List.getElem?_eq_getElem (by omega)
      refine ⟨_, hy, ?_⟩
      cases e : pWei ls k (orderBy (pWei ls) k)[m - 1]
      · rfl
      · exact absurd ⟨h, _, hy, e⟩ hA
set_option maxRecDepth 100000 in
set_option maxHeartbeats 8000000 in
theorem cmOrder_any (ls : List Int) (v : Value) (hi : Nat) (w : World) (h : RdI w hi v ls) (hh : hi ≤ w.heap.size) (hn : ls.length ≤ 20) : Calls Try.prog 159 #[v] w fun e w' => ∃ u, e = .returned u ∧ RdI w' w'.heap.size u (waysI (orderBy (pWei ls) ls.length)) ∧ Below w.heap.size w w' := by
  obtain ⟨A, c, rfl, hc, hm⟩ := Rd.form h
  have H := Lib.hid h
  clear h
  go_enter Try.func159, Try.ntmps159
  go_wp2
  go_loopw [3, 9] (fun o i wr => ∃ (k : Nat) (A2 : Option Addr) (c2 : Nat), k ≤ ls.length ∧ o = .slice A2 k c2 ∧ i = .int .i64 (k : Int) ∧ k ≤ c2 ∧ (k = 0 → A2 = Option.none ∧ c2 = 0) ∧ Hid (RdI wr wr.heap.size (.slice A2 k c2) (waysI (orderBy (pWei ls) k))) ∧ Hid (Below w.heap.size w wr)) (fun _ i _ => ls.length - (intOf i).toNat)
  case atStart => exact ⟨0, Option.none, 0, Nat.zero_le _, rfl, rfl, Nat.le_refl _, fun _ => ⟨rfl, rfl⟩, (owI_nil w 0 w.heap.size).rd, Below.refl _ _⟩
  case round =>
    obtain ⟨k, A2, c2, hk, rfl, rfl, hkc, hz0, hrd, hbl⟩ := hrel
    by_cases hlt : k < ls.length
    · obtain ⟨b1, o1, c1, hv, hb1h, hcl⟩ := RdI.getD (RdI.below H.out hbl.out hh) hlt
      cases hv
      obtain ⟨x, hx⟩ : ∃ x, x = ls.getD k 0 := ⟨_, rfl⟩
      rw [← hx] at hcl
      have HX := Lib.hid hx
      obtain ⟨L, hL⟩ : ∃ L, L = orderBy (pWei ls) k := ⟨_, rfl⟩
      have hLl : L.length = k := by rw [hL, orderBy_len]
      rw [← hL] at hrd
      have HLM : Hid (∀ i ∈ L, i < k) := by show ∀ i ∈ L, i < k; rw [hL]; exact fun i hi => orderBy_lt hi
      have HL := Lib.hid hL
      have HLL := Lib.hid hLl
      have HWL : Hid ((waysI L).length = k) := by show _ = _; rw [waysI_lenN, hLl]
      clear hx hL hLl
      rename World => wo
      go_wp2_with fail
      go_loopw [6] (fun q wr => ∃ m : Nat, m ≤ k ∧ q = .int .i64 (m : Int) ∧ Hid (∀ y ∈ L.drop m, pWei ls k y = true) ∧ wo = wr) (fun q _ => (intOf q).toNat)
      case atStart => exact ⟨k, Nat.le_refl _, rfl, by show ∀ y ∈ L.drop k, pWei ls k y = true; intro y hy; rw [List.drop_of_length_le (by rw [HLL.out]; exact Nat.le_refl _)] at hy; simp at hy, rfl⟩
      case round =>
        obtain ⟨m, hmk, rfl, hall, rfl⟩ := hrel
        have hmi : (m : Int) ≤ (c2 : Int) := by omega
        have hmki : (m : Int) ≤ (k : Int) := by omega
        have HTL : Hid ((waysI L).take m = waysI (L.take m) ∧ (waysI L).drop m = waysI (L.drop m)) := by show _ ∧ _; unfold waysI; rw [List.map_take, List.map_drop]; exact ⟨rfl, rfl⟩
        rcases Nat.eq_zero_or_pos k with hk0 | hk0
        · obtain ⟨rfl, rfl⟩ := hz0 hk0
          obtain rfl : m = 0 := by omega
          subst hk0
          have HNIL : Hid (∀ w' : World, RdI w' wo.heap.size (.slice Option.none 0 0) []) := fun w' => (owI_nil w' 0 wo.heap.size).rd
          have hb1 : Below wo.heap.size wo wo.drew := (Below.refl _ _).drew
          have hb2 : Below wo.heap.size wo (wo.drew.alloc (.cells #[.int .i64 0] 3)) := hb1.alloc (Nat.le_refl _) _
          have HON := one_rd wo.drew 0
          have HN : Hid (([] ++ [(0 : Int)]) ++ [] = waysI (orderBy (pWei ls) (0 + 1))) := rfl
          clear hz0
          go_wp2_with fail
          go_region_law (first
            | ((refine step_appR (by rfl) (.tmp 35) (.tmp 37) (by rfl) ((growI_own hb1 hu5 hb5).belowR ((Below.refl _ _).alloc (Nat.le_refl _) _)) (one_rd w5 0) (by simp) (by rfl) (by rfl) ?_; intro v6 w6 hg6))
            | ((refine step_appR (by rfl) (.tmp 35) (.tmp 37) (by rfl) (growI_own hb2 hu5 hb5) (RdI.below HON hb5 (by simp)) (by simp) (by rfl) (by rfl) ?_; intro v6 w6 hg6))
            | ((refine step_appR (by rfl) (.tmp 38) (.tmp 41) (by rfl) hg6 (HNIL.out _) (by simp) (by rfl) (by rfl) ?_; intro v7 w7 hg7))
            | ((go_simp; go_at_call 122; refine (l1Own_any [] _ wo.heap.size _ (HNIL.out _) (by simp) (by simp)).mono ?_; rintro e w5 ⟨v5, rfl, hu5, hb5⟩)))
          all_goals
            have HG7 : Hid (GrowI wo wo.heap.size w7 v7 (waysI (orderBy (pWei ls) (0 + 1)))) := by show GrowI _ _ _ _ _; rw [← HN.out]; exact hg7
            obtain ⟨A7, c7, rfl, hc7, _⟩ := Rd.form HG7.out.own.rd
            have hl7 : (waysI (orderBy (pWei ls) (0 + 1))).length = 0 + 1 := by rw [waysI_lenN, orderBy_len]
            rw [hl7] at hc7 HG7 ⊢
            clear hg7 hl7
            go_wp2_with fail
            go_roundw
            case rel => exact ⟨0 + 1, A7, c7, by omega, rfl, by go_num, hc7, fun e => by omega, HG7.out.own.rd, hbl.out.trans (HG7.out.2.1.mono (by have := hbl.out.size; omega))⟩
            case measure => (simp [intOf]; try omega)
        · obtain ⟨b2, o2, rfl⟩ : ∃ b2 o2, A2 = some ⟨b2, o2, Option.none⟩ := by
            obtain ⟨_, A', c', hv, _, _, h3⟩ := hrd.out
            cases hv
            obtain ⟨b, off, e, _⟩ := h3 (by rw [HWL.out]; exact hk0)
            exact ⟨b, off, e⟩
          by_cases hgo : 0 < m ∧ ∃ y, L[m - 1]? = some y ∧ pWei ls k y = true
          · obtain ⟨h0, y, hy, hp⟩ := hgo
            obtain ⟨s, rfl⟩ : ∃ s, m = s + 1 := ⟨m - 1, by omega⟩
            rw [Nat.add_sub_cancel] at hy
            have hyk := HLM.out y (List.mem_of_getElem? hy)
            obtain ⟨_, _, _, hv, _, hcy⟩ := RdI.getD (by have := hrd.out; rw [← HWL.out] at this; exact this) (k := s) (by rw [HWL.out]; omega)
            cases hv
            rw [show (waysI L).getD s 0 = (y : Int) by unfold waysI; rw [List.getD_eq_getElem?_getD, List.getElem?_map, hy]; rfl] at hcy
            obtain ⟨_, _, _, hv, _, hcw⟩ := RdI.getD (RdI.below H.out hbl.out hh) (k := y) (by omega)
            cases hv
            obtain ⟨z, hz⟩ : ∃ z, z = ls.getD y 0 := ⟨_, rfl⟩
            rw [← hz] at hcw
            have hzx : decide (z < x) = true := by
              unfold pWei at hp
              rw [← HX.out, ← hz] at hp
              exact hp
            have hyl : y < ls.length := by omega
            have HNX := Lib.hid (insL_next (p := pWei ls) hy hp hall.out)
            have hsk : (s : Int) < (k : Int) := by omega
            clear hz hy hp h0
            go_wp2_with fail
            go_roundw
            case rel => exact ⟨s, by omega, by go_num, HNX.out, by trivial⟩
            case measure => (simp [intOf]; try omega)
          · rcases Nat.eq_zero_or_pos m with hm0 | hm0
            · have hgd : decide (0 < m) = false := decide_eq_false (by omega)
              clear hm0

              have HTK : Hid (∀ w', Below wo.heap.size wo w' → RdI w' wo.heap.size (.slice (some ⟨b2, o2, Option.none⟩) m c2) (waysI (L.take m))) := by
                intro w' hb
                have h1 := RdI.takeLe (m := m) (by have := hrd.out; rw [← HWL.out] at this; exact this) (by rw [HWL.out]; exact hmk)
                rw [HTL.out.1] at h1
                exact RdI.below h1 hb (Nat.le_refl _)
              have HDR : Hid (∀ w', Below wo.heap.size wo w' → RdI w' wo.heap.size (.slice (if c2 = m then some ⟨b2, o2, Option.none⟩ else some ⟨b2, o2 + m, Option.none⟩) (k - m) (c2 - m)) (waysI (L.drop m))) := by
                intro w' hb
                have h1 := RdI.dropLe (k := m) (by have := hrd.out; rw [← HWL.out] at this; exact this) (by rw [HWL.out]; exact hmk)
                rw [HTL.out.2, HWL.out] at h1
                have h2 := RdI.below h1 hb (Nat.le_refl _)
                split
                · rename_i e
                  have hz : (waysI (L.drop m)).length = 0 := by rw [waysI_lenN, List.length_drop, HLL.out]; omega
                  obtain ⟨_, A', c', hv, h3, h4, _⟩ := h2
                  injection hv with _ _ e2
                  rw [← e2] at h3 h4
                  rw [show k - m = (waysI (L.drop m)).length by omega]
                  exact ⟨by simp, _, _, rfl, by omega, h4, fun hp => by omega⟩
                · exact h2
              have hll : (waysI (L.take m)).length = m := by rw [waysI_lenN, List.length_take, HLL.out]; omega
              have HLT := Lib.hid hll
              have hb1 : Below wo.heap.size wo wo.drew := (Below.refl _ _).drew
              have hb2 : Below wo.heap.size wo (wo.drew.alloc (.cells #[.int .i64 (k : Int)] 3)) := hb1.alloc (Nat.le_refl _) _
              have HN := Lib.hid (order_next HL.out hmk hall.out hgo)
              have HON := one_rd wo.drew (k : Int)
              clear hgo hll
              go_wp2_with fail
              go_region_law (first
                | ((refine step_appR (by rfl) (.tmp 35) (.tmp 37) (by rfl) ((growI_own hb1 hu5 hb5).belowR ((Below.refl _ _).alloc (Nat.le_refl _) _)) (one_rd w5 (k : Int)) (by rw [HLT.out]; simp; omega) (by rfl) (by rfl) ?_; intro v6 w6 hg6))
                | ((refine step_appR (by rfl) (.tmp 35) (.tmp 37) (by rfl) (growI_own hb2 hu5 hb5) (RdI.below HON hb5 (by simp)) (by rw [HLT.out]; simp; omega) (by rfl) (by rfl) ?_; intro v6 w6 hg6))
                | ((refine step_appR (by rfl) (.tmp 38) (.tmp 41) (by rfl) hg6 (HDR.out _ hg6.2.1) (by rw [List.length_append, HLT.out, waysI_lenN, List.length_drop, HLL.out]; simp; omega) (by rfl) (by rfl) ?_; intro v7 w7 hg7))
                | ((go_simp; go_at_call 122; refine (l1Own_any (waysI (L.take m)) _ wo.heap.size _ (HTK.out _ (by first | exact hb1 | exact hb2)) (by simp) (by rw [HLT.out]; omega)).mono ?_; rintro e w5 ⟨v5, rfl, hu5, hb5⟩)))
              all_goals
                have HG7 : Hid (GrowI wo wo.heap.size w7 v7 (waysI (orderBy (pWei ls) (k + 1)))) := by show GrowI _ _ _ _ _; rw [← HN.out]; exact hg7
                obtain ⟨A7, c7, rfl, hc7, _⟩ := Rd.form HG7.out.own.rd
                have hl7 : (waysI (orderBy (pWei ls) (k + 1))).length = k + 1 := by rw [waysI_lenN, orderBy_len]
                rw [hl7] at hc7 HG7 ⊢
                have HL7 := Lib.hid hl7
                clear hg7 hl7
                go_wp2_with fail
                go_roundw
                case rel => exact ⟨k + 1, A7, c7, by omega, rfl, by go_num, hc7, fun e => by omega, HG7.out.own.rd, hbl.out.trans (HG7.out.2.1.mono (by have := hbl.out.size; omega))⟩
                case measure => (simp [intOf]; try omega)
            · obtain ⟨s, rfl⟩ : ∃ s, m = s + 1 := ⟨m - 1, by omega⟩
              obtain ⟨y, hy⟩ : ∃ y, L[s]? = some y := ⟨_, List.getElem?_eq_getElem (by rw [HLL.out]; omega)⟩
              have hp : pWei ls k y = false := by
                cases e : pWei ls k y
                · rfl
                · exact absurd ⟨hm0, y, by rw [Nat.add_sub_cancel]; exact hy, e⟩ hgo
              have hyk := HLM.out y (List.mem_of_getElem? hy)
              obtain ⟨_, _, _, hv, _, hcy⟩ := RdI.getD (by have := hrd.out; rw [← HWL.out] at this; exact this) (k := s) (by rw [HWL.out]; omega)
              cases hv
              rw [show (waysI L).getD s 0 = (y : Int) by unfold waysI; rw [List.getD_eq_getElem?_getD, List.getElem?_map, hy]; rfl] at hcy
              obtain ⟨_, _, _, hv, _, hcw⟩ := RdI.getD (RdI.below H.out hbl.out hh) (k := y) (by omega)
              cases hv
              obtain ⟨z, hz⟩ : ∃ z, z = ls.getD y 0 := ⟨_, rfl⟩
              rw [← hz] at hcw
              have hzx : decide (z < x) = false := by
                unfold pWei at hp
                rw [← HX.out, ← hz] at hp
                exact hp
              have hyl : y < ls.length := by omega
              have hs3 : (s : Int) + 1 ≤ (c2 : Int) := by omega
              have hs4 : (s : Int) + 1 ≤ (k : Int) := by omega
              have hs5 : (0 : Int) ≤ (s : Int) + 1 := by omega
              have hsk : (s : Int) < (k : Int) := by omega
              clear hz hy hp hm0
              have HTK : Hid (∀ w', Below wo.heap.size wo w' → RdI w' wo.heap.size (.slice (some ⟨b2, o2, Option.none⟩) (s + 1) c2) (waysI (L.take (s + 1)))) := by
                intro w' hb
                have h1 := RdI.takeLe (m := (s + 1)) (by have := hrd.out; rw [← HWL.out] at this; exact this) (by rw [HWL.out]; exact hmk)
                rw [HTL.out.1] at h1
                exact RdI.below h1 hb (Nat.le_refl _)
              have HDR : Hid (∀ w', Below wo.heap.size wo w' → RdI w' wo.heap.size (.slice (if c2 = (s + 1) then some ⟨b2, o2, Option.none⟩ else some ⟨b2, o2 + (s + 1), Option.none⟩) (k - (s + 1)) (c2 - (s + 1))) (waysI (L.drop (s + 1)))) := by
                intro w' hb
                have h1 := RdI.dropLe (k := (s + 1)) (by have := hrd.out; rw [← HWL.out] at this; exact this) (by rw [HWL.out]; exact hmk)
                rw [HTL.out.2, HWL.out] at h1
                have h2 := RdI.below h1 hb (Nat.le_refl _)
                split
                · rename_i e
                  have hz : (waysI (L.drop (s + 1))).length = 0 := by rw [waysI_lenN, List.length_drop, HLL.out]; omega
                  obtain ⟨_, A', c', hv, h3, h4, _⟩ := h2
                  injection hv with _ _ e2
                  rw [← e2] at h3 h4
                  rw [show k - (s + 1) = (waysI (L.drop (s + 1))).length by omega]
                  exact ⟨by simp, _, _, rfl, by omega, h4, fun hp => by omega⟩
                · exact h2
              have hll : (waysI (L.take (s + 1))).length = s + 1 := by rw [waysI_lenN, List.length_take, HLL.out]; omega
              have HLT := Lib.hid hll
              have hb1 : Below wo.heap.size wo wo.drew := (Below.refl _ _).drew
              have hb2 : Below wo.heap.size wo (wo.drew.alloc (.cells #[.int .i64 (k : Int)] 3)) := hb1.alloc (Nat.le_refl _) _
              have HN := Lib.hid (order_next HL.out hmk hall.out hgo)
              have HON := one_rd wo.drew (k : Int)
              clear hgo hll
              go_wp2_with fail
              go_region_law (first
                | ((refine step_appR (by rfl) (.tmp 35) (.tmp 37) (by rfl) ((growI_own hb1 hu5 hb5).belowR ((Below.refl _ _).alloc (Nat.le_refl _) _)) (one_rd w5 (k : Int)) (by rw [HLT.out]; simp; omega) (by rfl) (by rfl) ?_; intro v6 w6 hg6))
                | ((refine step_appR (by rfl) (.tmp 35) (.tmp 37) (by rfl) (growI_own hb2 hu5 hb5) (RdI.below HON hb5 (by simp)) (by rw [HLT.out]; simp; omega) (by rfl) (by rfl) ?_; intro v6 w6 hg6))
                | ((refine step_appR (by rfl) (.tmp 38) (.tmp 41) (by rfl) hg6 (HDR.out _ hg6.2.1) (by rw [List.length_append, HLT.out, waysI_lenN, List.length_drop, HLL.out]; simp; omega) (by rfl) (by rfl) ?_; intro v7 w7 hg7))
                | ((go_simp; go_at_call 122; refine (l1Own_any (waysI (L.take (s + 1))) _ wo.heap.size _ (HTK.out _ (by first | exact hb1 | exact hb2)) (by simp) (by rw [HLT.out]; omega)).mono ?_; rintro e w5 ⟨v5, rfl, hu5, hb5⟩)))
              all_goals
                have HG7 : Hid (GrowI wo wo.heap.size w7 v7 (waysI (orderBy (pWei ls) (k + 1)))) := by show GrowI _ _ _ _ _; rw [← HN.out]; exact hg7
                obtain ⟨A7, c7, rfl, hc7, _⟩ := Rd.form HG7.out.own.rd
                have hl7 : (waysI (orderBy (pWei ls) (k + 1))).length = k + 1 := by rw [waysI_lenN, orderBy_len]
                rw [hl7] at hc7 HG7 ⊢
                have HL7 := Lib.hid hl7
                clear hg7 hl7
                go_wp2_with fail
                go_roundw
                case rel => exact ⟨k + 1, A7, c7, by omega, rfl, by go_num, hc7, fun e => by omega, HG7.out.own.rd, hbl.out.trans (HG7.out.2.1.mono (by have := hbl.out.size; omega))⟩
                case measure => (simp [intOf]; try omega)
    · obtain rfl : k = ls.length := by omega
      go_wp2_with fail
      go_ret
      exact ⟨.slice A2 ls.length c2, rfl, hrd.out, hbl.out⟩
end Go.Proofs.Ytjnkdjokbamibaa
/- Contracts: the table of the reference, newly made. -/
namespace Go.Proofs.Ytjnkdjokbamibaa
open Go.RowKit
abbrev slN (g n : Nat) : Value := .slice (some ⟨g, 0, Option.none⟩) n n
/-- What is left of the weights from each index on. -/
def restL (Z : List Int) : List Int := (List.range (Z.length + 1)).map fun j => sumW (Z.drop j)
theorem restL_len (Z : List Int) : (restL Z).length = Z.length + 1 := by simp [restL]
theorem restL_at {Z : List Int} {j : Nat} (h : j ≤ Z.length) : (restL Z)[j]? = some (sumW (Z.drop j)) := by unfold restL; rw [List.getElem?_map, List.getElem?_range (by omega)]; rfl
/-- Blocks of other types than some have not turned. -/
structure Frs (ts : List TypeId) (w w' : World) : Prop where
  os : w'.os = w.os
  tape : w'.tape = w.tape
  output : w'.output = w.output
  size : w.heap.size ≤ w'.heap.size
  block : ∀ (k : Nat) (c : Array Value) (e : TypeId) (fz : Nat × Nat), w.heap[k]? = some (.cells c e fz) → e ∉ ts → w'.heap[k]? = some (.cells c e fz)
theorem Frs.refl (ts : List TypeId) (w : World) : Frs ts w w := ⟨rfl, rfl, rfl, Nat.le_refl _, fun _ _ _ _ h _ => h⟩
theorem Frs.trans {ts : List TypeId} {a b c : World} (h : Frs ts a b) (k : Frs ts b c) : Frs ts a c :=
  ⟨k.os.trans h.os, k.tape.trans h.tape, k.output.trans h.output, Nat.le_trans h.size k.size, fun i x e fz h1 h2 => k.block i x e fz (h.block i x e fz h1 h2) h2⟩
theorem frs_alloc (ts : List TypeId) (w : World) (o : Obj) : Frs ts w (w.alloc o) :=
  ⟨rfl, rfl, rfl, by simp, fun k c e fz h _ => by
    have hk : k < w.heap.size := (Array.getElem?_eq_some_iff.1 h).1
    exact (Below.heap_alloc w o k hk).trans h⟩
theorem frs_grown {ts : List TypeId} {w w' : World} {B size n : Nat} {t : TypeId} {v : Value} {xs : List Value} (h : w.ownsRow B t size v n xs) (hg : w.grownBy w' v.ownBlock) (ht : t ∈ ts) : Frs ts w w' :=
  ⟨hg.os, hg.tape, hg.output, hg.size, fun k c e fz hk he => by
    refine (hg.block k (Array.getElem?_eq_some_iff.1 hk).1 fun e2 => ?_).trans hk
    rcases h.2 with ⟨rfl, _⟩ | ⟨g, cap, cur, rfl, _, hgg, _⟩
    · cases e2
    · cases e2
      rw [hgg] at hk
      cases hk
      exact he ht⟩
theorem frs_set {ts : List TypeId} {w : World} {S : Nat} {t : TypeId} {cs : List Value} {i : Nat} {u : Value} (h : Blk w S t cs) (ht : t ∈ ts) : Frs ts w (w.setCell ⟨S, i, Option.none⟩ u) :=
  ⟨rfl, rfl, rfl, by simp [World.setCell], fun k c e fz hk he => by
    refine (Below.heap_setCell w _ u k (fun e2 => ?_)).trans hk
    have e3 : k = S := e2
    subst e3
    unfold Blk at h
    rw [h] at hk
    cases hk
    exact he ht⟩
theorem Blk.frs {ts : List TypeId} {w w' : World} {g : Nat} {t : TypeId} {cs : List Value} (h : Blk w g t cs) (hf : Frs ts w w') (ht : t ∉ ts) : Blk w' g t cs := hf.block _ _ _ _ h ht
/-- One level of the table: its rows lie in the blocks gs. -/
structure LevOk (w : World) (n1 : Nat) (x : Nat × Nat × List Nat) : Prop where
  len : x.2.2.length = n1
  row : ∃ cur : Array Value, w.heap[x.1]? = some (.cells cur 35 (0, 0)) ∧ cur.toList.take n1 = x.2.2.map fun g => slN g n1
  zero : ∀ g ∈ x.2.2, Blk w g 3 (ints (List.replicate n1 0))
theorem LevOk.frs {ts : List TypeId} {w w' : World} {n1 : Nat} {x : Nat × Nat × List Nat} (h : LevOk w n1 x) (hf : Frs ts w w') (h1 : 3 ∉ ts) (h2 : 35 ∉ ts) : LevOk w' n1 x := by
  obtain ⟨cur, hc, ht⟩ := h.row
  exact ⟨h.len, ⟨cur, hf.block _ _ _ _ hc h2, ht⟩, fun g hg => (h.zero g hg).frs hf h1⟩
theorem LevOk.below {B : Nat} {w w' : World} {n1 : Nat} {x : Nat × Nat × List Nat} (h : LevOk w n1 x) (hb : Below B w w') (hx : w.heap.size ≤ B) : LevOk w' n1 x := by
  obtain ⟨cur, hc, ht⟩ := h.row
  exact ⟨h.len, ⟨cur, (hb.block _ (by have := (Array.getElem?_eq_some_iff.1 hc).1; omega)).trans hc, ht⟩, fun g hg => (h.zero g hg).below hb (by have := (h.zero g hg).lt; omega)⟩
def lvV (n1 : Nat) (x : Nat × Nat × List Nat) : Value := .slice (some ⟨x.1, 0, Option.none⟩) n1 x.2.1
def flatG (lev : List (Nat × Nat × List Nat)) : List Nat := lev.flatMap fun x => x.2.2
structure Levs (w : World) (T n1 : Nat) (lev : List (Nat × Nat × List Nat)) : Prop where
  ok : ∀ x ∈ lev, LevOk w n1 x
  nodup : (flatG lev).Nodup
  range : ∀ g ∈ flatG lev, T < g ∧ g < w.heap.size
theorem Levs.nil (w : World) (T n1 : Nat) : Levs w T n1 [] := ⟨by simp, by simp [flatG], by simp [flatG]⟩
theorem flatG_snoc (lev : List (Nat × Nat × List Nat)) (x : Nat × Nat × List Nat) : flatG (lev ++ [x]) = flatG lev ++ x.2.2 := by simp [flatG]
theorem Levs.frs {ts : List TypeId} {w w' : World} {T n1 : Nat} {lev : List (Nat × Nat × List Nat)} (h : Levs w T n1 lev) (hf : Frs ts w w') (h1 : 3 ∉ ts) (h2 : 35 ∉ ts) : Levs w' T n1 lev :=
  ⟨fun x hx => (h.ok x hx).frs hf h1 h2, h.nodup, fun g hg => ⟨(h.range g hg).1, by have := (h.range g hg).2; have := hf.size; omega⟩⟩
theorem Levs.snoc {w w' : World} {T n1 : Nat} {lev : List (Nat × Nat × List Nat)} {x : Nat × Nat × List Nat} (h : Levs w T n1 lev) (hT : T < w.heap.size) (hb : Below w.heap.size w w') (hx : LevOk w' n1 x) (hn : x.2.2.Nodup) (hr : ∀ g ∈ x.2.2, w.heap.size ≤ g) : Levs w' T n1 (lev ++ [x]) := by
  refine ⟨fun y hy => ?_, ?_, fun g hg => ?_⟩
  · rcases List.mem_append.1 hy with h1 | h1
    · exact (h.ok y h1).below hb (Nat.le_refl _)
    · rw [List.mem_singleton] at h1; rw [h1]; exact hx
  · rw [flatG_snoc, List.nodup_append]
    refine ⟨h.nodup, hn, fun a ha b hbb e => ?_⟩
    have h1 := (h.range a ha).2
    have h2 := hr b hbb
    omega
  · rw [flatG_snoc, List.mem_append] at hg
    rcases hg with h1 | h1
    · have := h.range g h1
      have := hb.size
      omega
    · have := hr g h1
      have := (hx.zero g h1).lt
      omega
theorem Blk.heap_ne {w : World} {g h : Nat} {t t' : TypeId} {cs : List Value} {cur : Array Value} {fz : Nat × Nat} (hb : Blk w g t cs) (hh : w.heap[h]? = some (.cells cur t' fz)) (ht : t ≠ t') : g ≠ h := by
  rintro rfl
  unfold Blk at hb
  rw [hb] at hh
  cases hh
  exact ht rfl
end Go.Proofs.Ytjnkdjokbamibaa
