/- Contracts of the costs and the Kraft sums of lengths, of the program and of the reference. -/
import Derived.Test.YtabiobjcfopakaaB3
namespace Go.Proofs.Ytabiobjcfopakaa
open Go.RowKit
def weightsB (xs : List Int) : Bool := inB xs.length 1 20 && allB xs 0 10000
def lengthsB (xs : List Int) : Bool := inB xs.length 1 20 && allB xs 1 6
theorem weightsB_iff {xs : List Int} : weightsB xs = true ↔ (1 ≤ xs.length ∧ xs.length ≤ 20) ∧ allB xs 0 10000 = true := by
  unfold weightsB; rw [Bool.and_eq_true, inB_iff]
  constructor
  · rintro ⟨⟨h1, h2⟩, h3⟩; exact ⟨⟨by omega, by omega⟩, h3⟩
  · rintro ⟨⟨h1, h2⟩, h3⟩; exact ⟨⟨by omega, by omega⟩, h3⟩
theorem lengthsB_iff {xs : List Int} : lengthsB xs = true ↔ (1 ≤ xs.length ∧ xs.length ≤ 20) ∧ allB xs 1 6 = true := by
  unfold lengthsB; rw [Bool.and_eq_true, inB_iff]
  constructor
  · rintro ⟨⟨h1, h2⟩, h3⟩; exact ⟨⟨by omega, by omega⟩, h3⟩
  · rintro ⟨⟨h1, h2⟩, h3⟩; exact ⟨⟨by omega, by omega⟩, h3⟩
theorem areWeights_any (xs : List Int) (v : Value) (hi : Nat) (w : World) (h : RdI w hi v xs) : Calls Try.prog 189 #[v] w fun e w' => e = .returned (.bool (weightsB xs)) ∧ w = w' := by
  obtain ⟨A, c, hv, hc, hm⟩ := Rd.form h
  have H := Lib.hid h
  clear h
  unfold weightsB
  cases hl : inB xs.length 1 20
  · rw [Bool.false_and]
    subst hv
    go_enter Try.func189, Try.ntmps189
    go_wp2_with (first | (go_at_call 125; refine (within_any _ _ _ _).mono ?_; rintro e w' ⟨rfl, rfl⟩) | (go_at_call 181; refine (allWithin_any xs _ _ _ hi _ H.out).mono ?_; rintro e w' ⟨rfl, rfl⟩))
    go_ret
    exact ⟨rfl, rfl⟩
  · rw [Bool.true_and]
    subst hv
    go_enter Try.func189, Try.ntmps189
    go_wp2_with (first | (go_at_call 125; refine (within_any _ _ _ _).mono ?_; rintro e w' ⟨rfl, rfl⟩) | (go_at_call 181; refine (allWithin_any xs _ _ _ hi _ H.out).mono ?_; rintro e w' ⟨rfl, rfl⟩))
    go_ret
    exact ⟨rfl, rfl⟩
theorem cmWeights_any (xs : List Int) (v : Value) (hi : Nat) (w : World) (h : RdI w hi v xs) : Calls Try.prog 190 #[v] w fun e w' => e = .returned (.bool (weightsB xs)) ∧ w = w' := by
  obtain ⟨A, c, hv, hc, hm⟩ := Rd.form h
  have H := Lib.hid h
  clear h
  unfold weightsB
  cases hl : inB xs.length 1 20
  · rw [Bool.false_and]
    subst hv
    go_enter Try.func190, Try.ntmps190
    go_wp2_with (first | (go_at_call 191; refine (l1In_any _ _ _ _).mono ?_; rintro e w' ⟨rfl, rfl⟩) | (go_at_call 184; refine (l1All_any xs _ _ _ hi _ H.out).mono ?_; rintro e w' ⟨rfl, rfl⟩))
    go_ret
    exact ⟨rfl, rfl⟩
  · rw [Bool.true_and]
    subst hv
    go_enter Try.func190, Try.ntmps190
    go_wp2_with (first | (go_at_call 191; refine (l1In_any _ _ _ _).mono ?_; rintro e w' ⟨rfl, rfl⟩) | (go_at_call 184; refine (l1All_any xs _ _ _ hi _ H.out).mono ?_; rintro e w' ⟨rfl, rfl⟩))
    go_ret
    exact ⟨rfl, rfl⟩
theorem areLengths_any (xs : List Int) (v : Value) (hi : Nat) (w : World) (h : RdI w hi v xs) : Calls Try.prog 156 #[v] w fun e w' => e = .returned (.bool (lengthsB xs)) ∧ w = w' := by
  obtain ⟨A, c, hv, hc, hm⟩ := Rd.form h
  have H := Lib.hid h
  clear h
  unfold lengthsB
  cases hl : inB xs.length 1 20
  · rw [Bool.false_and]
    subst hv
    go_enter Try.func156, Try.ntmps156
    go_wp2_with (first | (go_at_call 125; refine (within_any _ _ _ _).mono ?_; rintro e w' ⟨rfl, rfl⟩) | (go_at_call 181; refine (allWithin_any xs _ _ _ hi _ H.out).mono ?_; rintro e w' ⟨rfl, rfl⟩))
    go_ret
    exact ⟨rfl, rfl⟩
  · rw [Bool.true_and]
    subst hv
    go_enter Try.func156, Try.ntmps156
    go_wp2_with (first | (go_at_call 125; refine (within_any _ _ _ _).mono ?_; rintro e w' ⟨rfl, rfl⟩) | (go_at_call 181; refine (allWithin_any xs _ _ _ hi _ H.out).mono ?_; rintro e w' ⟨rfl, rfl⟩))
    go_ret
    exact ⟨rfl, rfl⟩
theorem cmGood_any (xs : List Int) (v : Value) (hi : Nat) (w : World) (h : RdI w hi v xs) : Calls Try.prog 151 #[v] w fun e w' => e = .returned (.bool (lengthsB xs)) ∧ w = w' := by
  obtain ⟨A, c, hv, hc, hm⟩ := Rd.form h
  have H := Lib.hid h
  clear h
  unfold lengthsB
  cases hl : inB xs.length 1 20
  · rw [Bool.false_and]
    subst hv
    go_enter Try.func151, Try.ntmps151
    go_wp2_with (first | (go_at_call 191; refine (l1In_any _ _ _ _).mono ?_; rintro e w' ⟨rfl, rfl⟩) | (go_at_call 184; refine (l1All_any xs _ _ _ hi _ H.out).mono ?_; rintro e w' ⟨rfl, rfl⟩))
    go_ret
    exact ⟨rfl, rfl⟩
  · rw [Bool.true_and]
    subst hv
    go_enter Try.func151, Try.ntmps151
    go_wp2_with (first | (go_at_call 191; refine (l1In_any _ _ _ _).mono ?_; rintro e w' ⟨rfl, rfl⟩) | (go_at_call 184; refine (l1All_any xs _ _ _ hi _ H.out).mono ?_; rintro e w' ⟨rfl, rfl⟩))
    go_ret
    exact ⟨rfl, rfl⟩
/-- The sum of the products. -/
def dotI : List Int → List Int → Int
  | x :: r, y :: s => x * y + dotI r s
  | _, _ => 0
theorem dotI_snoc (l m : List Int) (x y : Int) (h : l.length = m.length) : dotI (l ++ [x]) (m ++ [y]) = dotI l m + x * y := by
  induction l generalizing m with
  | nil => cases m with
    | nil => simp [dotI]
    | cons a r => simp at h
  | cons a r ih =>
    cases m with
    | nil => simp at h
    | cons b s =>
      simp only [List.cons_append, dotI, ih s (by simpa using h)]
      omega
theorem dot_step {xs ys : List Int} {k : Nat} {x y : Int} (hx : xs[k]? = some x) (hy : ys[k]? = some y) : dotI (xs.take (k + 1)) (ys.take (k + 1)) = dotI (xs.take k) (ys.take k) + x * y := by
  have h1 := (List.getElem?_eq_some_iff.1 hx).1
  have h2 := (List.getElem?_eq_some_iff.1 hy).1
  rw [take_snocI hx, take_snocI hy, dotI_snoc _ _ _ _ (by simp; omega)]
theorem prod_bd {x y : Int} (hx : 0 ≤ x ∧ x ≤ 10000) (hy : 1 ≤ y ∧ y ≤ 6) : 0 ≤ x * y ∧ x * y ≤ 60000 := by
  refine ⟨Int.mul_nonneg (by omega) (by omega), ?_⟩
  have : x * y ≤ 10000 * 6 := Int.mul_le_mul (by omega) (by omega) (by omega) (by omega)
  omega
def costT (ws ls : List Int) : Value := if weightsB ws && lengthsB ls && decide (ws.length = ls.length) then .tuple #[.int .i64 (dotI ws ls), .bool true] else .tuple #[.int .i64 0, .bool false]
theorem costT_yes {ws ls : List Int} (h1 : weightsB ws = true) (h2 : lengthsB ls = true) (h3 : ws.length = ls.length) : costT ws ls = .tuple #[.int .i64 (dotI ws ls), .bool true] := by
  unfold costT; rw [h1, h2, if_pos (by rw [decide_eq_true h3]; rfl)]
theorem costT_no {ws ls : List Int} (h3 : ¬ ws.length = ls.length) : costT ws ls = .tuple #[.int .i64 0, .bool false] := by
  unfold costT; rw [if_neg (by rw [decide_eq_false h3]; simp)]
set_option maxHeartbeats 400000 in
theorem costOf_any (ws ls : List Int) (v u : Value) (hi hj : Nat) (w : World) (hw : RdI w hi v ws) (hl : RdI w hj u ls) (hww : weightsB ws = true) (hll : lengthsB ls = true) (hle : ws.length = ls.length) :
    Calls Try.prog 167 #[v, u] w fun e w' => e = .returned (.int .i64 (dotI ws ls)) ∧ w = w' := by
  obtain ⟨⟨g1, g2⟩, g3⟩ := weightsB_iff.1 hww
  obtain ⟨_, g4⟩ := lengthsB_iff.1 hll
  obtain ⟨A, c, rfl, hc, hm⟩ := Rd.form hw
  obtain ⟨A', c', rfl, hc', hm'⟩ := Rd.form hl
  have HW := Lib.hid hw
  have HL := Lib.hid hl
  have HE := Lib.hid hle
  have G3 := Lib.hid g3
  have G4 := Lib.hid g4
  rw [← hle]
  rw [← hle] at hc' hm'
  clear hw hl hle g3 g4 hww hll
  go_enter Try.func167, Try.ntmps167
  go_wp2
  go_loop [5, 10] (fun s i => ∃ (k : Nat) (p : Int), k ≤ ws.length ∧ i = .int .i64 k ∧ Hid (p = dotI (ws.take k) (ls.take k)) ∧ s = .int .i64 p ∧ 0 ≤ p ∧ p ≤ 60000 * k) (fun _ i => ws.length - (intOf i).toNat)
  case atStart => exact ⟨0, 0, Nat.zero_le _, rfl, rfl, rfl, by omega, by omega⟩
  case round =>
    obtain ⟨k, p, hk, rfl, hp, rfl, hp0, hp1⟩ := hrel
    by_cases hlt : k < ws.length
    · obtain ⟨b1, o1, c1, w0, hv, _, hw0, hcell1⟩ := Rd.at_ HW.out hlt
      cases hv
      obtain ⟨b2, o2, c2, l0, hv, _, hl0, hcell2⟩ := Rd.at_ HL.out (by rw [← HE.out]; exact hlt)
      injection hv with hv1 hv2 hv3
      subst hv1
      have hpb := prod_bd (allB_mem hw0 G3.out) (allB_mem hl0 G4.out)
      have hst := dot_step hw0 hl0
      rw [← hp.out] at hst
      have HS := Lib.hid hst
      have hwr : wrap64 (w0 * l0) = w0 * l0 := by rw [wrap_id (by omega) (by omega)]
      have hcm : True := trivial
      clear hst hw0 hl0 hv2 hv3
      go_wp2
      go_round
      case rel => exact ⟨k + 1, p + w0 * l0, by omega, by go_num, HS.out.symm, rfl, by omega, by omega⟩
      case measure => simp [intOf]; omega
    · obtain rfl : k = ws.length := by omega
      go_wp2
      go_ret
      refine ⟨ret_int ?_, rfl⟩
      rw [hp.out, List.take_of_length_le (Nat.le_refl _), HE.out, List.take_of_length_le (Nat.le_refl _)]
set_option maxHeartbeats 400000 in
theorem cmCost_any (ws ls : List Int) (v u : Value) (hi hj : Nat) (w : World) (hw : RdI w hi v ws) (hl : RdI w hj u ls) (hww : weightsB ws = true) (hll : lengthsB ls = true) (hle : ws.length = ls.length) :
    Calls Try.prog 166 #[v, u] w fun e w' => e = .returned (.int .i64 (dotI ws ls)) ∧ w = w' := by
  obtain ⟨⟨g1, g2⟩, g3⟩ := weightsB_iff.1 hww
  obtain ⟨_, g4⟩ := lengthsB_iff.1 hll
  obtain ⟨A, c, rfl, hc, hm⟩ := Rd.form hw
  obtain ⟨A', c', rfl, hc', hm'⟩ := Rd.form hl
  have HW := Lib.hid hw
  have HL := Lib.hid hl
  have HE := Lib.hid hle
  have G3 := Lib.hid g3
  have G4 := Lib.hid g4
  rw [← hle]
  rw [← hle] at hc' hm'
  clear hw hl hle g3 g4 hww hll
  go_enter Try.func166, Try.ntmps166
  go_wp2
  go_loop [5, 10] (fun s i => ∃ (k : Nat) (p : Int), k ≤ ws.length ∧ i = .int .i64 k ∧ Hid (p = dotI (ws.take k) (ls.take k)) ∧ s = .int .i64 p ∧ 0 ≤ p ∧ p ≤ 60000 * k) (fun _ i => ws.length - (intOf i).toNat)
  case atStart => exact ⟨0, 0, Nat.zero_le _, rfl, rfl, rfl, by omega, by omega⟩
  case round =>
    obtain ⟨k, p, hk, rfl, hp, rfl, hp0, hp1⟩ := hrel
    by_cases hlt : k < ws.length
    · obtain ⟨b1, o1, c1, w0, hv, _, hw0, hcell1⟩ := Rd.at_ HW.out hlt
      cases hv
      obtain ⟨b2, o2, c2, l0, hv, _, hl0, hcell2⟩ := Rd.at_ HL.out (by rw [← HE.out]; exact hlt)
      injection hv with hv1 hv2 hv3
      subst hv1
      have hpb := prod_bd (allB_mem hw0 G3.out) (allB_mem hl0 G4.out)
      have hst := dot_step hw0 hl0
      rw [← hp.out] at hst
      have HS := Lib.hid hst
      have hwr : wrap64 (l0 * w0) = w0 * l0 := by rw [Int.mul_comm l0 w0, wrap_id (by omega) (by omega)]
      have hcm : l0 * w0 = w0 * l0 := Int.mul_comm l0 w0
      clear hst hw0 hl0 hv2 hv3
      go_wp2
      go_round
      case rel => exact ⟨k + 1, p + w0 * l0, by omega, by go_num, HS.out.symm, rfl, by omega, by omega⟩
      case measure => simp [intOf]; omega
    · obtain rfl : k = ws.length := by omega
      go_wp2
      go_ret
      refine ⟨ret_int ?_, rfl⟩
      rw [hp.out, List.take_of_length_le (Nat.le_refl _), HE.out, List.take_of_length_le (Nat.le_refl _)]
theorem CostOf_any (ws ls : List Int) (v u : Value) (hi hj : Nat) (w : World) (hw : RdI w hi v ws) (hl : RdI w hj u ls) : Calls Try.prog 84 #[v, u] w fun e w' => e = .returned (costT ws ls) ∧ w = w' := by
  obtain ⟨A, c, hv, hc, hm⟩ := Rd.form hw
  obtain ⟨A', c', hu, hc', hm'⟩ := Rd.form hl
  have HW := Lib.hid hw
  have HL := Lib.hid hl
  clear hw hl
  subst hv hu
  cases hww : weightsB ws
  · go_enter Try.func84, Try.ntmps84
    go_wp2_with (first | (go_at_call 189; refine (areWeights_any ws _ hi _ HW.out).mono ?_; rintro e w' ⟨rfl, rfl⟩) | (go_at_call 156; refine (areLengths_any ls _ hj _ HL.out).mono ?_; rintro e w' ⟨rfl, rfl⟩))
    go_ret2
    exact ⟨ret_val (by simp [costT, hww]), rfl⟩
  · cases hll : lengthsB ls
    · go_enter Try.func84, Try.ntmps84
      go_wp2_with (first | (go_at_call 189; refine (areWeights_any ws _ hi _ HW.out).mono ?_; rintro e w' ⟨rfl, rfl⟩) | (go_at_call 156; refine (areLengths_any ls _ hj _ HL.out).mono ?_; rintro e w' ⟨rfl, rfl⟩))
      go_ret2
      exact ⟨ret_val (by simp [costT, hll]), rfl⟩
    · by_cases hle : ws.length = ls.length
      · have HE := Lib.hid hle
        have h1 : (((ws.length : Nat) : Int) != ((ls.length : Nat) : Int)) = false := by rw [hle]; simp
        have h2 : (((ls.length : Nat) : Int) != ((ws.length : Nat) : Int)) = false := by rw [hle]; simp
        clear hle
        go_enter Try.func84, Try.ntmps84
        go_wp2_with (first | (go_at_call 189; refine (areWeights_any ws _ hi _ HW.out).mono ?_; rintro e w' ⟨rfl, rfl⟩) | (go_at_call 156; refine (areLengths_any ls _ hj _ HL.out).mono ?_; rintro e w' ⟨rfl, rfl⟩) | (go_at_call 167; refine (costOf_any ws ls _ _ hi hj _ HW.out HL.out hww hll HE.out).mono ?_; rintro e w' ⟨rfl, rfl⟩))
        go_ret2
        exact ⟨ret_val (costT_yes hww hll HE.out).symm, rfl⟩
      · have h1 : (((ws.length : Nat) : Int) != ((ls.length : Nat) : Int)) = true := by rw [bne_iff_ne]; omega
        have h2 : (((ls.length : Nat) : Int) != ((ws.length : Nat) : Int)) = true := by rw [bne_iff_ne]; omega
        go_enter Try.func84, Try.ntmps84
        go_wp2_with (first | (go_at_call 189; refine (areWeights_any ws _ hi _ HW.out).mono ?_; rintro e w' ⟨rfl, rfl⟩) | (go_at_call 156; refine (areLengths_any ls _ hj _ HL.out).mono ?_; rintro e w' ⟨rfl, rfl⟩))
        go_ret2
        exact ⟨ret_val (costT_no hle).symm, rfl⟩
theorem sCostOf_any (ws ls : List Int) (v u : Value) (hi hj : Nat) (w : World) (hw : RdI w hi v ws) (hl : RdI w hj u ls) : Calls Try.prog 85 #[v, u] w fun e w' => e = .returned (costT ws ls) ∧ w = w' := by
  obtain ⟨A, c, hv, hc, hm⟩ := Rd.form hw
  obtain ⟨A', c', hu, hc', hm'⟩ := Rd.form hl
  have HW := Lib.hid hw
  have HL := Lib.hid hl
  clear hw hl
  subst hv hu
  cases hww : weightsB ws
  · go_enter Try.func85, Try.ntmps85
    go_wp2_with (first | (go_at_call 190; refine (cmWeights_any ws _ hi _ HW.out).mono ?_; rintro e w' ⟨rfl, rfl⟩) | (go_at_call 151; refine (cmGood_any ls _ hj _ HL.out).mono ?_; rintro e w' ⟨rfl, rfl⟩))
    go_ret2
    exact ⟨ret_val (by simp [costT, hww]), rfl⟩
  · cases hll : lengthsB ls
    · go_enter Try.func85, Try.ntmps85
      go_wp2_with (first | (go_at_call 190; refine (cmWeights_any ws _ hi _ HW.out).mono ?_; rintro e w' ⟨rfl, rfl⟩) | (go_at_call 151; refine (cmGood_any ls _ hj _ HL.out).mono ?_; rintro e w' ⟨rfl, rfl⟩))
      go_ret2
      exact ⟨ret_val (by simp [costT, hll]), rfl⟩
    · by_cases hle : ws.length = ls.length
      · have HE := Lib.hid hle
        have h1 : (((ws.length : Nat) : Int) != ((ls.length : Nat) : Int)) = false := by rw [hle]; simp
        have h2 : (((ls.length : Nat) : Int) != ((ws.length : Nat) : Int)) = false := by rw [hle]; simp
        clear hle
        go_enter Try.func85, Try.ntmps85
        go_wp2_with (first | (go_at_call 190; refine (cmWeights_any ws _ hi _ HW.out).mono ?_; rintro e w' ⟨rfl, rfl⟩) | (go_at_call 151; refine (cmGood_any ls _ hj _ HL.out).mono ?_; rintro e w' ⟨rfl, rfl⟩) | (go_at_call 166; refine (cmCost_any ws ls _ _ hi hj _ HW.out HL.out hww hll HE.out).mono ?_; rintro e w' ⟨rfl, rfl⟩))
        go_ret2
        exact ⟨ret_val (costT_yes hww hll HE.out).symm, rfl⟩
      · have h1 : (((ws.length : Nat) : Int) != ((ls.length : Nat) : Int)) = true := by rw [bne_iff_ne]; omega
        have h2 : (((ls.length : Nat) : Int) != ((ws.length : Nat) : Int)) = true := by rw [bne_iff_ne]; omega
        go_enter Try.func85, Try.ntmps85
        go_wp2_with (first | (go_at_call 190; refine (cmWeights_any ws _ hi _ HW.out).mono ?_; rintro e w' ⟨rfl, rfl⟩) | (go_at_call 151; refine (cmGood_any ls _ hj _ HL.out).mono ?_; rintro e w' ⟨rfl, rfl⟩))
        go_ret2
        exact ⟨ret_val (costT_no hle).symm, rfl⟩
/-- The greatest of the lengths, or 0. -/
def mostI (ls : List Int) : Int := ls.foldl max 0
theorem mostI_step {ls : List Int} {k : Nat} {y : Int} (h : ls[k]? = some y) : mostI (ls.take (k + 1)) = max (mostI (ls.take k)) y := by
  unfold mostI; rw [take_snocI h, List.foldl_append]; rfl
theorem mostI_bd (ls : List Int) (h : allB ls 1 6 = true) (k : Nat) : 0 ≤ mostI (ls.take k) ∧ mostI (ls.take k) ≤ 6 := by
  induction k with
  | zero => simp [mostI]
  | succ k ih =>
    cases hy : ls[k]? with
    | none =>
      have h1 : ls.take (k + 1) = ls.take k := by rw [List.take_add_one, hy]; simp
      rw [h1]; exact ih
    | some y =>
      rw [mostI_step hy]
      have := allB_mem hy h
      omega
theorem mostI_mem (ls : List Int) (m : Int) : m ≤ ls.foldl max m ∧ ∀ y ∈ ls, y ≤ ls.foldl max m := by
  induction ls generalizing m with
  | nil => simp
  | cons x r ih =>
    have h := ih (max m x)
    simp only [List.foldl_cons, List.mem_cons]
    refine ⟨by omega, fun y hy => ?_⟩
    rcases hy with rfl | hy
    · omega
    · exact h.2 y hy
def kraftN (r m : Nat) (ls : List Int) : Nat := (ls.map fun l => r ^ (m - l.toNat)).sum
theorem kraftN_step {r m : Nat} {ls : List Int} {k : Nat} {y : Int} (h : ls[k]? = some y) : kraftN r m (ls.take (k + 1)) = kraftN r m (ls.take k) + r ^ (m - y.toNat) := by
  unfold kraftN; rw [take_snocI h, List.map_append, List.sum_append]; simp
theorem kraftN_bd {r m : Nat} (hr : r ≤ 60) (hm : m ≤ 6) (ls : List Int) : kraftN r m ls ≤ 46656000000 * ls.length := by
  induction ls with
  | nil => simp [kraftN]
  | cons x l ih =>
    have := pow_le hr (show m - x.toNat ≤ 6 by omega)
    unfold kraftN at *
    simp only [List.map_cons, List.sum_cons, List.length_cons]
    omega
theorem slicesMax_any (ls : List Int) (v : Value) (hi : Nat) (w : World) (h : RdI w hi v ls) (hb : allB ls 1 6 = true) (hpos : 0 < ls.length) : Calls Try.prog 227 #[v] w fun e w' => e = .returned (.int .i64 (mostI ls)) ∧ w = w' := by
  obtain ⟨b, off, c0, y0, hv, _, hy0, hcell0⟩ := Rd.at_ h hpos
  obtain ⟨A, c, hv2, hc, hm⟩ := Rd.form h
  subst hv
  have H := Lib.hid h
  have HB := Lib.hid hb
  have HY0 := Lib.hid hy0
  have hy0b := allB_mem hy0 hb
  have hpos1 : ¬ ((ls.length : Nat) : Int) < 1 := by omega
  have hcell00 : w.cell? ⟨b, off, Option.none⟩ = some (.int .i64 y0) := hcell0
  clear h hb hv2 hy0 hcell0
  go_enter Try.func227, Try.ntmps227
  go_wp2
  go_loop [3, 4] (fun s i => ∃ (k : Nat) (p : Int), 1 ≤ k ∧ k ≤ ls.length ∧ i = .int .i64 k ∧ Hid (p = mostI (ls.take k)) ∧ s = .int .i64 p) (fun _ i => ls.length - (intOf i).toNat)
  case atStart => exact ⟨1, y0, by omega, by omega, rfl, by rw [mostI_step HY0.out]; show y0 = max _ _; simp only [List.take_zero, mostI, List.foldl_nil]; omega, rfl⟩
  case round =>
    obtain ⟨k, p, hk1, hk, rfl, hp, rfl⟩ := hrel
    by_cases hlt : k < ls.length
    · obtain ⟨b1, o1, c1, y, hv, _, hy, hcell1⟩ := Rd.at_ H.out hlt
      cases hv
      have hst := mostI_step hy
      rw [← hp.out] at hst
      have HS := Lib.hid hst
      clear hst hy
      go_wp2
      go_round
      case rel => exact ⟨k + 1, max p y, by omega, by omega, by go_num, HS.out.symm, rfl⟩
      case measure => simp [intOf]; omega
    · obtain rfl : k = ls.length := by omega
      go_wp2
      go_ret
      refine ⟨ret_int ?_, rfl⟩
      rw [hp.out, List.take_of_length_le (Nat.le_refl _)]
theorem l1Most_any (a b : Int) (w : World) : Calls Try.prog 183 #[.int .i64 a, .int .i64 b] w fun e w' => e = .returned (.int .i64 (max a b)) ∧ w = w' := by
  by_cases h : b < a
  · have e : max a b = a := by omega
    rw [e]; clear e
    go_enter Try.func183, Try.ntmps183
    go_wp2
    go_ret
    exact ⟨rfl, rfl⟩
  · have e : max a b = b := by omega
    rw [e]; clear e
    go_enter Try.func183, Try.ntmps183
    go_wp2
    go_ret
    exact ⟨rfl, rfl⟩
set_option maxHeartbeats 400000 in
theorem kraftSum_any (ls : List Int) (r : Nat) (v : Value) (hi : Nat) (w : World) (h : RdI w hi v ls) (hll : lengthsB ls = true) (hr2 : r ≤ 60) :
    Calls Try.prog 158 #[v, .int .i64 (r : Int)] w fun e w' => e = .returned (.tuple #[.int .i64 ((kraftN r (mostI ls).toNat ls : Nat) : Int), .int .i64 ((r ^ (mostI ls).toNat : Nat) : Int)]) ∧ w = w' := by
  obtain ⟨⟨g1, g2⟩, hb⟩ := lengthsB_iff.1 hll
  obtain ⟨A, c, rfl, hc, hm⟩ := Rd.form h
  have H := Lib.hid h
  have HB := Lib.hid hb
  have hmb := mostI_bd ls hb ls.length
  rw [List.take_of_length_le (Nat.le_refl _)] at hmb
  obtain ⟨m, hmm⟩ := Int.eq_ofNat_of_zero_le hmb.1
  have HM : Hid (mostI ls = (m : Int)) := hmm
  have HM2 : Hid ((mostI ls).toNat = m) := by show _ = _; rw [hmm]; rfl
  have hm6 : m ≤ 6 := by omega
  clear h hb hll hmm hmb
  go_enter Try.func158, Try.ntmps158
  go_wp2_with fail
  refine (slicesMax_any ls _ hi _ H.out HB.out (by omega)).mono ?_
  rintro e w' ⟨rfl, rfl⟩
  rw [HM.out]
  go_wp2
  go_loop [7, 14] (fun s i => ∃ (k p : Nat), k ≤ ls.length ∧ i = .int .i64 k ∧ Hid (p = kraftN r m (ls.take k)) ∧ s = .int .i64 (p : Int) ∧ p ≤ 46656000000 * k) (fun _ i => ls.length - (intOf i).toNat)
  case atStart => exact ⟨0, 0, Nat.zero_le _, rfl, rfl, rfl, by omega⟩
  case round =>
    obtain ⟨k, p, hk, rfl, hp, rfl, hp1⟩ := hrel
    by_cases hlt : k < ls.length
    · obtain ⟨b1, o1, c1, y, hv, _, hy, hcell1⟩ := Rd.at_ H.out hlt
      cases hv
      have hyb := allB_mem hy HB.out
      have hym := (mostI_mem ls 0).2 y (List.mem_of_getElem? hy)
      have hst := kraftN_step (r := r) (m := m) hy
      rw [← hp.out] at hst
      have HS := Lib.hid hst
      obtain ⟨y, rfl⟩ := Int.eq_ofNat_of_zero_le (show 0 ≤ y by omega)
      have hym' : y ≤ m := by have := HM.out; unfold mostI at this; omega
      have hpw := pow_le hr2 (show m - y ≤ 6 by omega)
      have hpi : (r : Int) ^ (m - y) ≤ 46656000000 := by rw [← Int.natCast_pow]; omega
      have hpz : 0 ≤ (r : Int) ^ (m - y) := Int.pow_nonneg (by omega)
      have hpx : ((m : Int) - (y : Int)) = ((m - y : Nat) : Int) := by omega
      have HPX := Lib.hid hpx
      clear hst hy hym hpx
      go_wp2_with fail
      rw [HPX.out]
      refine (powerOf_any r (m - y) hr2 (by omega) _).mono ?_
      rintro e w' ⟨rfl, rfl⟩
      go_wp2
      go_round
      case rel => exact ⟨k + 1, p + r ^ (m - y), by omega, by go_num, HS.out.symm, by simp, by omega⟩
      case measure => simp [intOf]; omega
    · obtain rfl : k = ls.length := by omega
      have hpm := pow_le hr2 hm6
      go_wp2_with (go_at_call 162; refine (powerOf_any r m hr2 hm6 _).mono ?_; rintro e w' ⟨rfl, rfl⟩)
      go_ret2
      have e1 := hp.out
      rw [List.take_of_length_le (Nat.le_refl _)] at e1
      exact ⟨ret_val (by rw [HM2.out, ← e1]; simp), rfl⟩
set_option maxHeartbeats 400000 in
theorem cmKraft_any (ls : List Int) (r : Nat) (v : Value) (hi : Nat) (w : World) (h : RdI w hi v ls) (hll : lengthsB ls = true) (hr2 : r ≤ 60) :
    Calls Try.prog 202 #[v, .int .i64 (r : Int)] w fun e w' => e = .returned (.tuple #[.int .i64 ((kraftN r (mostI ls).toNat ls : Nat) : Int), .int .i64 ((r ^ (mostI ls).toNat : Nat) : Int)]) ∧ w = w' := by
  obtain ⟨⟨g1, g2⟩, hb⟩ := lengthsB_iff.1 hll
  obtain ⟨A, c, rfl, hc, hm⟩ := Rd.form h
  have H := Lib.hid h
  have HB := Lib.hid hb
  have hmb := mostI_bd ls hb ls.length
  rw [List.take_of_length_le (Nat.le_refl _)] at hmb
  obtain ⟨m, hmm⟩ := Int.eq_ofNat_of_zero_le hmb.1
  have HM : Hid (mostI ls = (m : Int)) := hmm
  have HM2 : Hid ((mostI ls).toNat = m) := by show _ = _; rw [hmm]; rfl
  have hm6 : m ≤ 6 := by omega
  clear h hb hll hmm hmb
  go_enter Try.func202, Try.ntmps202
  go_wp2
  go_loop [6, 14] (fun s i => ∃ (k : Nat) (p : Int), k ≤ ls.length ∧ i = .int .i64 k ∧ Hid (p = mostI (ls.take k)) ∧ s = .int .i64 p) (fun _ i => ls.length - (intOf i).toNat)
  case atStart => exact ⟨0, 0, by omega, rfl, rfl, rfl⟩
  case round =>
    obtain ⟨k, p, hk, rfl, hp, rfl⟩ := hrel
    by_cases hlt : k < ls.length
    · obtain ⟨b1, o1, c1, y, hv, _, hy, hcell1⟩ := Rd.at_ H.out hlt
      cases hv
      have hst := mostI_step hy
      rw [← hp.out] at hst
      have HS := Lib.hid hst
      clear hst hy
      go_wp2_with (go_at_call 183; refine (l1Most_any p y _).mono ?_; rintro e w' ⟨rfl, rfl⟩)
      go_round
      case rel => exact ⟨k + 1, max p y, by omega, by go_num, HS.out.symm, rfl⟩
      case measure => simp [intOf]; omega
    · obtain rfl : k = ls.length := by omega
      have hpm : p = (m : Int) := by rw [hp.out, List.take_of_length_le (Nat.le_refl _), HM.out]
      subst hpm
      go_wp2
      go_loop [9, 24] (fun s i => ∃ (k p : Nat), k ≤ ls.length ∧ i = .int .i64 k ∧ Hid (p = kraftN r m (ls.take k)) ∧ s = .int .i64 (p : Int) ∧ p ≤ 46656000000 * k) (fun _ i => ls.length - (intOf i).toNat)
      case atStart => exact ⟨0, 0, Nat.zero_le _, rfl, rfl, rfl, by omega⟩
      case round =>
        obtain ⟨k, p, hk, rfl, hp, rfl, hp1⟩ := hrel
        by_cases hlt : k < ls.length
        · obtain ⟨b1, o1, c1, y, hv, _, hy, hcell1⟩ := Rd.at_ H.out hlt
          cases hv
          have hyb := allB_mem hy HB.out
          have hym := (mostI_mem ls 0).2 y (List.mem_of_getElem? hy)
          have hst := kraftN_step (r := r) (m := m) hy
          rw [← hp.out] at hst
          have HS := Lib.hid hst
          obtain ⟨y, rfl⟩ := Int.eq_ofNat_of_zero_le (show 0 ≤ y by omega)
          have hym' : y ≤ m := by have := HM.out; unfold mostI at this; omega
          have hpw := pow_le hr2 (show m - y ≤ 6 by omega)
          have hpi : (r : Int) ^ (m - y) ≤ 46656000000 := by rw [← Int.natCast_pow]; omega
          have hpz : 0 ≤ (r : Int) ^ (m - y) := Int.pow_nonneg (by omega)
          have hpx : ((m : Int) - (y : Int)) = ((m - y : Nat) : Int) := by omega
          have HPX := Lib.hid hpx
          clear hst hy hym hpx
          go_wp2_with fail
          rw [HPX.out]
          refine (cmPower_any r (m - y) hr2 (by omega) _).mono ?_
          rintro e w' ⟨rfl, rfl⟩
          go_wp2
          go_round
          case rel => exact ⟨k + 1, p + r ^ (m - y), by omega, by go_num, HS.out.symm, by simp, by omega⟩
          case measure => simp [intOf]; omega
        · obtain rfl : k = ls.length := by omega
          have hpm := pow_le hr2 hm6
          go_wp2_with (go_at_call 154; refine (cmPower_any r m hr2 hm6 _).mono ?_; rintro e w' ⟨rfl, rfl⟩)
          go_ret2
          have e1 := hp.out
          rw [List.take_of_length_le (Nat.le_refl _)] at e1
          exact ⟨ret_val (by rw [HM2.out, ← e1]; simp), rfl⟩
def kraftT (ls : List Int) (r : Int) : Value := if lengthsB ls && inB r 2 60 then .tuple #[.int .i64 ((kraftN r.toNat (mostI ls).toNat ls : Nat) : Int), .int .i64 ((r.toNat ^ (mostI ls).toNat : Nat) : Int), .bool true] else .tuple #[.int .i64 0, .int .i64 0, .bool false]
def hasT (ls : List Int) (r : Int) : Value := if lengthsB ls && inB r 2 60 then .tuple #[.bool (decide ((kraftN r.toNat (mostI ls).toNat ls : Int) ≤ ((r.toNat ^ (mostI ls).toNat : Nat) : Int))), .bool true] else .tuple #[.bool false, .bool false]
theorem KraftSum_any (ls : List Int) (r : Int) (v : Value) (hi : Nat) (w : World) (h : RdI w hi v ls) : Calls Try.prog 109 #[v, .int .i64 r] w fun e w' => e = .returned (kraftT ls r) ∧ w = w' := by
  have H := Lib.hid h
  clear h
  cases hll : lengthsB ls
  · go_enter Try.func109, Try.ntmps109
    go_wp2_with (first | (go_at_call 156; refine (areLengths_any ls _ hi _ H.out).mono ?_; rintro e w' ⟨rfl, rfl⟩) | (go_at_call 157; refine (isRadix_any _ _).mono ?_; rintro e w' ⟨rfl, rfl⟩))
    go_ret3
    exact ⟨ret_val (by simp [kraftT, hll]), rfl⟩
  · cases hr : inB r 2 60
    · go_enter Try.func109, Try.ntmps109
      go_wp2_with (first | (go_at_call 156; refine (areLengths_any ls _ hi _ H.out).mono ?_; rintro e w' ⟨rfl, rfl⟩) | (go_at_call 157; refine (isRadix_any _ _).mono ?_; rintro e w' ⟨rfl, rfl⟩))
      go_ret3
      exact ⟨ret_val (by simp [kraftT, hr]), rfl⟩
    · obtain ⟨hr1, hr2⟩ := inB_iff.1 hr
      obtain ⟨r, rfl⟩ := Int.eq_ofNat_of_zero_le (show 0 ≤ r by omega)
      go_enter Try.func109, Try.ntmps109
      go_wp2_with (first | (go_at_call 156; refine (areLengths_any ls _ hi _ H.out).mono ?_; rintro e w' ⟨rfl, rfl⟩) | (go_at_call 157; refine (isRadix_any _ _).mono ?_; rintro e w' ⟨rfl, rfl⟩) | (go_at_call 158; refine (kraftSum_any ls r _ hi _ H.out hll (by omega)).mono ?_; rintro e w' ⟨rfl, rfl⟩))
      go_ret3
      exact ⟨ret_val (by simp [kraftT, hll, hr]), rfl⟩
theorem sKraftSum_any (ls : List Int) (r : Int) (v : Value) (hi : Nat) (w : World) (h : RdI w hi v ls) : Calls Try.prog 110 #[v, .int .i64 r] w fun e w' => e = .returned (kraftT ls r) ∧ w = w' := by
  have H := Lib.hid h
  clear h
  cases hll : lengthsB ls
  · go_enter Try.func110, Try.ntmps110
    go_wp2_with (first | (go_at_call 151; refine (cmGood_any ls _ hi _ H.out).mono ?_; rintro e w' ⟨rfl, rfl⟩) | (go_at_call 152; refine (cmBase_any _ _).mono ?_; rintro e w' ⟨rfl, rfl⟩))
    go_ret3
    exact ⟨ret_val (by simp [kraftT, hll]), rfl⟩
  · cases hr : inB r 2 60
    · go_enter Try.func110, Try.ntmps110
      go_wp2_with (first | (go_at_call 151; refine (cmGood_any ls _ hi _ H.out).mono ?_; rintro e w' ⟨rfl, rfl⟩) | (go_at_call 152; refine (cmBase_any _ _).mono ?_; rintro e w' ⟨rfl, rfl⟩))
      go_ret3
      exact ⟨ret_val (by simp [kraftT, hr]), rfl⟩
    · obtain ⟨hr1, hr2⟩ := inB_iff.1 hr
      obtain ⟨r, rfl⟩ := Int.eq_ofNat_of_zero_le (show 0 ≤ r by omega)
      go_enter Try.func110, Try.ntmps110
      go_wp2_with (first | (go_at_call 151; refine (cmGood_any ls _ hi _ H.out).mono ?_; rintro e w' ⟨rfl, rfl⟩) | (go_at_call 152; refine (cmBase_any _ _).mono ?_; rintro e w' ⟨rfl, rfl⟩) | (go_at_call 202; refine (cmKraft_any ls r _ hi _ H.out hll (by omega)).mono ?_; rintro e w' ⟨rfl, rfl⟩))
      go_ret3
      exact ⟨ret_val (by simp [kraftT, hll, hr]), rfl⟩
theorem HasCode_any (ls : List Int) (r : Int) (v : Value) (hi : Nat) (w : World) (h : RdI w hi v ls) : Calls Try.prog 89 #[v, .int .i64 r] w fun e w' => e = .returned (hasT ls r) ∧ w = w' := by
  have H := Lib.hid h
  clear h
  cases hll : lengthsB ls
  · go_enter Try.func89, Try.ntmps89
    go_wp2_with (first | (go_at_call 156; refine (areLengths_any ls _ hi _ H.out).mono ?_; rintro e w' ⟨rfl, rfl⟩) | (go_at_call 157; refine (isRadix_any _ _).mono ?_; rintro e w' ⟨rfl, rfl⟩))
    go_ret2
    exact ⟨ret_val (by simp [hasT, hll]), rfl⟩
  · cases hr : inB r 2 60
    · go_enter Try.func89, Try.ntmps89
      go_wp2_with (first | (go_at_call 156; refine (areLengths_any ls _ hi _ H.out).mono ?_; rintro e w' ⟨rfl, rfl⟩) | (go_at_call 157; refine (isRadix_any _ _).mono ?_; rintro e w' ⟨rfl, rfl⟩))
      go_ret2
      exact ⟨ret_val (by simp [hasT, hr]), rfl⟩
    · obtain ⟨hr1, hr2⟩ := inB_iff.1 hr
      obtain ⟨r, rfl⟩ := Int.eq_ofNat_of_zero_le (show 0 ≤ r by omega)
      go_enter Try.func89, Try.ntmps89
      go_wp2_with (first | (go_at_call 156; refine (areLengths_any ls _ hi _ H.out).mono ?_; rintro e w' ⟨rfl, rfl⟩) | (go_at_call 157; refine (isRadix_any _ _).mono ?_; rintro e w' ⟨rfl, rfl⟩) | (go_at_call 158; refine (kraftSum_any ls r _ hi _ H.out hll (by omega)).mono ?_; rintro e w' ⟨rfl, rfl⟩))
      go_ret2
      exact ⟨ret_val (by simp [hasT, hll, hr]), rfl⟩
theorem cmHas_any (ls : List Int) (r : Nat) (v : Value) (hi : Nat) (w : World) (h : RdI w hi v ls) (hll : lengthsB ls = true) (hr2 : r ≤ 60) :
    Calls Try.prog 153 #[v, .int .i64 (r : Int)] w fun e w' => e = .returned (.bool (decide ((kraftN r (mostI ls).toNat ls : Int) ≤ ((r ^ (mostI ls).toNat : Nat) : Int)))) ∧ w = w' := by
  have H := Lib.hid h
  clear h
  go_enter Try.func153, Try.ntmps153
  go_wp2_with (go_at_call 202; refine (cmKraft_any ls r _ hi _ H.out hll (by omega)).mono ?_; rintro e w' ⟨rfl, rfl⟩)
  go_ret
  exact ⟨ret_bool (by simp), rfl⟩
theorem sHasCode_any (ls : List Int) (r : Int) (v : Value) (hi : Nat) (w : World) (h : RdI w hi v ls) : Calls Try.prog 90 #[v, .int .i64 r] w fun e w' => e = .returned (hasT ls r) ∧ w = w' := by
  have H := Lib.hid h
  clear h
  cases hll : lengthsB ls
  · go_enter Try.func90, Try.ntmps90
    go_wp2_with (first | (go_at_call 151; refine (cmGood_any ls _ hi _ H.out).mono ?_; rintro e w' ⟨rfl, rfl⟩) | (go_at_call 152; refine (cmBase_any _ _).mono ?_; rintro e w' ⟨rfl, rfl⟩))
    go_ret2
    exact ⟨ret_val (by simp [hasT, hll]), rfl⟩
  · cases hr : inB r 2 60
    · go_enter Try.func90, Try.ntmps90
      go_wp2_with (first | (go_at_call 151; refine (cmGood_any ls _ hi _ H.out).mono ?_; rintro e w' ⟨rfl, rfl⟩) | (go_at_call 152; refine (cmBase_any _ _).mono ?_; rintro e w' ⟨rfl, rfl⟩))
      go_ret2
      exact ⟨ret_val (by simp [hasT, hr]), rfl⟩
    · obtain ⟨hr1, hr2⟩ := inB_iff.1 hr
      obtain ⟨r, rfl⟩ := Int.eq_ofNat_of_zero_le (show 0 ≤ r by omega)
      go_enter Try.func90, Try.ntmps90
      go_wp2_with (first | (go_at_call 151; refine (cmGood_any ls _ hi _ H.out).mono ?_; rintro e w' ⟨rfl, rfl⟩) | (go_at_call 152; refine (cmBase_any _ _).mono ?_; rintro e w' ⟨rfl, rfl⟩) | (go_at_call 153; refine (cmHas_any ls r _ hi _ H.out hll (by omega)).mono ?_; rintro e w' ⟨rfl, rfl⟩))
      go_ret2
      exact ⟨ret_val (by simp [hasT, hll, hr]), rfl⟩
end Go.Proofs.Ytabiobjcfopakaa
