/- Texts of one claim, joined: B5, Y1. -/
import Derived.Lib.SplitLaws
import Derived.Lib.AtoiAll
import Derived.Lib.ItoaMem
import Derived.Lib.Join
import Derived.Test.YtjnkdjokbamibaaGreatDoorP1SignalLists
/- Contracts of MovementsOf and NearestSignals, of the program and of the reference. -/
namespace Go.Proofs.YtjnkdjokbamibaaGreatDoor
open Go.RowKit
def sigsB (xs : List Int) : Bool := lenB xs 100 && allB xs 0 63
theorem sigsB_iff {xs : List Int} : sigsB xs = true ↔ xs.length ≤ 100 ∧ allB xs 0 63 = true := by simp [sigsB, lenB]
theorem areSignals_any (xs : List Int) (v : Value) (hi : Nat) (w : World) (h : RdI w hi v xs) : Calls Tryz.prog 50 #[v] w fun e w' => e = .returned (.bool (sigsB xs)) ∧ w = w' := by
  obtain ⟨A, c, hv, hc, hm⟩ := Rd.form h
  have H := Lib.hid h
  clear h
  by_cases hl : xs.length ≤ 100
  · have e : sigsB xs = allB xs 0 63 := by simp [sigsB, lenB, hl]
    rw [e]; clear e
    subst hv
    go_enter Tryz.func50, Tryz.ntmps50
    go_wp2_with (go_at_call 88; refine (allWithin_any xs _ _ _ hi _ H.out).mono ?_; rintro e w' ⟨rfl, rfl⟩)
    go_ret
    exact ⟨rfl, rfl⟩
  · have e : sigsB xs = false := by simp [sigsB, lenB, hl]
    rw [e]; clear e
    subst hv
    go_enter Tryz.func50, Tryz.ntmps50
    go_wp2_with (go_at_call 88; refine (allWithin_any xs _ _ _ hi _ H.out).mono ?_; rintro e w' ⟨rfl, rfl⟩)
    go_ret
    exact ⟨rfl, rfl⟩
theorem sgList_any (xs : List Int) (v : Value) (hi : Nat) (w : World) (h : RdI w hi v xs) : Calls Tryz.prog 52 #[v] w fun e w' => e = .returned (.bool (sigsB xs)) ∧ w = w' := by
  obtain ⟨A, c, hv, hc, hm⟩ := Rd.form h
  have H := Lib.hid h
  clear h
  by_cases hl : xs.length ≤ 100
  · have e : sigsB xs = allB xs 0 63 := by simp [sigsB, lenB, hl]
    rw [e]; clear e
    subst hv
    go_enter Tryz.func52, Tryz.ntmps52
    go_wp2_with (go_at_call 103; refine (l1All_any xs _ _ _ hi _ H.out).mono ?_; rintro e w' ⟨rfl, rfl⟩)
    go_ret
    exact ⟨rfl, rfl⟩
  · have e : sigsB xs = false := by simp [sigsB, lenB, hl]
    rw [e]; clear e
    subst hv
    go_enter Tryz.func52, Tryz.ntmps52
    go_wp2_with (go_at_call 103; refine (l1All_any xs _ _ _ hi _ H.out).mono ?_; rintro e w' ⟨rfl, rfl⟩)
    go_ret
    exact ⟨rfl, rfl⟩
/-- How many shutters move from a on. -/
def movesM : Int → List Int → Nat
  | _, [] => 0
  | a, x :: r => distM a.toNat x.toNat + movesM x r
theorem movesM_snoc (a : Int) (l : List Int) (y : Int) : movesM a (l ++ [y]) = movesM a l + distM (l.getLastD a).toNat y.toNat := by
  induction l generalizing a with
  | nil => simp [movesM]
  | cons x r ih =>
    simp only [List.cons_append, movesM, ih, List.getLastD_cons]
    omega
theorem movesM_le (a : Int) (l : List Int) : movesM a l ≤ 6 * l.length := by
  induction l generalizing a with
  | nil => simp [movesM]
  | cons x r ih => simp only [movesM, List.length_cons]; have := ih x; have := distM_le a.toNat x.toNat; omega
theorem moves_step {xs : List Int} {k : Nat} {y : Int} (h : xs[k]? = some y) (a : Int) : movesM a (xs.take (k + 1)) = movesM a (xs.take k) + distM ((xs.take k).getLastD a).toNat y.toNat ∧ (xs.take (k + 1)).getLastD a = y := by
  rw [take_snocI h, movesM_snoc]; exact ⟨rfl, by simp [List.getLastD_eq_getLast?]⟩
def movesT (xs : List Int) : Value := if sigsB xs then .tuple #[.int .i64 ((movesM 0 (xs ++ [0]) : Nat) : Int), .bool true] else .tuple #[.int .i64 0, .bool false]
set_option maxHeartbeats 400000 in
theorem MovementsOf_any (xs : List Int) (v : Value) (hi : Nat) (w : World) (h : RdI w hi v xs) : Calls Tryz.prog 9 #[v] w fun e w' => e = .returned (movesT xs) ∧ w = w' := by
  have H := Lib.hid h
  cases hs : sigsB xs
  · clear h
    go_enter Tryz.func9, Tryz.ntmps9
    go_wp2_with (go_at_call 50; refine (areSignals_any xs _ hi _ H.out).mono ?_; rintro e w' ⟨rfl, rfl⟩)
    go_ret2
    exact ⟨ret_val (by simp [movesT, hs]), rfl⟩
  · obtain ⟨hl, hb⟩ := sigsB_iff.1 hs
    have HB := Lib.hid hb
    obtain ⟨A, c, rfl, hc, hm⟩ := Rd.form h
    clear hb h
    go_enter Tryz.func9, Tryz.ntmps9
    go_wp2_with (go_at_call 50; refine (areSignals_any xs _ hi _ H.out).mono ?_; rintro e w' ⟨rfl, rfl⟩)
    go_loop [4, 5, 13] (fun s q i => ∃ (k p : Nat) (z : Int), k ≤ xs.length ∧ i = .int .i64 k ∧ Hid (p = movesM 0 (xs.take k)) ∧ s = .int .i64 (p : Int) ∧ p ≤ 6 * k ∧ Hid (z = (xs.take k).getLastD 0) ∧ q = .int .i64 z ∧ 0 ≤ z ∧ z ≤ 63) (fun _ _ i => xs.length - (intOf i).toNat)
    case atStart => exact ⟨0, 0, 0, Nat.zero_le _, rfl, rfl, rfl, by omega, rfl, rfl, by omega, by omega⟩
    case round =>
      obtain ⟨k, p, z, hk, rfl, hp, rfl, hp6, hz, rfl, hz0, hz1⟩ := hrel
      by_cases hlt : k < xs.length
      · obtain ⟨b1, o1, c1, y, hv, _, hy, hcell1⟩ := Rd.at_ H.out hlt
        cases hv
        have hym := allB_mem hy HB.out
        have HY := Lib.hid hy
        clear hy
        obtain ⟨z, rfl⟩ := Int.eq_ofNat_of_zero_le hz0
        obtain ⟨y, rfl⟩ := Int.eq_ofNat_of_zero_le hym.1
        have hd := distM_le z y
        go_wp2_with (go_at_call 54; refine (distanceOf_any z y (by omega) (by omega) _).mono ?_; rintro e w' ⟨rfl, rfl⟩)
        go_round
        case rel => exact ⟨k + 1, p + distM z y, (y : Int), by omega, by go_num, by rw [(moves_step HY.out 0).1, ← hp.out, ← hz.out]; rfl, int_val (by omega), by omega, (moves_step HY.out 0).2.symm, rfl, by omega, by omega⟩
        case measure => simp [intOf]; omega
      · obtain rfl : k = xs.length := by omega
        obtain ⟨z, rfl⟩ := Int.eq_ofNat_of_zero_le hz0
        have hd := distM_le z 0
        go_wp2_with (go_at_call 54; refine (distanceOf_any z 0 (by omega) (by omega) _).mono ?_; rintro e w' ⟨rfl, rfl⟩)
        go_ret2
        refine ⟨ret_val ?_, rfl⟩
        have e1 := hp.out
        have e2 := hz.out
        rw [List.take_of_length_le (Nat.le_refl _)] at e1 e2
        unfold movesT
        rw [hs, if_pos rfl, movesM_snoc, ← e1, ← e2]
        rfl
set_option maxHeartbeats 800000 in
theorem sgMoves_any (xs : List Int) (v : Value) (hi : Nat) (w : World) (h : RdI w hi v xs) (hhi : hi ≤ w.heap.size) (hl : xs.length ≤ 100) (hb : allB xs 0 63 = true) :
    Calls Tryz.prog 55 #[v] w fun e w' => e = .returned (.int .i64 ((movesM 0 (xs ++ [0]) : Nat) : Int)) ∧ Below w.heap.size w w' := by
  have H := Lib.hid h
  have hb' : allB (xs ++ [0]) 0 63 = true := by unfold allB at *; rw [List.all_append, hb]; rfl
  have HB := Lib.hid hb'
  clear h hb hb'
  have hLL : (xs ++ [(0 : Int)]).length = xs.length + 1 := by simp
  have HL := Lib.hid hLL
  obtain ⟨ys, hys⟩ : ∃ ys, ys = xs ++ [(0 : Int)] := ⟨_, rfl⟩
  rw [← hys] at HB HL ⊢
  have HYS := Lib.hid hys
  have hlen : ys.length ≤ 101 := by rw [HL.out]; omega
  clear hLL hys
  go_enter Tryz.func55, Tryz.ntmps55
  go_wp2_with fail
  refine (l1Own_any xs _ hi _ H.out hhi (by omega)).mono ?_
  rintro e w1 ⟨u, rfl, hu, hb1⟩
  have hG : GrowI w w.heap.size w1 u xs := ⟨hu.1, hb1, hb1.size⟩
  clear hu hb1
  go_wp2_with (at_builtin; refine GrowI.app rfl (.tmp 8) (.tmp 9) rfl hG (by omega) rfl rfl ?_; rw [← HYS.out]; intro v' w2 hG'; obtain ⟨A, c, rfl, hc⟩ := hG'.own.form)
  have HR := Lib.hid hG'.own.rd
  have hbw := hG'.bel
  clear hG hG'
  go_loopw [3, 4, 12] (fun s q i wr => ∃ (k p : Nat) (z : Int), k ≤ ys.length ∧ i = .int .i64 k ∧ Hid (p = movesM 0 (ys.take k)) ∧ s = .int .i64 (p : Int) ∧ p ≤ 6 * k ∧ Hid (z = (ys.take k).getLastD 0) ∧ q = .int .i64 z ∧ 0 ≤ z ∧ z ≤ 63 ∧ Below w2.heap.size w2 wr) (fun _ _ i _ => ys.length - (intOf i).toNat)
  case atStart => exact ⟨0, 0, 0, Nat.zero_le _, rfl, rfl, rfl, by omega, rfl, rfl, by omega, by omega, Below.refl _ _⟩
  case round =>
    obtain ⟨k, p, z, hk, rfl, hp, rfl, hp6, hz, rfl, hz0, hz1, hbr⟩ := hrel
    by_cases hlt : k < ys.length
    · obtain ⟨b1, o1, c1, y, hv, _, hy, hcell1⟩ := Rd.at_ (Rd.below HR.out hbr (Nat.le_refl _)) hlt
      cases hv
      have hym := allB_mem hy HB.out
      have HY := Lib.hid hy
      clear hy
      obtain ⟨z, rfl⟩ := Int.eq_ofNat_of_zero_le hz0
      obtain ⟨y, rfl⟩ := Int.eq_ofNat_of_zero_le hym.1
      have hd := distM_le z y
      go_wp2_with fail
      refine (sgDistance_any z y (by omega) (by omega) _).mono ?_
      rintro e w3 ⟨rfl, hb3⟩
      go_wp2
      go_roundw
      case rel => exact ⟨k + 1, p + distM z y, (y : Int), by omega, by go_num, by rw [(moves_step HY.out 0).1, ← hp.out, ← hz.out]; rfl, int_val (by omega), by omega, (moves_step HY.out 0).2.symm, rfl, by omega, by omega, hbr.trans (hb3.mono hbr.size)⟩
      case measure => simp [intOf]; omega
    · obtain rfl : k = ys.length := by omega
      have hbz := hbw.trans (hbr.mono hbw.size)
      go_wp2
      go_ret
      have e1 := hp.out
      rw [List.take_of_length_le (Nat.le_refl _)] at e1
      exact ⟨ret_int (by rw [e1]), hbz⟩
theorem sMovementsOf_any (xs : List Int) (v : Value) (hi : Nat) (w : World) (h : RdI w hi v xs) (hhi : hi ≤ w.heap.size) : Calls Tryz.prog 10 #[v] w fun e w' => e = .returned (movesT xs) ∧ Below w.heap.size w w' := by
  have H := Lib.hid h
  clear h
  cases hs : sigsB xs
  · go_enter Tryz.func10, Tryz.ntmps10
    go_wp2_with (go_at_call 52; refine (sgList_any xs _ hi _ H.out).mono ?_; rintro e w' ⟨rfl, rfl⟩)
    go_ret2
    exact ⟨ret_val (by simp [movesT, hs]), Below.refl _ _⟩
  · obtain ⟨hl, hb⟩ := sigsB_iff.1 hs
    have HB := Lib.hid hb
    clear hb
    go_enter Tryz.func10, Tryz.ntmps10
    go_wp2_with (first | (go_at_call 52; refine (sgList_any xs _ hi _ H.out).mono ?_; rintro e w' ⟨rfl, rfl⟩) | (go_at_call 55; refine (sgMoves_any xs _ hi _ H.out hhi hl HB.out).mono ?_; rintro e w1 ⟨rfl, hb1⟩))
    go_ret2
    exact ⟨ret_val (by simp [movesT, hs]), hb1⟩
/-- The places of the number c among the first k. -/
def nearI (ds : List Nat) (c : Nat) (k : Nat) : List Int := ((List.range k).filter fun i => ds[i]? == some c).map fun i : Nat => (i : Int)
theorem nearI_len (ds : List Nat) (c k : Nat) : (nearI ds c k).length ≤ k := by
  unfold nearI; rw [List.length_map]; have := List.length_filter_le (fun i => ds[i]? == some c) (List.range k); simpa using this
theorem nearI_yes {ds : List Nat} {c k : Nat} (h : ds[k]? = some c) : nearI ds c (k + 1) = nearI ds c k ++ [(k : Int)] := by simp [nearI, List.range_succ, h]
theorem nearI_no {ds : List Nat} {c d k : Nat} (h : ds[k]? = some d) (hne : d ≠ c) : nearI ds c (k + 1) = nearI ds c k := by simp [nearI, List.range_succ, h, hne]
def leastD (ds : List Nat) (m : Nat) : Nat := ds.foldl min m

theorem leastD_step {ds : List Nat} {m k d : Nat} (h : ds[k]? = some d) : leastD (ds.take (k + 1)) m = min (leastD (ds.take k) m) d := by
  unfold leastD; rw [take_snocN h, List.foldl_append]; rfl
theorem leastD_le_mem (ds : List Nat) (m : Nat) : leastD ds m ≤ m ∧ ∀ d ∈ ds, leastD ds m ≤ d := by
  unfold leastD
  induction ds generalizing m with
  | nil => simp
  | cons x r ih =>
    have h := ih (min m x)
    simp only [List.foldl_cons, List.mem_cons]
    refine ⟨by omega, fun d hd => ?_⟩
    rcases hd with rfl | hd
    · omega
    · exact h.2 d hd
theorem nearI_new {ds : List Nat} {k d : Nat} (h : d < leastD (ds.take k) 7) : nearI ds d k = [] := by
  unfold nearI
  rw [List.map_eq_nil_iff, List.filter_eq_nil_iff]
  intro i hi hc
  rw [List.mem_range] at hi
  have hd : ds[i]? = some d := by simpa using hc
  have hm : d ∈ ds.take k := List.mem_of_getElem? (by rw [List.getElem?_take, if_pos hi]; exact hd)
  have := (leastD_le_mem (ds.take k) 7).2 d hm
  omega
/-- The distances of the elements from n. -/
def distL (n : Nat) (xs : List Int) : List Nat := xs.map fun x => distM n x.toNat
theorem distL_at {n : Nat} {xs : List Int} {k y : Nat} (h : xs[k]? = some (y : Int)) : (distL n xs)[k]? = some (distM n y) := by simp [distL, h]
theorem least76 {ds : List Nat} (h : ∀ d ∈ ds, d ≤ 6) (hne : ds ≠ []) : leastD ds 7 = leastD ds 6 := by
  match ds, hne with
  | d :: r, _ =>
    have := h d (List.mem_cons_self ..)
    unfold leastD
    simp only [List.foldl_cons]
    rw [show min 7 d = d by omega, show min 6 d = d by omega]
def nearL (n : Int) (xs : List Int) : List Int := if inB n 0 63 && sigsB xs && !xs.isEmpty then nearI (distL n.toNat xs) (leastD (distL n.toNat xs) 6) xs.length else []
def nearB (n : Int) (xs : List Int) : Bool := inB n 0 63 && sigsB xs && !xs.isEmpty
set_option maxHeartbeats 800000 in
theorem NearestSignals_any (n : Int) (xs : List Int) (v : Value) (hi : Nat) (w : World) (h : RdI w hi v xs) (hhi : hi ≤ w.heap.size) : Calls Tryz.prog 14 #[.int .i64 n, v] w (RetOwT (nearL n xs) (nearB n xs) w) := by
  have H := Lib.hid h
  obtain ⟨A, c, rfl, hc, hm⟩ := Rd.form h
  clear h
  cases ha : inB n 0 63
  · have e : nearL n xs = [] ∧ nearB n xs = false := by simp [nearL, nearB, ha]
    rw [e.1, e.2]; clear e
    go_enter Tryz.func14, Tryz.ntmps14
    go_wp2_with (first | (go_at_call 59; refine (isSignal_any _ _).mono ?_; rintro e w' ⟨rfl, rfl⟩) | (go_at_call 50; refine (areSignals_any xs _ hi _ H.out).mono ?_; rintro e w' ⟨rfl, rfl⟩))
    go_ret2
    exact retOwT_nil w false
  · cases hs : sigsB xs
    · have e : nearL n xs = [] ∧ nearB n xs = false := by simp [nearL, nearB, hs]
      rw [e.1, e.2]; clear e
      go_enter Tryz.func14, Tryz.ntmps14
      go_wp2_with (first | (go_at_call 59; refine (isSignal_any _ _).mono ?_; rintro e w' ⟨rfl, rfl⟩) | (go_at_call 50; refine (areSignals_any xs _ hi _ H.out).mono ?_; rintro e w' ⟨rfl, rfl⟩))
      go_ret2
      exact retOwT_nil w false
    · rcases Nat.eq_zero_or_pos xs.length with h0 | hpos
      · have hx : xs = [] := List.eq_nil_of_length_eq_zero h0
        subst hx
        have e : nearL n [] = [] ∧ nearB n [] = false := by simp [nearL, nearB]
        rw [e.1, e.2]; clear e
        go_enter Tryz.func14, Tryz.ntmps14
        go_wp2_with (first | (go_at_call 59; refine (isSignal_any _ _).mono ?_; rintro e w' ⟨rfl, rfl⟩) | (go_at_call 50; refine (areSignals_any [] _ hi _ H.out).mono ?_; rintro e w' ⟨rfl, rfl⟩))
        go_ret2
        exact retOwT_nil w false
      · obtain ⟨h0, h1⟩ := inB_iff.1 ha
        obtain ⟨n, rfl⟩ := Int.eq_ofNat_of_zero_le h0
        obtain ⟨hl, hb⟩ := sigsB_iff.1 hs
        have HB := Lib.hid hb
        have hne : xs.isEmpty = false := by cases xs <;> simp_all
        have e : nearL (n : Int) xs = nearI (distL n xs) (leastD (distL n xs) 6) xs.length ∧ nearB (n : Int) xs = true := by simp [nearL, nearB, ha, hs, hne]
        have hz : (((xs.length : Nat) : Int) == 0) = false := by rw [beq_eq_false_iff_ne]; omega
        rw [e.1, e.2]; clear e hb hne
        go_enter Tryz.func14, Tryz.ntmps14
        go_wp2_with (first | (go_at_call 59; refine (isSignal_any _ _).mono ?_; rintro e w' ⟨rfl, rfl⟩) | (go_at_call 50; refine (areSignals_any xs _ hi _ H.out).mono ?_; rintro e w' ⟨rfl, rfl⟩))
        go_loopw [6, 7, 26] (fun m u i wr => ∃ (k p : Nat), k ≤ xs.length ∧ i = .int .i64 k ∧ Hid (p = leastD ((distL n xs).take k) 7) ∧ m = .int .i64 (p : Int) ∧ p ≤ 7 ∧ GrowI w w.heap.size wr u (nearI (distL n xs) p k)) (fun _ _ i _ => xs.length - (intOf i).toNat)
        case atStart => exact ⟨0, 7, Nat.zero_le _, rfl, rfl, rfl, by omega, GrowI.start w⟩
        case round =>
          obtain ⟨k, p, hk, rfl, hp, rfl, hp7, hG⟩ := hrel
          by_cases hlt : k < xs.length
          · obtain ⟨b1, o1, c1, y, hv, _, hy, hcell1⟩ := Rd.at_ (Rd.below H.out hG.bel hhi) hlt
            cases hv
            have hym := allB_mem hy HB.out
            obtain ⟨y, rfl⟩ := Int.eq_ofNat_of_zero_le hym.1
            have hd := distM_le n y
            have hl0 := nearI_len (distL n xs) p k
            have HY := Lib.hid (distL_at (n := n) hy)
            clear hy
            have hmn := leastD_step (m := 7) HY.out
            rw [← hp.out] at hmn
            have HM := Lib.hid hmn
            clear hmn
            rcases Nat.lt_trichotomy (distM n y) p with hdp | hdp | hdp
            · have hq1 : ((distM n y : Nat) : Int) < (p : Int) := by omega
              have hnew := nearI_new (show distM n y < leastD ((distL n xs).take k) 7 by rw [← hp.out]; exact hdp)
              have HN := Lib.hid hnew
              have hG0 := GrowI.nil hG.bel
              rw [← hnew] at hG0
              clear hnew
              have hl1 := nearI_len (distL n xs) (distM n y) k
              go_wp2_with (first | (go_at_call 54; refine (distanceOf_any n y (by omega) (by omega) _).mono ?_; rintro e w' ⟨rfl, rfl⟩) | (at_builtin; refine GrowI.app rfl (.tmp 41) (.tmp 43) rfl hG0 (by omega) rfl rfl ?_; intro v' w2 hG'))
              go_roundw
              case rel => exact ⟨k + 1, distM n y, by omega, by go_num, by rw [HM.out]; show _ = _; omega, rfl, by omega, by rw [nearI_yes HY.out]; exact hG'⟩
              case measure => simp [intOf]; omega
            · have hq1 : ¬ ((distM n y : Nat) : Int) < (p : Int) := by omega
              have hq2 : (((distM n y : Nat) : Int) == (p : Int)) = true := by rw [beq_iff_eq]; omega
              have HD := Lib.hid hdp
              clear hdp
              go_wp2_with (first | (go_at_call 54; refine (distanceOf_any n y (by omega) (by omega) _).mono ?_; rintro e w' ⟨rfl, rfl⟩) | (at_builtin; refine GrowI.app rfl (.tmp 41) (.tmp 43) rfl hG (by omega) rfl rfl ?_; intro v' w2 hG'))
              go_roundw
              case rel => exact ⟨k + 1, p, by omega, by go_num, by have := HM.out; have := HD.out; show _ = _; omega, rfl, by omega, by rw [nearI_yes (by rw [← HD.out]; exact HY.out)]; exact hG'⟩
              case measure => simp [intOf]; omega
            · have hq1 : ¬ ((distM n y : Nat) : Int) < (p : Int) := by omega
              have hq2 : (((distM n y : Nat) : Int) == (p : Int)) = false := by rw [beq_eq_false_iff_ne]; omega
              go_wp2_with (first | (go_at_call 54; refine (distanceOf_any n y (by omega) (by omega) _).mono ?_; rintro e w' ⟨rfl, rfl⟩))
              go_roundw
              case rel => exact ⟨k + 1, p, by omega, by go_num, by have := HM.out; show _ = _; omega, rfl, by omega, by rw [nearI_no HY.out (by omega)]; exact hG⟩
              case measure => simp [intOf]; omega
          · obtain rfl : k = xs.length := by omega
            go_wp2
            go_ret2
            refine retOwT_eq (retOwT true hG) ?_
            rw [hp.out, List.take_of_length_le (by simp [distL]), least76 ?_ ?_]
            · intro d hd
              simp only [distL, List.mem_map] at hd
              obtain ⟨x, _, rfl⟩ := hd
              exact distM_le _ _
            · intro h0
              have e1 : (distL n xs).length = xs.length := by simp [distL]
              rw [h0] at e1
              simp at e1
              omega
theorem l1Least_any (a b : Nat) (w : World) : Calls Tryz.prog 61 #[.int .i64 (a : Int), .int .i64 (b : Int)] w fun e w' => e = .returned (.int .i64 ((min a b : Nat) : Int)) ∧ w = w' := by
  by_cases h : a < b
  · have e : min a b = a := by omega
    rw [e]; clear e
    go_enter Tryz.func61, Tryz.ntmps61
    go_wp2
    go_ret
    exact ⟨rfl, rfl⟩
  · have e : min a b = b := by omega
    rw [e]; clear e
    go_enter Tryz.func61, Tryz.ntmps61
    go_wp2
    go_ret
    exact ⟨rfl, rfl⟩
set_option maxHeartbeats 800000 in
theorem sNearestSignals_any (n : Int) (xs : List Int) (v : Value) (hi : Nat) (w : World) (h : RdI w hi v xs) (hhi : hi ≤ w.heap.size) : Calls Tryz.prog 15 #[.int .i64 n, v] w (RetOwT (nearL n xs) (nearB n xs) w) := by
  have H := Lib.hid h
  obtain ⟨A, c, rfl, hc, hm⟩ := Rd.form h
  clear h
  cases ha : inB n 0 63
  · have e : nearL n xs = [] ∧ nearB n xs = false := by simp [nearL, nearB, ha]
    rw [e.1, e.2]; clear e
    go_enter Tryz.func15, Tryz.ntmps15
    go_wp2_with (first | (go_at_call 60; refine (sgGood_any _ _).mono ?_; rintro e w' ⟨rfl, rfl⟩) | (go_at_call 52; refine (sgList_any xs _ hi _ H.out).mono ?_; rintro e w' ⟨rfl, rfl⟩))
    go_ret2
    exact retOwT_nil w false
  · cases hs : sigsB xs
    · have e : nearL n xs = [] ∧ nearB n xs = false := by simp [nearL, nearB, hs]
      rw [e.1, e.2]; clear e
      go_enter Tryz.func15, Tryz.ntmps15
      go_wp2_with (first | (go_at_call 60; refine (sgGood_any _ _).mono ?_; rintro e w' ⟨rfl, rfl⟩) | (go_at_call 52; refine (sgList_any xs _ hi _ H.out).mono ?_; rintro e w' ⟨rfl, rfl⟩))
      go_ret2
      exact retOwT_nil w false
    · rcases Nat.eq_zero_or_pos xs.length with h0 | hpos
      · have hx : xs = [] := List.eq_nil_of_length_eq_zero h0
        subst hx
        have e : nearL n [] = [] ∧ nearB n [] = false := by simp [nearL, nearB]
        rw [e.1, e.2]; clear e
        go_enter Tryz.func15, Tryz.ntmps15
        go_wp2_with (first | (go_at_call 60; refine (sgGood_any _ _).mono ?_; rintro e w' ⟨rfl, rfl⟩) | (go_at_call 52; refine (sgList_any [] _ hi _ H.out).mono ?_; rintro e w' ⟨rfl, rfl⟩))
        go_ret2
        exact retOwT_nil w false
      · obtain ⟨h0, h1⟩ := inB_iff.1 ha
        obtain ⟨n, rfl⟩ := Int.eq_ofNat_of_zero_le h0
        obtain ⟨hl, hb⟩ := sigsB_iff.1 hs
        have HB := Lib.hid hb
        have hne : xs.isEmpty = false := by cases xs <;> simp_all
        have e : nearL (n : Int) xs = nearI (distL n xs) (leastD (distL n xs) 6) xs.length ∧ nearB (n : Int) xs = true := by simp [nearL, nearB, ha, hs, hne]
        have hz : (((xs.length : Nat) : Int) == 0) = false := by rw [beq_eq_false_iff_ne]; omega
        rw [e.1, e.2]; clear e hb hne
        go_enter Tryz.func15, Tryz.ntmps15
        go_wp2_with (first | (go_at_call 60; refine (sgGood_any _ _).mono ?_; rintro e w' ⟨rfl, rfl⟩) | (go_at_call 52; refine (sgList_any xs _ hi _ H.out).mono ?_; rintro e w' ⟨rfl, rfl⟩))
        go_loopw [6, 27] (fun m i wr => ∃ (k p : Nat), k ≤ xs.length ∧ i = .int .i64 k ∧ Hid (p = leastD ((distL n xs).take k) 6) ∧ m = .int .i64 (p : Int) ∧ p ≤ 6 ∧ Below w.heap.size w wr) (fun _ i _ => xs.length - (intOf i).toNat)
        case atStart => exact ⟨0, 6, Nat.zero_le _, rfl, rfl, rfl, by omega, Below.refl _ _⟩
        case round =>
          obtain ⟨k, p, hk, rfl, hp, rfl, hp7, hbr⟩ := hrel
          by_cases hlt : k < xs.length
          · obtain ⟨b1, o1, c1, y, hv, _, hy, hcell1⟩ := Rd.at_ (Rd.below H.out hbr hhi) hlt
            cases hv
            have hym := allB_mem hy HB.out
            obtain ⟨y, rfl⟩ := Int.eq_ofNat_of_zero_le hym.1
            have hd := distM_le n y
            have HY := Lib.hid (distL_at (n := n) hy)
            clear hy
            have hmn := leastD_step (m := 6) HY.out
            rw [← hp.out] at hmn
            have HM := Lib.hid hmn
            clear hmn
            have hsz := hbr.size
            go_wp2_with (first | (go_at_call 62; refine (sgDistance_any n y (by omega) (by omega) _).mono ?_; rintro e w3 ⟨rfl, hb3⟩) | (go_at_call 61; refine (l1Least_any p (distM n y) _).mono ?_; rintro e w' ⟨rfl, rfl⟩))
            go_roundw
            case rel => exact ⟨k + 1, min p (distM n y), by omega, by go_num, by rw [HM.out]; exact rfl, rfl, by omega, hbr.trans (hb3.mono hsz)⟩
            case measure => simp [intOf]; omega
          · obtain rfl : k = xs.length := by omega
            have hp' : p = leastD (distL n xs) 6 := by rw [hp.out, List.take_of_length_le (by simp [distL])]
            have HP := Lib.hid hp'
            clear hp'
            obtain ⟨wo, rfl⟩ : ∃ wo : World, wo = wr := ⟨_, rfl⟩
            go_wp2
            go_loopw [9, 39] (fun u i wr => ∃ (k : Nat), k ≤ xs.length ∧ i = .int .i64 k ∧ GrowI w w.heap.size wr u (nearI (distL n xs) p k)) (fun _ i _ => xs.length - (intOf i).toNat)
            case atStart => exact ⟨0, Nat.zero_le _, rfl, GrowI.nil hbr⟩
            case round =>
              obtain ⟨k, hk, rfl, hG⟩ := hrel
              by_cases hlt : k < xs.length
              · obtain ⟨b1, o1, c1, y, hv, _, hy, hcell1⟩ := Rd.at_ (Rd.below H.out hG.bel hhi) hlt
                cases hv
                have hym := allB_mem hy HB.out
                obtain ⟨y, rfl⟩ := Int.eq_ofNat_of_zero_le hym.1
                have hd := distM_le n y
                have HY := Lib.hid (distL_at (n := n) hy)
                clear hy
                have hl0 := nearI_len (distL n xs) p k
                by_cases hdp : distM n y = p
                · have hq2 : (((distM n y : Nat) : Int) == (p : Int)) = true := by rw [beq_iff_eq]; omega
                  have HD := Lib.hid hdp
                  clear hdp
                  go_wp2_with fail
                  refine (sgDistance_any n y (by omega) (by omega) _).mono ?_
                  rintro e w3 ⟨rfl, hb3⟩
                  have hG3 := hG.belowR hb3
                  clear hcell1
                  go_wp2_with (at_builtin; refine GrowI.app rfl (.tmp 49) (.tmp 51) rfl hG3 (by omega) rfl rfl ?_; intro v' w2 hG')
                  go_roundw
                  case rel => exact ⟨k + 1, by omega, by go_num, by rw [nearI_yes (by rw [← HD.out]; exact HY.out)]; exact hG'⟩
                  case measure => simp [intOf]; omega
                · have hq2 : (((distM n y : Nat) : Int) == (p : Int)) = false := by rw [beq_eq_false_iff_ne]; omega
                  go_wp2_with fail
                  refine (sgDistance_any n y (by omega) (by omega) _).mono ?_
                  rintro e w3 ⟨rfl, hb3⟩
                  have hG3 := hG.belowR hb3
                  go_wp2
                  go_roundw
                  case rel => exact ⟨k + 1, by omega, by go_num, by rw [nearI_no HY.out hdp]; exact hG3⟩
                  case measure => simp [intOf]; omega
              · obtain rfl : k = xs.length := by omega
                go_wp2
                go_ret2
                exact retOwT_eq (retOwT true hG) (by rw [HP.out])
theorem nearL_len (n : Int) (xs : List Int) : (nearL n xs).length ≤ 100 := by
  unfold nearL
  split
  · rename_i h
    simp only [Bool.and_eq_true] at h
    have := nearI_len (distL n.toNat xs) (leastD (distL n.toNat xs) 6) xs.length
    have := (sigsB_iff.1 h.1.2).1
    omega
  · simp
end Go.Proofs.YtjnkdjokbamibaaGreatDoor
/- Plain laws on texts: what is cut at a byte and joined again; numbers in decimal. -/
namespace Go.Proofs.YtjnkdjokbamibaaGreatDoor
/-- A text cut at each byte c. -/
def splitC (c : UInt8) : List UInt8 → List (List UInt8)
  | [] => [[]]
  | b :: r => if b = c then [] :: splitC c r else match splitC c r with
    | [] => [[b]]
    | a :: q => (b :: a) :: q
/-- Texts joined by a byte. -/
def joinC (c : UInt8) : List (List UInt8) → List UInt8
  | [] => []
  | [a] => a
  | a :: b :: r => a ++ c :: joinC c (b :: r)
theorem splitC_ne (c : UInt8) (l : List UInt8) : splitC c l ≠ [] := by
  cases l with
  | nil => simp [splitC]
  | cons b r => rw [splitC]; split
                · simp
                · split <;> simp
theorem splitC_len (c : UInt8) : ∀ l : List UInt8, 1 ≤ (splitC c l).length ∧ (splitC c l).length ≤ l.length + 1
  | [] => by simp [splitC]
  | b :: r => by
    have ih := splitC_len c r
    rw [splitC]
    split
    · simp; omega
    · split
      · simp
      · rename_i a q h; rw [h] at ih; simp at ih ⊢; omega
theorem joinC_cons (c : UInt8) (a : List UInt8) {r : List (List UInt8)} (h : r ≠ []) : joinC c (a :: r) = a ++ c :: joinC c r := by
  cases r with
  | nil => exact absurd rfl h
  | cons b q => rfl
theorem joinC_head (c b : UInt8) (a : List UInt8) (q : List (List UInt8)) : joinC c ((b :: a) :: q) = b :: joinC c (a :: q) := by
  cases q with
  | nil => rfl
  | cons x r => rfl
theorem join_split (c : UInt8) : ∀ l : List UInt8, joinC c (splitC c l) = l
  | [] => rfl
  | b :: r => by
    have ih := join_split c r
    rw [splitC]
    split
    · rename_i h; rw [joinC_cons _ _ (splitC_ne c r), ih, h]; rfl
    · split
      · rename_i h; exact absurd h (splitC_ne c r)
      · rename_i a q h; rw [joinC_head, ← h, ih]
theorem splitC_no {c : UInt8} : ∀ {l : List UInt8}, c ∉ l → splitC c l = [l]
  | [], _ => rfl
  | b :: r, h => by
    have hb : b ≠ c := fun e => h (by simp [e])
    rw [splitC, if_neg hb, splitC_no (fun m => h (by simp [m]))]
theorem splitC_hit {c : UInt8} (r : List UInt8) : ∀ {a : List UInt8}, c ∉ a → splitC c (a ++ c :: r) = a :: splitC c r
  | [], _ => by simp [splitC]
  | b :: a, h => by
    have hb : b ≠ c := fun e => h (by simp [e])
    rw [List.cons_append, splitC, if_neg hb, splitC_hit r (fun m => h (by simp [m]))]
theorem split_join {c : UInt8} : ∀ {xs : List (List UInt8)}, xs ≠ [] → (∀ a ∈ xs, c ∉ a) → splitC c (joinC c xs) = xs
  | [], h, _ => absurd rfl h
  | [a], _, h => splitC_no (h a (by simp))
  | a :: b :: r, _, h => by
    rw [joinC, splitC_hit _ (h a (by simp)), split_join (by simp) (fun x hx => h x (by simp [List.mem_cons.1 hx]))]
/-- A byte more at the end. -/
theorem splitC_snoc {c b : UInt8} : ∀ {l : List UInt8} {o : List (List UInt8)} {z : List UInt8}, splitC c l = o ++ [z] → splitC c (l ++ [b]) = if b = c then (o ++ [z]) ++ [[]] else o ++ [z ++ [b]]
  | [], o, z, h => by
    have : o = [] ∧ z = [] := by
      cases o with
      | nil => simp [splitC] at h; exact ⟨rfl, h⟩
      | cons x q => simp [splitC] at h
    obtain ⟨rfl, rfl⟩ := this
    simp only [List.nil_append, splitC]
    split <;> rfl
  | x :: l, o, z, h => by
    rw [List.cons_append, splitC]
    rw [splitC] at h
    split
    · rename_i hx
      rw [if_pos hx] at h
      cases o with
      | nil => simp at h; exact absurd h.2 (splitC_ne c l)
      | cons y q =>
        simp at h
        obtain ⟨rfl, h⟩ := h
        rw [splitC_snoc (b := b) h]
        split <;> simp
    · rename_i hx
      rw [if_neg hx] at h
      cases hs : splitC c l with
      | nil => exact absurd hs (splitC_ne c l)
      | cons a q =>
        rw [hs] at h
        cases o with
        | nil =>
          simp at h
          obtain ⟨rfl, rfl⟩ := h
          rw [splitC_snoc (b := b) (o := []) (z := a) hs]
          by_cases hb : b = c <;> simp [hb]
        | cons y r =>
          simp at h
          obtain ⟨rfl, h⟩ := h
          rw [h] at hs
          rw [splitC_snoc (b := b) (o := a :: r) (z := z) hs]
          by_cases hb : b = c <;> simp [hb]
theorem joinC_join (c : UInt8) : ∀ xs : List (List UInt8), Lib.join xs [c] = joinC c xs
  | [] => rfl
  | [a] => Lib.join_one a [c]
  | a :: b :: r => by
    rw [joinC, ← joinC_join c (b :: r), Lib.join_cons, Lib.join_cons]
    simp [Lib.joinTail]
theorem splitK_cons {b c : UInt8} (hb : b ≠ c) (l : List UInt8) (k : Nat) : Lib.splitK [c] 0 k (b :: l) = match Lib.splitK [c] 0 k l with
    | [] => [[b]]
    | a :: q => (b :: a) :: q := by
  have hp : ([c] : List UInt8).isPrefixOf (b :: l) = false := by simp [List.isPrefixOf, Ne.symm hb]
  have hix : Lib.index (b :: l) [c] = if Lib.index l [c] == -1 then -1 else Lib.index l [c] + 1 := by rw [Lib.index, hp]; simp
  cases k with
  | zero => rfl
  | succ k =>
    have hge := Lib.index_ge l [c]
    by_cases hm : Lib.index l [c] = -1
    · rw [Lib.splitK, hix, hm, Lib.splitK, hm]; rfl
    · obtain ⟨j, hj⟩ : ∃ j : Nat, Lib.index l [c] = j := ⟨(Lib.index l [c]).toNat, by omega⟩
      have h1 : ((j : Int) == -1) = false := by rw [beq_eq_false_iff_ne]; omega
      have h2 : ((j : Int) + 1 == -1) = false := by rw [beq_eq_false_iff_ne]; omega
      have h3 : ((j : Int) + 1).toNat = j + 1 := by omega
      rw [Lib.splitK, hix, hj, Lib.splitK, hj]
      simp [h1, h2, h3]
theorem splitK_C (c : UInt8) : ∀ l : List UInt8, Lib.splitK [c] 0 (Lib.count l [c]) l = splitC c l
  | [] => by rw [Lib.count_miss (by simp [Lib.index])]; rfl
  | b :: l => by
    rw [splitC]
    split
    · rename_i h
      subst h
      have hix : Lib.index (b :: l) [b] = ((0 : Nat) : Int) := by rw [Lib.index]; simp [List.isPrefixOf]
      rw [Lib.count_cons_eq, show 1 + Lib.count l [b] = Lib.count l [b] + 1 by omega, Lib.splitK, hix]
      simp
      exact splitK_C b l
    · rename_i h
      rw [Lib.count_cons_ne b c l h, splitK_cons h, splitK_C c l]
/-- Numbers in decimal, joined. -/
def numsT (c : UInt8) (l : List Int) : List UInt8 := joinC c (l.map Lib.itoa)
/-- A number without leading zeros. -/
def readN (a : List UInt8) : Option Int := match Lib.atoiAll a with
  | .ok n => if 0 ≤ n ∧ Lib.itoa n = a then some n else Option.none
  | _ => Option.none
theorem readN_itoa {a : List UInt8} {n : Int} (h : readN a = some n) : 0 ≤ n ∧ Lib.itoa n = a := by
  unfold readN at h
  split at h
  · split at h
    · rename_i hh; cases h; exact hh
    · cases h
  · cases h
theorem readN_small {n : Int} (h0 : 0 ≤ n) (h1 : n ≤ 63) : readN (Lib.itoa n) = some n := by
  have : ∀ m : Fin 64, readN (Lib.itoa ((m.val : Nat) : Int)) = some ((m.val : Nat) : Int) := by decide +kernel
  have h := this ⟨n.toNat, by omega⟩
  rwa [show ((n.toNat : Nat) : Int) = n by omega] at h
theorem itoa_digits {n : Int} (h0 : 0 ≤ n) (h1 : n ≤ 63) : ∀ b ∈ Lib.itoa n, 48 ≤ b.toNat ∧ b.toNat ≤ 57 := by
  have : ∀ m : Fin 64, ∀ b ∈ Lib.itoa ((m.val : Nat) : Int), 48 ≤ b.toNat ∧ b.toNat ≤ 57 := by decide +kernel
  have h := this ⟨n.toNat, by omega⟩
  rwa [show ((n.toNat : Nat) : Int) = n by omega] at h
theorem itoa_len {n : Int} (h0 : 0 ≤ n) (h1 : n ≤ 63) : 1 ≤ (Lib.itoa n).length ∧ (Lib.itoa n).length ≤ 2 := by
  have : ∀ m : Fin 64, 1 ≤ (Lib.itoa ((m.val : Nat) : Int)).length ∧ (Lib.itoa ((m.val : Nat) : Int)).length ≤ 2 := by decide +kernel
  have h := this ⟨n.toNat, by omega⟩
  rwa [show ((n.toNat : Nat) : Int) = n by omega] at h
/-- All are read, or none. -/
def allO {α β : Type} (f : α → Option β) : List α → Option (List β)
  | [] => some []
  | a :: r => match f a, allO f r with
    | some n, some l => some (n :: l)
    | _, _ => Option.none
theorem allO_no {α β : Type} {f : α → Option β} {p : List α} {k : Nat} {a : α} (hp : p[k]? = some a) (h : f a = Option.none) : allO f p = Option.none := by
  induction p generalizing k with
  | nil => simp at hp
  | cons x r ih =>
    rw [allO]
    cases k with
    | zero => simp at hp; subst hp; rw [h]
    | succ k => rw [ih (by simpa using hp)]; split <;> simp_all
theorem allO_snoc {α β : Type} {f : α → Option β} : ∀ {p : List α} {a : α} {l : List β} {n : β}, allO f p = some l → f a = some n → allO f (p ++ [a]) = some (l ++ [n])
  | [], a, l, n, h, h1 => by cases h; rw [List.nil_append, allO, h1]; rfl
  | x :: r, a, l, n, h, h1 => by
    rw [allO] at h
    cases h2 : f x with
    | none => rw [h2] at h; cases h
    | some m =>
      cases h3 : allO f r with
      | none => rw [h2, h3] at h; cases h
      | some q =>
        rw [h2, h3] at h
        cases h
        rw [List.cons_append, allO, h2, allO_snoc h3 h1]; rfl
theorem allO_inv {α β : Type} {f : α → Option β} {g : β → α} {P : β → Prop} (hf : ∀ a n, f a = some n → g n = a ∧ P n) : ∀ {p : List α} {l : List β}, allO f p = some l → l.map g = p ∧ ∀ n ∈ l, P n
  | [], l, h => by cases h; exact ⟨rfl, by simp⟩
  | a :: r, l, h => by
    rw [allO] at h
    cases h1 : f a with
    | none => rw [h1] at h; cases h
    | some n =>
      cases h2 : allO f r with
      | none => rw [h1, h2] at h; cases h
      | some q =>
        rw [h1, h2] at h
        cases h
        have h3 := hf a n h1
        have h4 := allO_inv hf h2
        exact ⟨by rw [List.map_cons, h3.1, h4.1], fun x hx => by rcases List.mem_cons.1 hx with rfl | hx; exact h3.2; exact h4.2 x hx⟩
theorem allO_map {α β : Type} {f : α → Option β} {g : β → α} : ∀ {l : List β}, (∀ n ∈ l, f (g n) = some n) → allO f (l.map g) = some l
  | [], _ => rfl
  | n :: r, h => by
    rw [List.map_cons, allO, h n (by simp), allO_map (fun x hx => h x (by simp [hx]))]
abbrev allN : List (List UInt8) → Option (List Int) := allO readN
theorem allN_itoa {p : List (List UInt8)} {l : List Int} (h : allN p = some l) : l.map Lib.itoa = p ∧ ∀ n ∈ l, 0 ≤ n := allO_inv (fun _ _ hn => ⟨(readN_itoa hn).2, (readN_itoa hn).1⟩) h
theorem allN_small {l : List Int} (h : ∀ n ∈ l, 0 ≤ n ∧ n ≤ 63) : allN (l.map Lib.itoa) = some l := allO_map fun n hn => readN_small (h n hn).1 (h n hn).2
/-- The numbers of a text. -/
def numsO (c : UInt8) (s : List UInt8) : Option (List Int) := allN (splitC c s)
theorem nums_text {c : UInt8} {s : List UInt8} {l : List Int} (h : numsO c s = some l) : numsT c l = s := by
  have := (allN_itoa h).1
  unfold numsT
  rw [this, join_split]
theorem nums_parts {c : UInt8} {l : List Int} (hc : c.toNat < 48) (hl : l ≠ []) (h : ∀ n ∈ l, 0 ≤ n ∧ n ≤ 63) : splitC c (numsT c l) = l.map Lib.itoa := by
  refine split_join (by simpa using hl) (fun a ha hca => ?_)
  obtain ⟨n, hn, rfl⟩ := List.mem_map.1 ha
  have := itoa_digits (h n hn).1 (h n hn).2 c hca
  omega
theorem text_nums {c : UInt8} {l : List Int} (hc : c.toNat < 48) (hl : l ≠ []) (h : ∀ n ∈ l, 0 ≤ n ∧ n ≤ 63) : numsO c (numsT c l) = some l := by
  unfold numsO
  rw [nums_parts hc hl h, allN_small h]
theorem numsT_len {c : UInt8} {l : List Int} (h : ∀ n ∈ l, 0 ≤ n ∧ n ≤ 63) : (numsT c l).length ≤ 3 * l.length := by
  unfold numsT
  induction l with
  | nil => simp [joinC]
  | cons n r ih =>
    have h1 := itoa_len (h n (by simp)).1 (h n (by simp)).2
    have ih := ih (fun x hx => h x (by simp [hx]))
    cases r with
    | nil => simp [joinC]; omega
    | cons m q =>
      rw [List.map_cons, joinC_cons _ _ (by simp)]
      simp only [List.length_append, List.length_cons] at ih ⊢
      omega
/-- As the texts are written: a number more. -/
theorem joinC_snoc (c : UInt8) : ∀ (xs : List (List UInt8)) (a : List UInt8), joinC c (xs ++ [a]) = if xs = [] then a else joinC c xs ++ c :: a
  | [], a => rfl
  | [x], a => by simp [joinC]
  | x :: y :: r, a => by
    have ih := joinC_snoc c (y :: r) a
    rw [if_neg (by simp)] at ih ⊢
    rw [List.cons_append, joinC_cons c x (by simp), ih]
    show x ++ c :: (joinC c (y :: r) ++ c :: a) = (x ++ c :: joinC c (y :: r)) ++ c :: a
    simp
theorem numsT_snoc (c : UInt8) (l : List Int) (n : Int) : numsT c (l ++ [n]) = if l = [] then Lib.itoa n else numsT c l ++ c :: Lib.itoa n := by
  unfold numsT
  rw [List.map_append, List.map_cons, List.map_nil, joinC_snoc]
  by_cases h : l = []
  · subst h; rfl
  · rw [if_neg h, if_neg (by simpa using h)]
def isDig (b : UInt8) : Bool := decide (48 ≤ b.toNat) && decide (b.toNat ≤ 57)
def decV (a : List UInt8) : Int := a.foldl (fun n b => 10 * n + ((b.toNat : Int) - 48)) 0
theorem decV_snoc (a : List UInt8) (b : UInt8) : decV (a ++ [b]) = 10 * decV a + ((b.toNat : Int) - 48) := by unfold decV; rw [List.foldl_append]; rfl
/-- A canonical number of at most six digits, else -1. -/
def readR (a : List UInt8) : Int := if inB a.length 1 6 && !(decide (a.head? = some 48) && decide (1 < a.length)) && a.all isDig then decV a else -1
theorem readR_small {n : Int} (h0 : 0 ≤ n) (h1 : n ≤ 63) : readR (Lib.itoa n) = n := by
  have : ∀ m : Fin 64, readR (Lib.itoa ((m.val : Nat) : Int)) = ((m.val : Nat) : Int) := by decide +kernel
  have h := this ⟨n.toNat, by omega⟩
  rwa [show ((n.toNat : Nat) : Int) = n by omega] at h
theorem decV_bd : ∀ (k : Nat) (a : List UInt8), a.length ≤ k → a.all isDig = true → 0 ≤ decV a ∧ decV a < 10 ^ a.length := by
  intro k
  induction k with
  | zero => intro a h _; have : a = [] := List.eq_nil_of_length_eq_zero (by omega)
            subst this; simp [decV]
  | succ k ih =>
    intro a h hd
    rcases List.eq_nil_or_concat a with rfl | ⟨q, b, rfl⟩
    · simp [decV]
    · rw [List.concat_eq_append] at *
      rw [List.all_append, Bool.and_eq_true] at hd
      have h1 := ih q (by simp at h; omega) hd.1
      have h2 : isDig b = true := by simpa using hd.2
      unfold isDig at h2
      rw [Bool.and_eq_true, decide_eq_true_eq, decide_eq_true_eq] at h2
      rw [decV_snoc, List.length_append, List.length_singleton, Int.pow_succ]
      omega
/-- The numbers of a list of signals are read back. -/
theorem sigL_iff {l : List Int} : sigsB l = true ↔ l.length ≤ 100 ∧ ∀ n ∈ l, 0 ≤ n ∧ n ≤ 63 := by
  rw [sigsB_iff]
  unfold allB
  rw [List.all_eq_true]
  refine and_congr Iff.rfl ⟨fun h n hn => inB_iff.1 (h n hn), fun h n hn => inB_iff.2 (h n hn)⟩
def readO (s : List UInt8) : Option (List Int) := if s = [] then some [] else match numsO 32 s with
  | some l => if sigsB l then some l else Option.none
  | Option.none => Option.none
theorem readO_iff {s : List UInt8} {l : List Int} : readO s = some l ↔ sigsB l = true ∧ numsT 32 l = s := by
  constructor
  · intro h
    unfold readO at h
    split at h
    · rename_i hs; cases h; exact ⟨rfl, hs ▸ rfl⟩
    · split at h
      · rename_i q hq
        split at h
        · rename_i hg; cases h; exact ⟨hg, nums_text hq⟩
        · cases h
      · cases h
  · rintro ⟨h1, rfl⟩
    have h2 := (sigL_iff.1 h1).2
    unfold readO
    by_cases hl : l = []
    · subst hl; rfl
    · have h3 := text_nums (c := 32) (by decide) hl h2
      rw [if_neg (fun e => by rw [e] at h3; simp [numsO, splitC, allO, readN, Lib.atoiAll] at h3), h3]
      simp only [h1, if_true]
/-- As the reference reads a list. -/
def refO (s : List UInt8) : Option (List Int) := if s = [] then some [] else
  if sigsB ((splitC 32 s).map readR) && decide (numsT 32 ((splitC 32 s).map readR) = s) then some ((splitC 32 s).map readR) else Option.none
theorem map_readR {l : List Int} (h : ∀ n ∈ l, 0 ≤ n ∧ n ≤ 63) : (l.map Lib.itoa).map readR = l := by
  rw [List.map_map]
  conv => rhs; rw [← List.map_id l]
  exact List.map_congr_left fun n hn => readR_small (h n hn).1 (h n hn).2
theorem refO_eq (s : List UInt8) : refO s = readO s := by
  apply Option.ext
  intro l
  rw [readO_iff]
  unfold refO
  by_cases hs : s = []
  · subst hs
    rw [if_pos rfl]
    constructor
    · intro h; cases h; exact ⟨rfl, rfl⟩
    · rintro ⟨h1, h2⟩
      have h3 := (readO_iff (s := [])).2 ⟨h1, h2⟩
      unfold readO at h3
      rw [if_pos rfl] at h3; exact h3
  · rw [if_neg hs]
    constructor
    · intro h
      split at h
      · rename_i hc
        rw [Bool.and_eq_true, decide_eq_true_eq] at hc
        cases h; exact hc
      · cases h
    · rintro ⟨h1, h2⟩
      have h3 := (sigL_iff.1 h1).2
      have hl : l ≠ [] := fun e => hs (by rw [← h2, e]; rfl)
      have h4 : (splitC 32 s).map readR = l := by rw [← h2, nums_parts (by decide) hl h3, map_readR h3]
      rw [h4, h1, h2]
      simp
end Go.Proofs.YtjnkdjokbamibaaGreatDoor
