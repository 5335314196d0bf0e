/- Contracts of MovementsOf and NearestSignals, of the program and of the reference. -/
import Derived.Test.YtfkgfioghfmmnaaB3
import Derived.Test.YtfkgfioghfmmnaaM4
namespace Go.Proofs.Ytfkgfioghfmmnaa
open Go.RowKit
def sigsB (xs : List Int) : Bool := lenB xs 100 && allB xs 0 63
theorem sigsB_iff {xs : List Int} : sigsB xs = true ↔ xs.length ≤ 100 ∧ allB xs 0 63 = true := by simp [sigsB, lenB]
theorem areSignals_any (xs : List Int) (v : Value) (hi : Nat) (w : World) (h : RdI w hi v xs) : Calls Try.prog 70 #[v] w fun e w' => e = .returned (.bool (sigsB xs)) ∧ w = w' := by
  obtain ⟨A, c, hv, hc, hm⟩ := Rd.form h
  have H := Lib.hid h
  clear h
  by_cases hl : xs.length ≤ 100
  · have e : sigsB xs = allB xs 0 63 := by simp [sigsB, lenB, hl]
    rw [e]; clear e
    subst hv
    go_enter Try.func70, Try.ntmps70
    go_wp2_with (go_at_call 81; refine (allWithin_any xs _ _ _ hi _ H.out).mono ?_; rintro e w' ⟨rfl, rfl⟩)
    go_ret
    exact ⟨rfl, rfl⟩
  · have e : sigsB xs = false := by simp [sigsB, lenB, hl]
    rw [e]; clear e
    subst hv
    go_enter Try.func70, Try.ntmps70
    go_wp2_with (go_at_call 81; refine (allWithin_any xs _ _ _ hi _ H.out).mono ?_; rintro e w' ⟨rfl, rfl⟩)
    go_ret
    exact ⟨rfl, rfl⟩
theorem sgList_any (xs : List Int) (v : Value) (hi : Nat) (w : World) (h : RdI w hi v xs) : Calls Try.prog 68 #[v] w fun e w' => e = .returned (.bool (sigsB xs)) ∧ w = w' := by
  obtain ⟨A, c, hv, hc, hm⟩ := Rd.form h
  have H := Lib.hid h
  clear h
  by_cases hl : xs.length ≤ 100
  · have e : sigsB xs = allB xs 0 63 := by simp [sigsB, lenB, hl]
    rw [e]; clear e
    subst hv
    go_enter Try.func68, Try.ntmps68
    go_wp2_with (go_at_call 79; refine (l1All_any xs _ _ _ hi _ H.out).mono ?_; rintro e w' ⟨rfl, rfl⟩)
    go_ret
    exact ⟨rfl, rfl⟩
  · have e : sigsB xs = false := by simp [sigsB, lenB, hl]
    rw [e]; clear e
    subst hv
    go_enter Try.func68, Try.ntmps68
    go_wp2_with (go_at_call 79; refine (l1All_any xs _ _ _ hi _ H.out).mono ?_; rintro e w' ⟨rfl, rfl⟩)
    go_ret
    exact ⟨rfl, rfl⟩
/-- How many shutters move from a on. -/
def movesM : Int → List Int → Nat
  | _, [] => 0
  | a, x :: r => distM a.toNat x.toNat + movesM x r
theorem movesM_snoc (a : Int) (l : List Int) (y : Int) : movesM a (l ++ [y]) = movesM a l + distM (l.getLastD a).toNat y.toNat := by
  induction l generalizing a with
  | nil => simp [movesM]
  | cons x r ih =>
    simp only [List.cons_append, movesM, ih, List.getLastD_cons]
    omega
theorem movesM_le (a : Int) (l : List Int) : movesM a l ≤ 6 * l.length := by
  induction l generalizing a with
  | nil => simp [movesM]
  | cons x r ih => simp only [movesM, List.length_cons]; have := ih x; have := distM_le a.toNat x.toNat; omega
theorem last_bd {xs : List Int} {k : Nat} (hb : allB xs 0 63 = true) : 0 ≤ (xs.take k).getLastD 0 ∧ (xs.take k).getLastD 0 ≤ 63 := by
  have h := allB_takeT hb k
  generalize xs.take k = l at h
  match l, h with
  | [], _ => decide
  | a :: r, h =>
    have hm : (a :: r).getLast (by simp) ∈ a :: r := List.getLast_mem _
    unfold allB at h; rw [List.all_eq_true] at h
    have := inB_iff.1 (h _ hm)
    simpa [List.getLastD_eq_getLast?, List.getLast?_eq_some_getLast] using this
theorem moves_step {xs : List Int} {k : Nat} {y : Int} (h : xs[k]? = some y) (a : Int) : movesM a (xs.take (k + 1)) = movesM a (xs.take k) + distM ((xs.take k).getLastD a).toNat y.toNat ∧ (xs.take (k + 1)).getLastD a = y := by
  rw [take_snocI h, movesM_snoc]; exact ⟨rfl, by simp [List.getLastD_eq_getLast?]⟩
def movesT (xs : List Int) : Value := if sigsB xs then .tuple #[.int .i64 ((movesM 0 (xs ++ [0]) : Nat) : Int), .bool true] else .tuple #[.int .i64 0, .bool false]
set_option maxHeartbeats 400000 in
theorem MovementsOf_any (xs : List Int) (v : Value) (hi : Nat) (w : World) (h : RdI w hi v xs) : Calls Try.prog 34 #[v] w fun e w' => e = .returned (movesT xs) ∧ w = w' := by
  have H := Lib.hid h
  cases hs : sigsB xs
  · clear h
    go_enter Try.func34, Try.ntmps34
    go_wp2_with (go_at_call 70; refine (areSignals_any xs _ hi _ H.out).mono ?_; rintro e w' ⟨rfl, rfl⟩)
    go_ret2
    exact ⟨ret_val (by simp [movesT, hs]), rfl⟩
  · obtain ⟨hl, hb⟩ := sigsB_iff.1 hs
    have HB := Lib.hid hb
    obtain ⟨A, c, rfl, hc, hm⟩ := Rd.form h
    clear hb h
    go_enter Try.func34, Try.ntmps34
    go_wp2_with (go_at_call 70; refine (areSignals_any xs _ hi _ H.out).mono ?_; rintro e w' ⟨rfl, rfl⟩)
    go_loop [4, 5, 13] (fun s q i => ∃ (k p : Nat) (z : Int), k ≤ xs.length ∧ i = .int .i64 k ∧ Hid (p = movesM 0 (xs.take k)) ∧ s = .int .i64 (p : Int) ∧ p ≤ 6 * k ∧ Hid (z = (xs.take k).getLastD 0) ∧ q = .int .i64 z ∧ 0 ≤ z ∧ z ≤ 63) (fun _ _ i => xs.length - (intOf i).toNat)
    case atStart => exact ⟨0, 0, 0, Nat.zero_le _, rfl, rfl, rfl, by omega, rfl, rfl, by omega, by omega⟩
    case round =>
      obtain ⟨k, p, z, hk, rfl, hp, rfl, hp6, hz, rfl, hz0, hz1⟩ := hrel
      by_cases hlt : k < xs.length
      · obtain ⟨b1, o1, c1, y, hv, _, hy, hcell1⟩ := Rd.at_ H.out hlt
        cases hv
        have hym := allB_mem hy HB.out
        have HY := Lib.hid hy
        clear hy
        obtain ⟨z, rfl⟩ := Int.eq_ofNat_of_zero_le hz0
        obtain ⟨y, rfl⟩ := Int.eq_ofNat_of_zero_le hym.1
        have hd := distM_le z y
        go_wp2_with (go_at_call 71; refine (distanceOf_any z y (by omega) (by omega) _).mono ?_; rintro e w' ⟨rfl, rfl⟩)
        go_round
        case rel => exact ⟨k + 1, p + distM z y, (y : Int), by omega, by go_num, by rw [(moves_step HY.out 0).1, ← hp.out, ← hz.out]; rfl, int_val (by omega), by omega, (moves_step HY.out 0).2.symm, rfl, by omega, by omega⟩
        case measure => simp [intOf]; omega
      · obtain rfl : k = xs.length := by omega
        obtain ⟨z, rfl⟩ := Int.eq_ofNat_of_zero_le hz0
        have hd := distM_le z 0
        go_wp2_with (go_at_call 71; refine (distanceOf_any z 0 (by omega) (by omega) _).mono ?_; rintro e w' ⟨rfl, rfl⟩)
        go_ret2
        refine ⟨ret_val ?_, rfl⟩
        have e1 := hp.out
        have e2 := hz.out
        rw [List.take_of_length_le (Nat.le_refl _)] at e1 e2
        unfold movesT
        rw [hs, if_pos rfl, movesM_snoc, ← e1, ← e2]
        rfl
set_option maxHeartbeats 800000 in
theorem sgMoves_any (xs : List Int) (v : Value) (hi : Nat) (w : World) (h : RdI w hi v xs) (hhi : hi ≤ w.heap.size) (hl : xs.length ≤ 100) (hb : allB xs 0 63 = true) :
    Calls Try.prog 69 #[v] w fun e w' => e = .returned (.int .i64 ((movesM 0 (xs ++ [0]) : Nat) : Int)) ∧ Below w.heap.size w w' := by
  have H := Lib.hid h
  have hb' : allB (xs ++ [0]) 0 63 = true := by unfold allB at *; rw [List.all_append, hb]; rfl
  have HB := Lib.hid hb'
  clear h hb hb'
  have hLL : (xs ++ [(0 : Int)]).length = xs.length + 1 := by simp
  have HL := Lib.hid hLL
  obtain ⟨ys, hys⟩ : ∃ ys, ys = xs ++ [(0 : Int)] := ⟨_, rfl⟩
  rw [← hys] at HB HL ⊢
  have HYS := Lib.hid hys
  have hlen : ys.length ≤ 101 := by rw [HL.out]; omega
  clear hLL hys
  go_enter Try.func69, Try.ntmps69
  go_wp2_with fail
  refine (l1Own_any xs _ hi _ H.out hhi (by omega)).mono ?_
  rintro e w1 ⟨u, rfl, hu, hb1⟩
  have hG : GrowI w w.heap.size w1 u xs := ⟨hu.1, hb1, hb1.size⟩
  clear hu hb1
  go_wp2_with (at_builtin; refine GrowI.app rfl (.tmp 8) (.tmp 9) rfl hG (by omega) rfl rfl ?_; rw [← HYS.out]; intro v' w2 hG'; obtain ⟨A, c, rfl, hc⟩ := hG'.own.form)
  have HR := Lib.hid hG'.own.rd
  have hbw := hG'.bel
  clear hG hG'
  go_loopw [3, 4, 12] (fun s q i wr => ∃ (k p : Nat) (z : Int), k ≤ ys.length ∧ i = .int .i64 k ∧ Hid (p = movesM 0 (ys.take k)) ∧ s = .int .i64 (p : Int) ∧ p ≤ 6 * k ∧ Hid (z = (ys.take k).getLastD 0) ∧ q = .int .i64 z ∧ 0 ≤ z ∧ z ≤ 63 ∧ Below w2.heap.size w2 wr) (fun _ _ i _ => ys.length - (intOf i).toNat)
  case atStart => exact ⟨0, 0, 0, Nat.zero_le _, rfl, rfl, rfl, by omega, rfl, rfl, by omega, by omega, Below.refl _ _⟩
  case round =>
    obtain ⟨k, p, z, hk, rfl, hp, rfl, hp6, hz, rfl, hz0, hz1, hbr⟩ := hrel
    by_cases hlt : k < ys.length
    · obtain ⟨b1, o1, c1, y, hv, _, hy, hcell1⟩ := Rd.at_ (Rd.below HR.out hbr (Nat.le_refl _)) hlt
      cases hv
      have hym := allB_mem hy HB.out
      have HY := Lib.hid hy
      clear hy
      obtain ⟨z, rfl⟩ := Int.eq_ofNat_of_zero_le hz0
      obtain ⟨y, rfl⟩ := Int.eq_ofNat_of_zero_le hym.1
      have hd := distM_le z y
      go_wp2_with fail
      refine (sgDistance_any z y (by omega) (by omega) _).mono ?_
      rintro e w3 ⟨rfl, hb3⟩
      go_wp2
      go_roundw
      case rel => exact ⟨k + 1, p + distM z y, (y : Int), by omega, by go_num, by rw [(moves_step HY.out 0).1, ← hp.out, ← hz.out]; rfl, int_val (by omega), by omega, (moves_step HY.out 0).2.symm, rfl, by omega, by omega, hbr.trans (hb3.mono hbr.size)⟩
      case measure => simp [intOf]; omega
    · obtain rfl : k = ys.length := by omega
      have hbz := hbw.trans (hbr.mono hbw.size)
      go_wp2
      go_ret
      have e1 := hp.out
      rw [List.take_of_length_le (Nat.le_refl _)] at e1
      exact ⟨ret_int (by rw [e1]), hbz⟩
theorem sMovementsOf_any (xs : List Int) (v : Value) (hi : Nat) (w : World) (h : RdI w hi v xs) (hhi : hi ≤ w.heap.size) : Calls Try.prog 33 #[v] w fun e w' => e = .returned (movesT xs) ∧ Below w.heap.size w w' := by
  have H := Lib.hid h
  clear h
  cases hs : sigsB xs
  · go_enter Try.func33, Try.ntmps33
    go_wp2_with (go_at_call 68; refine (sgList_any xs _ hi _ H.out).mono ?_; rintro e w' ⟨rfl, rfl⟩)
    go_ret2
    exact ⟨ret_val (by simp [movesT, hs]), Below.refl _ _⟩
  · obtain ⟨hl, hb⟩ := sigsB_iff.1 hs
    have HB := Lib.hid hb
    clear hb
    go_enter Try.func33, Try.ntmps33
    go_wp2_with (first | (go_at_call 68; refine (sgList_any xs _ hi _ H.out).mono ?_; rintro e w' ⟨rfl, rfl⟩) | (go_at_call 69; refine (sgMoves_any xs _ hi _ H.out hhi hl HB.out).mono ?_; rintro e w1 ⟨rfl, hb1⟩))
    go_ret2
    exact ⟨ret_val (by simp [movesT, hs]), hb1⟩
/-- The places of the number c among the first k. -/
def nearI (ds : List Nat) (c : Nat) (k : Nat) : List Int := ((List.range k).filter fun i => ds[i]? == some c).map fun i : Nat => (i : Int)
theorem nearI_len (ds : List Nat) (c k : Nat) : (nearI ds c k).length ≤ k := by
  unfold nearI; rw [List.length_map]; have := List.length_filter_le (fun i => ds[i]? == some c) (List.range k); simpa using this
theorem nearI_yes {ds : List Nat} {c k : Nat} (h : ds[k]? = some c) : nearI ds c (k + 1) = nearI ds c k ++ [(k : Int)] := by simp [nearI, List.range_succ, h]
theorem nearI_no {ds : List Nat} {c d k : Nat} (h : ds[k]? = some d) (hne : d ≠ c) : nearI ds c (k + 1) = nearI ds c k := by simp [nearI, List.range_succ, h, hne]
def leastD (ds : List Nat) (m : Nat) : Nat := ds.foldl min m
theorem take_snocN {α : Type} {xs : List α} {k : Nat} {y : α} (h : xs[k]? = some y) : xs.take (k + 1) = xs.take k ++ [y] := by rw [List.take_add_one, h]; rfl
theorem leastD_step {ds : List Nat} {m k d : Nat} (h : ds[k]? = some d) : leastD (ds.take (k + 1)) m = min (leastD (ds.take k) m) d := by
  unfold leastD; rw [take_snocN h, List.foldl_append]; rfl
theorem leastD_le_mem (ds : List Nat) (m : Nat) : leastD ds m ≤ m ∧ ∀ d ∈ ds, leastD ds m ≤ d := by
  unfold leastD
  induction ds generalizing m with
  | nil => simp
  | cons x r ih =>
    have h := ih (min m x)
    simp only [List.foldl_cons, List.mem_cons]
    refine ⟨by omega, fun d hd => ?_⟩
    rcases hd with rfl | hd
    · omega
    · exact h.2 d hd
theorem nearI_new {ds : List Nat} {k d : Nat} (h : d < leastD (ds.take k) 7) : nearI ds d k = [] := by
  unfold nearI
  rw [List.map_eq_nil_iff, List.filter_eq_nil_iff]
  intro i hi hc
  rw [List.mem_range] at hi
  have hd : ds[i]? = some d := by simpa using hc
  have hm : d ∈ ds.take k := List.mem_of_getElem? (by rw [List.getElem?_take, if_pos hi]; exact hd)
  have := (leastD_le_mem (ds.take k) 7).2 d hm
  omega
/-- The distances of the elements from n. -/
def distL (n : Nat) (xs : List Int) : List Nat := xs.map fun x => distM n x.toNat
theorem distL_at {n : Nat} {xs : List Int} {k y : Nat} (h : xs[k]? = some (y : Int)) : (distL n xs)[k]? = some (distM n y) := by simp [distL, h]
theorem least76 {ds : List Nat} (h : ∀ d ∈ ds, d ≤ 6) (hne : ds ≠ []) : leastD ds 7 = leastD ds 6 := by
  match ds, hne with
  | d :: r, _ =>
    have := h d (List.mem_cons_self ..)
    unfold leastD
    simp only [List.foldl_cons]
    rw [show min 7 d = d by omega, show min 6 d = d by omega]
def nearL (n : Int) (xs : List Int) : List Int := if inB n 0 63 && sigsB xs && !xs.isEmpty then nearI (distL n.toNat xs) (leastD (distL n.toNat xs) 6) xs.length else []
def nearB (n : Int) (xs : List Int) : Bool := inB n 0 63 && sigsB xs && !xs.isEmpty
theorem GrowI.belowR {w wr wr' : World} {B : Nat} {v : Value} {xs : List Int} (h : GrowI w B wr v xs) (hb : Below wr.heap.size wr wr') : GrowI w B wr' v xs :=
  ⟨(h.own.below hb (Nat.le_refl _)).1, h.2.1.trans (hb.mono h.2.2), Nat.le_trans h.2.2 hb.size⟩
theorem GrowI.nil {w wr : World} (hb : Below w.heap.size w wr) : GrowI w w.heap.size wr (.slice Option.none 0 0) [] := ⟨World.ownsRow_nil _ _ _ _, hb, hb.size⟩
theorem retOwT {w wr : World} {v : Value} {xs : List Int} (b : Bool) (h : GrowI w w.heap.size wr v xs) : RetOwT xs b w (.returned (.tuple #[v, .bool b])) wr := ⟨v, rfl, h.own, h.bel⟩
theorem retOwT_eq {w w' : World} {e : Ending} {xs ys : List Int} {b : Bool} (h : RetOwT xs b w e w') (hx : xs = ys) : RetOwT ys b w e w' := by rw [← hx]; exact h
set_option maxHeartbeats 800000 in
theorem NearestSignals_any (n : Int) (xs : List Int) (v : Value) (hi : Nat) (w : World) (h : RdI w hi v xs) (hhi : hi ≤ w.heap.size) : Calls Try.prog 40 #[.int .i64 n, v] w (RetOwT (nearL n xs) (nearB n xs) w) := by
  have H := Lib.hid h
  obtain ⟨A, c, rfl, hc, hm⟩ := Rd.form h
  clear h
  cases ha : inB n 0 63
  · have e : nearL n xs = [] ∧ nearB n xs = false := by simp [nearL, nearB, ha]
    rw [e.1, e.2]; clear e
    go_enter Try.func40, Try.ntmps40
    go_wp2_with (first | (go_at_call 55; refine (isSignal_any _ _).mono ?_; rintro e w' ⟨rfl, rfl⟩) | (go_at_call 70; refine (areSignals_any xs _ hi _ H.out).mono ?_; rintro e w' ⟨rfl, rfl⟩))
    go_ret2
    exact retOwT_nil w false
  · cases hs : sigsB xs
    · have e : nearL n xs = [] ∧ nearB n xs = false := by simp [nearL, nearB, hs]
      rw [e.1, e.2]; clear e
      go_enter Try.func40, Try.ntmps40
      go_wp2_with (first | (go_at_call 55; refine (isSignal_any _ _).mono ?_; rintro e w' ⟨rfl, rfl⟩) | (go_at_call 70; refine (areSignals_any xs _ hi _ H.out).mono ?_; rintro e w' ⟨rfl, rfl⟩))
      go_ret2
      exact retOwT_nil w false
    · rcases Nat.eq_zero_or_pos xs.length with h0 | hpos
      · have hx : xs = [] := List.eq_nil_of_length_eq_zero h0
        subst hx
        have e : nearL n [] = [] ∧ nearB n [] = false := by simp [nearL, nearB]
        rw [e.1, e.2]; clear e
        go_enter Try.func40, Try.ntmps40
        go_wp2_with (first | (go_at_call 55; refine (isSignal_any _ _).mono ?_; rintro e w' ⟨rfl, rfl⟩) | (go_at_call 70; refine (areSignals_any [] _ hi _ H.out).mono ?_; rintro e w' ⟨rfl, rfl⟩))
        go_ret2
        exact retOwT_nil w false
      · obtain ⟨h0, h1⟩ := inB_iff.1 ha
        obtain ⟨n, rfl⟩ := Int.eq_ofNat_of_zero_le h0
        obtain ⟨hl, hb⟩ := sigsB_iff.1 hs
        have HB := Lib.hid hb
        have hne : xs.isEmpty = false := by cases xs <;> simp_all
        have e : nearL (n : Int) xs = nearI (distL n xs) (leastD (distL n xs) 6) xs.length ∧ nearB (n : Int) xs = true := by simp [nearL, nearB, ha, hs, hne]
        have hz : (((xs.length : Nat) : Int) == 0) = false := by rw [beq_eq_false_iff_ne]; omega
        rw [e.1, e.2]; clear e hb hne
        go_enter Try.func40, Try.ntmps40
        go_wp2_with (first | (go_at_call 55; refine (isSignal_any _ _).mono ?_; rintro e w' ⟨rfl, rfl⟩) | (go_at_call 70; refine (areSignals_any xs _ hi _ H.out).mono ?_; rintro e w' ⟨rfl, rfl⟩))
        go_loopw [6, 7, 26] (fun m u i wr => ∃ (k p : Nat), k ≤ xs.length ∧ i = .int .i64 k ∧ Hid (p = leastD ((distL n xs).take k) 7) ∧ m = .int .i64 (p : Int) ∧ p ≤ 7 ∧ GrowI w w.heap.size wr u (nearI (distL n xs) p k)) (fun _ _ i _ => xs.length - (intOf i).toNat)
        case atStart => exact ⟨0, 7, Nat.zero_le _, rfl, rfl, rfl, by omega, GrowI.start w⟩
        case round =>
          obtain ⟨k, p, hk, rfl, hp, rfl, hp7, hG⟩ := hrel
          by_cases hlt : k < xs.length
          · obtain ⟨b1, o1, c1, y, hv, _, hy, hcell1⟩ := Rd.at_ (Rd.below H.out hG.bel hhi) hlt
            cases hv
            have hym := allB_mem hy HB.out
            obtain ⟨y, rfl⟩ := Int.eq_ofNat_of_zero_le hym.1
            have hd := distM_le n y
            have hl0 := nearI_len (distL n xs) p k
            have HY := Lib.hid (distL_at (n := n) hy)
            clear hy
            have hmn := leastD_step (m := 7) HY.out
            rw [← hp.out] at hmn
            have HM := Lib.hid hmn
            clear hmn
            rcases Nat.lt_trichotomy (distM n y) p with hdp | hdp | hdp
            · have hq1 : ((distM n y : Nat) : Int) < (p : Int) := by omega
              have hnew := nearI_new (show distM n y < leastD ((distL n xs).take k) 7 by rw [← hp.out]; exact hdp)
              have HN := Lib.hid hnew
              have hG0 := GrowI.nil hG.bel
              rw [← hnew] at hG0
              clear hnew
              have hl1 := nearI_len (distL n xs) (distM n y) k
              go_wp2_with (first | (go_at_call 71; refine (distanceOf_any n y (by omega) (by omega) _).mono ?_; rintro e w' ⟨rfl, rfl⟩) | (at_builtin; refine GrowI.app rfl (.tmp 41) (.tmp 43) rfl hG0 (by omega) rfl rfl ?_; intro v' w2 hG'))
              go_roundw
              case rel => exact ⟨k + 1, distM n y, by omega, by go_num, by rw [HM.out]; show _ = _; omega, rfl, by omega, by rw [nearI_yes HY.out]; exact hG'⟩
              case measure => simp [intOf]; omega
            · have hq1 : ¬ ((distM n y : Nat) : Int) < (p : Int) := by omega
              have hq2 : (((distM n y : Nat) : Int) == (p : Int)) = true := by rw [beq_iff_eq]; omega
              have HD := Lib.hid hdp
              clear hdp
              go_wp2_with (first | (go_at_call 71; refine (distanceOf_any n y (by omega) (by omega) _).mono ?_; rintro e w' ⟨rfl, rfl⟩) | (at_builtin; refine GrowI.app rfl (.tmp 41) (.tmp 43) rfl hG (by omega) rfl rfl ?_; intro v' w2 hG'))
              go_roundw
              case rel => exact ⟨k + 1, p, by omega, by go_num, by have := HM.out; have := HD.out; show _ = _; omega, rfl, by omega, by rw [nearI_yes (by rw [← HD.out]; exact HY.out)]; exact hG'⟩
              case measure => simp [intOf]; omega
            · have hq1 : ¬ ((distM n y : Nat) : Int) < (p : Int) := by omega
              have hq2 : (((distM n y : Nat) : Int) == (p : Int)) = false := by rw [beq_eq_false_iff_ne]; omega
              go_wp2_with (first | (go_at_call 71; refine (distanceOf_any n y (by omega) (by omega) _).mono ?_; rintro e w' ⟨rfl, rfl⟩))
              go_roundw
              case rel => exact ⟨k + 1, p, by omega, by go_num, by have := HM.out; show _ = _; omega, rfl, by omega, by rw [nearI_no HY.out (by omega)]; exact hG⟩
              case measure => simp [intOf]; omega
          · obtain rfl : k = xs.length := by omega
            go_wp2
            go_ret2
            refine retOwT_eq (retOwT true hG) ?_
            rw [hp.out, List.take_of_length_le (by simp [distL]), least76 ?_ ?_]
            · intro d hd
              simp only [distL, List.mem_map] at hd
              obtain ⟨x, _, rfl⟩ := hd
              exact distM_le _ _
            · intro h0
              have e1 : (distL n xs).length = xs.length := by simp [distL]
              rw [h0] at e1
              simp at e1
              omega
theorem l1Least_any (a b : Nat) (w : World) : Calls Try.prog 75 #[.int .i64 (a : Int), .int .i64 (b : Int)] w fun e w' => e = .returned (.int .i64 ((min a b : Nat) : Int)) ∧ w = w' := by
  by_cases h : a < b
  · have e : min a b = a := by omega
    rw [e]; clear e
    go_enter Try.func75, Try.ntmps75
    go_wp2
    go_ret
    exact ⟨rfl, rfl⟩
  · have e : min a b = b := by omega
    rw [e]; clear e
    go_enter Try.func75, Try.ntmps75
    go_wp2
    go_ret
    exact ⟨rfl, rfl⟩
set_option maxHeartbeats 800000 in
theorem sNearestSignals_any (n : Int) (xs : List Int) (v : Value) (hi : Nat) (w : World) (h : RdI w hi v xs) (hhi : hi ≤ w.heap.size) : Calls Try.prog 39 #[.int .i64 n, v] w (RetOwT (nearL n xs) (nearB n xs) w) := by
  have H := Lib.hid h
  obtain ⟨A, c, rfl, hc, hm⟩ := Rd.form h
  clear h
  cases ha : inB n 0 63
  · have e : nearL n xs = [] ∧ nearB n xs = false := by simp [nearL, nearB, ha]
    rw [e.1, e.2]; clear e
    go_enter Try.func39, Try.ntmps39
    go_wp2_with (first | (go_at_call 53; refine (sgGood_any _ _).mono ?_; rintro e w' ⟨rfl, rfl⟩) | (go_at_call 68; refine (sgList_any xs _ hi _ H.out).mono ?_; rintro e w' ⟨rfl, rfl⟩))
    go_ret2
    exact retOwT_nil w false
  · cases hs : sigsB xs
    · have e : nearL n xs = [] ∧ nearB n xs = false := by simp [nearL, nearB, hs]
      rw [e.1, e.2]; clear e
      go_enter Try.func39, Try.ntmps39
      go_wp2_with (first | (go_at_call 53; refine (sgGood_any _ _).mono ?_; rintro e w' ⟨rfl, rfl⟩) | (go_at_call 68; refine (sgList_any xs _ hi _ H.out).mono ?_; rintro e w' ⟨rfl, rfl⟩))
      go_ret2
      exact retOwT_nil w false
    · rcases Nat.eq_zero_or_pos xs.length with h0 | hpos
      · have hx : xs = [] := List.eq_nil_of_length_eq_zero h0
        subst hx
        have e : nearL n [] = [] ∧ nearB n [] = false := by simp [nearL, nearB]
        rw [e.1, e.2]; clear e
        go_enter Try.func39, Try.ntmps39
        go_wp2_with (first | (go_at_call 53; refine (sgGood_any _ _).mono ?_; rintro e w' ⟨rfl, rfl⟩) | (go_at_call 68; refine (sgList_any [] _ hi _ H.out).mono ?_; rintro e w' ⟨rfl, rfl⟩))
        go_ret2
        exact retOwT_nil w false
      · obtain ⟨h0, h1⟩ := inB_iff.1 ha
        obtain ⟨n, rfl⟩ := Int.eq_ofNat_of_zero_le h0
        obtain ⟨hl, hb⟩ := sigsB_iff.1 hs
        have HB := Lib.hid hb
        have hne : xs.isEmpty = false := by cases xs <;> simp_all
        have e : nearL (n : Int) xs = nearI (distL n xs) (leastD (distL n xs) 6) xs.length ∧ nearB (n : Int) xs = true := by simp [nearL, nearB, ha, hs, hne]
        have hz : (((xs.length : Nat) : Int) == 0) = false := by rw [beq_eq_false_iff_ne]; omega
        rw [e.1, e.2]; clear e hb hne
        go_enter Try.func39, Try.ntmps39
        go_wp2_with (first | (go_at_call 53; refine (sgGood_any _ _).mono ?_; rintro e w' ⟨rfl, rfl⟩) | (go_at_call 68; refine (sgList_any xs _ hi _ H.out).mono ?_; rintro e w' ⟨rfl, rfl⟩))
        go_loopw [6, 27] (fun m i wr => ∃ (k p : Nat), k ≤ xs.length ∧ i = .int .i64 k ∧ Hid (p = leastD ((distL n xs).take k) 6) ∧ m = .int .i64 (p : Int) ∧ p ≤ 6 ∧ Below w.heap.size w wr) (fun _ i _ => xs.length - (intOf i).toNat)
        case atStart => exact ⟨0, 6, Nat.zero_le _, rfl, rfl, rfl, by omega, Below.refl _ _⟩
        case round =>
          obtain ⟨k, p, hk, rfl, hp, rfl, hp7, hbr⟩ := hrel
          by_cases hlt : k < xs.length
          · obtain ⟨b1, o1, c1, y, hv, _, hy, hcell1⟩ := Rd.at_ (Rd.below H.out hbr hhi) hlt
            cases hv
            have hym := allB_mem hy HB.out
            obtain ⟨y, rfl⟩ := Int.eq_ofNat_of_zero_le hym.1
            have hd := distM_le n y
            have HY := Lib.hid (distL_at (n := n) hy)
            clear hy
            have hmn := leastD_step (m := 6) HY.out
            rw [← hp.out] at hmn
            have HM := Lib.hid hmn
            clear hmn
            have hsz := hbr.size
            go_wp2_with (first | (go_at_call 76; refine (sgDistance_any n y (by omega) (by omega) _).mono ?_; rintro e w3 ⟨rfl, hb3⟩) | (go_at_call 75; refine (l1Least_any p (distM n y) _).mono ?_; rintro e w' ⟨rfl, rfl⟩))
            go_roundw
            case rel => exact ⟨k + 1, min p (distM n y), by omega, by go_num, by rw [HM.out]; exact rfl, rfl, by omega, hbr.trans (hb3.mono hsz)⟩
            case measure => simp [intOf]; omega
          · obtain rfl : k = xs.length := by omega
            have hp' : p = leastD (distL n xs) 6 := by rw [hp.out, List.take_of_length_le (by simp [distL])]
            have HP := Lib.hid hp'
            clear hp'
            obtain ⟨wo, rfl⟩ : ∃ wo : World, wo = wr := ⟨_, rfl⟩
            go_wp2
            go_loopw [9, 39] (fun u i wr => ∃ (k : Nat), k ≤ xs.length ∧ i = .int .i64 k ∧ GrowI w w.heap.size wr u (nearI (distL n xs) p k)) (fun _ i _ => xs.length - (intOf i).toNat)
            case atStart => exact ⟨0, Nat.zero_le _, rfl, GrowI.nil hbr⟩
            case round =>
              obtain ⟨k, hk, rfl, hG⟩ := hrel
              by_cases hlt : k < xs.length
              · obtain ⟨b1, o1, c1, y, hv, _, hy, hcell1⟩ := Rd.at_ (Rd.below H.out hG.bel hhi) hlt
                cases hv
                have hym := allB_mem hy HB.out
                obtain ⟨y, rfl⟩ := Int.eq_ofNat_of_zero_le hym.1
                have hd := distM_le n y
                have HY := Lib.hid (distL_at (n := n) hy)
                clear hy
                have hl0 := nearI_len (distL n xs) p k
                by_cases hdp : distM n y = p
                · have hq2 : (((distM n y : Nat) : Int) == (p : Int)) = true := by rw [beq_iff_eq]; omega
                  have HD := Lib.hid hdp
                  clear hdp
                  go_wp2_with fail
                  refine (sgDistance_any n y (by omega) (by omega) _).mono ?_
                  rintro e w3 ⟨rfl, hb3⟩
                  have hG3 := hG.belowR hb3
                  clear hcell1
                  go_wp2_with (at_builtin; refine GrowI.app rfl (.tmp 49) (.tmp 51) rfl hG3 (by omega) rfl rfl ?_; intro v' w2 hG')
                  go_roundw
                  case rel => exact ⟨k + 1, by omega, by go_num, by rw [nearI_yes (by rw [← HD.out]; exact HY.out)]; exact hG'⟩
                  case measure => simp [intOf]; omega
                · have hq2 : (((distM n y : Nat) : Int) == (p : Int)) = false := by rw [beq_eq_false_iff_ne]; omega
                  go_wp2_with fail
                  refine (sgDistance_any n y (by omega) (by omega) _).mono ?_
                  rintro e w3 ⟨rfl, hb3⟩
                  have hG3 := hG.belowR hb3
                  go_wp2
                  go_roundw
                  case rel => exact ⟨k + 1, by omega, by go_num, by rw [nearI_no HY.out hdp]; exact hG3⟩
                  case measure => simp [intOf]; omega
              · obtain rfl : k = xs.length := by omega
                go_wp2
                go_ret2
                exact retOwT_eq (retOwT true hG) (by rw [HP.out])
theorem nearL_len (n : Int) (xs : List Int) : (nearL n xs).length ≤ 100 := by
  unfold nearL
  split
  · rename_i h
    simp only [Bool.and_eq_true] at h
    have := nearI_len (distL n.toNat xs) (leastD (distL n.toNat xs) 6) xs.length
    have := (sigsB_iff.1 h.1.2).1
    omega
  · simp
end Go.Proofs.Ytfkgfioghfmmnaa
