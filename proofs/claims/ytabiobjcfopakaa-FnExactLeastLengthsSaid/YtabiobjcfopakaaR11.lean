/- Contracts: LeastLengths and LeastCost of the program; what the lengths are. -/
import Derived.Test.YtabiobjcfopakaaR10
namespace Go.Proofs.Ytabiobjcfopakaa
open Go.RowKit
/-- The place of an index in the order has the length that was found for it. -/
theorem layK_at {os : List Nat} {n : Nat} {l : List Nat} (hn : os.Nodup) (ho : ∀ i ∈ os, i < n) : ∀ (m : Nat), m ≤ os.length → m ≤ l.length → ∀ (k i x : Nat), k < m → os[k]? = some i → l[k]? = some x → (layK os n l m)[i]? = some ((x : Nat) : Int)
  | 0, _, _, k, i, x, hk, _, _ => by omega
  | m + 1, hm, hml, k, i, x, hk, hi, hx => by
    have hj : os[m]? = some os[m] := List.getElem?_eq_getElem (by omega)
    have hy : l[m]? = some l[m] := List.getElem?_eq_getElem (by omega)
    rw [layK_succ hj hy]
    have hil := ho i (List.mem_of_getElem? hi)
    by_cases e : k = m
    · subst e
      rw [hj] at hi; cases hi
      rw [hy] at hx; cases hx
      rw [List.getElem?_set_self (by rw [layK_len]; exact hil)]
    · have hne : os[m] ≠ i := by
        intro e2
        have h1 : os[m]? = os[k]? := by rw [hj, hi, e2]
        have := (List.getElem?_inj (i := m) (j := k) (by omega) hn).1 h1
        omega
      rw [List.getElem?_set_ne hne]
      exact layK_at hn ho m (by omega) (by omega) k i x (by omega) hi hx
theorem layB_at {ws : List Int} {l : List Nat} (hl : l.length = ws.length) {i : Nat} (hi : i < ws.length) : ∃ (k x : Nat), (orderBy (pWei ws) ws.length)[k]? = some i ∧ l[k]? = some x ∧ (layB (orderBy (pWei ws) ws.length) ws.length l)[i]? = some ((x : Nat) : Int) := by
  obtain ⟨k, hk, he⟩ := List.getElem_of_mem (orderBy_mem (p := pWei ws) hi)
  rw [orderBy_len] at hk
  refine ⟨k, l[k], by rw [List.getElem?_eq_getElem (by rw [orderBy_len]; exact hk), he], List.getElem?_eq_getElem (by omega), ?_⟩
  unfold layB
  exact layK_at (orderBy_nodup _ _) (fun j hj => orderBy_lt hj) l.length (by rw [orderBy_len]; omega) (Nat.le_refl _) k i _ (by omega) (by rw [List.getElem?_eq_getElem (by rw [orderBy_len]; exact hk), he]) (List.getElem?_eq_getElem (by omega))
theorem sortW_len (ws : List Int) : (sortW ws).length = ws.length := by unfold sortW; rw [List.length_map, orderBy_len]
theorem sortW_pos {ws : List Int} (h : allB ws 0 10000 = true) : ∀ w ∈ sortW ws, 0 ≤ w := by
  have h1 := sortW_all h
  unfold allB at h1
  rw [List.all_eq_true] at h1
  exact fun w hw => (inB_iff.1 (h1 w hw)).1
theorem askB_iff {ws : List Int} {r l : Int} : askB ws r l = true ↔ (1 ≤ ws.length ∧ ws.length ≤ 20) ∧ allB ws 0 10000 = true ∧ (2 ≤ r ∧ r ≤ 60) ∧ (1 ≤ l ∧ l ≤ 6) := by
  unfold askB weightsB
  simp only [Bool.and_eq_true, inB_iff]
  constructor
  · rintro ⟨⟨⟨h1, h2⟩, h3⟩, h4⟩; exact ⟨by omega, h2, h3, h4⟩
  · rintro ⟨h1, h2, h3, h4⟩; exact ⟨⟨⟨by omega, h2⟩, h3⟩, h4⟩
theorem leastC_ask {ws : List Int} {r l : Int} {x : List Nat × Int} (h : leastC ws r l = some x) : askB ws r l = true ∧ bst r.toNat l.toNat (sortW ws) 1 (r.toNat ^ l.toNat) = some x := by
  unfold leastC at h
  split at h
  · exact ⟨by assumption, h⟩
  · cases h
/-- The lengths that are found. -/
theorem leastL_ok {ws : List Int} {r l : Int} (h : leastB ws r l = true) : lengthsB (leastL ws r l) = true ∧ (leastL ws r l).length = ws.length ∧ ∀ i, i < ws.length → 1 ≤ (leastL ws r l).getD i 0 ∧ (leastL ws r l).getD i 0 ≤ l := by
  unfold leastB at h
  obtain ⟨x, hx⟩ := Option.isSome_iff_exists.1 h
  obtain ⟨ha, hb⟩ := leastC_ask hx
  obtain ⟨h1, h2, h3, h4⟩ := askB_iff.1 ha
  have hbd := bst_bd _ (sortW_pos h2) _ 1 _ rfl _ hb
  rw [sortW_len] at hbd
  have hL : leastL ws r l = layB (orderBy (pWei ws) ws.length) ws.length x.1 := by unfold leastL; rw [hx]
  have hlen : (leastL ws r l).length = ws.length := by rw [hL]; unfold layB; rw [layK_len]
  have hat : ∀ i, i < ws.length → 1 ≤ (leastL ws r l).getD i 0 ∧ (leastL ws r l).getD i 0 ≤ l := by
    intro i hi
    obtain ⟨k, y, _, hy, he⟩ := layB_at hbd.1 hi
    rw [hL, List.getD_eq_getElem?_getD, he]
    have := hbd.2.2.2 y (List.mem_of_getElem? hy)
    simp only [Option.getD_some]
    omega
  refine ⟨?_, hlen, hat⟩
  unfold lengthsB
  rw [Bool.and_eq_true, inB_iff, hlen]
  refine ⟨by omega, ?_⟩
  unfold allB
  rw [List.all_eq_true]
  intro y hy
  obtain ⟨i, hi, rfl⟩ := List.getElem_of_mem hy
  have := hat i (by omega)
  rw [List.getD_eq_getElem?_getD, List.getElem?_eq_getElem hi] at this
  exact inB_iff.2 (by simp only [Option.getD_some] at this; omega)
theorem leastL_no {ws : List Int} {r l : Int} (h : leastB ws r l = false) : leastL ws r l = [] := by
  unfold leastB at h
  cases hx : leastC ws r l with
  | none => unfold leastL; rw [hx]
  | some x => rw [hx] at h; cases h
theorem leastL_len (ws : List Int) (r l : Int) : (leastL ws r l).length ≤ 20 := by
  cases h : leastB ws r l
  · rw [leastL_no h]; simp
  · have h1 := (leastL_ok h).1
    unfold lengthsB at h1
    rw [Bool.and_eq_true, inB_iff] at h1
    omega
def lcostV (ws : List Int) (r l : Int) : Value := if leastB ws r l then .tuple #[.int .i64 (dotI ws (leastL ws r l)), .bool true] else .tuple #[.int .i64 0, .bool false]
theorem lcostV_form (ws : List Int) (r l : Int) : ∃ (p : Int) (q : Bool), lcostV ws r l = .tuple #[.int .i64 p, .bool q] := by unfold lcostV; split <;> exact ⟨_, _, rfl⟩
theorem LeastLengths_any (ls : List Int) (r l : Int) (v : Value) (hi : Nat) (w : World) (h : RdI w hi v ls) (hh : hi ≤ w.heap.size) : Calls Try.prog 62 #[v, .int .i64 r, .int .i64 l] w (RetOwT (leastL ls r l) (leastB ls r l) w) := by
  have CL := Lib.hid (leastLengths_any ls r l v hi w h hh)
  obtain ⟨A, c, rfl, hc, hm⟩ := Rd.form h
  clear h
  go_enter Try.func62, Try.ntmps62
  go_wp2_with fail
  refine CL.out.mono ?_
  rintro e w1 ⟨u, rfl, hu, hb⟩
  obtain ⟨A2, c2, rfl, _⟩ := hu.form
  have HU := Lib.hid hu
  have HB := Lib.hid hb
  clear hu hb
  go_wp2_with fail
  go_ret2
  exact ⟨_, ret_val rfl, HU.out, HB.out⟩
theorem LeastCost_any (ls : List Int) (r l : Int) (v : Value) (hi : Nat) (w : World) (h : RdI w hi v ls) (hh : hi ≤ w.heap.size) : Calls Try.prog 65 #[v, .int .i64 r, .int .i64 l] w fun e w' => e = .returned (lcostV ls r l) ∧ Below w.heap.size w w' := by
  have cL := leastLengths_any ls r l v hi w h hh
  obtain ⟨A, c, rfl, hc, hm⟩ := Rd.form h
  have H := Lib.hid h
  clear h
  cases hb : leastB ls r l
  · rw [hb] at cL
    have CL := Lib.hid cL
    have HV : Hid (lcostV ls r l = .tuple #[.int .i64 0, .bool false]) := by show _ = _; unfold lcostV; rw [hb]; rfl
    clear cL
    go_enter Try.func65, Try.ntmps65
    go_wp2_with fail
    refine CL.out.mono ?_
    rintro e w1 ⟨u, rfl, hu, hb⟩
    obtain ⟨A2, c2, rfl, _⟩ := hu.form
    have HB := Lib.hid hb
    clear hu hb
    go_wp2_with fail
    go_ret2
    exact ⟨ret_val HV.out.symm, HB.out⟩
  · rw [hb] at cL
    have CL := Lib.hid cL
    have HV : Hid (lcostV ls r l = .tuple #[.int .i64 (dotI ls (leastL ls r l)), .bool true]) := by show _ = _; unfold lcostV; rw [hb]; rfl
    have hok := leastL_ok hb
    have HW : Hid (weightsB ls = true) := by
      show _ = _
      unfold leastB at hb
      obtain ⟨x, hx⟩ := Option.isSome_iff_exists.1 hb
      have ha := (leastC_ask hx).1
      unfold askB at ha
      simp only [Bool.and_eq_true] at ha
      exact ha.1.1
    have HOK := Lib.hid hok
    clear cL hok
    go_enter Try.func65, Try.ntmps65
    go_wp2_with fail
    refine CL.out.mono ?_
    rintro e w1 ⟨u, rfl, hu, hb⟩
    obtain ⟨A2, c2, rfl, _⟩ := hu.form
    have HU := Lib.hid hu
    have HB := Lib.hid hb
    have CC := Lib.hid (costOf_any ls (leastL ls r l) _ _ hi w1.heap.size w1 (RdI.below H.out hb hh) hu.rd HW.out HOK.out.1 HOK.out.2.1.symm)
    clear hu hb
    go_wp2_with (first | (go_at_call 167; refine (CC.out).mono ?_; rintro e w' ⟨rfl, rfl⟩))
    go_ret2
    exact ⟨ret_val HV.out.symm, HB.out⟩
end Go.Proofs.Ytabiobjcfopakaa
