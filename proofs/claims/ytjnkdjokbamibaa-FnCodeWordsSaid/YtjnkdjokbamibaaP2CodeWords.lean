/- Texts of one claim, joined: C2, E8, E9, H2, E3, R1, R2, R4. -/
import Derived.StillTailTactics
import Derived.BigRegion
import Derived.BigQuiet
import Derived.Deep.QuietTactic
import Derived.Test.YtjnkdjokbamibaaP1CodeWords
/- Contracts of the tests whether words are a code, and of the words written one after the other; of the program and of the reference. -/
namespace Go.Proofs.Ytjnkdjokbamibaa
open Go.RowKit
def wordOk (xs : List Int) : Bool := inB xs.length 1 6 && allB xs 0 59
def noClash (xss : List (List Int)) : Bool := (List.range xss.length).all fun i => (List.range xss.length).all fun k => i == k || !begB (xss.getD i []) (xss.getD k [])
def codeB (xss : List (List Int)) : Bool := inB xss.length 1 20 && (xss.all wordOk && noClash xss)
theorem noClash_iff {xss : List (List Int)} : noClash xss = true ↔ ∀ (i k : Nat) (x y : List Int), i ≠ k → xss[i]? = some x → xss[k]? = some y → begB x y = false := by
  unfold noClash
  simp only [List.all_eq_true, List.mem_range, Bool.or_eq_true, beq_iff_eq, Bool.not_eq_true']
  constructor
  · intro h i k x y hne hx hy
    have h1 := (List.getElem?_eq_some_iff.1 hx).1
    have h2 := (List.getElem?_eq_some_iff.1 hy).1
    rcases h i h1 k h2 with e | e
    · exact absurd e hne
    · rw [List.getD_eq_getElem?_getD, List.getD_eq_getElem?_getD, hx, hy] at e; exact e
  · intro h i hi k hk
    by_cases e : i = k
    · exact .inl e
    · right
      have := h i k xss[i] xss[k] e (by simp [hi]) (by simp [hk])
      simpa [List.getD_eq_getElem?_getD, hi, hk] using this
theorem codeB_word {xss : List (List Int)} {i : Nat} {x : List Int} (hx : xss[i]? = some x) (h : wordOk x = false) : codeB xss = false := by
  have : xss.all wordOk = false := by rw [List.all_eq_false]; exact ⟨x, List.mem_of_getElem? hx, by simp [h]⟩
  unfold codeB; rw [this]; simp
theorem codeB_clash {xss : List (List Int)} {i k : Nat} {x y : List Int} (hx : xss[i]? = some x) (hy : xss[k]? = some y) (hne : i ≠ k) (h : begB x y = true) : codeB xss = false := by
  have : noClash xss = false := by
    cases e : noClash xss
    · rfl
    · have := noClash_iff.1 e i k x y hne hx hy
      rw [h] at this; cases this
  unfold codeB; rw [this]; simp
/-- What holds behind i rounds. -/
def CodeUpto (xss : List (List Int)) (i : Nat) : Prop := ∀ (j : Nat) (x : List Int), j < i → xss[j]? = some x → wordOk x = true ∧ ∀ (k : Nat) (y : List Int), j ≠ k → xss[k]? = some y → begB x y = false
theorem codeB_yes {xss : List (List Int)} (h : CodeUpto xss xss.length) (hl : inB xss.length 1 20 = true) : codeB xss = true := by
  unfold codeB
  rw [hl, Bool.true_and, Bool.and_eq_true, List.all_eq_true]
  refine ⟨fun x hx => ?_, noClash_iff.2 fun i k x y hne hx hy => ?_⟩
  · obtain ⟨j, hj⟩ := List.getElem?_of_mem hx
    exact (h j x (List.getElem?_eq_some_iff.1 hj).1 hj).1
  · exact (h i x (List.getElem?_eq_some_iff.1 hx).1 hx).2 k y hne hy
/-- What holds behind i rounds of the reference. -/
def CodeDown (xss : List (List Int)) (i : Nat) : Prop := ∀ (j : Nat) (x : List Int), j < i → xss[j]? = some x → wordOk x = true ∧ ∀ (k : Nat) (y : List Int), k < j → xss[k]? = some y → begB x y = false ∧ begB y x = false
theorem codeB_down {xss : List (List Int)} (h : CodeDown xss xss.length) : codeB xss = inB xss.length 1 20 := by
  cases hl : inB xss.length 1 20
  · unfold codeB; rw [hl]; rfl
  · refine codeB_yes (fun j x hj hx => ⟨(h j x hj hx).1, fun k y hne hy => ?_⟩) hl
    rcases Nat.lt_or_gt_of_ne hne with hlt | hlt
    · exact ((h k y (List.getElem?_eq_some_iff.1 hy).1 hy).2 j x hlt hx).2
    · exact ((h j x hj hx).2 k y hlt hy).1
theorem wordOk_len {xs : List Int} (h : inB xs.length 1 6 = false) : wordOk xs = false := by unfold wordOk; rw [h]; rfl
theorem wordOk_all {xs : List Int} (h : allB xs 0 59 = false) : wordOk xs = false := by unfold wordOk; rw [h]; simp
theorem wordOk_yes {xs : List Int} (h : inB xs.length 1 6 = true) (h2 : allB xs 0 59 = true) : wordOk xs = true := by unfold wordOk; rw [h, h2]; rfl
set_option maxHeartbeats 1600000 in
theorem isCode_any (xss : List (List Int)) (v : Value) (hi : Nat) (w : World) (h : RdII w hi v xss) : Calls Try.prog 111 #[v] w fun e w' => e = .returned (.bool (codeB xss)) ∧ ∃ n, w' = w.drewN n := by
  obtain ⟨A, c, rfl, hm⟩ := h.form
  have H := Lib.hid h
  clear h
  cases hl : inB xss.length 1 20
  · go_enter Try.func111, Try.ntmps111
    go_wp2_with (go_at_call 128; refine (within_any _ _ _ _).mono ?_; rintro e w' ⟨rfl, rfl⟩)
    go_ret
    exact ⟨ret_bool (by unfold codeB; rw [hl]; rfl), 0, rfl⟩
  · have hl20 := inB_iff.1 hl
    go_enter Try.func111, Try.ntmps111
    go_wp2_with (go_at_call 128; refine (within_any _ _ _ _).mono ?_; rintro e w' ⟨rfl, rfl⟩)
    go_loopw [13] (fun i wr => ∃ k : Nat, k ≤ xss.length ∧ i = .int .i64 k ∧ Hid (CodeUpto xss k) ∧ ∃ n, wr = w.drewN n) (fun i _ => xss.length - (intOf i).toNat)
    case atStart => exact ⟨0, Nat.zero_le _, rfl, fun j x hj _ => by omega, 0, rfl⟩
    case round =>
      obtain ⟨i, hi', rfl, hup, n, rfl⟩ := hrel
      by_cases hlt : i < xss.length
      · obtain ⟨b1, o1, c1, a, xs, hv, _, hx, hcell1, hra⟩ := H.out.at_ hlt
        cases hv
        have HA := Lib.hid hra
        have HX := Lib.hid hx
        obtain ⟨A2, c2, rfl, hc2, hm2⟩ := Rd.form hra
        clear hra hx
        cases hw1 : inB xs.length 1 6
        · go_wp2_with (first | (go_at_call 128; refine (within_any _ _ _ _).mono ?_; rintro e w' ⟨rfl, rfl⟩) | (go_at_call 87; refine (allWithin_any xs _ _ _ hi _ (by exact HA.out)).mono ?_; rintro e w' ⟨rfl, rfl⟩))
          go_ret
          exact ⟨ret_bool (codeB_word HX.out (wordOk_len hw1)).symm, _, rfl⟩
        · cases hw2 : allB xs 0 59
          · go_wp2_with (first | (go_at_call 128; refine (within_any _ _ _ _).mono ?_; rintro e w' ⟨rfl, rfl⟩) | (go_at_call 87; refine (allWithin_any xs _ _ _ hi _ (by exact HA.out)).mono ?_; rintro e w' ⟨rfl, rfl⟩))
            go_ret
            exact ⟨ret_bool (codeB_word HX.out (wordOk_all hw2)).symm, _, rfl⟩
          · have HW := Lib.hid (wordOk_yes hw1 hw2)
            go_wp2_with (first | (go_at_call 128; refine (within_any _ _ _ _).mono ?_; rintro e w' ⟨rfl, rfl⟩) | (go_at_call 87; refine (allWithin_any xs _ _ _ hi _ (by exact HA.out)).mono ?_; rintro e w' ⟨rfl, rfl⟩))
            go_loopw [29] (fun i2 wr => ∃ k : Nat, k ≤ xss.length ∧ i2 = .int .i64 k ∧ Hid (∀ (k' : Nat) (y : List Int), k' < k → i ≠ k' → xss[k']? = some y → begB xs y = false) ∧ ∃ n, wr = w.drewN n) (fun i2 _ => xss.length - (intOf i2).toNat)
            case atStart => exact ⟨0, Nat.zero_le _, rfl, fun k y hk _ _ => by omega, _, rfl⟩
            case round =>
              obtain ⟨k, hk, rfl, hin, m, rfl⟩ := hrel
              by_cases hltk : k < xss.length
              · obtain ⟨b3, o3, c3, b, ys, hv, _, hy, hcell3, hrb⟩ := H.out.at_ hltk
                cases hv
                have HB := Lib.hid hrb
                have HY := Lib.hid hy
                obtain ⟨A4, c4, rfl, hc4, hm4⟩ := Rd.form hrb
                clear hrb hy
                by_cases hne : i = k
                · have hne1 : ((i : Int) != (k : Int)) = false := by rw [hne]; simp
                  have HNE := Lib.hid hne
                  clear hne
                  go_wp2_with fail
                  go_roundw
                  case rel => exact ⟨k + 1, by omega, by go_num, fun k' y hk' hn hy => by
                    by_cases e : k' = k
                    · exact absurd (by rw [HNE.out, e]) hn
                    · exact hin.out k' y (by omega) hn hy, _, rfl⟩
                  case measure => simp [intOf]; omega
                · have hne1 : ((i : Int) != (k : Int)) = true := by rw [bne_iff_ne]; omega
                  cases hbg : begB xs ys
                  · have HBG := Lib.hid hbg
                    go_wp2_with fail
                    refine (begins_any xs ys _ _ hi hi _ (by exact HA.out) (by exact HB.out)).mono ?_
                    rw [HBG.out]
                    rintro e w' ⟨rfl, q, rfl⟩
                    go_wp2_with fail
                    go_roundw
                    case rel => exact ⟨k + 1, by omega, by go_num, fun k' y hk' hn hy => by
                      by_cases e : k' = k
                      · subst e; rw [HY.out] at hy; cases hy; exact HBG.out
                      · exact hin.out k' y (by omega) hn hy, _, rfl⟩
                    case measure => simp [intOf]; omega
                  · have HBG := Lib.hid hbg
                    go_wp2_with fail
                    refine (begins_any xs ys _ _ hi hi _ (by exact HA.out) (by exact HB.out)).mono ?_
                    rw [HBG.out]
                    rintro e w' ⟨rfl, q, rfl⟩
                    go_wp2_with fail
                    go_ret
                    exact ⟨ret_bool (codeB_clash HX.out HY.out hne HBG.out).symm, _, rfl⟩
              · obtain rfl : k = xss.length := by omega
                go_wp2_with fail
                go_roundw
                case rel => exact ⟨i + 1, by omega, by go_num, fun j x hj hx => by
                  by_cases e : j = i
                  · subst e; rw [HX.out] at hx; cases hx
                    exact ⟨HW.out, fun k y hn hy => hin.out k y (List.getElem?_eq_some_iff.1 hy).1 hn hy⟩
                  · exact hup.out j x (by omega) hx, _, rfl⟩
                case measure => simp [intOf]; omega
      · obtain rfl : i = xss.length := by omega
        go_wp2_with fail
        go_ret
        exact ⟨ret_bool (codeB_yes hup.out hl).symm, _, rfl⟩
set_option maxHeartbeats 1600000 in
theorem cmCode_any (xss : List (List Int)) (v : Value) (hi : Nat) (w : World) (h : RdII w hi v xss) : Calls Try.prog 112 #[v] w fun e w' => e = .returned (.bool (codeB xss)) ∧ ∃ n, w' = w.drewN n := by
  obtain ⟨A, c, rfl, hm⟩ := h.form
  obtain ⟨us0, hr0, hR0⟩ := h
  obtain ⟨_, _, hcc⟩ := Rd.form hR0
  obtain ⟨hv0, hcap, _⟩ := hcc
  cases hv0
  have H : Hid (RdII w hi (.slice A xss.length c) xss) := ⟨us0, hr0, hR0⟩
  clear hr0 hR0
  go_enter Try.func112, Try.ntmps112
  go_wp2
  go_loopw [9] (fun i wr => ∃ k : Nat, k ≤ xss.length ∧ i = .int .i64 k ∧ Hid (CodeDown xss k) ∧ ∃ n, wr = w.drewN n) (fun i _ => xss.length - (intOf i).toNat)
  case atStart => exact ⟨0, Nat.zero_le _, rfl, fun j x hj _ => by omega, 0, rfl⟩
  case round =>
    obtain ⟨i, hi', rfl, hup, n, rfl⟩ := hrel
    by_cases hlt : i < xss.length
    · obtain ⟨b1, o1, c1, a, xs, hv, _, hx, hcell1, hra⟩ := H.out.at_ hlt
      cases hv
      have HA := Lib.hid hra
      have HX := Lib.hid hx
      obtain ⟨A2, c2, rfl, hc2, hm2⟩ := Rd.form hra
      clear hra hx
      cases hw1 : inB xs.length 1 6
      · go_wp2_with (first | (go_at_call 121; refine (l1In_any _ _ _ _).mono ?_; rintro e w' ⟨rfl, rfl⟩) | (go_at_call 113; refine (l1All_any xs _ _ _ hi _ (by exact HA.out)).mono ?_; rintro e w' ⟨rfl, rfl⟩))
        go_ret
        exact ⟨ret_bool (codeB_word HX.out (wordOk_len hw1)).symm, _, rfl⟩
      · cases hw2 : allB xs 0 59
        · go_wp2_with (first | (go_at_call 121; refine (l1In_any _ _ _ _).mono ?_; rintro e w' ⟨rfl, rfl⟩) | (go_at_call 113; refine (l1All_any xs _ _ _ hi _ (by exact HA.out)).mono ?_; rintro e w' ⟨rfl, rfl⟩))
          go_ret
          exact ⟨ret_bool (codeB_word HX.out (wordOk_all hw2)).symm, _, rfl⟩
        · have HW := Lib.hid (wordOk_yes hw1 hw2)
          go_wp2_with (first | (go_at_call 121; refine (l1In_any _ _ _ _).mono ?_; rintro e w' ⟨rfl, rfl⟩) | (go_at_call 113; refine (l1All_any xs _ _ _ hi _ (by exact HA.out)).mono ?_; rintro e w' ⟨rfl, rfl⟩))
          go_loopw [27] (fun i2 wr => ∃ k : Nat, k ≤ i ∧ i2 = .int .i64 k ∧ Hid (∀ (k' : Nat) (y : List Int), k' < k → xss[k']? = some y → begB xs y = false ∧ begB y xs = false) ∧ ∃ n, wr = w.drewN n) (fun i2 _ => xss.length - (intOf i2).toNat)
          case atStart => exact ⟨0, Nat.zero_le _, rfl, fun k y hk _ => by omega, _, rfl⟩
          case round =>
            obtain ⟨k, hk, rfl, hin, m, rfl⟩ := hrel
            by_cases hltk : k < i
            · obtain ⟨b3, o3, c3, b, ys, hv, _, hy, hcell3, hrb⟩ := H.out.at_ (show k < xss.length by omega)
              cases hv
              have HB := Lib.hid hrb
              have HY := Lib.hid hy
              obtain ⟨A4, c4, rfl, hc4, hm4⟩ := Rd.form hrb
              clear hrb hy
              cases hbg : begB xs ys
              · have HBG := Lib.hid hbg
                cases hbh : begB ys xs
                · have HBH := Lib.hid hbh
                  go_wp2_with fail
                  refine (bkBegins_any xs ys _ _ hi hi _ (by exact HA.out) (by exact HB.out)).mono ?_
                  rw [HBG.out]
                  rintro e w' ⟨rfl, q, rfl⟩
                  go_wp2_with fail
                  refine (bkBegins_any ys xs _ _ hi hi _ (by exact HB.out) (by exact HA.out)).mono ?_
                  rw [HBH.out]
                  rintro e w' ⟨rfl, q2, rfl⟩
                  go_wp2_with fail
                  go_roundw
                  case rel => exact ⟨k + 1, by omega, by go_num, fun k' y hk' hy => by
                    by_cases e : k' = k
                    · subst e; rw [HY.out] at hy; cases hy; exact ⟨HBG.out, HBH.out⟩
                    · exact hin.out k' y (by omega) hy, _, rfl⟩
                  case measure => simp [intOf]; omega
                · have HBH := Lib.hid hbh
                  go_wp2_with fail
                  refine (bkBegins_any xs ys _ _ hi hi _ (by exact HA.out) (by exact HB.out)).mono ?_
                  rw [HBG.out]
                  rintro e w' ⟨rfl, q, rfl⟩
                  go_wp2_with fail
                  refine (bkBegins_any ys xs _ _ hi hi _ (by exact HB.out) (by exact HA.out)).mono ?_
                  rw [HBH.out]
                  rintro e w' ⟨rfl, q2, rfl⟩
                  go_wp2_with fail
                  go_ret
                  exact ⟨ret_bool (codeB_clash HY.out HX.out (by omega) HBH.out).symm, _, rfl⟩
              · have HBG := Lib.hid hbg
                go_wp2_with fail
                refine (bkBegins_any xs ys _ _ hi hi _ (by exact HA.out) (by exact HB.out)).mono ?_
                rw [HBG.out]
                rintro e w' ⟨rfl, q, rfl⟩
                go_wp2_with fail
                go_ret
                exact ⟨ret_bool (codeB_clash HX.out HY.out (by omega) HBG.out).symm, _, rfl⟩
            · obtain rfl : k = i := by omega
              go_wp2_with fail
              go_roundw
              case rel => exact ⟨k + 1, by omega, by go_num, fun j x hj hx => by
                by_cases e : j = k
                · subst e; rw [HX.out] at hx; cases hx
                  exact ⟨HW.out, fun k y hn hy => hin.out k y hn hy⟩
                · exact hup.out j x (by omega) hx, _, rfl⟩
              case measure => simp [intOf]; omega
    · obtain rfl : i = xss.length := by omega
      go_wp2_with fail
      refine (l1In_any _ _ _ _).mono ?_
      rintro e w' ⟨rfl, rfl⟩
      go_wp2
      go_ret
      exact ⟨ret_bool (codeB_down hup.out).symm, _, rfl⟩
/-- The words of the indices, one after the other. -/
def wordsI (xss : List (List Int)) (is : List Int) : List Int := is.flatMap fun i => xss.getD i.toNat []
theorem wordsI_step {xss : List (List Int)} {is : List Int} {k i : Nat} {xs : List Int} (h : is[k]? = some (i : Int)) (hx : xss[i]? = some xs) : wordsI xss (is.take (k + 1)) = wordsI xss (is.take k) ++ xs := by
  unfold wordsI
  rw [take_snocI h, List.flatMap_append]
  simp [List.getD_eq_getElem?_getD, hx]
theorem wordsI_len {xss : List (List Int)} (hb : ∀ (j : Nat) (x : List Int), xss[j]? = some x → x.length ≤ 6) (is : List Int) : (wordsI xss is).length ≤ 6 * is.length := by
  induction is with
  | nil => simp [wordsI]
  | cons i r ih =>
    unfold wordsI at *
    simp only [List.flatMap_cons, List.length_append, List.length_cons]
    have : (xss.getD i.toNat []).length ≤ 6 := by
      rw [List.getD_eq_getElem?_getD]
      cases h : xss[i.toNat]? with
      | none => simp
      | some x => exact hb _ x h
    omega
theorem codeB_len {xss : List (List Int)} (h : codeB xss = true) : (1 ≤ xss.length ∧ xss.length ≤ 20) ∧ ∀ (j : Nat) (x : List Int), xss[j]? = some x → (1 ≤ x.length ∧ x.length ≤ 6) ∧ allB x 0 59 = true := by
  unfold codeB at h
  rw [Bool.and_eq_true, Bool.and_eq_true, List.all_eq_true] at h
  have h1 := inB_iff.1 h.1
  refine ⟨⟨by omega, by omega⟩, fun j x hx => ?_⟩
  have h2 := h.2.1 x (List.mem_of_getElem? hx)
  unfold wordOk at h2
  rw [Bool.and_eq_true] at h2
  have h3 := inB_iff.1 h2.1
  exact ⟨⟨by omega, by omega⟩, h2.2⟩
def writeB (xss : List (List Int)) (is : List Int) : Bool := codeB xss && (decide (is.length ≤ 30) && allB is 0 ((xss.length : Int) - 1))
def writeL (xss : List (List Int)) (is : List Int) : List Int := if writeB xss is then wordsI xss is else []
theorem writeL_len (xss : List (List Int)) (is : List Int) : (writeL xss is).length ≤ 180 := by
  unfold writeL
  split
  · rename_i h
    unfold writeB at h
    simp only [Bool.and_eq_true, decide_eq_true_eq] at h
    have h1 := (codeB_len h.1).2
    have := wordsI_len (fun j x hx => (h1 j x hx).1.2) is
    omega
  · simp
set_option maxHeartbeats 1600000 in
theorem WriteWords_any (xss : List (List Int)) (is : List Int) (v u : Value) (hi hj : Nat) (w : World) (h : RdII w hi v xss) (g : RdI w hj u is) (hh : hi ≤ w.heap.size) (hg : hj ≤ w.heap.size) :
    Calls Try.prog 50 #[v, u] w (RetOwT (writeL xss is) (writeB xss is) w) := by
  obtain ⟨A, c, rfl, hm⟩ := h.form
  obtain ⟨A', c', rfl, hc', hm'⟩ := Rd.form g
  have H := Lib.hid h
  have HI := Lib.hid g
  clear h g
  cases hcode : codeB xss
  · have e : writeL xss is = [] ∧ writeB xss is = false := by simp [writeL, writeB, hcode]
    rw [e.1, e.2]; clear e
    go_enter Try.func50, Try.ntmps50
    go_wp2_with fail
    refine (isCode_any xss _ hi _ H.out).mono ?_
    rw [hcode]
    rintro e w' ⟨rfl, n, rfl⟩
    go_wp2_with fail
    go_ret2
    exact ⟨_, rfl, owI_nil _ _ _, bel_drewN _ _ _⟩
  · by_cases hlen : is.length ≤ 30
    · cases hall : allB is 0 ((xss.length : Int) - 1)
      · have e : writeL xss is = [] ∧ writeB xss is = false := by simp [writeL, writeB, hall]
        rw [e.1, e.2]; clear e
        have hcl := (codeB_len hcode).1
        go_enter Try.func50, Try.ntmps50
        go_wp2_with fail
        refine (isCode_any xss _ hi _ H.out).mono ?_
        rw [hcode]
        rintro e w' ⟨rfl, n, rfl⟩
        go_wp2_with (go_at_call 87; refine (allWithin_any is _ _ _ hj _ (by exact HI.out)).mono ?_; rintro e w' ⟨rfl, rfl⟩)
        go_ret2
        exact ⟨_, rfl, owI_nil _ _ _, bel_drewN _ _ _⟩
      · have e : writeL xss is = wordsI xss is ∧ writeB xss is = true := by simp [writeL, writeB, hcode, hlen, hall]
        rw [e.1, e.2]; clear e
        obtain ⟨hcl, hcw⟩ := codeB_len hcode
        have HCW := Lib.hid hcw
        have HALL := Lib.hid hall
        clear hcw
        go_enter Try.func50, Try.ntmps50
        go_wp2_with fail
        refine (isCode_any xss _ hi _ H.out).mono ?_
        rw [hcode]
        rintro e w' ⟨rfl, n, rfl⟩
        go_wp2_with (go_at_call 87; refine (allWithin_any is _ _ _ hj _ (by exact HI.out)).mono ?_; rintro e w' ⟨rfl, rfl⟩)
        clear hall hcode
        go_loopw [6, 27] (fun s i wr => ∃ (k : Nat), k ≤ is.length ∧ i = .int .i64 k ∧ GrowI w w.heap.size wr s (wordsI xss (is.take k))) (fun _ i _ => is.length - (intOf i).toNat)
        case atStart => exact ⟨0, Nat.zero_le _, rfl, GrowI.nil (bel_drewN _ _ _)⟩
        case round =>
          obtain ⟨k, hk, rfl, hG⟩ := hrel
          by_cases hlt : k < is.length
          · obtain ⟨b1, o1, c1, y, hv, _, hy, hcell1⟩ := Rd.at_ (Rd.below HI.out hG.bel hg) hlt
            cases hv
            have hyb := allB_mem hy HALL.out
            obtain ⟨y, rfl⟩ := Int.eq_ofNat_of_zero_le hyb.1
            obtain ⟨b2, o2, c2, a, xs, hv, _, hx, hcell2, hra⟩ := (H.out.below hG.bel hh).at_ (show y < xss.length by omega)
            cases hv
            have hst := wordsI_step hy hx
            have hwl := wordsI_len (fun j x hx => (HCW.out j x hx).1.2) (is.take k)
            have hxl := (HCW.out y xs hx).1.2
            have htk : (is.take k).length ≤ k := by rw [List.length_take]; omega
            have HS := Lib.hid hst
            have HRA := Lib.hid hra
            clear hst hy hx hra
            go_wp2_with (at_builtin; refine GrowI.appI rfl (.tmp 31) (.tmp 35) rfl hG HRA.out (by omega) rfl rfl ?_; intro v' w2 hG')
            go_roundw
            case rel => exact ⟨k + 1, by omega, by go_num, by rw [HS.out]; exact hG'⟩
            case measure => simp [intOf]; omega
          · obtain rfl : k = is.length := by omega
            rw [List.take_of_length_le (Nat.le_refl _)] at hG
            go_wp2_with fail
            go_ret2
            exact retOwT true hG
    · have e : writeL xss is = [] ∧ writeB xss is = false := by simp [writeL, writeB, hlen]
      rw [e.1, e.2]; clear e
      go_enter Try.func50, Try.ntmps50
      go_wp2_with fail
      refine (isCode_any xss _ hi _ H.out).mono ?_
      rw [hcode]
      rintro e w' ⟨rfl, n, rfl⟩
      go_wp2_with fail
      go_ret2
      exact ⟨_, rfl, owI_nil _ _ _, bel_drewN _ _ _⟩
set_option maxHeartbeats 1600000 in
theorem sWriteWords_any (xss : List (List Int)) (is : List Int) (v u : Value) (hi hj : Nat) (w : World) (h : RdII w hi v xss) (g : RdI w hj u is) (hh : hi ≤ w.heap.size) (hg : hj ≤ w.heap.size) :
    Calls Try.prog 51 #[v, u] w (RetOwT (writeL xss is) (writeB xss is) w) := by
  obtain ⟨A, c, rfl, hm⟩ := h.form
  obtain ⟨A', c', rfl, hc', hm'⟩ := Rd.form g
  have H := Lib.hid h
  have HI := Lib.hid g
  clear h g
  cases hcode : codeB xss
  · have e : writeL xss is = [] ∧ writeB xss is = false := by simp [writeL, writeB, hcode]
    rw [e.1, e.2]; clear e
    go_enter Try.func51, Try.ntmps51
    go_wp2_with fail
    refine (cmCode_any xss _ hi _ H.out).mono ?_
    rw [hcode]
    rintro e w' ⟨rfl, n, rfl⟩
    go_wp2_with fail
    go_ret2
    exact ⟨_, rfl, owI_nil _ _ _, bel_drewN _ _ _⟩
  · by_cases hlen : is.length ≤ 30
    · cases hall : allB is 0 ((xss.length : Int) - 1)
      · have e : writeL xss is = [] ∧ writeB xss is = false := by simp [writeL, writeB, hall]
        rw [e.1, e.2]; clear e
        have hcl := (codeB_len hcode).1
        go_enter Try.func51, Try.ntmps51
        go_wp2_with fail
        refine (cmCode_any xss _ hi _ H.out).mono ?_
        rw [hcode]
        rintro e w' ⟨rfl, n, rfl⟩
        go_wp2_with (go_at_call 113; refine (l1All_any is _ _ _ hj _ (by exact HI.out)).mono ?_; rintro e w' ⟨rfl, rfl⟩)
        go_ret2
        exact ⟨_, rfl, owI_nil _ _ _, bel_drewN _ _ _⟩
      · have e : writeL xss is = wordsI xss is ∧ writeB xss is = true := by simp [writeL, writeB, hcode, hlen, hall]
        rw [e.1, e.2]; clear e
        obtain ⟨hcl, hcw⟩ := codeB_len hcode
        have HCW := Lib.hid hcw
        have HALL := Lib.hid hall
        clear hcw
        go_enter Try.func51, Try.ntmps51
        go_wp2_with fail
        refine (cmCode_any xss _ hi _ H.out).mono ?_
        rw [hcode]
        rintro e w' ⟨rfl, n, rfl⟩
        go_wp2_with (go_at_call 113; refine (l1All_any is _ _ _ hj _ (by exact HI.out)).mono ?_; rintro e w' ⟨rfl, rfl⟩)
        clear hall hcode
        go_loopw [6, 27] (fun s i wr => ∃ (k : Nat), k ≤ is.length ∧ i = .int .i64 k ∧ GrowI w w.heap.size wr s (wordsI xss (is.take k))) (fun _ i _ => is.length - (intOf i).toNat)
        case atStart => exact ⟨0, Nat.zero_le _, rfl, GrowI.nil (bel_drewN _ _ _)⟩
        case round =>
          obtain ⟨k, hk, rfl, hG⟩ := hrel
          by_cases hlt : k < is.length
          · obtain ⟨b1, o1, c1, y, hv, _, hy, hcell1⟩ := Rd.at_ (Rd.below HI.out hG.bel hg) hlt
            cases hv
            have hyb := allB_mem hy HALL.out
            obtain ⟨y, rfl⟩ := Int.eq_ofNat_of_zero_le hyb.1
            obtain ⟨b2, o2, c2, a, xs, hv, _, hx, hcell2, hra⟩ := (H.out.below hG.bel hh).at_ (show y < xss.length by omega)
            cases hv
            have hst := wordsI_step hy hx
            have hwl := wordsI_len (fun j x hx => (HCW.out j x hx).1.2) (is.take k)
            have hxl := (HCW.out y xs hx).1.2
            have htk : (is.take k).length ≤ k := by rw [List.length_take]; omega
            have HS := Lib.hid hst
            have HRA := Lib.hid hra
            clear hst hy hx hra
            go_wp2_with (at_builtin; refine GrowI.appI rfl (.tmp 31) (.tmp 35) rfl hG HRA.out (by omega) rfl rfl ?_; intro v' w2 hG')
            go_roundw
            case rel => exact ⟨k + 1, by omega, by go_num, by rw [HS.out]; exact hG'⟩
            case measure => simp [intOf]; omega
          · obtain rfl : k = is.length := by omega
            rw [List.take_of_length_le (Nat.le_refl _)] at hG
            go_wp2_with fail
            go_ret2
            exact retOwT true hG
    · have e : writeL xss is = [] ∧ writeB xss is = false := by simp [writeL, writeB, hlen]
      rw [e.1, e.2]; clear e
      go_enter Try.func51, Try.ntmps51
      go_wp2_with fail
      refine (cmCode_any xss _ hi _ H.out).mono ?_
      rw [hcode]
      rintro e w' ⟨rfl, n, rfl⟩
      go_wp2_with fail
      go_ret2
      exact ⟨_, rfl, owI_nil _ _ _, bel_drewN _ _ _⟩
end Go.Proofs.Ytjnkdjokbamibaa
/- Plain laws on reading words: the first word that begins digits is the only one; the words read one after the other. -/
namespace Go.Proofs.Ytjnkdjokbamibaa
open Go.RowKit
/-- The first word that begins digits. -/
def ixC (code : List (List Int)) (ds : List Int) : Option Nat := code.findIdx? fun x => begB x ds
def readF (code : List (List Int)) : Nat → List Int → Option (List Int)
  | _, [] => some []
  | 0, _ :: _ => Option.none
  | n + 1, d :: ds => match ixC code (d :: ds) with
    | Option.none => Option.none
    | some i => (readF code n ((d :: ds).drop (code.getD i []).length)).map fun r => (i : Int) :: r
def readW (code : List (List Int)) (ds : List Int) : Option (List Int) := readF code ds.length ds
theorem readW_nil (code : List (List Int)) : readW code [] = some [] := rfl
theorem code_pos {code : List (List Int)} (h : codeB code = true) {x : List Int} (hx : x ∈ code) : 1 ≤ x.length ∧ x.length ≤ 6 := by
  unfold codeB at h
  simp only [Bool.and_eq_true, List.all_eq_true] at h
  have := h.2.1 x hx
  unfold wordOk at this
  rw [Bool.and_eq_true, inB_iff] at this
  omega
theorem code_len {code : List (List Int)} (h : codeB code = true) : 1 ≤ code.length ∧ code.length ≤ 20 := by
  unfold codeB at h
  rw [Bool.and_eq_true, inB_iff] at h
  omega
theorem code_one {code : List (List Int)} (h : codeB code = true) {i k : Nat} {x y ds : List Int} (hx : code[i]? = some x) (hy : code[k]? = some y) (bx : begB x ds = true) (bY : begB y ds = true) : i = k := by
  by_cases e : i = k
  · exact e
  · unfold codeB at h
    simp only [Bool.and_eq_true] at h
    have hn := noClash_iff.1 h.2.2
    rw [begB_iff] at bx bY
    rcases List.prefix_or_prefix_of_prefix bx bY with h1 | h1
    · have := hn i k x y e hx hy
      rw [begB_iff.2 h1] at this; cases this
    · have := hn k i y x (fun e2 => e e2.symm) hy hx
      rw [begB_iff.2 h1] at this; cases this
theorem ixC_some {code : List (List Int)} {ds : List Int} {i : Nat} (h : ixC code ds = some i) : ∃ x, code[i]? = some x ∧ begB x ds = true ∧ i < code.length := by
  unfold ixC at h
  rw [List.findIdx?_eq_some_iff_getElem] at h
  obtain ⟨hl, h1, _⟩ := h
  exact ⟨code[i], List.getElem?_eq_getElem hl, h1, hl⟩
theorem readF_enough {code : List (List Int)} (h : codeB code = true) : ∀ (n : Nat) (ds : List Int), ds.length ≤ n → readF code n ds = readF code ds.length ds
  | _, [], _ => by cases ‹Nat› <;> rfl
  | 0, d :: ds, hl => by simp at hl
  | n + 1, d :: ds, hl => by
    simp only [List.length_cons, readF]
    cases e : ixC code (d :: ds) with
    | none => rfl
    | some i =>
      obtain ⟨x, hx, hb, _⟩ := ixC_some e
      have hp := code_pos h (List.mem_of_getElem? hx)
      have hg : code.getD i [] = x := by rw [List.getD_eq_getElem?_getD, hx]; rfl
      have hlen : ((d :: ds).drop x.length).length ≤ ds.length := by rw [List.length_drop, List.length_cons]; omega
      simp only [hg]
      rw [readF_enough h n _ (by simp only [List.length_cons] at hl; omega), readF_enough h ds.length _ hlen]
theorem readW_step {code : List (List Int)} (h : codeB code = true) {ds x : List Int} {i : Nat} (he : ixC code ds = some i) (hx : code[i]? = some x) (hd : 0 < ds.length) : readW code ds = (readW code (ds.drop x.length)).map fun r => (i : Int) :: r := by
  cases ds with
  | nil => simp at hd
  | cons d ds =>
    have hp := code_pos h (List.mem_of_getElem? hx)
    have hg : code.getD i [] = x := by rw [List.getD_eq_getElem?_getD, hx]; rfl
    unfold readW
    simp only [List.length_cons, readF, he, hg]
    rw [readF_enough h ds.length _ (by rw [List.length_drop, List.length_cons]; omega)]
theorem readW_none {code : List (List Int)} {ds : List Int} (he : ixC code ds = Option.none) (hd : 0 < ds.length) : readW code ds = Option.none := by
  cases ds with
  | nil => simp at hd
  | cons d ds => unfold readW; simp only [List.length_cons, readF, he]
/-- What is read so far, and what is left. -/
def ReadTo (code : List (List Int)) (ds L rest : List Int) : Prop := readW code ds = (readW code rest).map fun r => L ++ r
theorem ReadTo.start (code : List (List Int)) (ds : List Int) : ReadTo code ds [] ds := by unfold ReadTo; cases readW code ds <;> simp
theorem ReadTo.next {code : List (List Int)} (h : codeB code = true) {ds L rest x : List Int} {i : Nat} (hr : ReadTo code ds L rest) (he : ixC code rest = some i) (hx : code[i]? = some x) (hd : 0 < rest.length) : ReadTo code ds (L ++ [(i : Int)]) (rest.drop x.length) := by
  unfold ReadTo at *
  rw [hr, readW_step h he hx hd]
  cases readW code (rest.drop x.length) <;> simp
def digB (ds : List Int) : Bool := decide (ds.length ≤ 180) && allB ds 0 59
def readRes (code : List (List Int)) (ds : List Int) : List Int × Bool :=
  if codeB code && digB ds then match readW code ds with
    | some L => (L, true)
    | Option.none => ([], false)
  else ([], false)
theorem readRes_bad {code : List (List Int)} {ds : List Int} (h : (codeB code && digB ds) = false) : readRes code ds = ([], false) := by unfold readRes; rw [h]; rfl
theorem ReadTo.done {code : List (List Int)} {ds L : List Int} (hc : (codeB code && digB ds) = true) (h : ReadTo code ds L []) : readRes code ds = (L, true) := by
  unfold ReadTo at h
  rw [readW_nil] at h
  unfold readRes
  rw [hc, h]; simp
theorem ReadTo.stuck {code : List (List Int)} {ds L rest : List Int} (hc : (codeB code && digB ds) = true) (h : ReadTo code ds L rest) (he : ixC code rest = Option.none) (hd : 0 < rest.length) : readRes code ds = ([], false) := by
  unfold ReadTo at h
  rw [readW_none he hd] at h
  unfold readRes
  rw [hc, h]; rfl
/-- Of the first k words the one that begins digits. -/
def ixUp (code : List (List Int)) (ds : List Int) (k : Nat) : Option Nat := ixC (code.take k) ds
theorem ixUp_full (code : List (List Int)) (ds : List Int) : ixUp code ds code.length = ixC code ds := by unfold ixUp; rw [List.take_length]
theorem ixUp_no {code : List (List Int)} {ds x : List Int} {k : Nat} (hx : code[k]? = some x) (hb : begB x ds = false) : ixUp code ds (k + 1) = ixUp code ds k := by
  unfold ixUp ixC
  rw [take_snocN hx, List.findIdx?_append]
  simp [hb, List.findIdx?_cons]
theorem ixUp_yes {code : List (List Int)} (h : codeB code = true) {ds x : List Int} {k : Nat} (hx : code[k]? = some x) (hb : begB x ds = true) : ixUp code ds (k + 1) = some k := by
  have hk := (List.getElem?_eq_some_iff.1 hx).1
  have hn : (code.take k).findIdx? (fun x => begB x ds) = Option.none := by
    rw [List.findIdx?_eq_none_iff]
    intro y hy
    obtain ⟨j, hj⟩ := List.getElem?_of_mem hy
    rw [List.getElem?_take] at hj
    split at hj
    · rename_i hlt
      cases e : begB y ds
      · rfl
      · have := code_one h hj hx e hb; omega
    · cases hj
  unfold ixUp ixC
  rw [take_snocN hx, List.findIdx?_append, hn]
  simp [hb, List.findIdx?_cons, List.length_take]
  omega
def lenV : Value → Nat
  | .slice _ n _ => n
  | _ => 0
theorem RdI.dropAll {w : World} {hi n c : Nat} {b off : Nat} {xs : List Int} (h : RdI w hi (.slice (some ⟨b, off, Option.none⟩) n c) xs) (hn : n = xs.length) (hc : n ≤ c) {k : Nat} (hk : k ≤ n) :
    RdI w hi (.slice (some ⟨b, off + k, Option.none⟩) (n - k) (c - k)) (xs.drop k) ∧ (k = n → RdI w hi (.slice (some ⟨b, off, Option.none⟩) (n - k) (c - k)) (xs.drop k)) := by
  have hm : c ≤ maxLen := by
    obtain ⟨_, _, _, hv, _, h2, _⟩ := h; cases hv; exact h2
  subst hn
  constructor
  · rcases Nat.lt_or_ge k xs.length with hlt | hge
    · exact RdI.drop h hlt
    · have : xs.drop k = [] := List.drop_eq_nil_of_le hge
      rw [this]
      exact ⟨rfl, some ⟨b, off + k, Option.none⟩, c - k, by rw [show xs.length - k = 0 by omega]; rfl, Nat.zero_le _, by omega, fun h => absurd h (by simp)⟩
  · rintro rfl
    have : xs.drop xs.length = [] := by simp
    rw [this]
    exact ⟨rfl, some ⟨b, off, Option.none⟩, c - xs.length, by rw [Nat.sub_self]; rfl, Nat.zero_le _, by omega, fun h => absurd h (by simp)⟩
end Go.Proofs.Ytjnkdjokbamibaa
/- Contracts: digits read as words; of the program and of the reference. -/
namespace Go.Proofs.Ytjnkdjokbamibaa
open Go.RowKit
set_option maxRecDepth 100000 in
set_option maxHeartbeats 4000000 in
theorem sReadWords_any (code : List (List Int)) (ds : List Int) (v u : Value) (hi hj : Nat) (w : World) (h : RdII w hi v code) (g : RdI w hj u ds) (hh : hi ≤ w.heap.size) (hg : hj ≤ w.heap.size) :
    Calls Try.prog 54 #[v, u] w (RetOwT (readRes code ds).1 (readRes code ds).2 w) := by
  obtain ⟨A, c, rfl, hm⟩ := h.form
  obtain ⟨A', c', rfl, hc', hm'⟩ := Rd.form g
  have H := Lib.hid h
  have G := Lib.hid g
  clear h g
  have cC := cmCode_any code _ hi w H.out
  cases hcb : codeB code
  · rw [hcb] at cC
    have CC := Lib.hid cC
    have HX : Hid ((codeB code && digB ds) = false) := by show (_ && _) = false; rw [hcb]; rfl
    clear cC hcb
    rw [readRes_bad HX.out]
    go_enter Try.func54, Try.ntmps54
    go_wp2_with (go_at_call 112; refine CC.out.mono ?_; rintro e w1 ⟨rfl, n1, rfl⟩)
    go_ret2
    exact retOwT _ (GrowI.nil (bel_drewN _ _ _))
  · rw [hcb] at cC
    have CC := Lib.hid cC
    have HCB := Lib.hid hcb
    clear cC
    by_cases h180 : ds.length ≤ 180
    · have H180 := Lib.hid h180
      have h180i : ¬ (180 : Int) < (ds.length : Int) := by omega
      have cA := fun n => l1All_any ds 0 59 _ hj (w.drewN n) (show RdI (w.drewN n) hj _ _ from G.out)
      cases hal : allB ds 0 59
      · rw [hal] at cA
        have CA := Lib.hid cA
        have HX : Hid ((codeB code && digB ds) = false) := by show (_ && _) = false; unfold digB; rw [hal, Bool.and_false, Bool.and_false]
        clear cA hal hcb
        rw [readRes_bad HX.out]
        go_enter Try.func54, Try.ntmps54
        go_wp2_with fail
        refine CC.out.mono ?_
        rintro e w1 ⟨rfl, n1, rfl⟩
        go_wp2_with (go_at_call 113; refine (CA.out _).mono ?_; rintro e w' ⟨rfl, rfl⟩)
        go_ret2
        exact retOwT _ (GrowI.nil (bel_drewN _ _ _))
      · rw [hal] at cA
        have CA := Lib.hid cA
        have HX : Hid ((codeB code && digB ds) = true) := by show (_ && _) = true; unfold digB; rw [hcb, hal, decide_eq_true h180]; rfl
        have hcl := (code_len hcb).2
        clear cA hal hcb
        go_enter Try.func54, Try.ntmps54
        go_wp2_with fail
        refine CC.out.mono ?_
        rintro e w1 ⟨rfl, n1, rfl⟩
        go_wp2_with (go_at_call 113; refine (CA.out _).mono ?_; rintro e w' ⟨rfl, rfl⟩)
        go_loopw [1, 6] (fun dv q wr => ∃ (rest L : List Int) (D : Option Addr) (n cc : Nat), dv = .slice D n cc ∧ Hid (n = rest.length) ∧ n ≤ cc ∧ n + L.length ≤ 180 ∧ Hid (RdI w hj (.slice D n cc) rest) ∧ Hid (ReadTo code ds L rest) ∧ GrowI w w.heap.size wr q L) (fun dv _ _ => lenV dv)
        case atStart => exact ⟨ds, [], A', ds.length, c', rfl, rfl, hc', by simpa using h180, G.out, ReadTo.start _ _, GrowI.nil (bel_drewN _ _ _)⟩
        case round =>
          obtain ⟨rest, L, D, n, cc, rfl, hn, hncc, hlen, hrd, hto, hG⟩ := hrel
          rcases Nat.eq_zero_or_pos n with hn0 | hpos
          · have hR : Hid (rest = []) := List.eq_nil_of_length_eq_zero (by rw [← hn.out]; exact hn0)
            have hi0 : ¬ (0 : Int) < (n : Int) := by omega
            have hn1 : ¬ 0 < n := by omega
            have HN0 := Lib.hid hn0
            clear hn0
            go_wp2_with fail
            go_ret2
            have := hto.out
            rw [hR.out] at this
            rw [this.done HX.out]
            exact retOwT _ hG
          · have hpi : (0 : Int) < (n : Int) := by omega
            have HRP : Hid (0 < rest.length) := by show 0 < _; rw [← hn.out]; exact hpos
            have hncl : cc ≤ 9223372036854775807 := by
              have := hrd.out; obtain ⟨_, _, _, hv, _, h2, _⟩ := this; cases hv; unfold maxLen at h2; omega
            obtain ⟨b0, o0, rfl⟩ : ∃ b0 o0, D = some ⟨b0, o0, Option.none⟩ := by
              have := hrd.out; obtain ⟨_, _, _, hv, _, _, h3⟩ := this; cases hv
              obtain ⟨b, o, e, _⟩ := h3 HRP.out; exact ⟨b, o, e⟩
            rename World => wo
            have hGs := hG.2.1
            go_wp2_with fail
            go_loopw [7, 28] (fun f i wr => ∃ k : Nat, k ≤ code.length ∧ i = .int .i64 k ∧ f = .int .i64 (ixI (ixUp code rest k)) ∧ ∃ m, wr = wo.drewN m) (fun _ i _ => code.length - (intOf i).toNat)
            case atStart => exact ⟨0, Nat.zero_le _, rfl, by simp [ixUp, ixC, ixI], 0, rfl⟩
            case round =>
              obtain ⟨k, hk, rfl, rfl, m, rfl⟩ := hrel
              by_cases hlt : k < code.length
              · obtain ⟨b1, o1, c1, a, xs, hv, _, hx, hcell1, hra⟩ := (H.out.below hGs hh).at_ hlt
                cases hv
                obtain ⟨A2, c2, rfl, hc2, hm2⟩ := Rd.form hra
                have HX2 := Lib.hid hx
                have HRA := Lib.hid hra
                have HRR := Lib.hid (RdI.below hrd.out hGs hg)
                have cB := fun q => bkBegins_any xs rest _ _ hi hj (wo.drewN q) (show RdI (wo.drewN q) hi _ _ from HRA.out) (show RdI (wo.drewN q) hj _ _ from HRR.out)
                clear hx hra
                cases hbg : begB xs rest
                · rw [hbg] at cB
                  have CB := Lib.hid cB
                  have HBG := Lib.hid hbg
                  clear cB hbg
                  go_wp2_with (go_at_call 117; refine (CB.out _).mono ?_; rintro e w' ⟨rfl, m2, rfl⟩)
                  go_roundw
                  case rel => exact ⟨k + 1, by omega, by go_num, by rw [ixUp_no HX2.out HBG.out], m + m2, by first | rfl | rw [World.drewN_drewN]⟩
                  case measure => (simp [intOf]; try omega)
                · rw [hbg] at cB
                  have CB := Lib.hid cB
                  have HBG := Lib.hid hbg
                  clear cB hbg
                  go_wp2_with (go_at_call 117; refine (CB.out _).mono ?_; rintro e w' ⟨rfl, m2, rfl⟩)
                  go_roundw
                  case rel => exact ⟨k + 1, by omega, by go_num, by rw [ixUp_yes HCB.out HX2.out HBG.out]; rfl, m + m2, by first | rfl | rw [World.drewN_drewN]⟩
                  case measure => (simp [intOf]; try omega)
              · obtain rfl : k = code.length := by omega
                have hGd : GrowI w w.heap.size (wo.drewN m) _ L := hG.belowR (bel_drewN _ _ _)
                rcases hix : ixUp code rest code.length with _ | i
                · rw [ixUp_full] at hix
                  have HIX := Lib.hid hix
                  clear hix
                  unfold ixI
                  go_wp2_with fail
                  go_ret2
                  rw [hto.out.stuck HX.out HIX.out HRP.out]
                  exact retOwT _ (GrowI.nil (hGd.2.1))
                · rw [ixUp_full] at hix
                  obtain ⟨x, hx, hbx, hil⟩ := ixC_some hix
                  have HIX := Lib.hid hix
                  have hxl := code_pos HCB.out (List.mem_of_getElem? hx)
                  have hxn : x.length ≤ n := by rw [begB_iff] at hbx; have := hbx.length_le; rw [hn.out]; exact this
                  obtain ⟨b1, o1, c1, a, xs, hv, hb1, hx2, hcell1, hra⟩ := (H.out).at_ hil
                  cases hv
                  rw [hx] at hx2
                  cases hx2
                  obtain ⟨A2, c2, rfl, hc2, hm2⟩ := Rd.form hra
                  have HXX := Lib.hid hx
                  have hx1 := hxl.1
                  have hLl : L.length < 180 := by omega
                  have HHC := Lib.hid hcell1
                  clear hix hx hbx hxl hra hcell1
                  unfold ixI
                  have hcell5 := fun (w5 : World) (hb5 : Below w.heap.size w w5) => (hb5.cell (p := ⟨b1, o1 + i, Option.none⟩) (by show b1 < _; omega)).trans HHC.out
                  have HC5 := Lib.hid hcell5
                  clear hcell5
                  by_cases hck : cc = x.length
                  · have HCK := Lib.hid hck
                    have hxi : (x.length : Int) ≤ (n : Int) := by omega
                    go_wp2_with (at_builtin; refine GrowI.app rfl (.tmp 40) (.tmp 42) rfl hGd (by omega) rfl rfl ?_; intro v' w5 hG'; have hc5 := HC5.out w5 hG'.2.1)
                    go_roundw
                    case rel => exact ⟨rest.drop x.length, L ++ [(i : Int)], some ⟨b0, o0, Option.none⟩, n - x.length, 0, rfl, by show n - x.length = _; rw [List.length_drop, ← hn.out], by have := HCK.out; omega, by rw [List.length_append]; simp; omega,
                      by have h1 := (RdI.dropAll hrd.out hn.out hncc hxn).2 (by have := HCK.out; omega); rwa [show cc - x.length = 0 by have := HCK.out; omega] at h1, hto.out.next HCB.out HIX.out HXX.out HRP.out, hG'⟩
                    case measure => show n - x.length < n; omega
                  · have hxi : (x.length : Int) ≤ (n : Int) := by omega
                    go_wp2_with (at_builtin; refine GrowI.app rfl (.tmp 40) (.tmp 42) rfl hGd (by omega) rfl rfl ?_; intro v' w5 hG'; have hc5 := HC5.out w5 hG'.2.1)
                    go_roundw
                    case rel => exact ⟨rest.drop x.length, L ++ [(i : Int)], some ⟨b0, o0 + x.length, Option.none⟩, n - x.length, cc - x.length, rfl, by show n - x.length = _; rw [List.length_drop, ← hn.out], by omega, by rw [List.length_append]; simp; omega,
                      (RdI.dropAll hrd.out hn.out hncc hxn).1, hto.out.next HCB.out HIX.out HXX.out HRP.out, hG'⟩
                    case measure => show n - x.length < n; omega
    · have h180i : (180 : Int) < (ds.length : Int) := by omega
      have HX : Hid ((codeB code && digB ds) = false) := by show (_ && _) = false; unfold digB; rw [decide_eq_false h180, Bool.false_and, Bool.and_false]
      rw [readRes_bad HX.out]
      go_enter Try.func54, Try.ntmps54
      go_wp2_with (go_at_call 112; refine CC.out.mono ?_; rintro e w1 ⟨rfl, n1, rfl⟩)
      go_ret2
      exact retOwT _ (GrowI.nil (bel_drewN _ _ _))
/-- What is asked of a predicate on lists. -/
def PredI (g : Nat) (lb : Array Value) (hi : Nat) (p : List Int → Bool) (w : World) : Prop :=
  ∀ (n : Nat) (x : List Int) (u : Value), RdI (w.drewN n) hi u x → Calls Try.prog g (#[u] ++ lb) (w.drewN n) fun e w' => e = .returned (.bool (p x)) ∧ ∃ m, w' = (w.drewN n).drewN m
set_option maxHeartbeats 800000 in
theorem indexII_any (xss : List (List Int)) (v : Value) (hi : Nat) (w : World) (g : Nat) (lb : Array Value) (p : List Int → Bool) (h : RdII w hi v xss) (hp : PredI g lb hi p w)
    (eg : ∀ args w, (callFunc g args).run Try.prog w = .ok (.enter g args) w) :
    Calls Try.prog 114 #[v, .func (.func g) #[] lb] w fun e w' => e = .returned (.int .i64 (ixI (xss.findIdx? p))) ∧ ∃ n, w' = w.drewN n := by
  obtain ⟨A, c, rfl, hm⟩ := h.form
  have H := Lib.hid h
  have HP := Lib.hid hp
  clear h hp
  go_enter Try.func114, Try.ntmps114
  go_wp2
  go_loopw [8] (fun i wr => ∃ k : Nat, k ≤ xss.length ∧ i = .int .i64 k ∧ Hid (∀ j, j < k → ∀ x, xss[j]? = some x → p x = false) ∧ ∃ n, wr = w.drewN n) (fun i _ => xss.length - (intOf i).toNat)
  case atStart => exact ⟨0, Nat.zero_le _, rfl, fun j hj => by omega, 0, rfl⟩
  case round =>
    obtain ⟨k, hk, rfl, hno, n, rfl⟩ := hrel
    by_cases hlt : k < xss.length
    · obtain ⟨b1, o1, c1, a, xs, hv, _, hx, hcell1, hra⟩ := H.out.at_ hlt
      cases hv
      obtain ⟨A2, c2, rfl, hc2, hm2⟩ := Rd.form hra
      have hcall := HP.out n xs _ (show RdI (w.drewN n) hi _ _ from hra)
      have HX := Lib.hid hx
      clear hra hx
      cases hq : p xs
      · have HQ := Lib.hid hq
        rw [hq] at hcall
        clear hq
        have HC := Lib.hid hcall
        clear hcall
        go_wp2_with (go_at_fn g; refine HC.out.mono ?_; rintro e w' ⟨rfl, m, rfl⟩)
        go_roundw
        case rel => exact ⟨k + 1, by omega, by go_num, fun j hj x hx => by
          by_cases e : j = k
          · subst e; rw [HX.out] at hx; cases hx; exact HQ.out
          · exact hno.out j (by omega) x hx, n + m, by first | rfl | rw [World.drewN_drewN]⟩
        case measure => (simp [intOf]; try omega)
      · have HQ := Lib.hid hq
        rw [hq] at hcall
        clear hq
        have HC := Lib.hid hcall
        clear hcall
        go_wp2_with (go_at_fn g; refine HC.out.mono ?_; rintro e w' ⟨rfl, m, rfl⟩)
        go_ret
        refine ⟨ret_int ?_, n + m, by first | rfl | rw [World.drewN_drewN]⟩
        rw [findIdx_take (fun j hj x hx => hno.out j hj x hx) HX.out HQ.out]
        rfl
    · obtain rfl : k = xss.length := by omega
      go_wp2_with fail
      go_ret
      refine ⟨ret_int ?_, n, rfl⟩
      rw [findIdx_none (fun j x hx => hno.out j (List.getElem?_eq_some_iff.1 hx).1 x hx)]
      rfl
theorem ReadWords1_any (xs ys : List Int) (u s : Value) (B hi hj : Nat) (w : World) (h : RdI w hi u xs) (g : RdI w hj s ys) (hc : w.cell? ⟨B, 0, Option.none⟩ = some s) :
    Calls Try.prog 115 #[u, .pointer (some ⟨B, 0, Option.none⟩)] w fun e w' => e = .returned (.bool (begB xs ys)) ∧ ∃ n, w' = w.drewN n := by
  obtain ⟨A, c, rfl, hc1, hm⟩ := Rd.form h
  obtain ⟨A', c', rfl, hc2, hm'⟩ := Rd.form g
  have H := Lib.hid h
  have G := Lib.hid g
  clear h g
  go_enter Try.func115, Try.ntmps115
  go_wp2_with fail
  refine (begins_any xs ys _ _ hi hj _ H.out G.out).mono ?_
  rintro e w' ⟨rfl, n, rfl⟩
  go_wp2_with fail
  go_ret
  exact ⟨rfl, n, rfl⟩
theorem own_down {w : World} {lo : Nat} {v : Value} {xs : List Int} (h : w.ownsRow (lo + 1) 3 1 v xs.length (ints xs)) : OwI w lo w.heap.size v xs := by
  refine ⟨⟨h.1, ?_⟩, fun k hk => (h.lt k hk).2⟩
  rcases h.2 with hn | ⟨g, cap, cur, rfl, hl, rest⟩
  · exact .inl hn
  · exact .inr ⟨g, cap, cur, rfl, by omega, rest⟩
set_option maxRecDepth 100000 in
set_option maxHeartbeats 4000000 in
theorem ReadWords_any (code : List (List Int)) (ds : List Int) (v u : Value) (hi hj : Nat) (w : World) (h : RdII w hi v code) (g : RdI w hj u ds) (hh : hi ≤ w.heap.size) (hg : hj ≤ w.heap.size) :
    Calls Try.prog 53 #[v, u] w (RetOwT (readRes code ds).1 (readRes code ds).2 w) := by
  obtain ⟨A, c, rfl, hm⟩ := h.form
  obtain ⟨A', c', rfl, hc', hm'⟩ := Rd.form g
  have hba : Below w.heap.size w (w.alloc (.cells #[.slice A' ds.length c'] 35)) := (Below.refl _ _).alloc (Nat.le_refl _) _
  have HBA := Lib.hid hba
  have H := Lib.hid (h.below hba hh)
  have G := Lib.hid (RdI.below g hba hg)
  have HBL := Lib.hid (Blk.new w 35 #[.slice A' ds.length c'])
  have hcell0 := HBL.out.cell 0
  simp only [List.getElem?_cons_zero] at hcell0
  have HG0 := Lib.hid g
  have HC0 := Lib.hid h
  clear h g hba
  have cC := isCode_any code _ hi (w.alloc (.cells #[.slice A' ds.length c'] 35)) H.out
  cases hcb : codeB code
  · rw [hcb] at cC
    have CC := Lib.hid cC
    have HX : Hid ((codeB code && digB ds) = false) := by show (_ && _) = false; rw [hcb]; rfl
    clear cC hcb
    rw [readRes_bad HX.out]
    go_enter Try.func53, Try.ntmps53
    go_wp2_with (go_at_call 111; refine CC.out.mono ?_; rintro e w1 ⟨rfl, n1, rfl⟩)
    go_ret2
    exact retOwT _ (GrowI.nil (HBA.out.trans (bel_drewN _ _ _)))
  · rw [hcb] at cC
    have CC := Lib.hid cC
    have HCB := Lib.hid hcb
    clear cC
    by_cases h180 : ds.length ≤ 180
    · have H180 := Lib.hid h180
      have h180i : ¬ (180 : Int) < (ds.length : Int) := by omega
      have cA := fun n => allWithin_any ds 0 59 _ hj ((w.alloc (.cells #[.slice A' ds.length c'] 35)).drewN n) (show RdI ((w.alloc (.cells #[.slice A' ds.length c'] 35)).drewN n) hj _ _ from G.out)
      cases hal : allB ds 0 59
      · rw [hal] at cA
        have CA := Lib.hid cA
        have HX : Hid ((codeB code && digB ds) = false) := by show (_ && _) = false; unfold digB; rw [hal, Bool.and_false, Bool.and_false]
        clear cA hal hcb
        rw [readRes_bad HX.out]
        go_enter Try.func53, Try.ntmps53
        go_wp2_with fail
        refine CC.out.mono ?_
        rintro e w1 ⟨rfl, n1, rfl⟩
        go_wp2_with (go_at_call 87; refine (CA.out _).mono ?_; rintro e w' ⟨rfl, rfl⟩)
        go_ret2
        exact retOwT _ (GrowI.nil (HBA.out.trans (bel_drewN _ _ _)))
      · rw [hal] at cA
        have CA := Lib.hid cA
        have HX : Hid ((codeB code && digB ds) = true) := by show (_ && _) = true; unfold digB; rw [hcb, hal, decide_eq_true h180]; rfl
        clear cA hal hcb
        go_enter Try.func53, Try.ntmps53
        go_wp2_with fail
        refine CC.out.mono ?_
        rintro e w1 ⟨rfl, n1, rfl⟩
        go_wp2_with (go_at_call 87; refine (CA.out _).mono ?_; rintro e w' ⟨rfl, rfl⟩)
        clear hcell0
        go_loopw [6] (fun q wr => ∃ (rest L : List Int) (D : Option Addr) (n cc : Nat), Hid (Blk wr w.heap.size 35 [.slice D n cc]) ∧ Hid (n = rest.length) ∧ n ≤ cc ∧ n + L.length ≤ 180 ∧ Hid (RdI w hj (.slice D n cc) rest) ∧ Hid (ReadTo code ds L rest) ∧ Hid (wr.ownsRow (w.heap.size + 1) 3 1 q L.length (ints L)) ∧ Hid (Below w.heap.size w wr)) (fun _ wr => lenV ((wr.cell? ⟨w.heap.size, 0, Option.none⟩).getD undef))
        case atStart => exact ⟨ds, [], A', ds.length, c', HBL.out, rfl, hc', by simpa using h180, HG0.out, ReadTo.start _ _, World.ownsRow_nil _ _ _ _, HBA.out.trans (bel_drewN _ _ _)⟩
        case round =>
          obtain ⟨rest, L, D, n, cc, hblk, hn, hncc, hlen, hrd, hto, hown, hbr⟩ := hrel
          have hcl := hblk.out.cell 0
          simp only [List.getElem?_cons_zero] at hcl
          have hszr : w.heap.size + 1 ≤ wr.heap.size := by have := hblk.out.lt; omega
          rcases Nat.eq_zero_or_pos n with hn0 | hpos
          · have hR : Hid (rest = []) := List.eq_nil_of_length_eq_zero (by rw [← hn.out]; exact hn0)
            have hi0 : ¬ (0 : Int) < (n : Int) := by omega
            have hn1 : ¬ 0 < n := by omega
            have HN0 := Lib.hid hn0
            clear hn0
            go_wp2_with fail
            go_ret2
            have := hto.out
            rw [hR.out] at this
            rw [this.done HX.out]
            exact ⟨_, rfl, own_down hown.out, hbr.out⟩
          · have hpi : (0 : Int) < (n : Int) := by omega
            have HRP : Hid (0 < rest.length) := by show 0 < _; rw [← hn.out]; exact hpos
            have hncl : cc ≤ 9223372036854775807 := by
              have := hrd.out; obtain ⟨_, _, _, hv, _, h2, _⟩ := this; cases hv; unfold maxLen at h2; omega
            obtain ⟨b0, o0, rfl⟩ : ∃ b0 o0, D = some ⟨b0, o0, Option.none⟩ := by
              have := hrd.out; obtain ⟨_, _, _, hv, _, _, h3⟩ := this; cases hv
              obtain ⟨b, o, e, _⟩ := h3 HRP.out; exact ⟨b, o, e⟩
            have hpred : PredI 115 #[.pointer (some ⟨w.heap.size, 0, Option.none⟩)] hi (fun x => begB x rest) wr := fun q x u hu =>
              ReadWords1_any x rest u (.slice (some ⟨b0, o0, Option.none⟩) n cc) w.heap.size hi hj _ hu (show RdI (wr.drewN q) hj _ _ from (RdI.below hrd.out hbr.out hg : RdI wr hj _ _)) hcl
            have HIC := Lib.hid (indexII_any code _ hi wr _ _ _ (HC0.out.below hbr.out hh) hpred (enters_of Try.func115 (by kernel_rfl) rfl))
            clear hpred
            rcases hix : ixC code rest with _ | i
            · have HIX := Lib.hid hix
              go_wp2_with fail
              refine HIC.out.mono ?_
              rintro e w2 ⟨rfl, m2, rfl⟩
              rw [show code.findIdx? (fun x => begB x rest) = Option.none from HIX.out]
              unfold ixI
              go_wp2_with fail
              go_ret2
              rw [hto.out.stuck HX.out HIX.out HRP.out]
              exact retOwT _ (GrowI.nil (hbr.out.trans (bel_drewN _ _ _)))
            · obtain ⟨x, hx, hbx, hil⟩ := ixC_some hix
              have HIX := Lib.hid hix
              have hxl := code_pos HCB.out (List.mem_of_getElem? hx)
              have hxn : x.length ≤ n := by rw [begB_iff] at hbx; have := hbx.length_le; rw [hn.out]; exact this
              have hcl2 := (code_len HCB.out).2
              obtain ⟨b1, o1, c1, a, xs, hv, hb1, hx2, hcell1, hra⟩ := (HC0.out).at_ hil
              cases hv
              rw [hx] at hx2
              cases hx2
              obtain ⟨A2, c2, rfl, hc2, hm2⟩ := Rd.form hra
              have HXX := Lib.hid hx
              have hx1 := hxl.1
              have hLl : L.length < 180 := by omega
              have hcl5 := fun (w5 : World) (hb5 : Below (w.heap.size + 1) wr w5) => ((hb5.mono (show w.heap.size ≤ w.heap.size + 1 by omega)).cell (p := ⟨b1, o1 + i, Option.none⟩) (by show b1 < _; omega)).trans ((hbr.out.cell (p := ⟨b1, o1 + i, Option.none⟩) (by show b1 < _; omega)).trans hcell1)
              have HC5 := Lib.hid hcl5
              have hg5 := fun m => (show GrowI wr (w.heap.size + 1) (wr.drewN m) _ L from ⟨hown.out, bel_drewN _ _ _, hszr⟩)
              have HG5 := Lib.hid hg5
              clear hg5
              clear hix hx hbx hxl hra hcell1 hcl5
              go_wp2_with fail
              refine HIC.out.mono ?_
              rintro e w2 ⟨rfl, m2, rfl⟩
              rw [show code.findIdx? (fun x => begB x rest) = some i from HIX.out]
              unfold ixI
              have hxi : (x.length : Int) ≤ (n : Int) := by omega
              by_cases hck : cc = x.length
              · have HCK := Lib.hid hck
                go_wp2_with (at_builtin; refine GrowI.app rfl (.tmp 29) (.tmp 31) rfl (HG5.out m2) (by omega) rfl rfl ?_; intro v' w5 hG')
                have d0 := (hG'.2.1.cell (p := ⟨w.heap.size, 0, Option.none⟩) (by show w.heap.size < _; omega)).trans hcl
                have d1 := HC5.out w5 hG'.2.1
                have d2 := (hG'.2.1.frozen (p := ⟨w.heap.size, 0, Option.none⟩) (by show w.heap.size < _; omega)).trans (hblk.out.frozen 0)
                have hbl5 := hblk.out.below hG'.2.1 (by omega)
                have HBL5 := Lib.hid hbl5
                have HG6 := Lib.hid hG'
                clear hG' hbl5 hcl
                go_still_tail 7, (by kernel_rfl)
                change wpList _ _ _ _ _ w5.drew
                have e0 : w5.drew.cell? ⟨w.heap.size, 0, Option.none⟩ = some (.slice (some ⟨b0, o0, Option.none⟩) n cc) := d0
                have e2 : w5.drew.frozen? ⟨w.heap.size, 0, Option.none⟩ = false := d2
                clear d0 d1 d2
                go_wp2_with fail
                go_roundw
                case rel =>
                  refine ⟨rest.drop x.length, L ++ [(i : Int)], some ⟨b0, o0, Option.none⟩, n - x.length, 0, (Blk.set_ (show Blk w5.drew w.heap.size 35 _ from HBL5.out) 0 _), by show n - x.length = _; rw [List.length_drop, ← hn.out], by have := HCK.out; omega, by rw [List.length_append]; simp; omega, by have h1 := (RdI.dropAll hrd.out hn.out hncc hxn).2 (by have := HCK.out; omega); rwa [show cc - x.length = 0 by have := HCK.out; omega] at h1, hto.out.next HCB.out HIX.out HXX.out HRP.out, ?_, ?_⟩
                  · exact ownsRow_setCell_below (show w5.drew.ownsRow _ _ _ _ _ _ from HG6.out.1) (by show w.heap.size < _; omega) _
                  · exact ((hbr.out.trans (HG6.out.2.1.mono (by omega))).drew).setCell (Nat.le_refl _) _
                case measure =>
                  have h1 := (Blk.set_ HBL5.out 0 (.slice (some ⟨b0, o0, Option.none⟩) (n - x.length) (0))).cell 0
                  have h2 := hblk.out.cell 0
                  simp only [List.set_cons_zero, List.getElem?_cons_zero] at h1 h2
                  have h3 : ((w5.setCell ⟨w.heap.size, 0, Option.none⟩ _).drew).cell? ⟨w.heap.size, 0, Option.none⟩ = _ := h1
                  rw [h3, h2]
                  show n - x.length < n
                  omega
              · skip
                go_wp2_with (at_builtin; refine GrowI.app rfl (.tmp 29) (.tmp 31) rfl (HG5.out m2) (by omega) rfl rfl ?_; intro v' w5 hG')
                have d0 := (hG'.2.1.cell (p := ⟨w.heap.size, 0, Option.none⟩) (by show w.heap.size < _; omega)).trans hcl
                have d1 := HC5.out w5 hG'.2.1
                have d2 := (hG'.2.1.frozen (p := ⟨w.heap.size, 0, Option.none⟩) (by show w.heap.size < _; omega)).trans (hblk.out.frozen 0)
                have hbl5 := hblk.out.below hG'.2.1 (by omega)
                have HBL5 := Lib.hid hbl5
                have HG6 := Lib.hid hG'
                clear hG' hbl5 hcl
                go_still_tail 7, (by kernel_rfl)
                change wpList _ _ _ _ _ w5.drew
                have e0 : w5.drew.cell? ⟨w.heap.size, 0, Option.none⟩ = some (.slice (some ⟨b0, o0, Option.none⟩) n cc) := d0
                have e2 : w5.drew.frozen? ⟨w.heap.size, 0, Option.none⟩ = false := d2
                clear d0 d1 d2
                go_wp2_with fail
                go_roundw
                case rel =>
                  refine ⟨rest.drop x.length, L ++ [(i : Int)], some ⟨b0, o0 + x.length, Option.none⟩, n - x.length, cc - x.length, (Blk.set_ (show Blk w5.drew w.heap.size 35 _ from HBL5.out) 0 _), by show n - x.length = _; rw [List.length_drop, ← hn.out], by omega, by rw [List.length_append]; simp; omega, (RdI.dropAll hrd.out hn.out hncc hxn).1, hto.out.next HCB.out HIX.out HXX.out HRP.out, ?_, ?_⟩
                  · exact ownsRow_setCell_below (show w5.drew.ownsRow _ _ _ _ _ _ from HG6.out.1) (by show w.heap.size < _; omega) _
                  · exact ((hbr.out.trans (HG6.out.2.1.mono (by omega))).drew).setCell (Nat.le_refl _) _
                case measure =>
                  have h1 := (Blk.set_ HBL5.out 0 (.slice (some ⟨b0, o0 + x.length, Option.none⟩) (n - x.length) (cc - x.length))).cell 0
                  have h2 := hblk.out.cell 0
                  simp only [List.set_cons_zero, List.getElem?_cons_zero] at h1 h2
                  have h3 : ((w5.setCell ⟨w.heap.size, 0, Option.none⟩ _).drew).cell? ⟨w.heap.size, 0, Option.none⟩ = _ := h1
                  rw [h3, h2]
                  show n - x.length < n
                  omega
    · have h180i : (180 : Int) < (ds.length : Int) := by omega
      have HX : Hid ((codeB code && digB ds) = false) := by show (_ && _) = false; unfold digB; rw [decide_eq_false h180, Bool.false_and, Bool.and_false]
      rw [readRes_bad HX.out]
      go_enter Try.func53, Try.ntmps53
      go_wp2_with (go_at_call 111; refine CC.out.mono ?_; rintro e w1 ⟨rfl, n1, rfl⟩)
      go_ret2
      exact retOwT _ (GrowI.nil (HBA.out.trans (bel_drewN _ _ _)))
end Go.Proofs.Ytjnkdjokbamibaa
/- A list of rests in memory: each lies in old memory or is a row of the call's own; one more is put to the others; of the program and of the reference. -/
namespace Go.Proofs.Ytjnkdjokbamibaa
open Go.RowKit
/-- The slice value u reads as xs, in memory below B, or in a block of ints. -/
def El (w : World) (B : Nat) (u : Value) (xs : List Int) : Prop :=
  RdI w w.heap.size u xs ∧ ∀ (b off n c : Nat), u = .slice (some ⟨b, off, Option.none⟩) n c → 0 < n → b < B ∨ ∃ cur fz, w.heap[b]? = some (.cells cur 3 fz)
theorem El.rd {w : World} {B : Nat} {u : Value} {xs : List Int} (h : El w B u xs) (_ : B ≤ w.heap.size) : RdI w w.heap.size u xs := h.1
theorem El.below {w w' : World} {B : Nat} {u : Value} {xs : List Int} (h : El w B u xs) (_ : B ≤ w.heap.size) (hb : Below w.heap.size w w') : El w' B u xs := by
  refine ⟨(RdI.below h.1 hb (Nat.le_refl _)).mono hb.size, fun b off n c hu hn => ?_⟩
  rcases h.2 b off n c hu hn with h2 | ⟨cur, fz, h2⟩
  · exact .inl h2
  · exact .inr ⟨cur, fz, (hb.block b (Array.getElem?_eq_some_iff.1 h2).1).trans h2⟩
/-- Blocks other than rows of slices, and boxes of such, stand. -/
def Fr (w w' : World) : Prop := ∀ (k : Nat) (c : Array Value) (e : TypeId) (fz : Nat × Nat), w.heap[k]? = some (.cells c e fz) → e ≠ 35 → e ≠ 61 → w'.heap[k]? = some (.cells c e fz)
theorem Fr.refl (w : World) : Fr w w := fun _ _ _ _ h _ _ => h
theorem Fr.trans {a b c : World} (h : Fr a b) (g : Fr b c) : Fr a c := fun k x e fz hk h1 h2 => g k x e fz (h k x e fz hk h1 h2) h1 h2
theorem Blk.fr {w w' : World} {g : Nat} {t : TypeId} {cs : List Value} (h : Blk w g t cs) (hf : Fr w w') (h1 : t ≠ 35) (h2 : t ≠ 61) : Blk w' g t cs := hf _ _ _ _ h h1 h2
theorem El.fr {a w w' : World} {B : Nat} {u : Value} {xs : List Int} (h : El w B u xs) (hb : Below B a w) (hb' : Below B a w') (hs : w.heap.size ≤ w'.heap.size) (hf : Fr w w') : El w' B u xs := by
  obtain ⟨⟨h0, A, c, h1, h2, h3, h4⟩, h5⟩ := h
  refine ⟨⟨h0, A, c, h1, h2, h3, fun hn => ?_⟩, fun b off n c hu hn => ?_⟩
  · obtain ⟨b, off, hA, hbl, hc⟩ := h4 hn
    refine ⟨b, off, hA, by omega, fun j u hu => ?_⟩
    rcases h5 b off _ _ (by rw [h1, hA]) hn with h6 | ⟨cur, fz, h6⟩
    · rw [hb'.cell (p := ⟨b, off + j, Option.none⟩) h6, ← hb.cell (p := ⟨b, off + j, Option.none⟩) h6]
      exact hc j u hu
    · have h7 := hf _ _ _ _ h6 (by decide) (by decide)
      rw [← hc j u hu, cell_of_row w b (off + j) cur _ fz h6, cell_of_row w' b (off + j) cur _ fz h7]
  · rcases h5 b off n c hu hn with h6 | ⟨cur, fz, h6⟩
    · exact .inl h6
    · exact .inr ⟨cur, fz, hf _ _ _ _ h6 (by decide) (by decide)⟩
/-- v is a row of rests, appended to since the world w; below block number B nothing has turned. -/
def GrowL (w : World) (B : Nat) (wr : World) (v : Value) (xss : List (List Int)) : Prop :=
  (∃ us : List Value, us.length = xss.length ∧ (∀ (i : Nat) (u : Value) (xs : List Int), us[i]? = some u → xss[i]? = some xs → El wr B u xs) ∧ wr.ownsRow B 35 1 v xss.length us) ∧ Below B w wr ∧ B ≤ wr.heap.size
theorem GrowL.start (w : World) {B : Nat} (hB : B = w.heap.size) : GrowL w B w (.slice Option.none 0 0) [] := by
  subst hB
  exact ⟨⟨[], rfl, fun i u xs hu _ => by simp at hu, World.ownsRow_nil _ _ _ _⟩, Below.refl _ _, Nat.le_refl _⟩
theorem GrowL.belowR {w wr wr' : World} {B : Nat} {v : Value} {xss : List (List Int)} (h : GrowL w B wr v xss) (hb : Below wr.heap.size wr wr') : GrowL w B wr' v xss := by
  obtain ⟨⟨us, h1, h2, h3⟩, h4, h5⟩ := h
  exact ⟨⟨us, h1, fun i u xs hu hx => (h2 i u xs hu hx).below h5 hb, owns_below h3 (fun k hk => (h3.lt k hk).2) hb (Nat.le_refl _)⟩, h4.trans (hb.mono h5), Nat.le_trans h5 hb.size⟩
theorem GrowL.form {w wr : World} {B : Nat} {v : Value} {xss : List (List Int)} (h : GrowL w B wr v xss) : ∃ A c, v = .slice A xss.length c ∧ xss.length ≤ 9223372036854775807 := by
  obtain ⟨⟨us, h1, h2, h3⟩, h4, h5⟩ := h
  obtain ⟨A, c, hv, _, hm⟩ := Rd.form (rd_of_owns h3 (fun k hk => (h3.lt k hk).2))
  exact ⟨A, c, hv, hm⟩
theorem GrowL.rd {w wr : World} {B : Nat} {v : Value} {xss : List (List Int)} (h : GrowL w B wr v xss) : RdII wr wr.heap.size v xss := by
  obtain ⟨⟨us, h1, h2, h3⟩, h4, h5⟩ := h
  exact ⟨us, ⟨h1, fun i u xs hu hx => (h2 i u xs hu hx).rd h5⟩, rd_of_owns h3 (fun k hk => (h3.lt k hk).2)⟩
theorem GrowL.at_ {w wr : World} {B : Nat} {v : Value} {xss : List (List Int)} (h : GrowL w B wr v xss) {k : Nat} (hk : k < xss.length) :
    ∃ b off c u xs, v = .slice (some ⟨b, off, Option.none⟩) xss.length c ∧ xss[k]? = some xs ∧ wr.cell? ⟨b, off + k, Option.none⟩ = some u ∧ El wr B u xs := by
  obtain ⟨⟨us, h1, h2, h3⟩, h4, h5⟩ := h
  obtain ⟨_, A, c, hv, _, _, h6⟩ := rd_of_owns h3 (fun k hk => (h3.lt k hk).2)
  obtain ⟨b, off, rfl, hb, hc⟩ := h6 (by omega)
  have hu : us[k]? = some us[k] := by simp [show k < us.length by omega]
  exact ⟨b, off, c, us[k], xss[k], hv, by simp [hk], hc k _ hu, h2 k _ _ hu (by simp [hk])⟩
/-- One rest more behind the row. -/
theorem GrowL.app {w wr : World} {B : Nat} {v : Value} {xss : List (List Int)} {ops : Array Oper} {rest : List Oper} {o : Oper} {a : Act} {Q : Exit → Act → World → Prop} {A : Option Addr} {n c : Nat} {xs : List Int} (hgd : o.guard = Option.none) (s x : Operand)
    (ho : o.op = .call { callee := .builtin .append, args := #[s, x], argTypes := #[61, 61] }) (hG : GrowL w B wr v xss) (hu : El wr B (.slice A n c) xs) (hlen : xss.length < 1048576)
    (hs : a.eval s = v) (hx : a.eval x = .slice (some ⟨wr.heap.size, 0, Option.none⟩) 1 1)
    (h : ∀ v' w', GrowL w B w' v' (xss ++ [xs]) → Fr wr w' → wr.heap.size ≤ w'.heap.size → (∀ g, g < wr.heap.size → v.ownBlock ≠ some g → w'.heap[g]? = wr.heap[g]?) → wpList Try.prog ops Q rest (a.put o.dst v') w') : wpList Try.prog ops Q (o :: rest) a (wr.alloc (.cells #[.slice A n c] 35)) := by
  obtain ⟨i, hi, hz0, hz1, hz2⟩ := info_parts info_ints
  obtain ⟨⟨us, h1, h2, h3⟩, h4, h5⟩ := hG
  refine wpList_append_own _ hgd s x 61 ho B 35 i (.slice Option.none 0 0) 1 24 Try.underlying61 hi hz0 hz1 hz2 rfl (by decide) v xss.length us hs (h3.alloc _) ⟨wr.heap.size, 0, Option.none⟩ 1 1 [.slice A n c] hx rfl
    (one_cell _ _ _) (by intro u hu; simp at hu; subst hu; rfl) (by unfold maxLen; omega) (by omega) (by simp; omega) ?_
  intro v' w' hown hgr _
  have hsz := hgr.size
  have hsz2 : wr.heap.size + 1 ≤ w'.heap.size := by simpa using hsz
  have hfar : ∀ g, g < wr.heap.size → v.ownBlock ≠ some g → w'.heap[g]? = wr.heap[g]? := fun g hg hne => (hgr.block g (by simp; omega) (fun e => hne e.symm)).trans (Below.heap_alloc wr _ g hg)
  have hfr : Fr wr w' := by
    intro k cs e fz hk e1 e2
    have hlt := (Array.getElem?_eq_some_iff.1 hk).1
    rw [hfar k hlt (fun hv => ?_)]
    · exact hk
    · rcases h3.2 with ⟨rfl, _⟩ | ⟨g, cap, cur, rfl, _, hg, _⟩
      · cases hv
      · cases hv
        rw [hk] at hg
        cases hg
        exact e1 rfl
  have hb' : Below B w w' := (h4.alloc h5 _).grown hgr (by simp; omega) (fun k hk => ((h3.alloc (.cells #[.slice A n c] 35)).lt k hk).1)
  refine h v' w' ⟨⟨us ++ [.slice A n c], by simp [h1], fun j u ys hju hjy => ?_, by simpa using hown⟩, hb', by omega⟩ hfr (by omega) hfar
  rcases Nat.lt_or_ge j us.length with hj | hj
  · rw [List.getElem?_append_left hj] at hju
    rw [List.getElem?_append_left (by omega)] at hjy
    exact (h2 j u ys hju hjy).fr h4 hb' (by omega) hfr
  · rw [List.getElem?_append_right hj] at hju
    rw [List.getElem?_append_right (by omega)] at hjy
    have hj0 : j - us.length = 0 := by
      rcases Nat.eq_zero_or_pos (j - us.length) with e | e
      · exact e
      · rw [List.getElem?_eq_none (by simp; omega)] at hju; cases hju
    rw [hj0] at hju
    rw [show j - xss.length = 0 by omega] at hjy
    simp at hju hjy
    subst hju hjy
    exact hu.fr h4 hb' (by omega) hfr
theorem RdI.dropLe {w : World} {hi c : Nat} {b off : Nat} {xs : List Int} (h : RdI w hi (.slice (some ⟨b, off, Option.none⟩) xs.length c) xs) {k : Nat} (hk : k ≤ xs.length) :
    RdI w hi (.slice (some ⟨b, off + k, Option.none⟩) (xs.length - k) (c - k)) (xs.drop k) := by
  rcases Nat.lt_or_ge k xs.length with hlt | hge
  · exact h.drop hlt
  · obtain rfl : k = xs.length := by omega
    obtain ⟨h0, A', c', hv, h1, h2, _⟩ := h
    cases hv
    refine ⟨by simp, some ⟨b, off + xs.length, Option.none⟩, c - xs.length, by rw [List.length_drop], by rw [List.length_drop]; omega, by omega, fun h => ?_⟩
    rw [List.length_drop] at h
    omega
theorem El.drop {w : World} {B : Nat} {c : Nat} {b off : Nat} {xs : List Int} (h : El w B (.slice (some ⟨b, off, Option.none⟩) xs.length c) xs) {k : Nat} (hk : k ≤ xs.length) :
    El w B (.slice (some ⟨b, off + k, Option.none⟩) (xs.length - k) (c - k)) (xs.drop k) := by
  refine ⟨h.1.dropLe hk, fun b' off' n' c' hu hn => ?_⟩
  cases hu
  exact h.2 b off xs.length c rfl (by omega)
end Go.Proofs.Ytjnkdjokbamibaa
/- Contracts of the tables of readings, of the program and of the reference. -/
namespace Go.Proofs.Ytjnkdjokbamibaa
open Go.RowKit
def waysI (l : List Nat) : List Int := l.map fun m : Nat => (m : Int)
end Go.Proofs.Ytjnkdjokbamibaa
/- Plain laws: an order by insertion; the indices in groups of one length each; the words of a canonical code. -/
namespace Go.Proofs.Ytjnkdjokbamibaa
open Go.RowKit
/-- x goes into L ahead of the longest end of L whose members all stand behind it. -/
def insAt (p : Nat → Nat → Bool) (L : List Nat) (x : Nat) : Nat := L.length - (L.reverse.takeWhile (p x)).length
def insBy (p : Nat → Nat → Bool) (L : List Nat) (x : Nat) : List Nat := L.take (insAt p L x) ++ x :: L.drop (insAt p L x)
/-- The indices below n, each put in its place among the earlier ones. -/
def orderBy (p : Nat → Nat → Bool) (n : Nat) : List Nat := (List.range n).foldl (insBy p) []
theorem insBy_mid {p : Nat → Nat → Bool} {A B : List Nat} {x : Nat} (hB : ∀ y ∈ B, p x y = true) (hA : ∀ a, A.getLast? = some a → p x a = false) : insBy p (A ++ B) x = A ++ x :: B := by
  have e : ((A ++ B).reverse.takeWhile (p x)) = B.reverse := by
    rw [List.reverse_append, List.takeWhile_append_of_pos (fun y hy => hB y (List.mem_reverse.1 hy))]
    have : A.reverse.takeWhile (p x) = [] := by
      cases h : A.reverse with
      | nil => rfl
      | cons a r =>
        rw [List.takeWhile_cons, hA a (by rw [← List.head?_reverse, h]; rfl)]; rfl
    rw [this, List.append_nil]
  have e2 : insAt p (A ++ B) x = A.length := by unfold insAt; rw [e]; simp
  unfold insBy; rw [e2]; simp
theorem insBy_at {p : Nat → Nat → Bool} {L : List Nat} {x j : Nat} (hj : j ≤ L.length) (hB : ∀ y ∈ L.drop j, p x y = true) (hA : j = 0 ∨ ∃ a, L[j - 1]? = some a ∧ p x a = false) : insBy p L x = L.take j ++ x :: L.drop j := by
  have := insBy_mid (p := p) (A := L.take j) (B := L.drop j) (x := x) hB (fun a ha => by
    rcases hA with rfl | ⟨b, hb, hp⟩
    · simp at ha
    · have hj0 : 0 < j := by
        rcases Nat.eq_zero_or_pos j with rfl | h
        · simp at ha
        · exact h
      rw [List.getLast?_eq_getElem?, List.length_take, Nat.min_eq_left hj, List.getElem?_take_of_lt (by omega), hb] at ha
      cases ha; exact hp)
  rwa [List.take_append_drop] at this
theorem insBy_perm {p : Nat → Nat → Bool} {L : List Nat} {x : Nat} : (insBy p L x).Perm (x :: L) := by
  unfold insBy
  have h : (L.take (insAt p L x) ++ x :: L.drop (insAt p L x)).Perm (x :: (L.take (insAt p L x) ++ L.drop (insAt p L x))) := List.perm_middle
  rwa [List.take_append_drop] at h
theorem orderBy_succ {p : Nat → Nat → Bool} {n : Nat} : orderBy p (n + 1) = insBy p (orderBy p n) n := by
  unfold orderBy; rw [List.range_succ, List.foldl_append]; rfl
theorem orderBy_perm (p : Nat → Nat → Bool) : ∀ n, (orderBy p n).Perm (List.range n)
  | 0 => List.Perm.refl _
  | n + 1 => by
    rw [orderBy_succ, List.range_succ]
    exact insBy_perm.trans (((orderBy_perm p n).cons n).trans (List.perm_append_singleton n _).symm)
theorem orderBy_len (p : Nat → Nat → Bool) (n : Nat) : (orderBy p n).length = n := by rw [(orderBy_perm p n).length_eq]; simp
theorem orderBy_lt {p : Nat → Nat → Bool} {n i : Nat} (h : i ∈ orderBy p n) : i < n := by have := (orderBy_perm p n).mem_iff.1 h; simpa using this
theorem orderBy_mem {p : Nat → Nat → Bool} {n i : Nat} (h : i < n) : i ∈ orderBy p n := (orderBy_perm p n).mem_iff.2 (by simpa using h)
theorem orderBy_nodup (p : Nat → Nat → Bool) (n : Nat) : (orderBy p n).Nodup := (orderBy_perm p n).nodup_iff.2 List.nodup_range
/-- The order of lengths: the shorter ones stand first. -/
def pLen (ls : List Int) (x y : Nat) : Bool := decide (ls.getD x 0 < ls.getD y 0)
/-- The order of weights: the heavier ones stand first. -/
def pWei (ws : List Int) (x y : Nat) : Bool := decide (ws.getD y 0 < ws.getD x 0)
/-- The first m indices, those with length l. -/
def grpF (ls : List Int) (m l : Nat) : List Nat := (List.range m).filter fun i => ls.getD i 0 == (l : Int)
/-- The same for k lengths from a on. -/
def grpN (ls : List Int) (m a k : Nat) : List Nat := (List.range' a k).flatMap (grpF ls m)
theorem grpN_split {ls : List Int} {m a k j : Nat} : grpN ls m a (k + j) = grpN ls m a k ++ grpN ls m (a + k) j := by
  unfold grpN
  have h := List.range'_append (s := a) (m := k) (n := j) (step := 1)
  rw [Nat.one_mul] at h
  rw [← h, List.flatMap_append]
theorem grpN_one {ls : List Int} {m a : Nat} : grpN ls m a 1 = grpF ls m a := by
  unfold grpN; rw [show List.range' a 1 = [a] from rfl]; simp
theorem grpF_no {ls : List Int} {m l : Nat} (h : ls.getD m 0 ≠ (l : Int)) : grpF ls (m + 1) l = grpF ls m l := by
  unfold grpF; rw [List.range_succ, List.filter_append]
  have : (ls.getD m 0 == (l : Int)) = false := by rw [beq_eq_false_iff_ne]; exact h
  simp only [List.filter_cons, this, List.filter_nil]; simp
theorem grpF_yes {ls : List Int} {m l : Nat} (h : ls.getD m 0 = (l : Int)) : grpF ls (m + 1) l = grpF ls m l ++ [m] := by
  unfold grpF; rw [List.range_succ, List.filter_append]
  have : (ls.getD m 0 == (l : Int)) = true := by rw [beq_iff_eq]; exact h
  simp only [List.filter_cons, this, List.filter_nil]; simp
theorem grpN_no {ls : List Int} {m a k : Nat} (h : ∀ l, a ≤ l → l < a + k → ls.getD m 0 ≠ (l : Int)) : grpN ls (m + 1) a k = grpN ls m a k := by
  induction k with
  | zero => rfl
  | succ k ih =>
    rw [grpN_split, grpN_split (k := k), ih (fun l h1 h2 => h l h1 (by omega)), grpN_one, grpN_one, grpF_no (h (a + k) (by omega) (by omega))]
theorem grpF_mem {ls : List Int} {m l i : Nat} (h : i ∈ grpF ls m l) : i < m ∧ ls.getD i 0 = (l : Int) := by
  unfold grpF at h; rw [List.mem_filter] at h
  exact ⟨by simpa using h.1, by simpa using h.2⟩
theorem grpN_mem {ls : List Int} {m a k i : Nat} (h : i ∈ grpN ls m a k) : i < m ∧ (a : Int) ≤ ls.getD i 0 ∧ ls.getD i 0 < ((a + k : Nat) : Int) := by
  unfold grpN at h
  rw [List.mem_flatMap] at h
  obtain ⟨l, hl, hi⟩ := h
  rw [List.mem_range'_1] at hl
  have := grpF_mem hi
  omega
theorem allB_at {ls : List Int} {a b : Int} (h : allB ls a b = true) {i : Nat} (hi : i < ls.length) : a ≤ ls.getD i 0 ∧ ls.getD i 0 ≤ b := by
  unfold allB at h
  rw [List.all_eq_true] at h
  have := h ls[i] (List.getElem_mem hi)
  rw [List.getD_eq_getElem?_getD, List.getElem?_eq_getElem hi]
  exact inB_iff.1 this
/-- The order of the program is the order of the reference. -/
theorem order_grp {ls : List Int} (h : allB ls 1 6 = true) : ∀ m, m ≤ ls.length → orderBy (pLen ls) m = grpN ls m 1 6
  | 0, _ => by
    have : ∀ a k, grpN ls 0 a k = [] := fun a k => by unfold grpN grpF; simp
    rw [this]; rfl
  | m + 1, hm => by
    obtain ⟨h1, h6⟩ := allB_at h (i := m) (by omega)
    obtain ⟨d, hd⟩ : ∃ d : Nat, ls.getD m 0 = (d : Int) := ⟨(ls.getD m 0).toNat, by omega⟩
    have e : ∀ q, grpN ls q 1 6 = grpN ls q 1 (d - 1) ++ grpF ls q d ++ grpN ls q (d + 1) (6 - d) := fun q => by
      rw [show 6 = (d - 1) + (1 + (6 - d)) by omega, grpN_split, grpN_split (k := 1), grpN_one, show 1 + (d - 1) = d by omega, List.append_assoc, show (d - 1) + (1 + (6 - d)) - d = 6 - d by omega]
    rw [orderBy_succ, order_grp h m (by omega), e, e, grpF_yes hd, grpN_no (a := 1) (fun l _ h2 => by omega), grpN_no (a := d + 1) (fun l _ h2 => by omega)]
    rw [insBy_mid]
    · simp
    · intro y hy
      have := grpN_mem hy
      unfold pLen; rw [decide_eq_true_eq]; omega
    · intro y hy
      have hy2 := List.mem_of_getLast? hy
      unfold pLen; rw [decide_eq_false_iff_not]
      rcases List.mem_append.1 hy2 with h3 | h3
      · have := grpN_mem h3; omega
      · have := grpF_mem h3; omega
theorem grpN_sorted (ls : List Int) (m a : Nat) : ∀ k, (grpN ls m a k).Pairwise fun x y => ls.getD x 0 ≤ ls.getD y 0
  | 0 => List.Pairwise.nil
  | k + 1 => by
    rw [grpN_split, grpN_one, List.pairwise_append]
    refine ⟨grpN_sorted ls m a k, ?_, fun x hx y hy => ?_⟩
    · rw [List.pairwise_iff_forall_sublist]
      intro x y hxy
      have h1 := grpF_mem (hxy.subset (by simp : x ∈ [x, y]))
      have h2 := grpF_mem (hxy.subset (by simp : y ∈ [x, y]))
      omega
    · have h1 := grpN_mem hx
      have h2 := grpF_mem hy
      omega
/-- A number's digits to the base r, as many as told. -/
def digL (r : Nat) : Nat → Nat → List Int
  | _, 0 => []
  | n, k + 1 => digL r (n / r) k ++ [((n % r : Nat) : Int)]
theorem digL_len (r : Nat) : ∀ n k, (digL r n k).length = k
  | _, 0 => rfl
  | n, k + 1 => by rw [digL, List.length_append, digL_len]; rfl
/-- The next word, the last length, the words so far. -/
structure CanS where
  next : Nat
  last : Nat
  rows : List (List Int)
def canStep (ls : List Int) (r : Nat) (s : CanS) (i : Nat) : CanS :=
  ⟨s.next * r ^ ((ls.getD i 0).toNat - s.last) + 1, (ls.getD i 0).toNat, s.rows.set i (digL r (s.next * r ^ ((ls.getD i 0).toNat - s.last)) (ls.getD i 0).toNat)⟩
def canRun (ls : List Int) (r : Nat) (is : List Nat) : CanS := is.foldl (canStep ls r) ⟨0, 1, List.replicate ls.length []⟩
theorem canRun_snoc {ls : List Int} {r : Nat} {is : List Nat} {i : Nat} : canRun ls r (is ++ [i]) = canStep ls r (canRun ls r is) i := by unfold canRun; rw [List.foldl_append]; rfl
theorem canRun_nil {ls : List Int} {r : Nat} : canRun ls r [] = ⟨0, 1, List.replicate ls.length []⟩ := rfl
/-- The words of the canonical code. -/
def canonL (ls : List Int) (r : Nat) : List (List Int) := (canRun ls r (grpN ls ls.length 1 6)).rows
theorem canRun_rows (ls : List Int) (r : Nat) (is : List Nat) : (canRun ls r is).rows.length = ls.length := by
  unfold canRun
  have : ∀ (is : List Nat) (s : CanS), (is.foldl (canStep ls r) s).rows.length = s.rows.length := by
    intro is
    induction is with
    | nil => intro s; rfl
    | cons i l ih => intro s; rw [List.foldl_cons, ih]; unfold canStep; simp
  rw [this]; simp
theorem canonL_len (ls : List Int) (r : Nat) : (canonL ls r).length = ls.length := canRun_rows ls r _
/-- How great the next word is. -/
theorem canRun_bd {ls : List Int} {r : Nat} (hr : 1 ≤ r) : ∀ (n : Nat) (is : List Nat), is.length = n → is.Pairwise (fun x y => ls.getD x 0 ≤ ls.getD y 0) → (∀ i ∈ is, 1 ≤ ls.getD i 0) →
    (canRun ls r is).next ≤ is.length * r ^ (canRun ls r is).last ∧ 1 ≤ (canRun ls r is).last ∧ (is = [] ∨ ∃ i, is.getLast? = some i ∧ (canRun ls r is).last = (ls.getD i 0).toNat)
  | 0, is, hl, _, _ => by
    obtain rfl := List.eq_nil_of_length_eq_zero hl
    exact ⟨by simp [canRun_nil], by simp [canRun_nil], .inl rfl⟩
  | n + 1, is, hl, hs, h1 => by
    obtain ⟨js, j, rfl⟩ : ∃ js j, is = js ++ [j] := by
      refine ⟨is.dropLast, is.getLast (by intro e; rw [e] at hl; simp at hl), (List.dropLast_concat_getLast _).symm⟩
    rw [List.pairwise_append] at hs
    have ih := canRun_bd hr n js (by simpa using hl) hs.1 (fun i hi => h1 i (by simp [hi]))
    have hj := h1 j (by simp)
    rw [canRun_snoc]
    obtain ⟨s, hsd⟩ : ∃ s, s = canRun ls r js := ⟨_, rfl⟩
    rw [← hsd] at ih ⊢
    have hlast : s.last ≤ (ls.getD j 0).toNat := by
      rcases ih.2.2 with rfl | ⟨i, hi, hl2⟩
      · rw [hsd, canRun_nil]; show 1 ≤ _; omega
      · have := hs.2.2 i (List.mem_of_getLast? hi) j (by simp)
        omega
    refine ⟨?_, by show 1 ≤ (ls.getD j 0).toNat; omega, .inr ⟨j, by simp, rfl⟩⟩
    show s.next * r ^ ((ls.getD j 0).toNat - s.last) + 1 ≤ (js ++ [j]).length * r ^ (ls.getD j 0).toNat
    have e : r ^ (ls.getD j 0).toNat = r ^ s.last * r ^ ((ls.getD j 0).toNat - s.last) := by rw [← Nat.pow_add]; congr 1; omega
    have h2 := Nat.mul_le_mul_right (r ^ ((ls.getD j 0).toNat - s.last)) ih.1
    have h3 : 1 ≤ r ^ (ls.getD j 0).toNat := Nat.one_le_pow _ _ hr
    rw [Nat.mul_assoc, ← e] at h2
    rw [List.length_append, List.length_singleton, Nat.add_mul, Nat.one_mul]
    omega
end Go.Proofs.Ytjnkdjokbamibaa
/- Plain laws: the search of the least lengths, and the table of least costs level by level. -/
namespace Go.Proofs.Ytjnkdjokbamibaa
open Go.RowKit
/-- A list of lengths with its cost, or none. -/
abbrev Cand := Option (List Nat × Int)
/-- The first one, unless the second one costs less. -/
def pickC : Cand → Cand → Cand
  | Option.none, b => b
  | some x, Option.none => some x
  | some x, some y => if y.2 < x.2 then some y else some x
def addC (l : List Nat) (k : Int) (c : Cand) : Cand := c.map fun x => (l ++ x.1, k + x.2)
theorem pickC_none (a : Cand) : pickC a Option.none = a := by cases a <;> rfl
theorem pickC_assoc (a b c : Cand) : pickC (pickC a b) c = pickC a (pickC b c) := by
  cases a with
  | none => rfl
  | some x =>
    cases b with
    | none => rfl
    | some y =>
      cases c with
      | none => rw [pickC_none, pickC_none]
      | some z =>
        simp only [pickC]
        by_cases h1 : y.2 < x.2
        · by_cases h2 : z.2 < y.2
          · simp only [h1, h2, if_true]; rw [if_pos (by omega)]
          · simp only [h1, h2, if_true, if_false]
        · by_cases h2 : z.2 < y.2
          · simp only [h1, h2, if_true, if_false]
          · simp only [h1, h2, if_false]; rw [if_neg (by omega)]
theorem addC_pick (l : List Nat) (k : Int) (a b : Cand) : addC l k (pickC a b) = pickC (addC l k a) (addC l k b) := by
  cases a with
  | none => rfl
  | some x =>
    cases b with
    | none => rfl
    | some y =>
      simp only [pickC, addC, Option.map]
      by_cases h : y.2 < x.2
      · rw [if_pos h, if_pos (by omega)]
      · rw [if_neg h, if_neg (by omega)]
theorem addC_add (l m : List Nat) (k j : Int) (c : Cand) : addC l k (addC m j c) = addC (l ++ m) (k + j) c := by
  cases c with
  | none => rfl
  | some x => simp only [addC, Option.map, List.append_assoc, Int.add_assoc]
theorem addC_nil (c : Cand) : addC [] 0 c = c := by
  cases c with
  | none => rfl
  | some x => simp [addC]
/-- Of all lists of lengths that 1000000000er fall, from one length on, for which there is room: the first one of the least cost. -/
def bst (r L : Nat) : List Int → Nat → Nat → Cand
  | [], _, _ => some ([], 0)
  | w :: ws, fr, room => (List.range' fr (L + 1 - fr)).foldl (fun c n => pickC c (if r ^ (L - n) ≤ room then addC [n] (w * (n : Int)) (bst r L ws n (room - r ^ (L - n))) else Option.none)) Option.none
theorem pick_fold {f : Nat → Cand} : ∀ (l : List Nat) (a : Cand), l.foldl (fun c n => pickC c (f n)) a = pickC a (l.foldl (fun c n => pickC c (f n)) Option.none)
  | [], a => (pickC_none a).symm
  | n :: l, a => by
    rw [List.foldl_cons, List.foldl_cons, pick_fold l (pickC a (f n)), pick_fold l (pickC Option.none (f n)), pickC_assoc]; rfl
theorem bst_end {r L : Nat} {w : Int} {ws : List Int} {fr room : Nat} (h : L < fr) : bst r L (w :: ws) fr room = Option.none := by
  rw [bst, show L + 1 - fr = 0 by omega]; rfl
theorem bst_step {r L : Nat} {w : Int} {ws : List Int} {fr room : Nat} (h : fr ≤ L) :
    bst r L (w :: ws) fr room = pickC (if r ^ (L - fr) ≤ room then addC [fr] (w * (fr : Int)) (bst r L ws fr (room - r ^ (L - fr))) else Option.none) (bst r L (w :: ws) (fr + 1) room) := by
  rw [bst, bst, show L + 1 - fr = (L + 1 - (fr + 1)) + 1 by omega, List.range'_succ, List.foldl_cons, pick_fold]
  rfl
/-- All weights together. -/
def sumW : List Int → Int
  | [] => 0
  | w :: ws => w + sumW ws
theorem sumW_nonneg {ws : List Int} (h : ∀ w ∈ ws, 0 ≤ w) : 0 ≤ sumW ws := by
  induction ws with
  | nil => exact Int.le_refl _
  | cons w ws ih =>
    have h1 := h w (by simp)
    have h2 := ih (fun x hx => h x (by simp [hx]))
    simp only [sumW]; omega
theorem sumW_app (a b : List Int) : sumW (a ++ b) = sumW a + sumW b := by
  induction a with
  | nil => simp [sumW]
  | cons w ws ih => simp only [List.cons_append, sumW, ih]; omega
theorem pickC_some {a b : Cand} {x : List Nat × Int} (h : pickC a b = some x) : a = some x ∨ b = some x := by
  cases a with
  | none => exact .inr h
  | some y =>
    cases b with
    | none => exact .inl h
    | some z =>
      simp only [pickC] at h
      split at h
      · exact .inr h
      · exact .inl h
theorem addC_some {l : List Nat} {k : Int} {c : Cand} {x : List Nat × Int} (h : addC l k c = some x) : ∃ y, c = some y ∧ x = (l ++ y.1, k + y.2) := by
  cases c with
  | none => cases h
  | some y => exact ⟨y, rfl, by unfold addC at h; simp at h; exact h.symm⟩
/-- Induction over what is found: the lists are as long as the weights, and the cost lies between that of the least and that of the greatest length. -/
theorem bst_bd {r L : Nat} : ∀ (ws : List Int), (∀ w ∈ ws, 0 ≤ w) → ∀ (q fr room : Nat), q = L + 1 - fr → ∀ x, bst r L ws fr room = some x →
    x.1.length = ws.length ∧ (fr : Int) * sumW ws ≤ x.2 ∧ x.2 ≤ (L : Int) * sumW ws ∧ ∀ n ∈ x.1, fr ≤ n ∧ n ≤ L
  | [], _, q, fr, room, _, x, hx => by
    rw [bst] at hx; cases hx
    refine ⟨rfl, by simp [sumW], by simp [sumW], by simp⟩
  | w :: ws, hw, 0, fr, room, hq, x, hx => by
    rw [bst_end (by omega)] at hx; cases hx
  | w :: ws, hw, q + 1, fr, room, hq, x, hx => by
    have hw0 := hw w (by simp)
    have hws : ∀ x ∈ ws, 0 ≤ x := fun x hx => hw x (by simp [hx])
    have hs := sumW_nonneg hws
    rw [bst_step (by omega)] at hx
    rcases pickC_some hx with h | h
    · split at h
      · obtain ⟨y, hy, rfl⟩ := addC_some h
        have ih := bst_bd ws hws _ fr _ rfl y hy
        have hL : (fr : Int) ≤ (L : Int) := by omega
        have h5 : w * (fr : Int) ≤ w * (L : Int) := Int.mul_le_mul_of_nonneg_left hL hw0
        have e1 : (fr : Int) * (w + sumW ws) = w * (fr : Int) + (fr : Int) * sumW ws := by rw [Int.mul_add, Int.mul_comm]
        have e2 : (L : Int) * (w + sumW ws) = w * (L : Int) + (L : Int) * sumW ws := by rw [Int.mul_add, Int.mul_comm]
        refine ⟨by simp [ih.1], ?_, ?_, ?_⟩
        · simp only [sumW]; rw [e1]; have := ih.2.1; omega
        · simp only [sumW]; rw [e2]; have := ih.2.2.1; omega
        · intro n hn
          rcases List.mem_append.1 hn with h1 | h1
          · simp at h1; subst h1; exact ⟨Nat.le_refl _, by omega⟩
          · exact ih.2.2.2 n h1
      · cases h
    · have ih := bst_bd (w :: ws) hw q (fr + 1) room (by omega) x h
      have h0 := sumW_nonneg hw
      have e : ((fr + 1 : Nat) : Int) * sumW (w :: ws) = (fr : Int) * sumW (w :: ws) + sumW (w :: ws) := by rw [Int.natCast_add, Int.add_mul]; simp
      refine ⟨ih.1, by have := ih.2.1; omega, ih.2.2.1, fun n hn => ?_⟩
      have := ih.2.2.2 n hn
      omega
/-- With some free places at a level. -/
def lvl (r L : Nat) (ws : List Int) (level free : Nat) : Cand := bst r L ws level (free * r ^ (L - level))
theorem lvl_nil {r L level free : Nat} : lvl r L [] level free = some ([], 0) := by unfold lvl; rw [bst]
theorem lvl_end {r L level free : Nat} {ws : List Int} (hw : ws ≠ []) (h : L < level) : lvl r L ws level free = Option.none := by
  cases ws with
  | nil => exact absurd rfl hw
  | cons w ws => exact bst_end h
theorem lvl_next {r L level free : Nat} {w : Int} {ws : List Int} (h : level ≤ L) : bst r L (w :: ws) (level + 1) (free * r ^ (L - level)) = lvl r L (w :: ws) (level + 1) (free * r) := by
  rcases Nat.lt_or_ge level L with h1 | h1
  · unfold lvl
    rw [show L - level = (L - (level + 1)) + 1 by omega, Nat.pow_succ, Nat.mul_assoc, Nat.mul_comm (r ^ (L - (level + 1))) r]
  · rw [lvl_end (by simp) (by omega), bst_end (by omega)]
theorem lvl_step {r L level free : Nat} {w : Int} {ws : List Int} (hr : 1 ≤ r) (h : level ≤ L) :
    lvl r L (w :: ws) level (free + 1) = pickC (addC [level] (w * (level : Int)) (lvl r L ws level free)) (lvl r L (w :: ws) (level + 1) ((free + 1) * r)) := by
  have hp : 1 ≤ r ^ (L - level) := Nat.one_le_pow _ _ hr
  conv => lhs; unfold lvl
  rw [bst_step h, lvl_next h, if_pos (by rw [Nat.add_mul]; omega)]
  unfold lvl
  rw [show (free + 1) * r ^ (L - level) - r ^ (L - level) = free * r ^ (L - level) by rw [Nat.add_mul]; omega]
theorem lvl_none {r L : Nat} {w : Int} {ws : List Int} (hr : 1 ≤ r) : ∀ (q level : Nat), q = L + 1 - level → lvl r L (w :: ws) level 0 = Option.none
  | 0, level, hq => lvl_end (by simp) (by omega)
  | q + 1, level, hq => by
    have hp : 1 ≤ r ^ (L - level) := Nat.one_le_pow _ _ hr
    have ih := lvl_none (L := L) (w := w) (ws := ws) hr q (level + 1) (by omega)
    have h2 := lvl_next (r := r) (L := L) (free := 0) (w := w) (ws := ws) (show level ≤ L by omega)
    unfold lvl
    rw [Nat.zero_mul] at h2 ⊢
    rw [bst_step (by omega), if_neg (by omega), h2, Nat.zero_mul, ih]; rfl
/-- Enough places for all. -/
theorem lvl_all {r L : Nat} (hr : 1 ≤ r) : ∀ (ws : List Int), (∀ w ∈ ws, 0 ≤ w) → ∀ (level free : Nat), level ≤ L → ws.length ≤ free →
    lvl r L ws level free = some (List.replicate ws.length level, (level : Int) * sumW ws)
  | [], _, level, free, _, _ => by rw [lvl_nil]; simp [sumW]
  | w :: ws, hw, level, free, hl, hf => by
    obtain ⟨f, rfl⟩ : ∃ f, free = f + 1 := ⟨free - 1, by simp at hf; omega⟩
    have hws : ∀ x ∈ ws, 0 ≤ x := fun x hx => hw x (by simp [hx])
    rw [lvl_step hr hl, lvl_all hr ws hws level f hl (by simp at hf; omega)]
    have e1 : (level : Int) * (w + sumW ws) = w * (level : Int) + (level : Int) * sumW ws := by rw [Int.mul_add, Int.mul_comm]
    have e2 : addC [level] (w * (level : Int)) (some (List.replicate ws.length level, (level : Int) * sumW ws)) = some (List.replicate (w :: ws).length level, (level : Int) * sumW (w :: ws)) := by
      simp only [addC, Option.map, sumW, e1]; rfl
    rw [e2]
    cases hc : lvl r L (w :: ws) (level + 1) ((f + 1) * r) with
    | none => rfl
    | some y =>
      have hb := (bst_bd (w :: ws) hw _ (level + 1) _ rfl y hc).2.1
      have h0 := sumW_nonneg hw
      have e : ((level + 1 : Nat) : Int) * sumW (w :: ws) = (level : Int) * sumW (w :: ws) + sumW (w :: ws) := by rw [Int.natCast_add, Int.add_mul]; simp
      simp only [pickC]
      rw [if_neg (by omega)]
/-- More places than words help no more. -/
theorem lvl_clip {r L : Nat} (hr : 1 ≤ r) {ws : List Int} (hw : ∀ w ∈ ws, 0 ≤ w) {level f g : Nat} (hf : ws.length ≤ f) (hg : ws.length ≤ g) : lvl r L ws level f = lvl r L ws level g := by
  rcases Nat.lt_or_ge L level with h | h
  · cases ws with
    | nil => rw [lvl_nil, lvl_nil]
    | cons w ws => rw [lvl_end (by simp) h, lvl_end (by simp) h]
  · rw [lvl_all hr ws hw level f h hf, lvl_all hr ws hw level g h hg]
theorem lvl_min {r L : Nat} (hr : 1 ≤ r) {ws : List Int} (hw : ∀ w ∈ ws, 0 ≤ w) {level f : Nat} : lvl r L ws level (min f ws.length) = lvl r L ws level f := by
  rcases Nat.le_total f ws.length with h | h
  · rw [Nat.min_eq_left h]
  · exact lvl_clip hr hw (by omega) h
/-- The first of the least ones from f down to 0. -/
def pickDown (g : Nat → Cand) : Nat → Cand
  | 0 => g 0
  | f + 1 => pickC (g (f + 1)) (pickDown g f)
theorem pickDown_congr {g h : Nat → Cand} : ∀ f, (∀ t, t ≤ f → g t = h t) → pickDown g f = pickDown h f
  | 0, e => e 0 (Nat.le_refl _)
  | f + 1, e => by rw [pickDown, pickDown, e (f + 1) (Nat.le_refl _), pickDown_congr f (fun t ht => e t (by omega))]
theorem pickDown_add {g : Nat → Cand} {l : List Nat} {k : Int} : ∀ f, addC l k (pickDown g f) = pickDown (fun t => addC l k (g t)) f
  | 0 => rfl
  | f + 1 => by rw [pickDown, pickDown, addC_pick, pickDown_add f]
theorem pickDown_up {g : Nat → Cand} : ∀ f, pickDown g (f + 1) = pickC (pickDown (fun t => g (t + 1)) f) (g 0)
  | 0 => rfl
  | f + 1 => by
    rw [pickDown, pickDown_up f, pickDown, ← pickC_assoc]
/-- As many words as told end at a level. -/
def cand (r L : Nat) (ws : List Int) (level f take : Nat) : Cand := addC (List.replicate take level) ((level : Int) * sumW (ws.take take)) (lvl r L (ws.drop take) (level + 1) ((f - take) * r))
theorem lvl_take {r L : Nat} (hr : 1 ≤ r) {level : Nat} (hl : level ≤ L) : ∀ (ws : List Int) (f : Nat), f ≤ ws.length → lvl r L ws level f = pickDown (cand r L ws level f) f
  | [], f, hf => by
    obtain rfl : f = 0 := by simpa using hf
    simp only [pickDown, cand]
    rw [List.take_nil, List.drop_nil, lvl_nil, lvl_nil]; simp [addC, sumW]
  | w :: ws, 0, _ => by
    simp only [pickDown, cand]
    rw [List.take_zero, List.drop_zero, Nat.zero_mul, lvl_none hr _ _ rfl, lvl_none hr _ _ rfl]; rfl
  | w :: ws, f + 1, hf => by
    rw [lvl_step hr hl, lvl_take hr hl ws f (by simp at hf; omega), pickDown_add, pickDown_up]
    have e0 : cand r L (w :: ws) level (f + 1) 0 = lvl r L (w :: ws) (level + 1) ((f + 1) * r) := by
      simp only [cand]
      rw [List.take_zero, List.drop_zero, Nat.sub_zero]
      simp only [List.replicate_zero, sumW, Int.mul_zero]
      exact addC_nil _
    rw [e0]
    congr 1
    refine pickDown_congr f (fun t _ => ?_)
    simp only [cand]
    rw [addC_add, List.take_succ_cons, List.drop_succ_cons, show f + 1 - (t + 1) = f - t by omega]
    have e1 : (level : Int) * (w + sumW (ws.take t)) = w * (level : Int) + (level : Int) * sumW (ws.take t) := by rw [Int.mul_add, Int.mul_comm]
    rw [show List.replicate (t + 1) level = [level] ++ List.replicate t level from rfl]
    simp only [sumW]
    rw [e1]
/-- The cost of what is still to be given lengths of at least some level, if each weight costs its own for each level. -/
def relC (r L : Nat) (ws : List Int) (level free : Nat) : Int := match lvl r L ws level free with
  | Option.none => 1000000000
  | some x => x.2 - ((level : Int) - 1) * sumW ws
def withC (r L : Nat) (ws : List Int) (level f take : Nat) : Int := min 1000000000 (sumW ws + relC r L (ws.drop take) (level + 1) ((f - take) * r))
theorem relC_nil {r L level free : Nat} : relC r L [] level free = 0 := by unfold relC; rw [lvl_nil]; simp [sumW]
theorem relC_end {r L level free : Nat} {ws : List Int} (hw : ws ≠ []) (h : L < level) : relC r L ws level free = 1000000000 := by unfold relC; rw [lvl_end hw h]
theorem relC_zero {r L level : Nat} {ws : List Int} (hr : 1 ≤ r) (hw : ws ≠ []) : relC r L ws level 0 = 1000000000 := by
  cases ws with
  | nil => exact absurd rfl hw
  | cons w ws => unfold relC; rw [lvl_none hr _ _ rfl]
theorem relC_min {r L : Nat} (hr : 1 ≤ r) {ws : List Int} (hw : ∀ w ∈ ws, 0 ≤ w) {level f : Nat} : relC r L ws level (min f ws.length) = relC r L ws level f := by unfold relC; rw [lvl_min hr hw]
/-- What is found is cheap. -/
theorem lvl_cheap {r L : Nat} {ws : List Int} (hw : ∀ w ∈ ws, 0 ≤ w) {level free : Nat} {x : List Nat × Int} (h : lvl r L ws level free = some x) : (level : Int) * sumW ws ≤ x.2 ∧ x.2 ≤ (L : Int) * sumW ws :=
  ⟨(bst_bd ws hw _ level _ rfl x h).2.1, (bst_bd ws hw _ level _ rfl x h).2.2.1⟩
theorem relC_bd {r L : Nat} {ws : List Int} (hw : ∀ w ∈ ws, 0 ≤ w) {level free : Nat} (h1 : 1 ≤ level) (hL : (L : Int) * sumW ws < 1000000000) : 0 ≤ relC r L ws level free ∧ relC r L ws level free ≤ 1000000000 := by
  unfold relC
  split
  · exact ⟨by decide, Int.le_refl _⟩
  · rename_i x hx
    have hb := lvl_cheap hw hx
    have h0 := sumW_nonneg hw
    have e : ((level : Int) - 1) * sumW ws = (level : Int) * sumW ws - sumW ws := by rw [Int.sub_mul, Int.one_mul]
    have h2 : 0 ≤ ((level : Int) - 1) * sumW ws := Int.mul_nonneg (by omega) h0
    constructor <;> omega
theorem sum_split (ws : List Int) (t : Nat) : sumW ws = sumW (ws.take t) + sumW (ws.drop t) := by rw [← sumW_app, List.take_append_drop]
/-- The cost of a candidate. -/
theorem cand_cost {r L : Nat} {ws : List Int} (hw : ∀ w ∈ ws, 0 ≤ w) {level f t : Nat} (h1 : 1 ≤ level) (hl : 1 ≤ L) (hL : (L : Int) * sumW ws < 1000000000) :
    withC r L ws level f t = match cand r L ws level f t with
      | Option.none => 1000000000
      | some x => x.2 - ((level : Int) - 1) * sumW ws := by
  have hwd : ∀ w ∈ ws.drop t, 0 ≤ w := fun w hm => hw w (List.mem_of_mem_drop hm)
  have hwt : ∀ w ∈ ws.take t, 0 ≤ w := fun w hm => hw w (List.mem_of_mem_take hm)
  have h0 := sumW_nonneg hw
  have hd0 := sumW_nonneg hwd
  have ht0 := sumW_nonneg hwt
  have hsp := sum_split ws t
  unfold withC relC cand
  cases hc : lvl r L (ws.drop t) (level + 1) ((f - t) * r) with
  | none =>
    show min 1000000000 (sumW ws + 1000000000) = 1000000000
    omega
  | some y =>
    have hb := lvl_cheap hwd hc
    simp only [addC, Option.map]
    have e1 : (((level + 1 : Nat) : Int) - 1) * sumW (ws.drop t) = (level : Int) * sumW (ws.drop t) := by congr 1; omega
    have e2 : ((level : Int) - 1) * sumW ws = (level : Int) * sumW (ws.take t) + (level : Int) * sumW (ws.drop t) - sumW ws := by rw [Int.sub_mul, Int.one_mul, hsp, Int.mul_add]
    have e3 : ((level + 1 : Nat) : Int) * sumW (ws.drop t) = (level : Int) * sumW (ws.drop t) + sumW (ws.drop t) := by rw [Int.natCast_add, Int.add_mul]; simp
    have h3 : (L : Int) * sumW ws = (L : Int) * sumW (ws.take t) + (L : Int) * sumW (ws.drop t) := by rw [hsp, Int.mul_add]
    have h4 : 0 ≤ (L : Int) * sumW (ws.take t) := Int.mul_nonneg (by omega) ht0
    have h5 : 0 ≤ (level : Int) * sumW (ws.drop t) := Int.mul_nonneg (by omega) hd0
    have h6 : sumW (ws.take t) ≤ (L : Int) * sumW (ws.take t) := by
      have := Int.mul_le_mul_of_nonneg_right (show (1 : Int) ≤ (L : Int) by omega) ht0
      omega
    have h7 : sumW (ws.drop t) ≤ (level : Int) * sumW (ws.drop t) := by
      have := Int.mul_le_mul_of_nonneg_right (show (1 : Int) ≤ (level : Int) by omega) hd0
      omega
    rw [e1, e2, Int.min_eq_right (by omega)]
    show _ = (level : Int) * sumW (ws.take t) + y.2 - ((level : Int) * sumW (ws.take t) + (level : Int) * sumW (ws.drop t) - sumW ws)
    omega
theorem pickDown_some {g : Nat → Cand} : ∀ (f : Nat) (x : List Nat × Int), pickDown g f = some x →
    ∃ t, t ≤ f ∧ g t = some x ∧ (∀ s, s ≤ f → ∀ y, g s = some y → x.2 ≤ y.2) ∧ (∀ s, t < s → s ≤ f → ∀ y, g s = some y → x.2 < y.2)
  | 0, x, h => ⟨0, Nat.le_refl _, h, fun s hs y hy => by
      obtain rfl : s = 0 := by omega
      rw [pickDown] at h; rw [h] at hy; cases hy; exact Int.le_refl _, fun s h1 h2 => by omega⟩
  | f + 1, x, h => by
    rw [pickDown] at h
    cases hg : g (f + 1) with
    | none =>
      rw [hg] at h
      obtain ⟨t, h1, h2, h3, h4⟩ := pickDown_some f x h
      refine ⟨t, by omega, h2, fun s hs y hy => ?_, fun s h5 h6 y hy => ?_⟩
      · rcases Nat.lt_or_ge f s with h7 | h7
        · obtain rfl : s = f + 1 := by omega
          rw [hg] at hy; cases hy
        · exact h3 s h7 y hy
      · rcases Nat.lt_or_ge f s with h7 | h7
        · obtain rfl : s = f + 1 := by omega
          rw [hg] at hy; cases hy
        · exact h4 s h5 h7 y hy
    | some z =>
      rw [hg] at h
      cases hp : pickDown g f with
      | none =>
        rw [hp] at h
        cases h
        refine ⟨f + 1, Nat.le_refl _, hg, fun s hs y hy => ?_, fun s h5 h6 => by omega⟩
        rcases Nat.lt_or_ge f s with h7 | h7
        · obtain rfl : s = f + 1 := by omega
          rw [hg] at hy; cases hy; exact Int.le_refl _
        · exact absurd hy (by rw [pickDown_none f hp s h7]; simp)
      | some u =>
        rw [hp] at h
        obtain ⟨t, h1, h2, h3, h4⟩ := pickDown_some f u hp
        simp only [pickC] at h
        split at h
        · rename_i hlt
          cases h
          refine ⟨t, by omega, h2, fun s hs y hy => ?_, fun s h5 h6 y hy => ?_⟩
          · rcases Nat.lt_or_ge f s with h7 | h7
            · obtain rfl : s = f + 1 := by omega
              rw [hg] at hy; cases hy; omega
            · exact h3 s h7 y hy
          · rcases Nat.lt_or_ge f s with h7 | h7
            · obtain rfl : s = f + 1 := by omega
              rw [hg] at hy; cases hy; omega
            · exact h4 s h5 h7 y hy
        · rename_i hlt
          cases h
          refine ⟨f + 1, Nat.le_refl _, hg, fun s hs y hy => ?_, fun s h5 h6 => by omega⟩
          rcases Nat.lt_or_ge f s with h7 | h7
          · obtain rfl : s = f + 1 := by omega
            rw [hg] at hy; cases hy; exact Int.le_refl _
          · have := h3 s h7 y hy
            omega
where pickDown_none {g : Nat → Cand} : ∀ (f : Nat), pickDown g f = Option.none → ∀ s, s ≤ f → g s = Option.none
  | 0, h, s, hs => by obtain rfl : s = 0 := by omega
                      exact h
  | f + 1, h, s, hs => by
    rw [pickDown] at h
    cases hg : g (f + 1) with
    | none =>
      rw [hg] at h
      rcases Nat.lt_or_ge f s with h7 | h7
      · obtain rfl : s = f + 1 := by omega
        exact hg
      · exact pickDown_none f h s h7
    | some z =>
      rw [hg] at h
      cases hp : pickDown g f with
      | none => rw [hp] at h; cases h
      | some u =>
        rw [hp] at h
        simp only [pickC] at h
        split at h <;> cases h
/-- The least of the first k costs, from f down. -/
def lowDown (g : Nat → Int) (f : Nat) : Nat → Int
  | 0 => 1000000000
  | k + 1 => min (lowDown g f k) (g (f - k))
/-- The least cost of a level by the least costs of the next one. -/
theorem relC_low {r L : Nat} (hr : 1 ≤ r) {ws : List Int} (hw : ∀ w ∈ ws, 0 ≤ w) {level f : Nat} (hf : f ≤ ws.length) (h1 : 1 ≤ level) (h2 : level ≤ L) (hL : (L : Int) * sumW ws < 1000000000) :
    lowDown (withC r L ws level f) f (f + 1) = relC r L ws level f := by
  have hle : ∀ k, k ≤ f + 1 → lowDown (withC r L ws level f) f k ≤ 1000000000 ∧ (∀ s, f < s + k → s ≤ f → lowDown (withC r L ws level f) f k ≤ withC r L ws level f s) ∧
      (lowDown (withC r L ws level f) f k = 1000000000 ∨ ∃ s, f < s + k ∧ s ≤ f ∧ lowDown (withC r L ws level f) f k = withC r L ws level f s) := by
    intro k
    induction k with
    | zero => intro _; exact ⟨Int.le_refl _, fun s h3 h4 => by omega, .inl rfl⟩
    | succ k ih =>
      intro hk
      obtain ⟨i1, i2, i3⟩ := ih (by omega)
      rw [lowDown]
      refine ⟨by omega, fun s h3 h4 => ?_, ?_⟩
      · by_cases e : s = f - k
        · subst e; omega
        · have := i2 s (by omega) h4; omega
      · rcases Int.le_total (lowDown (withC r L ws level f) f k) (withC r L ws level f (f - k)) with h5 | h5
        · rw [Int.min_eq_left h5]
          rcases i3 with h6 | ⟨s, h6, h7, h8⟩
          · exact .inl h6
          · exact .inr ⟨s, by omega, h7, h8⟩
        · rw [Int.min_eq_right h5]
          exact .inr ⟨f - k, by omega, by omega, rfl⟩
  obtain ⟨b1, b2, b3⟩ := hle (f + 1) (Nat.le_refl _)
  have hcc := fun t => cand_cost (r := r) (f := f) (t := t) hw h1 (show 1 ≤ L by omega) hL
  have hrb := relC_bd (r := r) (free := f) hw h1 hL
  unfold relC at hrb ⊢
  rw [lvl_take hr h2 ws f hf] at hrb ⊢
  cases hp : pickDown (cand r L ws level f) f with
  | none =>
    rcases b3 with h | ⟨s, _, hs, h⟩
    · exact h
    · rw [h, hcc s, pickDown_some.pickDown_none f hp s hs]
  | some x =>
    rw [hp] at hrb
    simp only at hrb ⊢
    obtain ⟨t, ht, hx, hmin, _⟩ := pickDown_some f x hp
    have e1 := b2 t (by omega) ht
    rw [hcc t, hx] at e1
    simp only at e1
    rcases b3 with h | ⟨s, _, hs, h⟩
    · omega
    · rw [hcc s] at h
      cases hc : cand r L ws level f s with
      | none => rw [hc] at h; simp only at h; omega
      | some y =>
        rw [hc] at h
        simp only at h
        have := hmin s hs y hc
        omega
/-- One level of the list: as many words as can end there at the least cost. -/
theorem lvl_greedy {r L : Nat} (hr : 1 ≤ r) {ws : List Int} (hw : ∀ w ∈ ws, 0 ≤ w) {level f : Nat} (hf : f ≤ ws.length) (h1 : 1 ≤ level) (h2 : level ≤ L) (hL : (L : Int) * sumW ws < 1000000000)
    {x : List Nat × Int} (hx : lvl r L ws level f = some x) :
    ∃ t y, t ≤ f ∧ withC r L ws level f t = relC r L ws level f ∧ (∀ s, t < s → s ≤ f → relC r L ws level f < withC r L ws level f s) ∧ lvl r L (ws.drop t) (level + 1) ((f - t) * r) = some y ∧ x.1 = List.replicate t level ++ y.1 := by
  have hcc := fun t => cand_cost (r := r) (f := f) (t := t) hw h1 (show 1 ≤ L by omega) hL
  have hb := lvl_cheap hw hx
  have h0 := sumW_nonneg hw
  have hrel : relC r L ws level f = x.2 - ((level : Int) - 1) * sumW ws := by unfold relC; rw [hx]
  have hp := hx
  rw [lvl_take hr h2 ws f hf] at hp
  obtain ⟨t, ht, hc, hmin, hlt⟩ := pickDown_some f x hp
  have hy := hc
  unfold cand at hy
  obtain ⟨y, hy1, hy2⟩ := addC_some hy
  refine ⟨t, y, ht, ?_, fun s hs1 hs2 => ?_, hy1, by rw [hy2]⟩
  · rw [hcc t, hc, hrel]
  · rw [hcc s, hrel]
    have h3 : 0 ≤ ((level : Int) - 1) * sumW ws := Int.mul_nonneg (by omega) h0
    cases hd : cand r L ws level f s with
    | none => show _ < (1000000000 : Int); omega
    | some z =>
      have := hlt s hs1 hs2 z hd
      show _ < z.2 - ((level : Int) - 1) * sumW ws
      omega
end Go.Proofs.Ytjnkdjokbamibaa
/- Contracts: a stable sort of at most twenty indices by a comparison that only reads. -/
namespace Go.Proofs.Ytjnkdjokbamibaa
open Go.RowKit
/-- What is asked of a comparison while block g is sorted. -/
def CmpI (f : Nat) (lb : Array Value) (g N : Nat) (c : Nat → Nat → Int) (w : World) : Prop :=
  ∀ (w' : World), Only (some g) w w' → ∀ x y : Nat, x < N → y < N → Calls Try.prog f (#[.int .i64 (x : Int), .int .i64 (y : Int)] ++ lb) w' fun e w'' => e = .returned (.int .i64 (c x y)) ∧ ∃ m, w'' = w'.drewN m
abbrev pOf (c : Nat → Nat → Int) (x y : Nat) : Bool := decide (c x y < 0)
theorem only_drewN (b : Option Nat) (w : World) (n : Nat) : Only b w (w.drewN n) := ⟨rfl, rfl, rfl, rfl, fun _ _ => rfl⟩
theorem Only.trans {b : Option Nat} {a v w : World} (h : Only b a v) (k : Only b v w) : Only b a w :=
  ⟨k.os.trans h.os, k.tape.trans h.tape, k.output.trans h.output, k.size.trans h.size, fun i hi => (k.block i hi).trans (h.block i hi)⟩
/-- The numbers while x is put in its place at q. -/
def insL (L : List Nat) (x q : Nat) (R : List Nat) : List Nat := L.take q ++ x :: (L.drop q ++ R)
theorem insL_at {L R : List Nat} {x q : Nat} (h : q ≤ L.length) : (nats (insL L x q R))[q]? = some (.int .i64 (x : Int)) := by
  unfold insL nats
  rw [List.map_append, List.getElem?_append_right (by simp; omega), List.length_map, List.length_take, Nat.min_eq_left h, Nat.sub_self]; rfl
theorem insL_ahead {L R : List Nat} {x s y : Nat} (h : L[s]? = some y) : (nats (insL L x (s + 1) R))[s]? = some (.int .i64 (y : Int)) := by
  have hs := (List.getElem?_eq_some_iff.1 h).1
  unfold insL nats
  rw [List.map_append, List.getElem?_append_left (by simp; omega), List.getElem?_map, List.getElem?_take_of_lt (by omega), h]; rfl
theorem insL_swap {L R : List Nat} {x s y : Nat} (h : L[s]? = some y) : ((nats (insL L x (s + 1) R)).set (s + 1) (.int .i64 (y : Int))).set s (.int .i64 (x : Int)) = nats (insL L x s R) := by
  have hs := (List.getElem?_eq_some_iff.1 h).1
  have hd : L.drop s = y :: L.drop (s + 1) := by rw [List.drop_eq_getElem_cons hs]; rw [List.getElem?_eq_getElem hs] at h; cases h; rfl
  have ht : L.take (s + 1) = L.take s ++ [y] := take_snocN h
  have hl : (L.take s).length = s := by rw [List.length_take]; omega
  unfold insL nats
  rw [ht, hd]
  simp only [List.map_append, List.map_cons, List.append_assoc, List.cons_append, List.nil_append]
  have e1 : (List.map (fun m : Nat => Value.int .i64 (m : Int)) (L.take s) ++ Value.int .i64 (y : Int) :: Value.int .i64 (x : Int) :: (List.map (fun m : Nat => Value.int .i64 (m : Int)) (L.drop (s + 1)) ++ List.map (fun m : Nat => Value.int .i64 (m : Int)) R)).set (s + 1) (.int .i64 (y : Int)) =
      List.map (fun m : Nat => Value.int .i64 (m : Int)) (L.take s) ++ Value.int .i64 (y : Int) :: Value.int .i64 (y : Int) :: (List.map (fun m : Nat => Value.int .i64 (m : Int)) (L.drop (s + 1)) ++ List.map (fun m : Nat => Value.int .i64 (m : Int)) R) := by
    rw [List.set_append_right _ _ (by simp; omega), List.length_map, hl, show s + 1 - s = 1 by omega]; rfl
  rw [e1, List.set_append_right _ _ (by simp; omega), List.length_map, hl, Nat.sub_self]; rfl
theorem insL_start {p : Nat → Nat → Bool} {k n : Nat} (h : k < n) : orderBy p k ++ List.range' k (n - k) = insL (orderBy p k) k k (List.range' (k + 1) (n - (k + 1))) := by
  have hl := orderBy_len p k
  unfold insL
  rw [List.take_of_length_le (by omega), List.drop_of_length_le (by omega), List.nil_append, show n - k = (n - (k + 1)) + 1 by omega, List.range'_succ]
theorem insL_end {p : Nat → Nat → Bool} {k n q : Nat} (hq : q ≤ k) (hB : ∀ y ∈ (orderBy p k).drop q, p k y = true) (hA : q = 0 ∨ ∃ a, (orderBy p k)[q - 1]? = some a ∧ p k a = false) :
    insL (orderBy p k) k q (List.range' (k + 1) (n - (k + 1))) = orderBy p (k + 1) ++ List.range' (k + 1) (n - (k + 1)) := by
  rw [orderBy_succ, insBy_at (by rw [orderBy_len]; exact hq) hB hA]
  unfold insL; simp
theorem insL_next {p : Nat → Nat → Bool} {L : List Nat} {x s y : Nat} (h : L[s]? = some y) (hp : p x y = true) (hB : ∀ z ∈ L.drop (s + 1), p x z = true) : ∀ z ∈ L.drop s, p x z = true := by
  have hs := (List.getElem?_eq_some_iff.1 h).1
  have hd : L.drop s = y :: L.drop (s + 1) := by rw [List.drop_eq_getElem_cons hs]; rw [List.getElem?_eq_getElem hs] at h; cases h; rfl
  rw [hd]
  intro z hz
  rcases List.mem_cons.1 hz with rfl | hz
  · exact hp
  · exact hB z hz
set_option maxRecDepth 1000000 in
set_option maxHeartbeats 4000000 in
theorem insSort_any (n cp g f : Nat) (lb : Array Value) (c : Nat → Nat → Int) (w : World) (hn1 : 1 ≤ n) (hn : n ≤ 20) (hcp : n ≤ cp) (h : Blk w g 3 (nats (List.range n))) (hp : CmpI f lb g n c w)
    (eg : ∀ args w, (callFunc f args).run Try.prog w = .ok (.enter f args) w) :
    Calls Try.prog 155 #[.slice (some ⟨g, 0, Option.none⟩) n cp, .int .i64 0, .int .i64 (n : Int), .func (.func f) #[] lb] w fun e w' => (∃ z, e = .returned z) ∧ Blk w' g 3 (nats (orderBy (pOf c) n)) ∧ Only (some g) w w' := by
  have H := Lib.hid h
  have HP := Lib.hid hp
  clear h hp
  go_enter Try.func155, Try.ntmps155
  go_wp2
  go_loopw [8] (fun i wr => ∃ k : Nat, 1 ≤ k ∧ k ≤ n ∧ i = .int .i64 k ∧ Hid (Blk wr g 3 (nats (orderBy (pOf c) k ++ List.range' k (n - k)))) ∧ Hid (Only (some g) w wr)) (fun i _ => n - (intOf i).toNat)
  case atStart =>
    refine ⟨1, Nat.le_refl _, hn1, rfl, ?_, Only.refl _ _⟩
    have e : orderBy (pOf c) 1 ++ List.range' 1 (n - 1) = List.range n := by
      rw [List.range_eq_range', show n = (n - 1) + 1 by omega, List.range'_succ]; rfl
    show Blk _ _ _ _
    rw [e]; exact H.out
  case round =>
    obtain ⟨k, hk1, hk, rfl, hb, ho⟩ := hrel
    by_cases hlt : k < n
    · obtain ⟨L, hL⟩ : ∃ L, L = orderBy (pOf c) k := ⟨_, rfl⟩
      obtain ⟨R, hR⟩ : ∃ R, R = List.range' (k + 1) (n - (k + 1)) := ⟨_, rfl⟩
      have hLl : L.length = k := by rw [hL, orderBy_len]
      have HLL := Lib.hid hLl
      have HLM : Hid (∀ y ∈ L, y < k) := by show ∀ y ∈ L, y < k; rw [hL]; exact fun y hy => orderBy_lt hy
      have HB : Hid (Blk wr g 3 (nats (insL L k k R))) := by show Blk _ _ _ _; rw [hL, hR, ← insL_start hlt]; exact hb.out
      have HEL := Lib.hid hL
      have HER := Lib.hid hR
      clear hb hL hR hLl
      rename World => wo
      go_wp2_with fail
      go_loopw [9] (fun j wr => ∃ q : Nat, q ≤ k ∧ j = .int .i64 q ∧ Hid (Blk wr g 3 (nats (insL L k q R))) ∧ Hid (∀ y ∈ L.drop q, pOf c k y = true) ∧ Hid (Only (some g) w wr)) (fun j _ => (intOf j).toNat)
      case atStart => exact ⟨k, Nat.le_refl _, rfl, HB.out, by intro y hy; rw [List.drop_of_length_le (by rw [HLL.out]; exact Nat.le_refl _)] at hy; simp at hy, ho.out⟩
      case round =>
        obtain ⟨q, hq, rfl, hb2, hall, ho2⟩ := hrel
        rcases Nat.eq_zero_or_pos q with hq0 | hq0
        · have hgd : decide (0 < q) = false := decide_eq_false (by omega)
          have HQ := Lib.hid hq0
          clear hq0
          go_wp2_with fail
          go_quiet (fail)
          go_wp2_with fail
          have HBF : Hid (Blk (wr.drewN nq) g 3 (nats (orderBy (pOf c) (k + 1) ++ List.range' (k + 1) (n - (k + 1))))) := by
            show Blk _ _ _ _
            rw [← insL_end (q := q) hq (by rw [← HEL.out]; exact hall.out) (.inl HQ.out), ← HEL.out, ← HER.out]
            exact hb2.out
          go_roundw
          case rel => exact ⟨k + 1, by omega, by omega, by go_num, HBF.out, ho2.out.trans (only_drewN _ _ _)⟩
          case measure => simp [intOf]; omega
        · obtain ⟨s, rfl⟩ : ∃ s, q = s + 1 := ⟨q - 1, by omega⟩
          obtain ⟨y, hy⟩ : ∃ y, L[s]? = some y := ⟨_, List.getElem?_eq_getElem (by rw [HLL.out]; omega)⟩
          have hyk := HLM.out y (List.mem_of_getElem? hy)
          have hgd : decide ((0 : Int) < ((s + 1 : Nat) : Int)) = true := decide_eq_true (by omega)
          have hgd2 : decide ((0 : Int) < (s : Int) + 1) = true := decide_eq_true (by omega)
          have hc1 := hb2.out.cell (s + 1)
          have hc0 := hb2.out.cell s
          rw [insL_at (by rw [HLL.out]; omega)] at hc1
          rw [insL_ahead hy] at hc0
          have HY := Lib.hid hy
          have HCM := Lib.hid fun nq => HP.out (wr.drewN nq) (ho2.out.trans (only_drewN _ _ _)) k y (by omega) (by omega)
          have hsn : (s : Int) + 1 < (n : Int) := by omega
          have hsn2 : (s : Int) < (n : Int) := by omega
          clear hy
          cases hcy : pOf c k y
          · have hcc : decide (c k y < 0) = false := hcy
            go_wp2_with fail
            go_quiet ((go_at_fn f; exact Calls.quiet_of (HCM.out _)))
            go_wp2_with fail
            have HBF : Hid (Blk (wr.drewN nq) g 3 (nats (orderBy (pOf c) (k + 1) ++ List.range' (k + 1) (n - (k + 1))))) := by
              show Blk _ _ _ _
              rw [← insL_end (q := s + 1) hq (by rw [← HEL.out]; exact hall.out) (.inr ⟨y, by rw [← HEL.out]; exact HY.out, hcy⟩), ← HEL.out, ← HER.out]
              exact hb2.out
            go_roundw
            case rel => exact ⟨k + 1, by omega, by omega, by go_num, HBF.out, ho2.out.trans (only_drewN _ _ _)⟩
            case measure => simp [intOf]; omega
          · have hcc : decide (c k y < 0) = true := hcy
            go_wp2_with fail
            go_quiet ((go_at_fn f; exact Calls.quiet_of (HCM.out _)))
            have HBD : Hid (Blk (wr.drewN nq) g 3 (nats (insL L k (s + 1) R))) := hb2.out
            have HOD : Hid (Only (some g) w (wr.drewN nq)) := ho2.out.trans (only_drewN _ _ _)
            have hd1 : (wr.drewN nq).cell? ⟨g, s + 1, Option.none⟩ = some (.int .i64 (k : Int)) := hc1
            have hd0 : (wr.drewN nq).cell? ⟨g, s, Option.none⟩ = some (.int .i64 (y : Int)) := hc0
            have hfz : ∀ i, (wr.drewN nq).frozen? ⟨g, i, Option.none⟩ = false := fun i => HBD.out.frozen i
            clear hc1 hc0
            generalize (wr.drewN nq) = wq at HBD HOD hd1 hd0 hfz ⊢
            go_wp2_with fail
            go_region
            have hBS : Blk ((wq.setCell ⟨g, s + 1, Option.none⟩ (.int .i64 (y : Int))).setCell ⟨g, s, Option.none⟩ (.int .i64 (k : Int))) g 3 (nats (insL L k s R)) := by
              rw [← insL_swap HY.out]; exact (HBD.out.set_ _ _).set_ _ _
            have hOS : Only (some g) w ((wq.setCell ⟨g, s + 1, Option.none⟩ (.int .i64 (y : Int))).setCell ⟨g, s, Option.none⟩ (.int .i64 (k : Int))) := (HOD.out.setCell (p := ⟨g, s + 1, Option.none⟩) rfl _).setCell (p := ⟨g, s, Option.none⟩) rfl _
            have HBS := Lib.hid hBS
            have HOS := Lib.hid hOS
            clear hBS hOS
            go_wp2_with fail
            go_roundw
            case rel => exact ⟨s, by omega, by go_num, HBS.out, insL_next HY.out hcy hall.out, HOS.out.trans (only_drewN _ _ 1)⟩
            case measure => simp [intOf]
    · obtain rfl : k = n := by omega
      have hb3 : Blk wr g 3 (nats (orderBy (pOf c) k)) := by have := hb.out; rwa [Nat.sub_self, List.range'_zero, List.append_nil] at this
      go_wp2_with fail
      refine bodyPost_end (results_none Try.results155 _ _ _) rfl ?_
      exact ⟨⟨_, rfl⟩, hb3, ho.out⟩
end Go.Proofs.Ytjnkdjokbamibaa
