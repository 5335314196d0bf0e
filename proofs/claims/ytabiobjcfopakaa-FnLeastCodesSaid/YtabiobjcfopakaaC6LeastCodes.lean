/- Texts of one claim, joined: C2, E8, R3, U1, U2, D9, H1. -/
import Derived.Test.YtabiobjcfopakaaC5LeastCodes
/- Contracts of the tests whether words are a code, and of the words written one after the other; of the program and of the reference. -/
namespace Go.Proofs.Ytabiobjcfopakaa
open Go.RowKit
def wordOk (xs : List Int) : Bool := inB xs.length 1 6 && allB xs 0 59
def noClash (xss : List (List Int)) : Bool := (List.range xss.length).all fun i => (List.range xss.length).all fun k => i == k || !begB (xss.getD i []) (xss.getD k [])
def codeB (xss : List (List Int)) : Bool := inB xss.length 1 20 && (xss.all wordOk && noClash xss)
theorem noClash_iff {xss : List (List Int)} : noClash xss = true ↔ ∀ (i k : Nat) (x y : List Int), i ≠ k → xss[i]? = some x → xss[k]? = some y → begB x y = false := by
  unfold noClash
  simp only [List.all_eq_true, List.mem_range, Bool.or_eq_true, beq_iff_eq, Bool.not_eq_true']
  constructor
  · intro h i k x y hne hx hy
    have h1 := (List.getElem?_eq_some_iff.1 hx).1
    have h2 := (List.getElem?_eq_some_iff.1 hy).1
    rcases h i h1 k h2 with e | e
    · exact absurd e hne
    · rw [List.getD_eq_getElem?_getD, List.getD_eq_getElem?_getD, hx, hy] at e; exact e
  · intro h i hi k hk
    by_cases e : i = k
    · exact .inl e
    · right
      have := h i k xss[i] xss[k] e (by simp [hi]) (by simp [hk])
      simpa [List.getD_eq_getElem?_getD, hi, hk] using this
theorem codeB_word {xss : List (List Int)} {i : Nat} {x : List Int} (hx : xss[i]? = some x) (h : wordOk x = false) : codeB xss = false := by
  have : xss.all wordOk = false := by rw [List.all_eq_false]; exact ⟨x, List.mem_of_getElem? hx, by simp [h]⟩
  unfold codeB; rw [this]; simp
theorem codeB_clash {xss : List (List Int)} {i k : Nat} {x y : List Int} (hx : xss[i]? = some x) (hy : xss[k]? = some y) (hne : i ≠ k) (h : begB x y = true) : codeB xss = false := by
  have : noClash xss = false := by
    cases e : noClash xss
    · rfl
    · have := noClash_iff.1 e i k x y hne hx hy
      rw [h] at this; cases this
  unfold codeB; rw [this]; simp
/-- What holds behind i rounds. -/
def CodeUpto (xss : List (List Int)) (i : Nat) : Prop := ∀ (j : Nat) (x : List Int), j < i → xss[j]? = some x → wordOk x = true ∧ ∀ (k : Nat) (y : List Int), j ≠ k → xss[k]? = some y → begB x y = false
theorem codeB_yes {xss : List (List Int)} (h : CodeUpto xss xss.length) (hl : inB xss.length 1 20 = true) : codeB xss = true := by
  unfold codeB
  rw [hl, Bool.true_and, Bool.and_eq_true, List.all_eq_true]
  refine ⟨fun x hx => ?_, noClash_iff.2 fun i k x y hne hx hy => ?_⟩
  · obtain ⟨j, hj⟩ := List.getElem?_of_mem hx
    exact (h j x (List.getElem?_eq_some_iff.1 hj).1 hj).1
  · exact (h i x (List.getElem?_eq_some_iff.1 hx).1 hx).2 k y hne hy
/-- What holds behind i rounds of the reference. -/
def CodeDown (xss : List (List Int)) (i : Nat) : Prop := ∀ (j : Nat) (x : List Int), j < i → xss[j]? = some x → wordOk x = true ∧ ∀ (k : Nat) (y : List Int), k < j → xss[k]? = some y → begB x y = false ∧ begB y x = false
theorem codeB_down {xss : List (List Int)} (h : CodeDown xss xss.length) : codeB xss = inB xss.length 1 20 := by
  cases hl : inB xss.length 1 20
  · unfold codeB; rw [hl]; rfl
  · refine codeB_yes (fun j x hj hx => ⟨(h j x hj hx).1, fun k y hne hy => ?_⟩) hl
    rcases Nat.lt_or_gt_of_ne hne with hlt | hlt
    · exact ((h k y (List.getElem?_eq_some_iff.1 hy).1 hy).2 j x hlt hx).2
    · exact ((h j x hj hx).2 k y hlt hy).1
theorem wordOk_len {xs : List Int} (h : inB xs.length 1 6 = false) : wordOk xs = false := by unfold wordOk; rw [h]; rfl
theorem wordOk_all {xs : List Int} (h : allB xs 0 59 = false) : wordOk xs = false := by unfold wordOk; rw [h]; simp
theorem wordOk_yes {xs : List Int} (h : inB xs.length 1 6 = true) (h2 : allB xs 0 59 = true) : wordOk xs = true := by unfold wordOk; rw [h, h2]; rfl
set_option maxHeartbeats 1600000 in
theorem isCode_any (xss : List (List Int)) (v : Value) (hi : Nat) (w : World) (h : RdII w hi v xss) : Calls Try.prog 204 #[v] w fun e w' => e = .returned (.bool (codeB xss)) ∧ ∃ n, w' = w.drewN n := by
  obtain ⟨A, c, rfl, hm⟩ := h.form
  have H := Lib.hid h
  clear h
  cases hl : inB xss.length 1 20
  · go_enter Try.func204, Try.ntmps204
    go_wp2_with (go_at_call 125; refine (within_any _ _ _ _).mono ?_; rintro e w' ⟨rfl, rfl⟩)
    go_ret
    exact ⟨ret_bool (by unfold codeB; rw [hl]; rfl), 0, rfl⟩
  · have hl20 := inB_iff.1 hl
    go_enter Try.func204, Try.ntmps204
    go_wp2_with (go_at_call 125; refine (within_any _ _ _ _).mono ?_; rintro e w' ⟨rfl, rfl⟩)
    go_loopw [13] (fun i wr => ∃ k : Nat, k ≤ xss.length ∧ i = .int .i64 k ∧ Hid (CodeUpto xss k) ∧ ∃ n, wr = w.drewN n) (fun i _ => xss.length - (intOf i).toNat)
    case atStart => exact ⟨0, Nat.zero_le _, rfl, fun j x hj _ => by omega, 0, rfl⟩
    case round =>
      obtain ⟨i, hi', rfl, hup, n, rfl⟩ := hrel
      by_cases hlt : i < xss.length
      · obtain ⟨b1, o1, c1, a, xs, hv, _, hx, hcell1, hra⟩ := H.out.at_ hlt
        cases hv
        have HA := Lib.hid hra
        have HX := Lib.hid hx
        obtain ⟨A2, c2, rfl, hc2, hm2⟩ := Rd.form hra
        clear hra hx
        cases hw1 : inB xs.length 1 6
        · go_wp2_with (first | (go_at_call 125; refine (within_any _ _ _ _).mono ?_; rintro e w' ⟨rfl, rfl⟩) | (go_at_call 181; refine (allWithin_any xs _ _ _ hi _ (by exact HA.out)).mono ?_; rintro e w' ⟨rfl, rfl⟩))
          go_ret
          exact ⟨ret_bool (codeB_word HX.out (wordOk_len hw1)).symm, _, rfl⟩
        · cases hw2 : allB xs 0 59
          · go_wp2_with (first | (go_at_call 125; refine (within_any _ _ _ _).mono ?_; rintro e w' ⟨rfl, rfl⟩) | (go_at_call 181; refine (allWithin_any xs _ _ _ hi _ (by exact HA.out)).mono ?_; rintro e w' ⟨rfl, rfl⟩))
            go_ret
            exact ⟨ret_bool (codeB_word HX.out (wordOk_all hw2)).symm, _, rfl⟩
          · have HW := Lib.hid (wordOk_yes hw1 hw2)
            go_wp2_with (first | (go_at_call 125; refine (within_any _ _ _ _).mono ?_; rintro e w' ⟨rfl, rfl⟩) | (go_at_call 181; refine (allWithin_any xs _ _ _ hi _ (by exact HA.out)).mono ?_; rintro e w' ⟨rfl, rfl⟩))
            go_loopw [29] (fun i2 wr => ∃ k : Nat, k ≤ xss.length ∧ i2 = .int .i64 k ∧ Hid (∀ (k' : Nat) (y : List Int), k' < k → i ≠ k' → xss[k']? = some y → begB xs y = false) ∧ ∃ n, wr = w.drewN n) (fun i2 _ => xss.length - (intOf i2).toNat)
            case atStart => exact ⟨0, Nat.zero_le _, rfl, fun k y hk _ _ => by omega, _, rfl⟩
            case round =>
              obtain ⟨k, hk, rfl, hin, m, rfl⟩ := hrel
              by_cases hltk : k < xss.length
              · obtain ⟨b3, o3, c3, b, ys, hv, _, hy, hcell3, hrb⟩ := H.out.at_ hltk
                cases hv
                have HB := Lib.hid hrb
                have HY := Lib.hid hy
                obtain ⟨A4, c4, rfl, hc4, hm4⟩ := Rd.form hrb
                clear hrb hy
                by_cases hne : i = k
                · have hne1 : ((i : Int) != (k : Int)) = false := by rw [hne]; simp
                  have HNE := Lib.hid hne
                  clear hne
                  go_wp2_with fail
                  go_roundw
                  case rel => exact ⟨k + 1, by omega, by go_num, fun k' y hk' hn hy => by
                    by_cases e : k' = k
                    · exact absurd (by rw [HNE.out, e]) hn
                    · exact hin.out k' y (by omega) hn hy, _, rfl⟩
                  case measure => simp [intOf]; omega
                · have hne1 : ((i : Int) != (k : Int)) = true := by rw [bne_iff_ne]; omega
                  cases hbg : begB xs ys
                  · have HBG := Lib.hid hbg
                    go_wp2_with fail
                    refine (begins_any xs ys _ _ hi hi _ (by exact HA.out) (by exact HB.out)).mono ?_
                    rw [HBG.out]
                    rintro e w' ⟨rfl, q, rfl⟩
                    go_wp2_with fail
                    go_roundw
                    case rel => exact ⟨k + 1, by omega, by go_num, fun k' y hk' hn hy => by
                      by_cases e : k' = k
                      · subst e; rw [HY.out] at hy; cases hy; exact HBG.out
                      · exact hin.out k' y (by omega) hn hy, _, rfl⟩
                    case measure => simp [intOf]; omega
                  · have HBG := Lib.hid hbg
                    go_wp2_with fail
                    refine (begins_any xs ys _ _ hi hi _ (by exact HA.out) (by exact HB.out)).mono ?_
                    rw [HBG.out]
                    rintro e w' ⟨rfl, q, rfl⟩
                    go_wp2_with fail
                    go_ret
                    exact ⟨ret_bool (codeB_clash HX.out HY.out hne HBG.out).symm, _, rfl⟩
              · obtain rfl : k = xss.length := by omega
                go_wp2_with fail
                go_roundw
                case rel => exact ⟨i + 1, by omega, by go_num, fun j x hj hx => by
                  by_cases e : j = i
                  · subst e; rw [HX.out] at hx; cases hx
                    exact ⟨HW.out, fun k y hn hy => hin.out k y (List.getElem?_eq_some_iff.1 hy).1 hn hy⟩
                  · exact hup.out j x (by omega) hx, _, rfl⟩
                case measure => simp [intOf]; omega
      · obtain rfl : i = xss.length := by omega
        go_wp2_with fail
        go_ret
        exact ⟨ret_bool (codeB_yes hup.out hl).symm, _, rfl⟩
set_option maxHeartbeats 1600000 in
theorem cmCode_any (xss : List (List Int)) (v : Value) (hi : Nat) (w : World) (h : RdII w hi v xss) : Calls Try.prog 205 #[v] w fun e w' => e = .returned (.bool (codeB xss)) ∧ ∃ n, w' = w.drewN n := by
  obtain ⟨A, c, rfl, hm⟩ := h.form
  obtain ⟨us0, hr0, hR0⟩ := h
  obtain ⟨_, _, hcc⟩ := Rd.form hR0
  obtain ⟨hv0, hcap, _⟩ := hcc
  cases hv0
  have H : Hid (RdII w hi (.slice A xss.length c) xss) := ⟨us0, hr0, hR0⟩
  clear hr0 hR0
  go_enter Try.func205, Try.ntmps205
  go_wp2
  go_loopw [9] (fun i wr => ∃ k : Nat, k ≤ xss.length ∧ i = .int .i64 k ∧ Hid (CodeDown xss k) ∧ ∃ n, wr = w.drewN n) (fun i _ => xss.length - (intOf i).toNat)
  case atStart => exact ⟨0, Nat.zero_le _, rfl, fun j x hj _ => by omega, 0, rfl⟩
  case round =>
    obtain ⟨i, hi', rfl, hup, n, rfl⟩ := hrel
    by_cases hlt : i < xss.length
    · obtain ⟨b1, o1, c1, a, xs, hv, _, hx, hcell1, hra⟩ := H.out.at_ hlt
      cases hv
      have HA := Lib.hid hra
      have HX := Lib.hid hx
      obtain ⟨A2, c2, rfl, hc2, hm2⟩ := Rd.form hra
      clear hra hx
      cases hw1 : inB xs.length 1 6
      · go_wp2_with (first | (go_at_call 191; refine (l1In_any _ _ _ _).mono ?_; rintro e w' ⟨rfl, rfl⟩) | (go_at_call 184; refine (l1All_any xs _ _ _ hi _ (by exact HA.out)).mono ?_; rintro e w' ⟨rfl, rfl⟩))
        go_ret
        exact ⟨ret_bool (codeB_word HX.out (wordOk_len hw1)).symm, _, rfl⟩
      · cases hw2 : allB xs 0 59
        · go_wp2_with (first | (go_at_call 191; refine (l1In_any _ _ _ _).mono ?_; rintro e w' ⟨rfl, rfl⟩) | (go_at_call 184; refine (l1All_any xs _ _ _ hi _ (by exact HA.out)).mono ?_; rintro e w' ⟨rfl, rfl⟩))
          go_ret
          exact ⟨ret_bool (codeB_word HX.out (wordOk_all hw2)).symm, _, rfl⟩
        · have HW := Lib.hid (wordOk_yes hw1 hw2)
          go_wp2_with (first | (go_at_call 191; refine (l1In_any _ _ _ _).mono ?_; rintro e w' ⟨rfl, rfl⟩) | (go_at_call 184; refine (l1All_any xs _ _ _ hi _ (by exact HA.out)).mono ?_; rintro e w' ⟨rfl, rfl⟩))
          go_loopw [27] (fun i2 wr => ∃ k : Nat, k ≤ i ∧ i2 = .int .i64 k ∧ Hid (∀ (k' : Nat) (y : List Int), k' < k → xss[k']? = some y → begB xs y = false ∧ begB y xs = false) ∧ ∃ n, wr = w.drewN n) (fun i2 _ => xss.length - (intOf i2).toNat)
          case atStart => exact ⟨0, Nat.zero_le _, rfl, fun k y hk _ => by omega, _, rfl⟩
          case round =>
            obtain ⟨k, hk, rfl, hin, m, rfl⟩ := hrel
            by_cases hltk : k < i
            · obtain ⟨b3, o3, c3, b, ys, hv, _, hy, hcell3, hrb⟩ := H.out.at_ (show k < xss.length by omega)
              cases hv
              have HB := Lib.hid hrb
              have HY := Lib.hid hy
              obtain ⟨A4, c4, rfl, hc4, hm4⟩ := Rd.form hrb
              clear hrb hy
              cases hbg : begB xs ys
              · have HBG := Lib.hid hbg
                cases hbh : begB ys xs
                · have HBH := Lib.hid hbh
                  go_wp2_with fail
                  refine (bkBegins_any xs ys _ _ hi hi _ (by exact HA.out) (by exact HB.out)).mono ?_
                  rw [HBG.out]
                  rintro e w' ⟨rfl, q, rfl⟩
                  go_wp2_with fail
                  refine (bkBegins_any ys xs _ _ hi hi _ (by exact HB.out) (by exact HA.out)).mono ?_
                  rw [HBH.out]
                  rintro e w' ⟨rfl, q2, rfl⟩
                  go_wp2_with fail
                  go_roundw
                  case rel => exact ⟨k + 1, by omega, by go_num, fun k' y hk' hy => by
                    by_cases e : k' = k
                    · subst e; rw [HY.out] at hy; cases hy; exact ⟨HBG.out, HBH.out⟩
                    · exact hin.out k' y (by omega) hy, _, rfl⟩
                  case measure => simp [intOf]; omega
                · have HBH := Lib.hid hbh
                  go_wp2_with fail
                  refine (bkBegins_any xs ys _ _ hi hi _ (by exact HA.out) (by exact HB.out)).mono ?_
                  rw [HBG.out]
                  rintro e w' ⟨rfl, q, rfl⟩
                  go_wp2_with fail
                  refine (bkBegins_any ys xs _ _ hi hi _ (by exact HB.out) (by exact HA.out)).mono ?_
                  rw [HBH.out]
                  rintro e w' ⟨rfl, q2, rfl⟩
                  go_wp2_with fail
                  go_ret
                  exact ⟨ret_bool (codeB_clash HY.out HX.out (by omega) HBH.out).symm, _, rfl⟩
              · have HBG := Lib.hid hbg
                go_wp2_with fail
                refine (bkBegins_any xs ys _ _ hi hi _ (by exact HA.out) (by exact HB.out)).mono ?_
                rw [HBG.out]
                rintro e w' ⟨rfl, q, rfl⟩
                go_wp2_with fail
                go_ret
                exact ⟨ret_bool (codeB_clash HX.out HY.out (by omega) HBG.out).symm, _, rfl⟩
            · obtain rfl : k = i := by omega
              go_wp2_with fail
              go_roundw
              case rel => exact ⟨k + 1, by omega, by go_num, fun j x hj hx => by
                by_cases e : j = k
                · subst e; rw [HX.out] at hx; cases hx
                  exact ⟨HW.out, fun k y hn hy => hin.out k y hn hy⟩
                · exact hup.out j x (by omega) hx, _, rfl⟩
              case measure => simp [intOf]; omega
    · obtain rfl : i = xss.length := by omega
      go_wp2_with fail
      refine (l1In_any _ _ _ _).mono ?_
      rintro e w' ⟨rfl, rfl⟩
      go_wp2
      go_ret
      exact ⟨ret_bool (codeB_down hup.out).symm, _, rfl⟩
/-- The words of the indices, one after the other. -/
def wordsI (xss : List (List Int)) (is : List Int) : List Int := is.flatMap fun i => xss.getD i.toNat []
theorem wordsI_step {xss : List (List Int)} {is : List Int} {k i : Nat} {xs : List Int} (h : is[k]? = some (i : Int)) (hx : xss[i]? = some xs) : wordsI xss (is.take (k + 1)) = wordsI xss (is.take k) ++ xs := by
  unfold wordsI
  rw [take_snocI h, List.flatMap_append]
  simp [List.getD_eq_getElem?_getD, hx]
theorem wordsI_len {xss : List (List Int)} (hb : ∀ (j : Nat) (x : List Int), xss[j]? = some x → x.length ≤ 6) (is : List Int) : (wordsI xss is).length ≤ 6 * is.length := by
  induction is with
  | nil => simp [wordsI]
  | cons i r ih =>
    unfold wordsI at *
    simp only [List.flatMap_cons, List.length_append, List.length_cons]
    have : (xss.getD i.toNat []).length ≤ 6 := by
      rw [List.getD_eq_getElem?_getD]
      cases h : xss[i.toNat]? with
      | none => simp
      | some x => exact hb _ x h
    omega
theorem codeB_len {xss : List (List Int)} (h : codeB xss = true) : (1 ≤ xss.length ∧ xss.length ≤ 20) ∧ ∀ (j : Nat) (x : List Int), xss[j]? = some x → (1 ≤ x.length ∧ x.length ≤ 6) ∧ allB x 0 59 = true := by
  unfold codeB at h
  rw [Bool.and_eq_true, Bool.and_eq_true, List.all_eq_true] at h
  have h1 := inB_iff.1 h.1
  refine ⟨⟨by omega, by omega⟩, fun j x hx => ?_⟩
  have h2 := h.2.1 x (List.mem_of_getElem? hx)
  unfold wordOk at h2
  rw [Bool.and_eq_true] at h2
  have h3 := inB_iff.1 h2.1
  exact ⟨⟨by omega, by omega⟩, h2.2⟩
def writeB (xss : List (List Int)) (is : List Int) : Bool := codeB xss && (decide (is.length ≤ 30) && allB is 0 ((xss.length : Int) - 1))
def writeL (xss : List (List Int)) (is : List Int) : List Int := if writeB xss is then wordsI xss is else []
theorem writeL_len (xss : List (List Int)) (is : List Int) : (writeL xss is).length ≤ 180 := by
  unfold writeL
  split
  · rename_i h
    unfold writeB at h
    simp only [Bool.and_eq_true, decide_eq_true_eq] at h
    have h1 := (codeB_len h.1).2
    have := wordsI_len (fun j x hx => (h1 j x hx).1.2) is
    omega
  · simp
set_option maxHeartbeats 1600000 in
theorem WriteWords_any (xss : List (List Int)) (is : List Int) (v u : Value) (hi hj : Nat) (w : World) (h : RdII w hi v xss) (g : RdI w hj u is) (hh : hi ≤ w.heap.size) (hg : hj ≤ w.heap.size) :
    Calls Try.prog 112 #[v, u] w (RetOwT (writeL xss is) (writeB xss is) w) := by
  obtain ⟨A, c, rfl, hm⟩ := h.form
  obtain ⟨A', c', rfl, hc', hm'⟩ := Rd.form g
  have H := Lib.hid h
  have HI := Lib.hid g
  clear h g
  cases hcode : codeB xss
  · have e : writeL xss is = [] ∧ writeB xss is = false := by simp [writeL, writeB, hcode]
    rw [e.1, e.2]; clear e
    go_enter Try.func112, Try.ntmps112
    go_wp2_with fail
    refine (isCode_any xss _ hi _ H.out).mono ?_
    rw [hcode]
    rintro e w' ⟨rfl, n, rfl⟩
    go_wp2_with fail
    go_ret2
    exact ⟨_, rfl, owI_nil _ _ _, bel_drewN _ _ _⟩
  · by_cases hlen : is.length ≤ 30
    · cases hall : allB is 0 ((xss.length : Int) - 1)
      · have e : writeL xss is = [] ∧ writeB xss is = false := by simp [writeL, writeB, hall]
        rw [e.1, e.2]; clear e
        have hcl := (codeB_len hcode).1
        go_enter Try.func112, Try.ntmps112
        go_wp2_with fail
        refine (isCode_any xss _ hi _ H.out).mono ?_
        rw [hcode]
        rintro e w' ⟨rfl, n, rfl⟩
        go_wp2_with (go_at_call 181; refine (allWithin_any is _ _ _ hj _ (by exact HI.out)).mono ?_; rintro e w' ⟨rfl, rfl⟩)
        go_ret2
        exact ⟨_, rfl, owI_nil _ _ _, bel_drewN _ _ _⟩
      · have e : writeL xss is = wordsI xss is ∧ writeB xss is = true := by simp [writeL, writeB, hcode, hlen, hall]
        rw [e.1, e.2]; clear e
        obtain ⟨hcl, hcw⟩ := codeB_len hcode
        have HCW := Lib.hid hcw
        have HALL := Lib.hid hall
        clear hcw
        go_enter Try.func112, Try.ntmps112
        go_wp2_with fail
        refine (isCode_any xss _ hi _ H.out).mono ?_
        rw [hcode]
        rintro e w' ⟨rfl, n, rfl⟩
        go_wp2_with (go_at_call 181; refine (allWithin_any is _ _ _ hj _ (by exact HI.out)).mono ?_; rintro e w' ⟨rfl, rfl⟩)
        clear hall hcode
        go_loopw [6, 27] (fun s i wr => ∃ (k : Nat), k ≤ is.length ∧ i = .int .i64 k ∧ GrowI w w.heap.size wr s (wordsI xss (is.take k))) (fun _ i _ => is.length - (intOf i).toNat)
        case atStart => exact ⟨0, Nat.zero_le _, rfl, GrowI.nil (bel_drewN _ _ _)⟩
        case round =>
          obtain ⟨k, hk, rfl, hG⟩ := hrel
          by_cases hlt : k < is.length
          · obtain ⟨b1, o1, c1, y, hv, _, hy, hcell1⟩ := Rd.at_ (Rd.below HI.out hG.bel hg) hlt
            cases hv
            have hyb := allB_mem hy HALL.out
            obtain ⟨y, rfl⟩ := Int.eq_ofNat_of_zero_le hyb.1
            obtain ⟨b2, o2, c2, a, xs, hv, _, hx, hcell2, hra⟩ := (H.out.below hG.bel hh).at_ (show y < xss.length by omega)
            cases hv
            have hst := wordsI_step hy hx
            have hwl := wordsI_len (fun j x hx => (HCW.out j x hx).1.2) (is.take k)
            have hxl := (HCW.out y xs hx).1.2
            have htk : (is.take k).length ≤ k := by rw [List.length_take]; omega
            have HS := Lib.hid hst
            have HRA := Lib.hid hra
            clear hst hy hx hra
            go_wp2_with (at_builtin; refine GrowI.appI rfl (.tmp 31) (.tmp 35) rfl hG HRA.out (by omega) rfl rfl ?_; intro v' w2 hG')
            go_roundw
            case rel => exact ⟨k + 1, by omega, by go_num, by rw [HS.out]; exact hG'⟩
            case measure => simp [intOf]; omega
          · obtain rfl : k = is.length := by omega
            rw [List.take_of_length_le (Nat.le_refl _)] at hG
            go_wp2_with fail
            go_ret2
            exact retOwT true hG
    · have e : writeL xss is = [] ∧ writeB xss is = false := by simp [writeL, writeB, hlen]
      rw [e.1, e.2]; clear e
      go_enter Try.func112, Try.ntmps112
      go_wp2_with fail
      refine (isCode_any xss _ hi _ H.out).mono ?_
      rw [hcode]
      rintro e w' ⟨rfl, n, rfl⟩
      go_wp2_with fail
      go_ret2
      exact ⟨_, rfl, owI_nil _ _ _, bel_drewN _ _ _⟩
set_option maxHeartbeats 1600000 in
theorem sWriteWords_any (xss : List (List Int)) (is : List Int) (v u : Value) (hi hj : Nat) (w : World) (h : RdII w hi v xss) (g : RdI w hj u is) (hh : hi ≤ w.heap.size) (hg : hj ≤ w.heap.size) :
    Calls Try.prog 113 #[v, u] w (RetOwT (writeL xss is) (writeB xss is) w) := by
  obtain ⟨A, c, rfl, hm⟩ := h.form
  obtain ⟨A', c', rfl, hc', hm'⟩ := Rd.form g
  have H := Lib.hid h
  have HI := Lib.hid g
  clear h g
  cases hcode : codeB xss
  · have e : writeL xss is = [] ∧ writeB xss is = false := by simp [writeL, writeB, hcode]
    rw [e.1, e.2]; clear e
    go_enter Try.func113, Try.ntmps113
    go_wp2_with fail
    refine (cmCode_any xss _ hi _ H.out).mono ?_
    rw [hcode]
    rintro e w' ⟨rfl, n, rfl⟩
    go_wp2_with fail
    go_ret2
    exact ⟨_, rfl, owI_nil _ _ _, bel_drewN _ _ _⟩
  · by_cases hlen : is.length ≤ 30
    · cases hall : allB is 0 ((xss.length : Int) - 1)
      · have e : writeL xss is = [] ∧ writeB xss is = false := by simp [writeL, writeB, hall]
        rw [e.1, e.2]; clear e
        have hcl := (codeB_len hcode).1
        go_enter Try.func113, Try.ntmps113
        go_wp2_with fail
        refine (cmCode_any xss _ hi _ H.out).mono ?_
        rw [hcode]
        rintro e w' ⟨rfl, n, rfl⟩
        go_wp2_with (go_at_call 184; refine (l1All_any is _ _ _ hj _ (by exact HI.out)).mono ?_; rintro e w' ⟨rfl, rfl⟩)
        go_ret2
        exact ⟨_, rfl, owI_nil _ _ _, bel_drewN _ _ _⟩
      · have e : writeL xss is = wordsI xss is ∧ writeB xss is = true := by simp [writeL, writeB, hcode, hlen, hall]
        rw [e.1, e.2]; clear e
        obtain ⟨hcl, hcw⟩ := codeB_len hcode
        have HCW := Lib.hid hcw
        have HALL := Lib.hid hall
        clear hcw
        go_enter Try.func113, Try.ntmps113
        go_wp2_with fail
        refine (cmCode_any xss _ hi _ H.out).mono ?_
        rw [hcode]
        rintro e w' ⟨rfl, n, rfl⟩
        go_wp2_with (go_at_call 184; refine (l1All_any is _ _ _ hj _ (by exact HI.out)).mono ?_; rintro e w' ⟨rfl, rfl⟩)
        clear hall hcode
        go_loopw [6, 27] (fun s i wr => ∃ (k : Nat), k ≤ is.length ∧ i = .int .i64 k ∧ GrowI w w.heap.size wr s (wordsI xss (is.take k))) (fun _ i _ => is.length - (intOf i).toNat)
        case atStart => exact ⟨0, Nat.zero_le _, rfl, GrowI.nil (bel_drewN _ _ _)⟩
        case round =>
          obtain ⟨k, hk, rfl, hG⟩ := hrel
          by_cases hlt : k < is.length
          · obtain ⟨b1, o1, c1, y, hv, _, hy, hcell1⟩ := Rd.at_ (Rd.below HI.out hG.bel hg) hlt
            cases hv
            have hyb := allB_mem hy HALL.out
            obtain ⟨y, rfl⟩ := Int.eq_ofNat_of_zero_le hyb.1
            obtain ⟨b2, o2, c2, a, xs, hv, _, hx, hcell2, hra⟩ := (H.out.below hG.bel hh).at_ (show y < xss.length by omega)
            cases hv
            have hst := wordsI_step hy hx
            have hwl := wordsI_len (fun j x hx => (HCW.out j x hx).1.2) (is.take k)
            have hxl := (HCW.out y xs hx).1.2
            have htk : (is.take k).length ≤ k := by rw [List.length_take]; omega
            have HS := Lib.hid hst
            have HRA := Lib.hid hra
            clear hst hy hx hra
            go_wp2_with (at_builtin; refine GrowI.appI rfl (.tmp 31) (.tmp 35) rfl hG HRA.out (by omega) rfl rfl ?_; intro v' w2 hG')
            go_roundw
            case rel => exact ⟨k + 1, by omega, by go_num, by rw [HS.out]; exact hG'⟩
            case measure => simp [intOf]; omega
          · obtain rfl : k = is.length := by omega
            rw [List.take_of_length_le (Nat.le_refl _)] at hG
            go_wp2_with fail
            go_ret2
            exact retOwT true hG
    · have e : writeL xss is = [] ∧ writeB xss is = false := by simp [writeL, writeB, hlen]
      rw [e.1, e.2]; clear e
      go_enter Try.func113, Try.ntmps113
      go_wp2_with fail
      refine (cmCode_any xss _ hi _ H.out).mono ?_
      rw [hcode]
      rintro e w' ⟨rfl, n, rfl⟩
      go_wp2_with fail
      go_ret2
      exact ⟨_, rfl, owI_nil _ _ _, bel_drewN _ _ _⟩
end Go.Proofs.Ytabiobjcfopakaa
/- Plain laws on reading words: the first word that begins digits is the only one; the words read one after the other. -/
namespace Go.Proofs.Ytabiobjcfopakaa
open Go.RowKit
/-- The first word that begins digits. -/
def ixC (code : List (List Int)) (ds : List Int) : Option Nat := code.findIdx? fun x => begB x ds
def readF (code : List (List Int)) : Nat → List Int → Option (List Int)
  | _, [] => some []
  | 0, _ :: _ => Option.none
  | n + 1, d :: ds => match ixC code (d :: ds) with
    | Option.none => Option.none
    | some i => (readF code n ((d :: ds).drop (code.getD i []).length)).map fun r => (i : Int) :: r
def readW (code : List (List Int)) (ds : List Int) : Option (List Int) := readF code ds.length ds
theorem readW_nil (code : List (List Int)) : readW code [] = some [] := rfl
theorem code_pos {code : List (List Int)} (h : codeB code = true) {x : List Int} (hx : x ∈ code) : 1 ≤ x.length ∧ x.length ≤ 6 := by
  unfold codeB at h
  simp only [Bool.and_eq_true, List.all_eq_true] at h
  have := h.2.1 x hx
  unfold wordOk at this
  rw [Bool.and_eq_true, inB_iff] at this
  omega
theorem code_len {code : List (List Int)} (h : codeB code = true) : 1 ≤ code.length ∧ code.length ≤ 20 := by
  unfold codeB at h
  rw [Bool.and_eq_true, inB_iff] at h
  omega
theorem code_one {code : List (List Int)} (h : codeB code = true) {i k : Nat} {x y ds : List Int} (hx : code[i]? = some x) (hy : code[k]? = some y) (bx : begB x ds = true) (bY : begB y ds = true) : i = k := by
  by_cases e : i = k
  · exact e
  · unfold codeB at h
    simp only [Bool.and_eq_true] at h
    have hn := noClash_iff.1 h.2.2
    rw [begB_iff] at bx bY
    rcases List.prefix_or_prefix_of_prefix bx bY with h1 | h1
    · have := hn i k x y e hx hy
      rw [begB_iff.2 h1] at this; cases this
    · have := hn k i y x (fun e2 => e e2.symm) hy hx
      rw [begB_iff.2 h1] at this; cases this
theorem ixC_some {code : List (List Int)} {ds : List Int} {i : Nat} (h : ixC code ds = some i) : ∃ x, code[i]? = some x ∧ begB x ds = true ∧ i < code.length := by
  unfold ixC at h
  rw [List.findIdx?_eq_some_iff_getElem] at h
  obtain ⟨hl, h1, _⟩ := h
  exact ⟨code[i], List.getElem?_eq_getElem hl, h1, hl⟩
theorem readF_enough {code : List (List Int)} (h : codeB code = true) : ∀ (n : Nat) (ds : List Int), ds.length ≤ n → readF code n ds = readF code ds.length ds
  | _, [], _ => by cases ‹Nat› <;> rfl
  | 0, d :: ds, hl => by simp at hl
  | n + 1, d :: ds, hl => by
    simp only [List.length_cons, readF]
    cases e : ixC code (d :: ds) with
    | none => rfl
    | some i =>
      obtain ⟨x, hx, hb, _⟩ := ixC_some e
      have hp := code_pos h (List.mem_of_getElem? hx)
      have hg : code.getD i [] = x := by rw [List.getD_eq_getElem?_getD, hx]; rfl
      have hlen : ((d :: ds).drop x.length).length ≤ ds.length := by rw [List.length_drop, List.length_cons]; omega
      simp only [hg]
      rw [readF_enough h n _ (by simp only [List.length_cons] at hl; omega), readF_enough h ds.length _ hlen]
theorem readW_step {code : List (List Int)} (h : codeB code = true) {ds x : List Int} {i : Nat} (he : ixC code ds = some i) (hx : code[i]? = some x) (hd : 0 < ds.length) : readW code ds = (readW code (ds.drop x.length)).map fun r => (i : Int) :: r := by
  cases ds with
  | nil => simp at hd
  | cons d ds =>
    have hp := code_pos h (List.mem_of_getElem? hx)
    have hg : code.getD i [] = x := by rw [List.getD_eq_getElem?_getD, hx]; rfl
    unfold readW
    simp only [List.length_cons, readF, he, hg]
    rw [readF_enough h ds.length _ (by rw [List.length_drop, List.length_cons]; omega)]
theorem readW_none {code : List (List Int)} {ds : List Int} (he : ixC code ds = Option.none) (hd : 0 < ds.length) : readW code ds = Option.none := by
  cases ds with
  | nil => simp at hd
  | cons d ds => unfold readW; simp only [List.length_cons, readF, he]
/-- What is read so far, and what is left. -/
def ReadTo (code : List (List Int)) (ds L rest : List Int) : Prop := readW code ds = (readW code rest).map fun r => L ++ r
theorem ReadTo.start (code : List (List Int)) (ds : List Int) : ReadTo code ds [] ds := by unfold ReadTo; cases readW code ds <;> simp
theorem ReadTo.next {code : List (List Int)} (h : codeB code = true) {ds L rest x : List Int} {i : Nat} (hr : ReadTo code ds L rest) (he : ixC code rest = some i) (hx : code[i]? = some x) (hd : 0 < rest.length) : ReadTo code ds (L ++ [(i : Int)]) (rest.drop x.length) := by
  unfold ReadTo at *
  rw [hr, readW_step h he hx hd]
  cases readW code (rest.drop x.length) <;> simp
def digB (ds : List Int) : Bool := decide (ds.length ≤ 180) && allB ds 0 59
def readRes (code : List (List Int)) (ds : List Int) : List Int × Bool :=
  if codeB code && digB ds then match readW code ds with
    | some L => (L, true)
    | Option.none => ([], false)
  else ([], false)
theorem readRes_bad {code : List (List Int)} {ds : List Int} (h : (codeB code && digB ds) = false) : readRes code ds = ([], false) := by unfold readRes; rw [h]; rfl
theorem ReadTo.done {code : List (List Int)} {ds L : List Int} (hc : (codeB code && digB ds) = true) (h : ReadTo code ds L []) : readRes code ds = (L, true) := by
  unfold ReadTo at h
  rw [readW_nil] at h
  unfold readRes
  rw [hc, h]; simp
theorem ReadTo.stuck {code : List (List Int)} {ds L rest : List Int} (hc : (codeB code && digB ds) = true) (h : ReadTo code ds L rest) (he : ixC code rest = Option.none) (hd : 0 < rest.length) : readRes code ds = ([], false) := by
  unfold ReadTo at h
  rw [readW_none he hd] at h
  unfold readRes
  rw [hc, h]; rfl
theorem readF_len {code : List (List Int)} (h : codeB code = true) : ∀ (n : Nat) (ds L : List Int), readF code n ds = some L → L.length ≤ ds.length
  | n, [], L, e => by cases n <;> (simp only [readF, Option.some.injEq] at e; subst e; simp)
  | 0, d :: ds, L, e => by simp [readF] at e
  | n + 1, d :: ds, L, e => by
    simp only [readF] at e
    cases e1 : ixC code (d :: ds) with
    | none => rw [e1] at e; cases e
    | some i =>
      rw [e1] at e
      obtain ⟨x, hx, hb, _⟩ := ixC_some e1
      have hp := code_pos h (List.mem_of_getElem? hx)
      have hg : code.getD i [] = x := by rw [List.getD_eq_getElem?_getD, hx]; rfl
      simp only [hg, Option.map_eq_some_iff] at e
      obtain ⟨r, h1, rfl⟩ := e
      have := readF_len h n _ _ h1
      rw [List.length_drop] at this
      simp only [List.length_cons] at this ⊢
      omega
theorem readRes_len (code : List (List Int)) (ds : List Int) : (readRes code ds).1.length ≤ 180 := by
  unfold readRes
  split
  · rename_i hc
    rw [Bool.and_eq_true] at hc
    have hd : ds.length ≤ 180 := by have := hc.2; unfold digB at this; rw [Bool.and_eq_true, decide_eq_true_eq] at this; exact this.1
    split
    · rename_i L e
      have := readF_len hc.1 _ _ _ e
      show L.length ≤ 180
      omega
    · simp
  · simp
/-- Of the first k words the one that begins digits. -/
def ixUp (code : List (List Int)) (ds : List Int) (k : Nat) : Option Nat := ixC (code.take k) ds
theorem ixUp_full (code : List (List Int)) (ds : List Int) : ixUp code ds code.length = ixC code ds := by unfold ixUp; rw [List.take_length]
theorem ixUp_no {code : List (List Int)} {ds x : List Int} {k : Nat} (hx : code[k]? = some x) (hb : begB x ds = false) : ixUp code ds (k + 1) = ixUp code ds k := by
  unfold ixUp ixC
  rw [take_snocN hx, List.findIdx?_append]
  simp [hb, List.findIdx?_cons]
theorem ixUp_yes {code : List (List Int)} (h : codeB code = true) {ds x : List Int} {k : Nat} (hx : code[k]? = some x) (hb : begB x ds = true) : ixUp code ds (k + 1) = some k := by
  have hk := (List.getElem?_eq_some_iff.1 hx).1
  have hn : (code.take k).findIdx? (fun x => begB x ds) = Option.none := by
    rw [List.findIdx?_eq_none_iff]
    intro y hy
    obtain ⟨j, hj⟩ := List.getElem?_of_mem hy
    rw [List.getElem?_take] at hj
    split at hj
    · rename_i hlt
      cases e : begB y ds
      · rfl
      · have := code_one h hj hx e hb; omega
    · cases hj
  unfold ixUp ixC
  rw [take_snocN hx, List.findIdx?_append, hn]
  simp [hb, List.findIdx?_cons, List.length_take]
  omega
def lenV : Value → Nat
  | .slice _ n _ => n
  | _ => 0
theorem RdI.dropAll {w : World} {hi n c : Nat} {b off : Nat} {xs : List Int} (h : RdI w hi (.slice (some ⟨b, off, Option.none⟩) n c) xs) (hn : n = xs.length) (hc : n ≤ c) {k : Nat} (hk : k ≤ n) :
    RdI w hi (.slice (some ⟨b, off + k, Option.none⟩) (n - k) (c - k)) (xs.drop k) ∧ (k = n → RdI w hi (.slice (some ⟨b, off, Option.none⟩) (n - k) (c - k)) (xs.drop k)) := by
  have hm : c ≤ maxLen := by
    obtain ⟨_, _, _, hv, _, h2, _⟩ := h; cases hv; exact h2
  subst hn
  constructor
  · rcases Nat.lt_or_ge k xs.length with hlt | hge
    · exact RdI.drop h hlt
    · have : xs.drop k = [] := List.drop_eq_nil_of_le hge
      rw [this]
      exact ⟨rfl, some ⟨b, off + k, Option.none⟩, c - k, by rw [show xs.length - k = 0 by omega]; rfl, Nat.zero_le _, by omega, fun h => absurd h (by simp)⟩
  · rintro rfl
    have : xs.drop xs.length = [] := by simp
    rw [this]
    exact ⟨rfl, some ⟨b, off, Option.none⟩, c - xs.length, by rw [Nat.sub_self]; rfl, Nat.zero_le _, by omega, fun h => absurd h (by simp)⟩
end Go.Proofs.Ytabiobjcfopakaa
/- Plain laws: the words of a canonical code are a code; words written are read back, and words read are written back. -/
namespace Go.Proofs.Ytabiobjcfopakaa
open Go.RowKit
theorem digL_pre (r : Nat) : ∀ (d n k : Nat), (digL r n (k + d)).take k = digL r (n / r ^ d) k
  | 0, n, k => by rw [Nat.add_zero, Nat.pow_zero, Nat.div_one, List.take_of_length_le (by rw [digL_len]; exact Nat.le_refl _)]
  | d + 1, n, k => by
    rw [show k + (d + 1) = (k + d) + 1 by omega, digL, List.take_append_of_le_length (by rw [digL_len]; omega), digL_pre r d (n / r) k, Nat.div_div_eq_div_mul, Nat.pow_succ, Nat.mul_comm]
theorem digL_inj {r : Nat} (hr : 1 ≤ r) : ∀ (k n m : Nat), n < r ^ k → m < r ^ k → digL r n k = digL r m k → n = m
  | 0, n, m, hn, hm, _ => by rw [Nat.pow_zero] at hn hm; omega
  | k + 1, n, m, hn, hm, he => by
    rw [digL, digL] at he
    have h1 := List.append_inj he (by rw [digL_len, digL_len])
    have h2 : n % r = m % r := by
      have := h1.2
      simp only [List.cons.injEq, and_true] at this
      omega
    rw [Nat.pow_succ] at hn hm
    have h3 := digL_inj hr k (n / r) (m / r) (Nat.div_lt_of_lt_mul (by rw [Nat.mul_comm]; exact hn)) (Nat.div_lt_of_lt_mul (by rw [Nat.mul_comm]; exact hm)) h1.1
    rw [← Nat.div_add_mod n r, ← Nat.div_add_mod m r, h2, h3]
theorem digL_all {r : Nat} (hr : 1 ≤ r) : ∀ (k n : Nat), ∀ d ∈ digL r n k, 0 ≤ d ∧ d < (r : Int)
  | 0, _, d, h => by simp [digL] at h
  | k + 1, n, d, h => by
    rw [digL, List.mem_append] at h
    rcases h with h | h
    · exact digL_all hr k _ d h
    · rw [List.mem_singleton] at h
      subst h
      have := Nat.mod_lt n (show 0 < r by omega)
      omega
theorem kraftL_cons {r m : Nat} {x : Int} {l : List Int} : kraftN r m (x :: l) = r ^ (m - x.toNat) + kraftN r m l := by unfold kraftN; rw [List.map_cons, List.sum_cons]
/-- The sum over some indices. -/
def kraftI (ls : List Int) (r m : Nat) (is : List Nat) : Nat := (is.map fun i => r ^ (m - (ls.getD i 0).toNat)).sum
theorem kraftI_snoc {ls : List Int} {r m : Nat} {is : List Nat} {i : Nat} : kraftI ls r m (is ++ [i]) = kraftI ls r m is + r ^ (m - (ls.getD i 0).toNat) := by unfold kraftI; rw [List.map_append, List.sum_append]; simp
theorem range_getD (ls : List Int) : (List.range ls.length).map (fun i => ls.getD i 0) = ls := by
  refine List.ext_getElem (by simp) fun i h1 h2 => ?_
  simp [List.getD_eq_getElem?_getD, h2]
theorem kraftI_range {ls : List Int} {r m : Nat} : kraftI ls r m (List.range ls.length) = kraftN r m ls := by
  unfold kraftI kraftN
  have := congrArg (List.map fun l : Int => r ^ (m - l.toNat)) (range_getD ls)
  rw [List.map_map] at this
  rw [← this]; rfl
/-- What holds of the words so far: each one's number, and none begins another. -/
structure CanJ (ls : List Int) (r m : Nat) (is : List Nat) (s : CanS) : Prop where
  len : s.rows.length = ls.length
  sum : s.next * r ^ (m - s.last) = kraftI ls r m is
  word : ∀ i ∈ is, ∃ N, s.rows[i]? = some (digL r N (ls.getD i 0).toNat) ∧ N < r ^ (ls.getD i 0).toNat ∧ (ls.getD i 0).toNat ≤ s.last ∧ (N + 1) * r ^ (s.last - (ls.getD i 0).toNat) ≤ s.next
  last : 1 ≤ s.last ∧ s.last ≤ m
  apart : ∀ i ∈ is, ∀ k ∈ is, i ≠ k → ∀ x y, s.rows[i]? = some x → s.rows[k]? = some y → begB x y = false
theorem CanJ.start {ls : List Int} {r m : Nat} (hm : 1 ≤ m) : CanJ ls r m [] (canRun ls r []) :=
  ⟨by simp [canRun_nil], by simp [canRun_nil, kraftI], by simp, ⟨Nat.le_refl _, hm⟩, by simp⟩
theorem CanJ.step {ls : List Int} {r m : Nat} (hr : 2 ≤ r) {is : List Nat} {j : Nat} {s : CanS} (h : CanJ ls r m is s) (hj : j ∉ is) (hjl : j < ls.length) (h1 : s.last ≤ (ls.getD j 0).toNat) (h2 : (ls.getD j 0).toNat ≤ m)
    (hk : kraftI ls r m (is ++ [j]) ≤ r ^ m) : CanJ ls r m (is ++ [j]) (canStep ls r s j) := by
  obtain ⟨l, hl⟩ : ∃ l, l = (ls.getD j 0).toNat := ⟨_, rfl⟩
  obtain ⟨N, hN⟩ : ∃ N, N = s.next * r ^ (l - s.last) := ⟨_, rfl⟩
  have hst : canStep ls r s j = ⟨N + 1, l, s.rows.set j (digL r N l)⟩ := by unfold canStep; rw [hN, hl]
  rw [← hl] at h1 h2
  have hp : ∀ e, 1 ≤ r ^ e := fun e => Nat.one_le_pow _ _ (by omega)
  have hsum : (N + 1) * r ^ (m - l) = kraftI ls r m (is ++ [j]) := by
    rw [kraftI_snoc, ← h.sum, Nat.add_mul, Nat.one_mul, ← hl, hN, Nat.mul_assoc, ← Nat.pow_add, show l - s.last + (m - l) = m - s.last by omega]
  have hNl : N < r ^ l := by
    rw [← hsum] at hk
    have e : r ^ m = r ^ l * r ^ (m - l) := by rw [← Nat.pow_add]; congr 1; omega
    rw [e] at hk
    have := Nat.le_of_mul_le_mul_right hk (hp (m - l))
    omega
  rw [hst]
  have hold : ∀ i ∈ is, (s.rows.set j (digL r N l))[i]? = s.rows[i]? := fun i hi => List.getElem?_set_ne (by rintro rfl; exact hj hi)
  have hnew : (s.rows.set j (digL r N l))[j]? = some (digL r N l) := List.getElem?_set_self (by rw [h.len]; exact hjl)
  have hup : ∀ i ∈ is, ∀ M, s.rows[i]? = some (digL r M (ls.getD i 0).toNat) → M < r ^ (ls.getD i 0).toNat → (ls.getD i 0).toNat ≤ s.last → (M + 1) * r ^ (s.last - (ls.getD i 0).toNat) ≤ s.next → (M + 1) * r ^ (l - (ls.getD i 0).toNat) ≤ N := by
    intro i _ M _ _ h5 h6
    have := Nat.mul_le_mul_right (r ^ (l - s.last)) h6
    rw [Nat.mul_assoc, ← Nat.pow_add, ← hN, show s.last - (ls.getD i 0).toNat + (l - s.last) = l - (ls.getD i 0).toNat by omega] at this
    exact this
  refine ⟨by simp [h.len], hsum, ?_, ⟨by show 1 ≤ l; have := h.last; omega, h2⟩, ?_⟩
  · intro i hi
    rcases List.mem_append.1 hi with hi | hi
    · obtain ⟨M, h3, h4, h5, h6⟩ := h.word i hi
      refine ⟨M, by rw [hold i hi]; exact h3, h4, by show _ ≤ l; omega, ?_⟩
      have := hup i hi M h3 h4 h5 h6
      show (M + 1) * r ^ (l - (ls.getD i 0).toNat) ≤ N + 1
      omega
    · rw [List.mem_singleton] at hi
      subst hi
      rw [← hl]
      exact ⟨N, hnew, hNl, Nat.le_refl _, by rw [Nat.sub_self, Nat.pow_zero, Nat.mul_one]; exact Nat.le_refl _⟩
  · have hno : ∀ i ∈ is, ∀ x, s.rows[i]? = some x → begB x (digL r N l) = false ∧ begB (digL r N l) x = false := by
      intro i hi x hx
      obtain ⟨M, h3, h4, h5, h6⟩ := h.word i hi
      rw [h3] at hx
      cases hx
      have h7 := hup i hi M h3 h4 h5 h6
      obtain ⟨q, hq⟩ : ∃ q, q = (ls.getD i 0).toNat := ⟨_, rfl⟩
      rw [← hq] at h3 h4 h5 h6 h7 ⊢
      have hdiv : M + 1 ≤ N / r ^ (l - q) := (Nat.le_div_iff_mul_le (hp _)).2 h7
      have hlt : N / r ^ (l - q) < r ^ q := Nat.div_lt_of_lt_mul (by rw [Nat.mul_comm, ← Nat.pow_add, show q + (l - q) = l by omega]; exact hNl)
      have hne : digL r M q ≠ digL r (N / r ^ (l - q)) q := fun e => by
        have := digL_inj (by omega) q _ _ h4 hlt e
        omega
      have hpre : ¬ digL r M q <+: digL r N l := fun hpr => by
        have h8 := List.prefix_iff_eq_take.1 hpr
        rw [digL_len] at h8
        have h9 := digL_pre r (l - q) N q
        rw [show q + (l - q) = l by omega] at h9
        rw [h9] at h8
        exact hne h8
      refine ⟨?_, ?_⟩
      · cases e : begB (digL r M q) (digL r N l)
        · rfl
        · exact absurd (begB_iff.1 e) hpre
      · cases e : begB (digL r N l) (digL r M q)
        · rfl
        · have h8 := begB_iff.1 e
          have h9 := h8.length_le
          rw [digL_len, digL_len] at h9
          have h10 := h8.eq_of_length (by rw [digL_len, digL_len]; omega)
          exact absurd (by rw [h10]; exact List.prefix_refl _) hpre
    intro i hi k hk' hne x y hx hy
    rcases List.mem_append.1 hi with ha | ha
    · rcases List.mem_append.1 hk' with hc | hc
      · rw [hold i ha] at hx
        rw [hold k hc] at hy
        exact h.apart i ha k hc hne x y hx hy
      · rw [List.mem_singleton] at hc
        rw [hold i ha] at hx
        rw [hc, hnew] at hy
        cases hy
        exact (hno i ha x hx).1
    · rw [List.mem_singleton] at ha
      rcases List.mem_append.1 hk' with hc | hc
      · rw [ha, hnew] at hx
        rw [hold k hc] at hy
        cases hx
        exact (hno k hc y hy).2
      · rw [List.mem_singleton] at hc
        exact absurd (ha.trans hc.symm) hne
theorem CanJ.run {ls : List Int} {r m : Nat} (hr : 2 ≤ r) (hm : 1 ≤ m) : ∀ (n : Nat) (is : List Nat), is.length = n → is.Nodup → (∀ i ∈ is, i < ls.length ∧ 1 ≤ ls.getD i 0 ∧ ls.getD i 0 ≤ (m : Int)) → is.Pairwise (fun x y => ls.getD x 0 ≤ ls.getD y 0) → kraftI ls r m is ≤ r ^ m →
    CanJ ls r m is (canRun ls r is)
  | 0, is, hl, _, _, _, _ => by
    obtain rfl := List.eq_nil_of_length_eq_zero hl
    exact CanJ.start hm
  | n + 1, is, hl, hn, hi, hs, hk => by
    obtain ⟨js, j, rfl⟩ : ∃ js j, is = js ++ [j] := ⟨is.dropLast, is.getLast (by intro e; rw [e] at hl; simp at hl), (List.dropLast_concat_getLast _).symm⟩
    have hk0 := hk
    rw [kraftI_snoc] at hk0
    rw [List.pairwise_append] at hs
    rw [List.nodup_append] at hn
    have hi' : ∀ i ∈ js, i < ls.length ∧ 1 ≤ ls.getD i 0 ∧ ls.getD i 0 ≤ (m : Int) := fun i h => hi i (by simp [h])
    have ih := CanJ.run hr hm n js (by simpa using hl) hn.1 hi' hs.1 (by omega)
    have hj := hi j (by simp)
    have hbd := canRun_bd (ls := ls) (r := r) (by omega) n js (by simpa using hl) hs.1 (fun i h => (hi' i h).2.1)
    rw [canRun_snoc]
    refine ih.step hr (fun h => hn.2.2 j h j (by simp) rfl) hj.1 ?_ (by omega) hk
    rcases hbd.2.2 with rfl | ⟨i, h1, h2⟩
    · rw [canRun_nil]; show 1 ≤ _; omega
    · have := hs.2.2 i (List.mem_of_getLast? h1) j (by simp)
      omega
theorem kraftI_perm {ls : List Int} {r m : Nat} {is js : List Nat} (h : is.Perm js) : kraftI ls r m is = kraftI ls r m js := by unfold kraftI; exact (h.map _).sum_nat
theorem mostI_le (ls : List Int) : ∀ i, i < ls.length → ls.getD i 0 ≤ mostI ls := by
  intro i hi
  unfold mostI
  refine (mostI_mem ls 0).2 _ ?_
  rw [List.getD_eq_getElem?_getD, List.getElem?_eq_getElem hi]
  exact List.getElem_mem hi
/-- What the words of a canonical code are. -/
theorem canonL_ok {ls : List Int} {r : Nat} (hl : 1 ≤ ls.length) (h : allB ls 1 6 = true) (hr : 2 ≤ r) (hk : kraftN r (mostI ls).toNat ls ≤ r ^ (mostI ls).toNat) : CanJ ls r (mostI ls).toNat (grpN ls ls.length 1 6) (canRun ls r (grpN ls ls.length 1 6)) := by
  have ho := order_grp h ls.length (Nat.le_refl _)
  have hp := orderBy_perm (pLen ls) ls.length
  rw [ho] at hp
  have hn := orderBy_nodup (pLen ls) ls.length
  rw [ho] at hn
  have hm := mostI_le ls
  have h0 := allB_at h (i := 0) (by omega)
  have hm0 := hm 0 (by omega)
  refine CanJ.run hr (by omega) _ _ rfl hn (fun i hi => ?_) (grpN_sorted _ _ _ _) (by rw [kraftI_perm hp, kraftI_range]; exact hk)
  have hi2 := grpN_mem hi
  have h1 := allB_at h hi2.1
  have h2 := hm i hi2.1
  exact ⟨hi2.1, h1.1, by omega⟩
theorem canonL_at {ls : List Int} {r : Nat} (h : allB ls 1 6 = true) (hr : 2 ≤ r) (hk : kraftN r (mostI ls).toNat ls ≤ r ^ (mostI ls).toNat) {i : Nat} (hi : i < ls.length) :
    ∃ N, (canonL ls r)[i]? = some (digL r N (ls.getD i 0).toNat) := by
  have hj := canonL_ok (by omega) h hr hk
  have ho := order_grp h ls.length (Nat.le_refl _)
  obtain ⟨N, h1, _⟩ := hj.word i (by rw [← ho]; exact orderBy_mem hi)
  exact ⟨N, h1⟩
theorem canonL_code {ls : List Int} {r : Nat} (hl : lengthsB ls = true) (hr : 2 ≤ r) (hr2 : r ≤ 60) (hk : kraftN r (mostI ls).toNat ls ≤ r ^ (mostI ls).toNat) : codeB (canonL ls r) = true := by
  unfold lengthsB at hl
  rw [Bool.and_eq_true] at hl
  obtain ⟨h1, h⟩ := hl
  have h1' := inB_iff.1 h1
  have hj := canonL_ok (by omega) h hr hk
  have ho := order_grp h ls.length (Nat.le_refl _)
  unfold codeB
  rw [canonL_len, h1]
  simp only [Bool.true_and, Bool.and_eq_true, List.all_eq_true]
  refine ⟨fun x hx => ?_, noClash_iff.2 fun i k x y hne hx hy => ?_⟩
  · obtain ⟨i, hi, rfl⟩ := List.getElem_of_mem hx
    rw [canonL_len] at hi
    obtain ⟨N, hN⟩ := canonL_at h hr hk hi
    rw [List.getElem?_eq_getElem (by rw [canonL_len]; exact hi)] at hN
    rw [Option.some.inj hN]
    have h2 := allB_at h hi
    refine wordOk_yes (inB_iff.2 (by rw [digL_len]; omega)) ?_
    unfold allB
    rw [List.all_eq_true]
    intro d hd
    have := digL_all (by omega) _ _ d hd
    exact inB_iff.2 (by omega)
  · have hi := (List.getElem?_eq_some_iff.1 hx).1
    have hk' := (List.getElem?_eq_some_iff.1 hy).1
    rw [canonL_len] at hi hk'
    exact hj.apart i (by rw [← ho]; exact orderBy_mem hi) k (by rw [← ho]; exact orderBy_mem hk') hne x y hx hy
/-- Words written one after the other are read back. -/
theorem read_write {code : List (List Int)} (h : codeB code = true) : ∀ (is : List Int), allB is 0 ((code.length : Int) - 1) = true → readW code (wordsI code is) = some is
  | [], _ => rfl
  | i :: is, hi => by
    unfold allB at hi
    rw [List.all_cons, Bool.and_eq_true] at hi
    have h1 := inB_iff.1 hi.1
    obtain ⟨k, rfl⟩ := Int.eq_ofNat_of_zero_le h1.1
    have hk : k < code.length := by omega
    have hx : code[k]? = some code[k] := List.getElem?_eq_getElem hk
    obtain ⟨x, hxe⟩ : ∃ x, x = code[k] := ⟨_, rfl⟩
    rw [← hxe] at hx
    have hp := code_pos h (List.mem_of_getElem? hx)
    have hw : wordsI code ((k : Int) :: is) = x ++ wordsI code is := by unfold wordsI; rw [List.flatMap_cons]; simp [List.getD_eq_getElem?_getD, hx]
    have hb : begB x (x ++ wordsI code is) = true := begB_iff.2 (List.prefix_append _ _)
    have hix : ixC code (x ++ wordsI code is) = some k := by
      cases e : ixC code (x ++ wordsI code is) with
      | none =>
        unfold ixC at e
        rw [List.findIdx?_eq_none_iff] at e
        have := e x (List.mem_of_getElem? hx)
        rw [hb] at this; cases this
      | some j =>
        obtain ⟨y, hy, hby, _⟩ := ixC_some e
        rw [code_one h hy hx hby hb]
    rw [hw, readW_step h hix hx (by rw [List.length_append]; omega), List.drop_left, read_write h is (by unfold allB; exact hi.2)]
    rfl
/-- Words read are written back. -/
theorem write_read {code : List (List Int)} (h : codeB code = true) : ∀ (n : Nat) (ds L : List Int), ds.length ≤ n → readW code ds = some L → wordsI code L = ds ∧ allB L 0 ((code.length : Int) - 1) = true
  | _, [], L, _, e => by
    rw [readW_nil] at e; cases e
    exact ⟨rfl, rfl⟩
  | 0, d :: ds, L, hl, _ => by simp at hl
  | n + 1, d :: ds, L, hl, e => by
    cases hi : ixC code (d :: ds) with
    | none => rw [readW_none hi (by simp)] at e; cases e
    | some i =>
      obtain ⟨x, hx, hb, hlt⟩ := ixC_some hi
      have hp := code_pos h (List.mem_of_getElem? hx)
      rw [readW_step h hi hx (by simp)] at e
      cases hr : readW code ((d :: ds).drop x.length) with
      | none => rw [hr] at e; cases e
      | some M =>
        rw [hr] at e
        simp only [Option.map_some, Option.some.injEq] at e
        subst e
        obtain ⟨h1, h2⟩ := write_read h n _ M (by rw [List.length_drop]; omega) hr
        obtain ⟨t, ht⟩ := begB_iff.1 hb
        refine ⟨?_, ?_⟩
        · have : wordsI code ((i : Int) :: M) = x ++ wordsI code M := by unfold wordsI; rw [List.flatMap_cons]; simp [List.getD_eq_getElem?_getD, hx]
          rw [this, h1, ← ht, List.drop_left]
        · unfold allB at h2 ⊢
          rw [List.all_cons, h2, Bool.and_true]
          exact inB_iff.2 (by omega)
theorem words_digB {code : List (List Int)} (h : codeB code = true) {is : List Int} (hl : is.length ≤ 30) : digB (wordsI code is) = true := by
  obtain ⟨_, hw⟩ := codeB_len h
  have h1 := wordsI_len (fun j x hx => (hw j x hx).1.2) is
  unfold digB
  rw [Bool.and_eq_true]
  refine ⟨decide_eq_true (by omega), ?_⟩
  unfold allB wordsI
  rw [List.all_eq_true]
  intro d hd
  rw [List.mem_flatMap] at hd
  obtain ⟨i, _, hd⟩ := hd
  rw [List.getD_eq_getElem?_getD] at hd
  cases e : code[i.toNat]? with
  | none => rw [e] at hd; simp at hd
  | some x =>
    rw [e] at hd
    have := (hw _ x e).2
    unfold allB at this
    rw [List.all_eq_true] at this
    exact this d hd
end Go.Proofs.Ytabiobjcfopakaa
/- Plain laws: the least lengths have a code, cost no more than others with a code, and fall where weights rise. -/
namespace Go.Proofs.Ytabiobjcfopakaa
open Go.RowKit
def dotN : List Int → List Nat → Int
  | w :: ws, n :: ns => w * (n : Int) + dotN ws ns
  | _, _ => 0
def krN (r L : Nat) (ns : List Nat) : Nat := (ns.map fun n => r ^ (L - n)).sum
theorem krN_cons {r L n : Nat} {ns : List Nat} : krN r L (n :: ns) = r ^ (L - n) + krN r L ns := by unfold krN; rw [List.map_cons, List.sum_cons]
/-- What is found fits, rises, and costs what is told. -/
theorem bst_found {r L : Nat} : ∀ (ws : List Int) (q fr room : Nat), q = L + 1 - fr → ∀ x, bst r L ws fr room = some x →
    krN r L x.1 ≤ room ∧ x.1.Pairwise (· ≤ ·) ∧ (∀ n ∈ x.1, fr ≤ n) ∧ x.2 = dotN ws x.1
  | [], q, fr, room, _, x, hx => by
    rw [bst] at hx; cases hx
    exact ⟨Nat.zero_le _, List.Pairwise.nil, by simp, rfl⟩
  | w :: ws, 0, fr, room, hq, x, hx => by rw [bst_end (by omega)] at hx; cases hx
  | w :: ws, q + 1, fr, room, hq, x, hx => by
    rw [bst_step (by omega)] at hx
    rcases pickC_some hx with h | h
    · split at h
      · rename_i hle
        obtain ⟨y, hy, rfl⟩ := addC_some h
        have ih := bst_found ws _ fr _ rfl y hy
        refine ⟨?_, ?_, ?_, ?_⟩
        · show krN r L (fr :: y.1) ≤ room
          rw [krN_cons]; have := ih.1; omega
        · show (fr :: y.1).Pairwise _
          exact List.pairwise_cons.2 ⟨ih.2.2.1, ih.2.1⟩
        · intro n hn
          rcases List.mem_cons.1 (show n ∈ fr :: y.1 from hn) with rfl | h1
          · exact Nat.le_refl _
          · exact ih.2.2.1 n h1
        · show w * (fr : Int) + y.2 = dotN (w :: ws) (fr :: y.1)
          rw [ih.2.2.2]; rfl
      · cases h
    · have ih := bst_found (w :: ws) q (fr + 1) room (by omega) x h
      exact ⟨ih.1, ih.2.1, fun n hn => by have := ih.2.2.1 n hn; omega, ih.2.2.2⟩
theorem pickC_left {a b : Cand} {y : List Nat × Int} (h : a = some y) : ∃ x, pickC a b = some x ∧ x.2 ≤ y.2 := by
  subst h
  cases b with
  | none => exact ⟨y, rfl, Int.le_refl _⟩
  | some z =>
    by_cases hlt : z.2 < y.2
    · exact ⟨z, by simp [pickC, hlt], by omega⟩
    · exact ⟨y, by simp [pickC, hlt], Int.le_refl _⟩
theorem pickC_right {a b : Cand} {y : List Nat × Int} (h : b = some y) : ∃ x, pickC a b = some x ∧ x.2 ≤ y.2 := by
  subst h
  cases a with
  | none => exact ⟨y, rfl, Int.le_refl _⟩
  | some z =>
    by_cases hlt : y.2 < z.2
    · exact ⟨y, by simp [pickC, hlt], Int.le_refl _⟩
    · exact ⟨z, by simp [pickC, hlt], by omega⟩
/-- No rising list that fits costs less. -/
theorem bst_best {r L : Nat} : ∀ (ws : List Int) (q fr room : Nat), q = L + 1 - fr → ∀ ys : List Nat, ys.length = ws.length → ys.Pairwise (· ≤ ·) → (∀ n ∈ ys, fr ≤ n ∧ n ≤ L) → krN r L ys ≤ room →
    ∃ x, bst r L ws fr room = some x ∧ x.2 ≤ dotN ws ys
  | [], q, fr, room, _, ys, hl, _, _, _ => by
    obtain rfl := List.eq_nil_of_length_eq_zero hl
    exact ⟨_, by rw [bst], Int.le_refl _⟩
  | w :: ws, 0, fr, room, hq, ys, hl, _, hb, _ => by
    cases ys with
    | nil => cases hl
    | cons y ys => have := hb y (by simp); omega
  | w :: ws, q + 1, fr, room, hq, ys, hl, hs, hb, hk => by
    cases ys with
    | nil => cases hl
    | cons y ys =>
      rw [bst_step (by omega)]
      have hy := hb y (by simp)
      rw [krN_cons] at hk
      have hs' := List.pairwise_cons.1 hs
      by_cases e : y = fr
      · subst e
        obtain ⟨x, hx, hxc⟩ := bst_best (r := r) (L := L) ws _ y (room - r ^ (L - y)) rfl ys (by simpa using hl) hs'.2 (fun n hn => ⟨hs'.1 n hn, (hb n (by simp [hn])).2⟩) (by omega)
        rw [if_pos (by omega), hx]
        obtain ⟨z, hz, hzc⟩ := pickC_left (a := addC [y] (w * (y : Int)) (some x)) (b := bst r L (w :: ws) (y + 1) room) rfl
        refine ⟨z, hz, Int.le_trans hzc ?_⟩
        show w * (y : Int) + x.2 ≤ w * (y : Int) + dotN ws ys
        omega
      · obtain ⟨x, hx, hxc⟩ := bst_best (r := r) (L := L) (w :: ws) q (fr + 1) room (by omega) (y :: ys) hl hs (fun n hn => by
          have h1 := hb n hn
          rcases List.mem_cons.1 hn with rfl | h2
          · omega
          · have := hs'.1 n h2; omega) (by rw [krN_cons]; exact hk)
        obtain ⟨z, hz, hzc⟩ := pickC_right (a := if r ^ (L - fr) ≤ room then addC [fr] (w * (fr : Int)) (bst r L ws fr (room - r ^ (L - fr))) else Option.none) hx
        exact ⟨z, hz, Int.le_trans hzc hxc⟩
def insN (z : Nat) : List Nat → List Nat
  | [] => [z]
  | y :: ys => if z ≤ y then z :: y :: ys else y :: insN z ys
def sortN : List Nat → List Nat
  | [] => []
  | z :: zs => insN z (sortN zs)
theorem insN_perm (z : Nat) : ∀ ys, (insN z ys).Perm (z :: ys)
  | [] => List.Perm.refl _
  | y :: ys => by
    unfold insN
    split
    · exact List.Perm.refl _
    · exact ((insN_perm z ys).cons y).trans (List.Perm.swap z y ys)
theorem sortN_perm : ∀ zs, (sortN zs).Perm zs
  | [] => List.Perm.refl _
  | z :: zs => (insN_perm z _).trans ((sortN_perm zs).cons z)
theorem insN_sorted (z : Nat) : ∀ ys : List Nat, ys.Pairwise (· ≤ ·) → (insN z ys).Pairwise (· ≤ ·)
  | [], _ => by simp [insN]
  | y :: ys, h => by
    have h' := List.pairwise_cons.1 h
    unfold insN
    split
    · rename_i hz
      exact List.pairwise_cons.2 ⟨fun a ha => by
        rcases List.mem_cons.1 ha with rfl | h1
        · exact hz
        · have := h'.1 a h1; omega, h⟩
    · rename_i hz
      exact List.pairwise_cons.2 ⟨fun a ha => by
        rcases List.mem_cons.1 ((insN_perm z ys).mem_iff.1 ha) with rfl | h1
        · omega
        · exact h'.1 a h1, insN_sorted z ys h'.2⟩
theorem sortN_sorted : ∀ zs, (sortN zs).Pairwise (· ≤ ·)
  | [] => List.Pairwise.nil
  | z :: zs => insN_sorted z _ (sortN_sorted zs)
theorem dot_ins : ∀ (w : Int) (W : List Int) (z : Nat) (ys : List Nat), W.length = ys.length → (∀ v ∈ W, v ≤ w) → W.Pairwise (fun a b => b ≤ a) → dotN (w :: W) (insN z ys) ≤ w * (z : Int) + dotN W ys
  | w, [], z, [], _, _, _ => by simp [insN, dotN]
  | w, [], z, y :: ys, hl, _, _ => by cases hl
  | w, v :: W, z, [], hl, _, _ => by cases hl
  | w, v :: W, z, y :: ys, hl, hw, hs => by
    unfold insN
    split
    · exact Int.le_refl _
    · rename_i hz
      have hs' := List.pairwise_cons.1 hs
      have ih := dot_ins v W z ys (by simpa using hl) hs'.1 hs'.2
      have hv := hw v (by simp)
      have h1 : (w - v) * ((z : Int) - (y : Int)) ≥ 0 := Int.mul_nonneg (by omega) (by omega)
      rw [Int.sub_mul, Int.mul_sub, Int.mul_sub] at h1
      show w * (y : Int) + dotN (v :: W) (insN z ys) ≤ w * (z : Int) + (v * (y : Int) + dotN W ys)
      omega
theorem dot_sort : ∀ (W : List Int) (zs : List Nat), W.length = zs.length → W.Pairwise (fun a b => b ≤ a) → dotN W (sortN zs) ≤ dotN W zs
  | [], [], _, _ => Int.le_refl _
  | [], z :: zs, hl, _ => by cases hl
  | w :: W, [], hl, _ => by cases hl
  | w :: W, z :: zs, hl, hs => by
    have hs' := List.pairwise_cons.1 hs
    have hl' : W.length = zs.length := by simpa using hl
    have h1 := dot_ins w W z (sortN zs) (by rw [(sortN_perm zs).length_eq]; exact hl') hs'.1 hs'.2
    have ih := dot_sort W zs hl' hs'.2
    show dotN (w :: W) (insN z (sortN zs)) ≤ w * (z : Int) + dotN W zs
    omega
theorem insBy_split (p : Nat → Nat → Bool) (L : List Nat) (x : Nat) : ∃ A B, L = A ++ B ∧ insBy p L x = A ++ x :: B ∧ (∀ y ∈ B, p x y = true) ∧ ∀ a, A.getLast? = some a → p x a = false := by
  have e : L = (L.reverse.dropWhile (p x)).reverse ++ (L.reverse.takeWhile (p x)).reverse := by
    rw [← List.reverse_append, List.takeWhile_append_dropWhile, List.reverse_reverse]
  have hB : ∀ y ∈ (L.reverse.takeWhile (p x)).reverse, p x y = true := fun y hy => by
    have h1 := List.all_takeWhile (l := L.reverse) (p := p x)
    rw [List.all_eq_true] at h1
    exact h1 y (List.mem_reverse.1 hy)
  have hA : ∀ a, (L.reverse.dropWhile (p x)).reverse.getLast? = some a → p x a = false := fun a ha => by
    rw [List.getLast?_reverse] at ha
    have h1 := List.head?_dropWhile_not (p x) L.reverse
    rw [ha] at h1
    exact h1
  exact ⟨_, _, e, by rw [← insBy_mid hB hA, ← e], hB, hA⟩
theorem order_desc (ws : List Int) : ∀ m, (orderBy (pWei ws) m).Pairwise (fun a b => ws.getD b 0 ≤ ws.getD a 0)
  | 0 => by simp [orderBy]
  | m + 1 => by
    rw [orderBy_succ]
    obtain ⟨A, B, e, hi, hB, hA⟩ := insBy_split (pWei ws) (orderBy (pWei ws) m) m
    have ih := order_desc ws m
    rw [hi]; rw [e] at ih
    obtain ⟨i1, i2, i3⟩ := List.pairwise_append.1 ih
    have hA' : ∀ a ∈ A, ws.getD m 0 ≤ ws.getD a 0 := by
      rcases List.eq_nil_or_concat A with rfl | ⟨A', a, rfl⟩
      · simp
      · have h1 := hA a (by simp)
        have h1 : ws.getD m 0 ≤ ws.getD a 0 := by unfold pWei at h1; have := of_decide_eq_false h1; omega
        intro b hb
        rw [List.concat_eq_append] at hb i1
        rcases List.mem_append.1 hb with h2 | h2
        · have := (List.pairwise_append.1 i1).2.2 b h2 a (by simp); omega
        · simp at h2; subst h2; exact h1
    refine List.pairwise_append.2 ⟨i1, List.pairwise_cons.2 ⟨fun b hb => ?_, i2⟩, fun a ha b hb => ?_⟩
    · have h := hB b hb; unfold pWei at h; have := of_decide_eq_true h; omega
    · rcases List.mem_cons.1 hb with rfl | h2
      · exact hA' a ha
      · exact i3 a ha b h2
theorem sortW_desc (ws : List Int) : (sortW ws).Pairwise (fun a b => b ≤ a) := by
  unfold sortW
  exact List.pairwise_map.2 (order_desc ws ws.length)
def dotF (ws ls : List Int) (i : Nat) : Int := ws.getD i 0 * ls.getD i 0
theorem perm_sumI {l m : List Int} (h : l.Perm m) : l.sum = m.sum := by
  induction h with
  | nil => rfl
  | cons x _ ih => simp only [List.sum_cons, ih]
  | swap x y l => simp only [List.sum_cons]; omega
  | trans _ _ h1 h2 => exact h1.trans h2
theorem dotI_range : ∀ (ws ls : List Int), ws.length = ls.length → dotI ws ls = ((List.range ws.length).map (dotF ws ls)).sum
  | [], [], _ => rfl
  | [], _ :: _, h => by cases h
  | _ :: _, [], h => by cases h
  | w :: ws, l :: ls, h => by
    rw [List.length_cons, List.range_succ_eq_map, List.map_cons, List.sum_cons, List.map_map]
    have ih := dotI_range ws ls (by simpa using h)
    show w * l + dotI ws ls = w * l + ((List.range ws.length).map (dotF ws ls)).sum
    rw [ih]
theorem dot_os {ws ls : List Int} : ∀ (os xs : List Nat), os.length = xs.length → (∀ k i x : Nat, os[k]? = some i → xs[k]? = some x → ls.getD i 0 = (x : Int)) → dotN (os.map fun i => ws.getD i 0) xs = (os.map (dotF ws ls)).sum
  | [], [], _, _ => rfl
  | [], _ :: _, h, _ => by cases h
  | _ :: _, [], h, _ => by cases h
  | o :: os, x :: xs, h, hk => by
    have h0 := hk 0 o x rfl rfl
    have ih := dot_os (ws := ws) (ls := ls) os xs (by simpa using h) (fun k i y h1 h2 => hk (k + 1) i y (by simpa using h1) (by simpa using h2))
    rw [List.map_cons, List.map_cons, List.sum_cons, ← ih]
    show ws.getD o 0 * (x : Int) + _ = ws.getD o 0 * ls.getD o 0 + _
    rw [h0]
theorem kr_os {r m : Nat} {ls : List Int} : ∀ (os xs : List Nat), os.length = xs.length → (∀ k i x : Nat, os[k]? = some i → xs[k]? = some x → ls.getD i 0 = (x : Int)) → krN r m xs = kraftI ls r m os
  | [], [], _, _ => rfl
  | [], _ :: _, h, _ => by cases h
  | _ :: _, [], h, _ => by cases h
  | o :: os, x :: xs, h, hk => by
    have h0 := hk 0 o x rfl rfl
    have ih := kr_os (r := r) (m := m) (ls := ls) os xs (by simpa using h) (fun k i y h1 h2 => hk (k + 1) i y (by simpa using h1) (by simpa using h2))
    rw [krN_cons, ih]
    unfold kraftI
    rw [List.map_cons, List.sum_cons, h0]
    rfl
theorem mostI_ub {b : Int} : ∀ (ls : List Int) (m : Int), m ≤ b → (∀ y ∈ ls, y ≤ b) → ls.foldl max m ≤ b
  | [], m, h, _ => h
  | y :: ls, m, h, hy => by
    have h1 := hy y (by simp)
    exact mostI_ub ls (max m y) (by omega) (fun z hz => hy z (by simp [hz]))
theorem getD_mem {ls : List Int} {y : Int} (h : y ∈ ls) : ∃ i, i < ls.length ∧ ls.getD i 0 = y := by
  obtain ⟨i, hi, rfl⟩ := List.getElem_of_mem h
  exact ⟨i, hi, by simp [List.getD_eq_getElem?_getD, hi]⟩
/-- Kraft's sum at a greater length. -/
theorem kraft_scale {r m L : Nat} (hm : m ≤ L) : ∀ (ls : List Int), (∀ y ∈ ls, y ≤ (m : Int)) → kraftN r L ls = r ^ (L - m) * kraftN r m ls
  | [], _ => by simp [kraftN]
  | y :: ls, h => by
    have h1 := h y (by simp)
    rw [kraftL_cons, kraftL_cons, kraft_scale hm ls (fun z hz => h z (by simp [hz])), Nat.mul_add, ← Nat.pow_add, show L - m + (m - y.toNat) = L - y.toNat by omega]
theorem kraft_at {r L : Nat} {ls : List Int} (hr : 1 ≤ r) (h : ∀ y ∈ ls, y ≤ (L : Int)) : kraftN r L ls ≤ r ^ L ↔ kraftN r (mostI ls).toNat ls ≤ r ^ (mostI ls).toNat := by
  have h0 : 0 ≤ mostI ls := (mostI_mem ls 0).1
  have hL : mostI ls ≤ (L : Int) := mostI_ub ls 0 (by omega) h
  have hle := (mostI_mem ls 0).2
  have hm : (mostI ls).toNat ≤ L := by omega
  rw [kraft_scale hm ls (fun y hy => by have := hle y hy; show y ≤ _; unfold mostI at h0 ⊢; omega)]
  have hp : 0 < r ^ (L - (mostI ls).toNat) := Nat.pow_pos hr
  have e : r ^ L = r ^ (L - (mostI ls).toNat) * r ^ (mostI ls).toNat := by rw [← Nat.pow_add]; congr 1; omega
  rw [e]
  exact ⟨fun h => Nat.le_of_mul_le_mul_left h hp, fun h => Nat.mul_le_mul_left _ h⟩
/-- What is known of the least lengths. -/
theorem least_known {ws : List Int} {r l : Int} (h : leastB ws r l = true) : ∃ x : List Nat, x.length = ws.length ∧ (∀ k i y : Nat, (orderBy (pWei ws) ws.length)[k]? = some i → x[k]? = some y → (leastL ws r l).getD i 0 = (y : Int)) ∧ x.Pairwise (· ≤ ·) ∧ krN r.toNat l.toNat x ≤ r.toNat ^ l.toNat ∧ bst r.toNat l.toNat (sortW ws) 1 (r.toNat ^ l.toNat) = some (x, dotN (sortW ws) x) := by
  unfold leastB at h
  obtain ⟨x, hx⟩ := Option.isSome_iff_exists.1 h
  obtain ⟨ha, hb⟩ := leastC_ask hx
  obtain ⟨h1, h2, h3, h4⟩ := askB_iff.1 ha
  have hbd := bst_bd _ (sortW_pos h2) _ 1 _ rfl _ hb
  rw [sortW_len] at hbd
  have hf := bst_found _ _ 1 _ rfl _ hb
  have hL : leastL ws r l = layB (orderBy (pWei ws) ws.length) ws.length x.1 := by unfold leastL; rw [hx]
  refine ⟨x.1, hbd.1, fun k i y hk hy => ?_, hf.2.1, hf.1, by rw [hb, ← hf.2.2.2]⟩
  rw [hL, List.getD_eq_getElem?_getD]
  unfold layB
  have hkl := (List.getElem?_eq_some_iff.1 hy).1
  rw [layK_at (orderBy_nodup _ _) (fun j hj => orderBy_lt hj) x.1.length (by rw [orderBy_len]; omega) (Nat.le_refl _) k i y hkl hk hy]
  rfl
theorem least_dot {ws : List Int} {r l : Int} (h : leastB ws r l = true) : ∃ x : List Nat × Int, bst r.toNat l.toNat (sortW ws) 1 (r.toNat ^ l.toNat) = some x ∧ dotI ws (leastL ws r l) = x.2 := by
  obtain ⟨x, h1, h2, h3, h4, h5⟩ := least_known h
  refine ⟨_, h5, ?_⟩
  have hlen := (leastL_ok h).2.1
  rw [dotI_range _ _ hlen.symm, ← perm_sumI ((orderBy_perm (pWei ws) ws.length).map _), ← dot_os _ x (by rw [orderBy_len, h1]) h2]
  rfl
/-- There is a code. -/
theorem least_code {ws : List Int} {r l : Int} (h : leastB ws r l = true) : kraftN r.toNat (mostI (leastL ws r l)).toNat (leastL ws r l) ≤ r.toNat ^ (mostI (leastL ws r l)).toNat := by
  obtain ⟨x, h1, h2, h3, h4, h5⟩ := least_known h
  have hok := leastL_ok h
  have ha : askB ws r l = true := by unfold leastB at h; obtain ⟨y, hy⟩ := Option.isSome_iff_exists.1 h; exact (leastC_ask hy).1
  obtain ⟨_, _, h6, h7⟩ := askB_iff.1 ha
  refine (kraft_at (L := l.toNat) (by omega) (fun y hy => ?_)).1 ?_
  · obtain ⟨i, hi, rfl⟩ := getD_mem hy
    have := hok.2.2 i (by omega)
    omega
  · rw [← kraftI_range, hok.2.1, ← kraftI_perm (orderBy_perm (pWei ws) ws.length), ← kr_os _ x (by rw [orderBy_len, h1]) h2]
    exact h4
/-- No lengths with a code cost less. -/
theorem least_best {ws : List Int} {r l : Int} (ha : askB ws r l = true) {ls : List Int} (hl : ls.length = ws.length) (hb : ∀ i, i < ls.length → 1 ≤ ls.getD i 0 ∧ ls.getD i 0 ≤ l) (hk : kraftN r.toNat l.toNat ls ≤ r.toNat ^ l.toNat) : leastB ws r l = true ∧ dotI ws (leastL ws r l) ≤ dotI ws ls := by
  obtain ⟨_, _, h6, h7⟩ := askB_iff.1 ha
  obtain ⟨os, hos⟩ : ∃ os, os = orderBy (pWei ws) ws.length := ⟨_, rfl⟩
  have hol : os.length = ws.length := by rw [hos, orderBy_len]
  have holt : ∀ i ∈ os, i < ls.length := fun i hi => by rw [hos] at hi; have := orderBy_lt hi; omega
  obtain ⟨zs, hzs⟩ : ∃ zs : List Nat, zs = os.map fun i => (ls.getD i 0).toNat := ⟨_, rfl⟩
  have hzl : zs.length = ws.length := by rw [hzs, List.length_map, hol]
  have hat : ∀ k i x : Nat, os[k]? = some i → zs[k]? = some x → ls.getD i 0 = (x : Int) := fun k i x h1 h2 => by
    rw [hzs, List.getElem?_map, h1] at h2
    cases h2
    have := hb i (holt i (List.mem_of_getElem? h1))
    show ls.getD i 0 = (((ls.getD i 0).toNat : Nat) : Int)
    omega
  have hd : dotN (sortW ws) zs = dotI ws ls := by
    rw [dotI_range _ _ hl.symm, ← perm_sumI ((orderBy_perm (pWei ws) ws.length).map _), ← hos, ← dot_os os zs (by omega) hat, hos]
    rfl
  have hkr : krN r.toNat l.toNat (sortN zs) = kraftN r.toNat l.toNat ls := by
    rw [← kraftI_range, hl, ← kraftI_perm (orderBy_perm (pWei ws) ws.length), ← hos, ← kr_os os zs (by omega) hat]
    unfold krN
    exact ((sortN_perm zs).map _).sum_nat
  have hsl : (sortN zs).length = (sortW ws).length := by rw [(sortN_perm zs).length_eq, sortW_len, hzl]
  obtain ⟨x, hx, hxc⟩ := bst_best (r := r.toNat) (L := l.toNat) (sortW ws) _ 1 (r.toNat ^ l.toNat) rfl (sortN zs) hsl (sortN_sorted zs) (fun n hn => by
    have h1 := (sortN_perm zs).mem_iff.1 hn
    rw [hzs, List.mem_map] at h1
    obtain ⟨i, hi, rfl⟩ := h1
    have := hb i (holt i hi)
    omega) (by rw [hkr]; exact hk)
  have hB : leastB ws r l = true := by unfold leastB leastC; rw [ha, if_pos rfl, hx]; rfl
  obtain ⟨y, hy, hyc⟩ := least_dot hB
  rw [hx] at hy
  cases hy
  have hs := dot_sort (sortW ws) zs (by rw [sortW_len, hzl]) (sortW_desc ws)
  exact ⟨hB, by omega⟩
/-- Greater weights have no longer words. -/
theorem least_mono {ws : List Int} {r l : Int} (h : leastB ws r l = true) {i k : Nat} (hi : i < ws.length) (hk : k < ws.length) (hlt : ws.getD k 0 < ws.getD i 0) : (leastL ws r l).getD i 0 ≤ (leastL ws r l).getD k 0 := by
  obtain ⟨x, h1, h2, h3, h4, h5⟩ := least_known h
  obtain ⟨p, hp, ep⟩ := List.getElem_of_mem (orderBy_mem (p := pWei ws) hi)
  obtain ⟨q, hq, eq⟩ := List.getElem_of_mem (orderBy_mem (p := pWei ws) hk)
  have hpl := hp
  have hql := hq
  rw [orderBy_len] at hpl hql
  have hd := order_desc ws ws.length
  have e1 := h2 p i x[p] (by rw [List.getElem?_eq_getElem hp, ep]) (List.getElem?_eq_getElem (by omega))
  have e2 := h2 q k x[q] (by rw [List.getElem?_eq_getElem hq, eq]) (List.getElem?_eq_getElem (by omega))
  rw [e1, e2]
  rcases Nat.lt_trichotomy p q with hpq | hpq | hpq
  · have := (List.pairwise_iff_getElem.1 h3) p q (by omega) (by omega) hpq
    omega
  · subst hpq; exact Int.le_refl _
  · have := (List.pairwise_iff_getElem.1 hd) q p hq hp hpq
    rw [ep, eq] at this
    omega
theorem flatM_fits {n r : Nat} (hn : n ≤ 20) (hr : 2 ≤ r) : n ≤ r ^ flatM n r := by
  unfold flatM
  have h5 : 2 ^ 5 ≤ r ^ 5 := Nat.pow_le_pow_left hr 5
  repeat (first | split | assumption | omega)
theorem dot_same {c : Int} : ∀ (ws : List Int), dotI ws (List.replicate ws.length c) = ws.sum * c
  | [] => by simp [dotI]
  | w :: ws => by
    rw [List.length_cons, List.replicate_succ, List.sum_cons, Int.add_mul]
    show w * c + dotI ws (List.replicate ws.length c) = _
    rw [dot_same ws]
theorem kraft_same {r m c : Nat} : ∀ n : Nat, kraftN r m (List.replicate n (c : Int)) = n * r ^ (m - c)
  | 0 => by simp [kraftN]
  | n + 1 => by rw [List.replicate_succ, kraftL_cons, kraft_same n, Nat.add_mul]; simp [Nat.add_comm]
/-- Equal lengths. -/
theorem least_flat {ws : List Int} {r l : Int} (ha : askB ws r l = true) (hf : (flatM ws.length r.toNat : Int) ≤ l) : dotI ws (leastL ws r l) ≤ ws.sum * (flatM ws.length r.toNat : Int) := by
  obtain ⟨h1, _, h6, h7⟩ := askB_iff.1 ha
  have hfm := flatM_le ws.length r.toNat
  have hfit := flatM_fits (n := ws.length) (r := r.toNat) (by omega) (by omega)
  rw [← dot_same]
  refine (least_best ha (by simp) (fun i hi => ?_) ?_).2
  · rw [List.length_replicate] at hi
    rw [List.getD_eq_getElem?_getD, List.getElem?_replicate, if_pos hi]
    simp only [Option.getD_some]
    omega
  · rw [kraft_same]
    have e : r.toNat ^ l.toNat = r.toNat ^ flatM ws.length r.toNat * r.toNat ^ (l.toNat - flatM ws.length r.toNat) := by rw [← Nat.pow_add]; congr 1; omega
    rw [e]
    exact Nat.mul_le_mul_right _ hfit
/-- Drawn lengths with a code. -/
theorem least_drawn {ws ls : List Int} {r : Int} (hw : weightsB ws = true) (hl : lengthsB ls = true) (he : ws.length = ls.length) (hr : 2 ≤ r ∧ r ≤ 60) (hk : kraftN r.toNat (mostI ls).toNat ls ≤ r.toNat ^ (mostI ls).toNat) : leastB ws r 6 = true ∧ dotI ws (leastL ws r 6) ≤ dotI ws ls := by
  have h1 := weightsB_iff.1 hw
  have h2 := lengthsB_iff.1 hl
  refine least_best (askB_iff.2 ⟨h1.1, h1.2, hr, by omega⟩) he.symm (fun i hi => allB_at h2.2 hi) ?_
  refine (kraft_at (L := 6) (by omega) (fun y hy => ?_)).2 hk
  obtain ⟨i, hi, rfl⟩ := getD_mem hy
  have := allB_at h2.2 hi
  omega
end Go.Proofs.Ytabiobjcfopakaa
/- Contracts for the laws over drawn things: equal lists are told equal, and nothing that was there changes. -/
namespace Go.Proofs.Ytabiobjcfopakaa
open Go.RowKit
theorem qInts_sameB (xs : List Int) (v u : Value) (hi hj : Nat) (w : World) (h : RdI w hi v xs) (g : RdI w hj u xs) : Calls Try.prog 51 #[v, u] w fun e w' => e = .returned (.bool true) ∧ Below w.heap.size w w' :=
  (qInts_same xs v u hi hj w h g).mono fun _ _ ⟨he, n, hw⟩ => ⟨he, by rw [hw]; exact bel_drewN _ _ _⟩
end Go.Proofs.Ytabiobjcfopakaa
/- Contracts of the searches for phrases of which one begins another; of the program and of the reference. -/
namespace Go.Proofs.Ytabiobjcfopakaa
open Go.RowKit
def sigAt (ps : List Phr) (i : Nat) : List Int := (sigs ps).getD i []
theorem sigAt_eq {ps : List Phr} {i : Nat} {p : Phr} (h : ps[i]? = some p) : sigAt ps i = p.2 := by simp [sigAt, sigs, List.getD_eq_getElem?_getD, h]
/-- Does phrase i begin phrase k, another one? -/
def preB (ps : List Phr) (i k : Nat) : Bool := !(i == k) && begB (sigAt ps i) (sigAt ps k)
/-- The first two phrases of which one begins the other. -/
def firstPre (ps : List Phr) : Option (Nat × Nat) :=
  match (List.range ps.length).find? fun i => (List.range ps.length).any fun k => preB ps i k with
  | some i => ((List.range ps.length).find? fun k => preB ps i k).map fun k => (i, k)
  | Option.none => Option.none
theorem preB_no {ps : List Phr} {i : Nat} (h : ∀ k, k < ps.length → preB ps i k = false) : ((List.range ps.length).any fun k => preB ps i k) = false := by
  rw [List.any_eq_false]; intro k hk; rw [h k (List.mem_range.1 hk)]; exact Bool.false_ne_true
theorem firstPre_none {ps : List Phr} (h : ∀ i, i < ps.length → ∀ k, k < ps.length → preB ps i k = false) : firstPre ps = Option.none := by
  have : ((List.range ps.length).find? fun i => (List.range ps.length).any fun k => preB ps i k) = Option.none := by
    rw [List.find?_eq_none]; intro i hi; rw [preB_no (h i (List.mem_range.1 hi))]; exact Bool.false_ne_true
  unfold firstPre; rw [this]
theorem firstPre_some {ps : List Phr} {i k : Nat} (h : ∀ j, j < i → ∀ k, k < ps.length → preB ps j k = false) (h2 : ∀ j, j < k → preB ps i j = false) (hi : i < ps.length) (hk : k < ps.length) (hp : preB ps i k = true) : firstPre ps = some (i, k) := by
  have e1 : ((List.range ps.length).find? fun i => (List.range ps.length).any fun k => preB ps i k) = some i := by
    rw [List.find?_range_eq_some]
    refine ⟨?_, List.mem_range.2 hi, fun j hj => by rw [preB_no (h j hj)]; rfl⟩
    rw [List.any_eq_true]; exact ⟨k, List.mem_range.2 hk, hp⟩
  have e2 : ((List.range ps.length).find? fun k => preB ps i k) = some k := by
    rw [List.find?_range_eq_some]
    exact ⟨hp, List.mem_range.2 hk, fun j hj => by rw [h2 j hj]; rfl⟩
  unfold firstPre; rw [e1]; show Option.map _ _ = _; rw [e2]; rfl
theorem firstPre_lt {ps : List Phr} {i k : Nat} (h : firstPre ps = some (i, k)) : i < ps.length ∧ k < ps.length := by
  unfold firstPre at h
  split at h
  · rename_i i' he
    rw [List.find?_range_eq_some] at he
    rw [Option.map_eq_some_iff] at h
    obtain ⟨k', h1, h2⟩ := h
    rw [List.find?_range_eq_some] at h1
    cases h2
    exact ⟨List.mem_range.1 he.2.1, List.mem_range.1 h1.2.1⟩
  · cases h
def preS : Option (Nat × Nat) → Value
  | some (i, k) => .tuple #[.int .i64 (i : Int), .int .i64 (k : Int)]
  | Option.none => .tuple #[.int .i64 (-1), .int .i64 (-1)]
def preI : Option (Nat × Nat) → Value
  | some (i, k) => .tuple #[.int .i64 (i : Int), .int .i64 (k : Int), .bool true]
  | Option.none => .tuple #[.int .i64 0, .int .i64 0, .bool false]
set_option maxHeartbeats 1600000 in
theorem bkPrefix_any (ps : List Phr) (v : Value) (hi : Nat) (w : World) (h : RdB w hi v ps) (hh : hi ≤ w.heap.size) :
    Calls Try.prog 150 #[v] w fun e w' => e = .returned (preS (firstPre ps)) ∧ Below w.heap.size w w' := by
  obtain ⟨a, rfl, ha⟩ := h
  obtain ⟨A, c, rfl, hc, hm⟩ := ha.form
  have hba : Below w.heap.size w (w.alloc (.cells #[.slice A ps.length c] 48)) := (Below.refl _ _).alloc (Nat.le_refl _) _
  have HB := Lib.hid hba
  have HA := Lib.hid (ha.below hba hh)
  have HG : Hid (RdB (w.alloc (.cells #[.slice A ps.length c] 48)) hi (.agg #[.slice A ps.length c]) ps) := ⟨_, rfl, HA.out⟩
  have hcb0 : (w.alloc (.cells #[.slice A ps.length c] 48)).cell? ⟨w.heap.size, 0, Option.none⟩ = some (.slice A ps.length c) := (Blk.new w 48 #[.slice A ps.length c]).cell 0
  have HCB := Lib.hid hcb0
  have hsz1 : hi ≤ (w.alloc (.cells #[.slice A ps.length c] 48)).heap.size := by simp; omega
  clear ha hba hcb0
  go_enter Try.func150, Try.ntmps150
  go_wp2_with fail
  go_loopw [11] (fun i wr => ∃ k : Nat, k ≤ ps.length ∧ i = .int .i64 k ∧ Hid (∀ j, j < k → ∀ q, q < ps.length → preB ps j q = false) ∧ Below (w.heap.size + 1) (w.alloc (.cells #[.slice A ps.length c] 48)) wr) (fun i _ => ps.length - (intOf i).toNat)
  case atStart => exact ⟨0, Nat.zero_le _, rfl, fun j hj => by omega, Below.refl _ _⟩
  case round =>
    obtain ⟨k, hk, rfl, hup, hbr⟩ := hrel
    have hs : w.heap.size + 1 ≤ wr.heap.size := by have := hbr.size; simpa using this
    by_cases hlt : k < ps.length
    · obtain ⟨b1, o1, c1, a, t, xs, hv, hb1, hx, hcell1, hcell2, hra, hta⟩ := (HA.out.below hbr (by omega)).at_ hlt
      cases hv
      obtain ⟨A2, c2, rfl, hc2, hm2⟩ := Rd.form hra
      have HX := Lib.hid hx
      have HRA := Lib.hid hra
      clear hx hra
      have hbx : Below (w.heap.size + 1) (w.alloc (.cells #[.slice (some ⟨b1, o1, Option.none⟩) ps.length c] 48)) (wr.alloc (.cells #[.string t, .slice A2 xs.length c2] 60)) := hbr.alloc hs _
      have HBX := Lib.hid hbx
      have HRX := Lib.hid (HRA.out.below ((Below.refl wr.heap.size wr).alloc (Nat.le_refl _) (.cells #[.string t, .slice A2 xs.length c2] 60)) (by omega))
      have HCX := Lib.hid ((Blk.new wr 60 #[.string t, .slice A2 xs.length c2]).cell 1)
      have hsx : (wr.alloc (.cells #[.string t, .slice A2 xs.length c2] 60)).heap.size = wr.heap.size + 1 := by simp
      have HSX := Lib.hid hsx
      have hboxx := (hbx.cell (p := ⟨w.heap.size, 0, Option.none⟩) (by show w.heap.size < _; omega)).trans HCB.out
      clear hbx hsx hbr
      rename World => wo
      go_wp2_with fail
      go_loopw [19] (fun i wr => ∃ q : Nat, q ≤ ps.length ∧ i = .int .i64 q ∧ Hid (∀ j, j < q → preB ps k j = false) ∧ Below (wo.heap.size + 1) (wo.alloc (.cells #[.string t, .slice A2 xs.length c2] 60)) wr) (fun i _ => ps.length - (intOf i).toNat)
      case atStart => exact ⟨0, Nat.zero_le _, rfl, fun j hj => by omega, Below.refl _ _⟩
      case round =>
        obtain ⟨q, hq, rfl, hin, hbi⟩ := hrel
        have hsi : wo.heap.size + 1 ≤ wr.heap.size := by have := hbi.size; have := HSX.out; omega
        by_cases hltq : q < ps.length
        · obtain ⟨b3, o3, c3, a2, t2, ys, hv, _, hy, hcell3, hcell4, hrb, htb⟩ := (HA.out.below (HBX.out.trans (hbi.mono (by omega))) (by omega)).at_ hltq
          cases hv
          obtain ⟨A4, c4, rfl, hc4, hm4⟩ := Rd.form hrb
          have hcx1 := (hbi.cell (p := ⟨wo.heap.size, 1, Option.none⟩) (by show wo.heap.size < _; omega)).trans HCX.out
          have HY := Lib.hid hy
          have hry := hrb.below ((Below.refl wr.heap.size wr).alloc (Nat.le_refl _) (.cells #[.string t2, .slice A4 ys.length c4] 60)) (by omega)
          have hrx := (HRX.out.below hbi (by omega)).below ((Below.refl wr.heap.size wr).alloc (Nat.le_refl _) (.cells #[.string t2, .slice A4 ys.length c4] 60)) (by omega)
          have HRY := Lib.hid hry
          have HRX2 := Lib.hid hrx
          have HBI := Lib.hid (hbi.alloc hsi (.cells #[.string t2, .slice A4 ys.length c4] 60))
          clear hrb hry hrx hy hbi
          have hcx2 : (wr.alloc (.cells #[.string t2, .slice A4 ys.length c4] 60)).cell? ⟨wo.heap.size, 1, Option.none⟩ = some (.slice A2 xs.length c2) := by
            have := (((Below.refl wr.heap.size wr).alloc (Nat.le_refl _) (.cells #[.string t2, .slice A4 ys.length c4] 60)).cell (p := ⟨wo.heap.size, 1, Option.none⟩) (by show wo.heap.size < _; omega)).trans hcx1
            exact this
          by_cases hne : k = q
          · have hne1 : ((k : Int) != (q : Int)) = false := by rw [hne]; simp
            have HNE := Lib.hid hne
            clear hne
            go_wp2_with fail
            go_roundw
            case rel => exact ⟨q + 1, by omega, by go_num, fun j hj => by
              by_cases e : j = q
              · subst e; unfold preB; simp [HNE.out]
              · exact hin.out j (by omega), HBI.out⟩
            case measure => simp [intOf]; omega
          · have hne1 : ((k : Int) != (q : Int)) = true := by rw [bne_iff_ne]; omega
            have hpre : preB ps k q = begB xs ys := by unfold preB; rw [sigAt_eq HX.out, sigAt_eq HY.out]; simp [hne]
            cases hbg : begB xs ys
            · rw [hbg] at hpre
              have HP := Lib.hid hpre
              clear hpre
              have cB := bkBegins_any xs ys _ _ hi hi _ HRX2.out HRY.out
              rw [hbg] at cB
              have CB := Lib.hid cB
              clear cB
              go_wp2_with (go_at_call 209; refine CB.out.mono ?_; rintro e w' ⟨rfl, n, rfl⟩)
              go_roundw
              case rel => exact ⟨q + 1, by omega, by go_num, fun j hj => by
                by_cases e : j = q
                · subst e; exact HP.out
                · exact hin.out j (by omega), HBI.out.trans (bel_drewN _ _ _)⟩
              case measure => simp [intOf]; omega
            · rw [hbg] at hpre
              have HP := Lib.hid hpre
              clear hpre
              have cB := bkBegins_any xs ys _ _ hi hi _ HRX2.out HRY.out
              rw [hbg] at cB
              have CB := Lib.hid cB
              clear cB
              go_wp2_with (go_at_call 209; refine CB.out.mono ?_; rintro e w' ⟨rfl, n, rfl⟩)
              go_ret2
              exact ⟨ret_val (by rw [firstPre_some hup.out hin.out hlt hltq HP.out]; rfl), (HB.out.trans (HBX.out.mono (by omega))).trans ((HBI.out.mono (by omega)).trans (bel_drewN _ _ _))⟩
        · obtain rfl : q = ps.length := by omega
          go_wp2_with fail
          go_roundw
          case rel => exact ⟨k + 1, by omega, by go_num, fun j hj => by
            by_cases e : j = k
            · subst e; exact hin.out
            · exact hup.out j (by omega), HBX.out.trans (hbi.mono (by omega))⟩
          case measure => simp [intOf]; omega
    · obtain rfl : k = ps.length := by omega
      go_wp2_with fail
      go_ret2
      exact ⟨ret_val (by rw [firstPre_none hup.out]; rfl), HB.out.trans (hbr.mono (by omega))⟩
set_option maxHeartbeats 1600000 in
theorem firstPrefix_any (ps : List Phr) (v : Value) (hi : Nat) (w : World) (h : RdB w hi v ps) (hh : hi ≤ w.heap.size) :
    Calls Try.prog 149 #[v] w fun e w' => e = .returned (preI (firstPre ps)) ∧ Below w.heap.size w w' := by
  obtain ⟨a, rfl, ha⟩ := h
  obtain ⟨A, c, rfl, hc, hm⟩ := ha.form
  have hba : Below w.heap.size w (w.alloc (.cells #[.slice A ps.length c] 48)) := (Below.refl _ _).alloc (Nat.le_refl _) _
  have HB := Lib.hid hba
  have HA := Lib.hid (ha.below hba hh)
  have HG : Hid (RdB (w.alloc (.cells #[.slice A ps.length c] 48)) hi (.agg #[.slice A ps.length c]) ps) := ⟨_, rfl, HA.out⟩
  have hcb0 : (w.alloc (.cells #[.slice A ps.length c] 48)).cell? ⟨w.heap.size, 0, Option.none⟩ = some (.slice A ps.length c) := (Blk.new w 48 #[.slice A ps.length c]).cell 0
  have HCB := Lib.hid hcb0
  have hsz1 : hi ≤ (w.alloc (.cells #[.slice A ps.length c] 48)).heap.size := by simp; omega
  clear ha hba hcb0
  go_enter Try.func149, Try.ntmps149
  go_wp2_with fail
  go_loopw [12] (fun i wr => ∃ k : Nat, k ≤ ps.length ∧ i = .int .i64 k ∧ Hid (∀ j, j < k → ∀ q, q < ps.length → preB ps j q = false) ∧ Below (w.heap.size + 1) (w.alloc (.cells #[.slice A ps.length c] 48)) wr) (fun i _ => ps.length - (intOf i).toNat)
  case atStart => exact ⟨0, Nat.zero_le _, rfl, fun j hj => by omega, Below.refl _ _⟩
  case round =>
    obtain ⟨k, hk, rfl, hup, hbr⟩ := hrel
    have hs : w.heap.size + 1 ≤ wr.heap.size := by have := hbr.size; simpa using this
    by_cases hlt : k < ps.length
    · obtain ⟨b1, o1, c1, a, t, xs, hv, hb1, hx, hcell1, hcell2, hra, hta⟩ := (HA.out.below hbr (by omega)).at_ hlt
      cases hv
      obtain ⟨A2, c2, rfl, hc2, hm2⟩ := Rd.form hra
      have HX := Lib.hid hx
      have HRA := Lib.hid hra
      clear hx hra
      have hbx : Below (w.heap.size + 1) (w.alloc (.cells #[.slice (some ⟨b1, o1, Option.none⟩) ps.length c] 48)) (wr.alloc (.cells #[.string t, .slice A2 xs.length c2] 60)) := hbr.alloc hs _
      have HBX := Lib.hid hbx
      have HRX := Lib.hid (HRA.out.below ((Below.refl wr.heap.size wr).alloc (Nat.le_refl _) (.cells #[.string t, .slice A2 xs.length c2] 60)) (by omega))
      have HCX := Lib.hid ((Blk.new wr 60 #[.string t, .slice A2 xs.length c2]).cell 1)
      have hsx : (wr.alloc (.cells #[.string t, .slice A2 xs.length c2] 60)).heap.size = wr.heap.size + 1 := by simp
      have HSX := Lib.hid hsx
      have hboxx := (hbx.cell (p := ⟨w.heap.size, 0, Option.none⟩) (by show w.heap.size < _; omega)).trans HCB.out
      clear hbx hsx hbr
      rename World => wo
      go_wp2_with fail
      go_loopw [20] (fun i wr => ∃ q : Nat, q ≤ ps.length ∧ i = .int .i64 q ∧ Hid (∀ j, j < q → preB ps k j = false) ∧ Below (wo.heap.size + 1) (wo.alloc (.cells #[.string t, .slice A2 xs.length c2] 60)) wr) (fun i _ => ps.length - (intOf i).toNat)
      case atStart => exact ⟨0, Nat.zero_le _, rfl, fun j hj => by omega, Below.refl _ _⟩
      case round =>
        obtain ⟨q, hq, rfl, hin, hbi⟩ := hrel
        have hsi : wo.heap.size + 1 ≤ wr.heap.size := by have := hbi.size; have := HSX.out; omega
        by_cases hltq : q < ps.length
        · obtain ⟨b3, o3, c3, a2, t2, ys, hv, _, hy, hcell3, hcell4, hrb, htb⟩ := (HA.out.below (HBX.out.trans (hbi.mono (by omega))) (by omega)).at_ hltq
          cases hv
          obtain ⟨A4, c4, rfl, hc4, hm4⟩ := Rd.form hrb
          have hcx1 := (hbi.cell (p := ⟨wo.heap.size, 1, Option.none⟩) (by show wo.heap.size < _; omega)).trans HCX.out
          have HY := Lib.hid hy
          have hry := hrb.below ((Below.refl wr.heap.size wr).alloc (Nat.le_refl _) (.cells #[.string t2, .slice A4 ys.length c4] 60)) (by omega)
          have hrx := (HRX.out.below hbi (by omega)).below ((Below.refl wr.heap.size wr).alloc (Nat.le_refl _) (.cells #[.string t2, .slice A4 ys.length c4] 60)) (by omega)
          have HRY := Lib.hid hry
          have HRX2 := Lib.hid hrx
          have HBI := Lib.hid (hbi.alloc hsi (.cells #[.string t2, .slice A4 ys.length c4] 60))
          clear hrb hry hrx hy hbi
          have hcx2 : (wr.alloc (.cells #[.string t2, .slice A4 ys.length c4] 60)).cell? ⟨wo.heap.size, 1, Option.none⟩ = some (.slice A2 xs.length c2) := by
            have := (((Below.refl wr.heap.size wr).alloc (Nat.le_refl _) (.cells #[.string t2, .slice A4 ys.length c4] 60)).cell (p := ⟨wo.heap.size, 1, Option.none⟩) (by show wo.heap.size < _; omega)).trans hcx1
            exact this
          by_cases hne : k = q
          · have hne1 : ((k : Int) != (q : Int)) = false := by rw [hne]; simp
            have HNE := Lib.hid hne
            clear hne
            go_wp2_with fail
            go_roundw
            case rel => exact ⟨q + 1, by omega, by go_num, fun j hj => by
              by_cases e : j = q
              · subst e; unfold preB; simp [HNE.out]
              · exact hin.out j (by omega), HBI.out⟩
            case measure => simp [intOf]; omega
          · have hne1 : ((k : Int) != (q : Int)) = true := by rw [bne_iff_ne]; omega
            have hpre : preB ps k q = begB xs ys := by unfold preB; rw [sigAt_eq HX.out, sigAt_eq HY.out]; simp [hne]
            cases hbg : begB xs ys
            · rw [hbg] at hpre
              have HP := Lib.hid hpre
              clear hpre
              have cB := begins_any xs ys _ _ hi hi _ HRX2.out HRY.out
              rw [hbg] at cB
              have CB := Lib.hid cB
              clear cB
              go_wp2_with (go_at_call 208; refine CB.out.mono ?_; rintro e w' ⟨rfl, n, rfl⟩)
              go_roundw
              case rel => exact ⟨q + 1, by omega, by go_num, fun j hj => by
                by_cases e : j = q
                · subst e; exact HP.out
                · exact hin.out j (by omega), HBI.out.trans (bel_drewN _ _ _)⟩
              case measure => simp [intOf]; omega
            · rw [hbg] at hpre
              have HP := Lib.hid hpre
              clear hpre
              have cB := begins_any xs ys _ _ hi hi _ HRX2.out HRY.out
              rw [hbg] at cB
              have CB := Lib.hid cB
              clear cB
              go_wp2_with (go_at_call 208; refine CB.out.mono ?_; rintro e w' ⟨rfl, n, rfl⟩)
              go_ret3
              exact ⟨ret_val (by rw [firstPre_some hup.out hin.out hlt hltq HP.out]; rfl), (HB.out.trans (HBX.out.mono (by omega))).trans ((HBI.out.mono (by omega)).trans (bel_drewN _ _ _))⟩
        · obtain rfl : q = ps.length := by omega
          go_wp2_with fail
          go_roundw
          case rel => exact ⟨k + 1, by omega, by go_num, fun j hj => by
            by_cases e : j = k
            · subst e; exact hin.out
            · exact hup.out j (by omega), HBX.out.trans (hbi.mono (by omega))⟩
          case measure => simp [intOf]; omega
    · obtain rfl : k = ps.length := by omega
      go_wp2_with fail
      go_ret3
      exact ⟨ret_val (by rw [firstPre_none hup.out]; rfl), HB.out.trans (hbr.mono (by omega))⟩
end Go.Proofs.Ytabiobjcfopakaa
/- Plain laws: the rests that stick out where two lists of phrases have the same signals so far. -/
namespace Go.Proofs.Ytabiobjcfopakaa
open Go.RowKit
/-- A rest is put to the others, once. -/
def putR (L : List (List Int)) (r : List Int) : List (List Int) := if r ∈ L then L else L ++ [r]
theorem putR_old {L : List (List Int)} {r : List Int} (h : r ∈ L) : putR L r = L := by unfold putR; rw [if_pos h]
theorem putR_new {L : List (List Int)} {r : List Int} (h : r ∉ L) : putR L r = L ++ [r] := by unfold putR; rw [if_neg h]
theorem putR_mem {L : List (List Int)} {r : List Int} : r ∈ putR L r := by unfold putR; split <;> simp_all
theorem putR_pre {L : List (List Int)} {r : List Int} : L <+: putR L r := by
  unfold putR; split
  · exact List.prefix_refl _
  · exact List.prefix_append _ _
theorem putR_nodup {L : List (List Int)} {r : List Int} (h : L.Nodup) : (putR L r).Nodup := by
  unfold putR; split
  · exact h
  · rename_i hn
    rw [List.nodup_append]
    refine ⟨h, by simp, fun a ha b hb => ?_⟩
    rw [List.mem_singleton] at hb
    rintro rfl
    exact hn (hb ▸ ha)
/-- One pair of phrases. -/
def seed1 (ps : List Phr) (i : Nat) (x : Phr) (L : List (List Int)) (k : Nat) : List (List Int) := match ps[k]? with
  | some y => if i ≠ k ∧ begB x.2 y.2 = true then putR L (y.2.drop x.2.length) else L
  | Option.none => L
/-- One phrase with the first j others, the first i phrases with all others. -/
def seedK (ps : List Phr) (i : Nat) (x : Phr) (L : List (List Int)) (j : Nat) : List (List Int) := (List.range j).foldl (seed1 ps i x) L
def seedI (ps : List Phr) : Nat → List (List Int)
  | 0 => []
  | i + 1 => match ps[i]? with
    | some x => seedK ps i x (seedI ps i) ps.length
    | Option.none => seedI ps i
def seedR (ps : List Phr) : List (List Int) := seedI ps ps.length
theorem seedK_zero {ps : List Phr} {i : Nat} {x : Phr} {L : List (List Int)} : seedK ps i x L 0 = L := rfl
theorem seedK_succ {ps : List Phr} {i j : Nat} {x : Phr} {L : List (List Int)} : seedK ps i x L (j + 1) = seed1 ps i x (seedK ps i x L j) j := by
  unfold seedK; rw [List.range_succ, List.foldl_append]; rfl
theorem seedI_succ {ps : List Phr} {i : Nat} {x : Phr} (h : ps[i]? = some x) : seedI ps (i + 1) = seedK ps i x (seedI ps i) ps.length := by rw [seedI, h]
theorem seed1_yes {ps : List Phr} {i k : Nat} {x y : Phr} {L : List (List Int)} (hy : ps[k]? = some y) (h : i ≠ k) (hb : begB x.2 y.2 = true) : seed1 ps i x L k = putR L (y.2.drop x.2.length) := by
  unfold seed1; rw [hy]; exact if_pos ⟨h, hb⟩
theorem seed1_no {ps : List Phr} {i k : Nat} {x y : Phr} {L : List (List Int)} (hy : ps[k]? = some y) (h : ¬ (i ≠ k ∧ begB x.2 y.2 = true)) : seed1 ps i x L k = L := by
  unfold seed1; rw [hy]; exact if_neg h
/-- One phrase behind, or ahead of, a rest. -/
def turn1 (x : List Int) (L : List (List Int)) (y : Phr) : List (List Int) :=
  let L1 := if begB x y.2 then putR L (y.2.drop x.length) else L
  if begB y.2 x then putR L1 (x.drop y.2.length) else L1
def turnR (ps : List Phr) (x : List Int) (L : List (List Int)) (j : Nat) : List (List Int) := (ps.take j).foldl (turn1 x) L
theorem turnR_succ {ps : List Phr} {x : List Int} {L : List (List Int)} {j : Nat} {y : Phr} (h : ps[j]? = some y) : turnR ps x L (j + 1) = turn1 x (turnR ps x L j) y := by
  unfold turnR; rw [take_snocN h, List.foldl_append]; rfl
theorem turnR_zero {ps : List Phr} {x : List Int} {L : List (List Int)} : turnR ps x L 0 = L := rfl
/-- From the n-th rest on, until nothing new is left. -/
def runR (ps : List Phr) : Nat → Nat → List (List Int) → List (List Int)
  | 0, _, L => L
  | f + 1, n, L => match L[n]? with
    | Option.none => L
    | some x => runR ps f (n + 1) (turnR ps x L ps.length)
/-- All rests. -/
def restsR (ps : List Phr) : List (List Int) := runR ps 200 0 (seedR ps)
def oneB (ps : List Phr) : Bool := decide ([] ∉ restsR ps)
theorem runR_on {ps : List Phr} {f n : Nat} {L : List (List Int)} {x : List Int} (h : L[n]? = some x) : runR ps (f + 1) n L = runR ps f (n + 1) (turnR ps x L ps.length) := by rw [runR, h]
theorem runR_end {ps : List Phr} {f n : Nat} {L : List (List Int)} (h : L.length ≤ n) : runR ps f n L = L := by
  cases f with
  | zero => rfl
  | succ f => rw [runR, List.getElem?_eq_none h]
theorem turn1_pre {x : List Int} {L : List (List Int)} {y : Phr} : L <+: turn1 x L y := by
  unfold turn1
  dsimp only
  split <;> split
  · exact putR_pre.trans putR_pre
  · exact putR_pre
  · exact putR_pre
  · exact List.prefix_refl _
theorem turn_pre {x : List Int} : ∀ (qs : List Phr) (L : List (List Int)), L <+: qs.foldl (turn1 x) L
  | [], L => List.prefix_refl _
  | q :: qs, L => by rw [List.foldl_cons]; exact turn1_pre.trans (turn_pre qs _)
theorem turnR_pre {ps : List Phr} {x : List Int} {L : List (List Int)} {j : Nat} : L <+: turnR ps x L j := turn_pre _ _
theorem turnR_mono {ps : List Phr} {x : List Int} {L : List (List Int)} {j k : Nat} (h : j ≤ k) : turnR ps x L j <+: turnR ps x L k := by
  unfold turnR
  have : ps.take k = ps.take j ++ (ps.take k).drop j := by
    have e := List.take_append_drop j (ps.take k)
    rw [List.take_take, Nat.min_eq_left h] at e
    exact e.symm
  rw [this, List.foldl_append]
  exact turn_pre _ _
theorem runR_pre {ps : List Phr} : ∀ (f n : Nat) (L : List (List Int)), L <+: runR ps f n L
  | 0, _, L => List.prefix_refl _
  | f + 1, n, L => by
    rw [runR]
    split
    · exact List.prefix_refl _
    · exact turnR_pre.trans (runR_pre f _ _)
/-- The ends of the signals of phrases. -/
def endsP (p : Phr) : List (List Int) := (List.range (p.2.length + 1)).map fun k => p.2.drop k
def endsB (ps : List Phr) : List (List Int) := ps.flatMap endsP
theorem ends_drop {ps : List Phr} {p : Phr} (h : p ∈ ps) {k : Nat} (hk : k ≤ p.2.length) : p.2.drop k ∈ endsB ps := by
  unfold endsB endsP
  rw [List.mem_flatMap]
  exact ⟨p, h, List.mem_map.2 ⟨k, List.mem_range.2 (by omega), rfl⟩⟩
theorem ends_again {ps : List Phr} {r : List Int} (h : r ∈ endsB ps) {k : Nat} (hk : k ≤ r.length) : r.drop k ∈ endsB ps := by
  unfold endsB endsP at h
  rw [List.mem_flatMap] at h
  obtain ⟨p, hp, h⟩ := h
  rw [List.mem_map] at h
  obtain ⟨j, hj, rfl⟩ := h
  rw [List.mem_range] at hj
  rw [List.drop_drop]
  rw [List.length_drop] at hk
  exact ends_drop hp (by omega)
theorem ends_len {ps : List Phr} (h : bookB ps = true) : (endsB ps).length ≤ 160 := by
  have h1 := bookB_len h
  have h2 : ∀ p ∈ ps, p.2.length ≤ 3 := fun p hp => (phrOk_sig (bookB_phr h hp)).2.1
  have h3 : (endsB ps).length ≤ 4 * ps.length := by
    unfold endsB
    clear h h1
    induction ps with
    | nil => simp
    | cons p l ih =>
      have := ih (fun q hq => h2 q (List.mem_cons_of_mem _ hq))
      have h4 := h2 p (by simp)
      rw [List.flatMap_cons, List.length_append, List.length_cons]
      unfold endsP at this ⊢
      rw [List.length_map, List.length_range]
      omega
  omega
theorem nodup_len {α : Type} [DecidableEq α] : ∀ (L E : List α), L.Nodup → (∀ x ∈ L, x ∈ E) → L.length ≤ E.length
  | [], E, _, _ => by simp
  | a :: L, E, h, hs => by
    rw [List.nodup_cons] at h
    have ha := hs a (by simp)
    have h1 := nodup_len L (E.erase a) h.2 (fun x hx => by
      have hne : x ≠ a := by rintro rfl; exact h.1 hx
      exact (List.mem_erase_of_ne hne).2 (hs x (List.mem_cons_of_mem _ hx)))
    have h2 := List.length_erase_of_mem ha
    have h3 : 0 < E.length := List.length_pos_of_mem ha
    rw [List.length_cons]
    omega
/-- A list of rests: none twice, all of them ends of phrases. -/
structure RestOk (ps : List Phr) (L : List (List Int)) : Prop where
  nodup : L.Nodup
  ends : ∀ r ∈ L, r ∈ endsB ps
theorem RestOk.nil (ps : List Phr) : RestOk ps [] := ⟨List.nodup_nil, fun r h => by cases h⟩
theorem RestOk.put {ps : List Phr} {L : List (List Int)} {r : List Int} (h : RestOk ps L) (hr : r ∈ endsB ps) : RestOk ps (putR L r) := by
  refine ⟨putR_nodup h.nodup, fun x hx => ?_⟩
  unfold putR at hx
  split at hx
  · exact h.ends x hx
  · rw [List.mem_append, List.mem_singleton] at hx
    rcases hx with hx | rfl
    · exact h.ends x hx
    · exact hr
theorem RestOk.len {ps : List Phr} {L : List (List Int)} (h : RestOk ps L) (hb : bookB ps = true) : L.length ≤ 160 := Nat.le_trans (nodup_len L _ h.nodup h.ends) (ends_len hb)
theorem begB_le {xs ys : List Int} (h : begB xs ys = true) : xs.length ≤ ys.length := by rw [begB_iff] at h; exact h.length_le
theorem RestOk.seed1 {ps : List Phr} {L : List (List Int)} (h : RestOk ps L) (i : Nat) (x : Phr) (k : Nat) : RestOk ps (seed1 ps i x L k) := by
  unfold Go.Proofs.Ytabiobjcfopakaa.seed1
  split
  · rename_i y hy
    split
    · rename_i hc
      exact h.put (ends_drop (List.mem_of_getElem? hy) (begB_le hc.2))
    · exact h
  · exact h
theorem RestOk.seedK {ps : List Phr} {L : List (List Int)} (h : RestOk ps L) (i : Nat) (x : Phr) : ∀ j, RestOk ps (seedK ps i x L j)
  | 0 => h
  | j + 1 => by rw [seedK_succ]; exact (RestOk.seedK h i x j).seed1 i x j
theorem RestOk.seedI (ps : List Phr) : ∀ i, RestOk ps (seedI ps i)
  | 0 => RestOk.nil ps
  | i + 1 => by
    rw [Go.Proofs.Ytabiobjcfopakaa.seedI]
    split
    · exact (RestOk.seedI ps i).seedK _ _ _
    · exact RestOk.seedI ps i
theorem RestOk.turn1 {ps : List Phr} {L : List (List Int)} {x : List Int} {y : Phr} (h : RestOk ps L) (hx : x ∈ endsB ps) (hy : y ∈ ps) : RestOk ps (turn1 x L y) := by
  unfold Go.Proofs.Ytabiobjcfopakaa.turn1
  dsimp only
  have h1 : RestOk ps (if begB x y.2 then putR L (y.2.drop x.length) else L) := by
    split
    · rename_i hb; exact h.put (ends_drop hy (begB_le hb))
    · exact h
  split
  · rename_i hb; exact h1.put (ends_again hx (begB_le hb))
  · exact h1
theorem RestOk.turnR {ps : List Phr} {L : List (List Int)} {x : List Int} (h : RestOk ps L) (hx : x ∈ endsB ps) (j : Nat) : RestOk ps (turnR ps x L j) := by
  unfold Go.Proofs.Ytabiobjcfopakaa.turnR
  have : ∀ (qs : List Phr), (∀ q ∈ qs, q ∈ ps) → ∀ L, RestOk ps L → RestOk ps (qs.foldl (Go.Proofs.Ytabiobjcfopakaa.turn1 x) L) := by
    intro qs
    induction qs with
    | nil => intro _ L h; exact h
    | cons q qs ih =>
      intro hq L h
      rw [List.foldl_cons]
      exact ih (fun r hr => hq r (List.mem_cons_of_mem _ hr)) _ (h.turn1 hx (hq q (by simp)))
  exact this _ (fun q hq => List.mem_of_mem_take hq) L h
/-- So far: the n-th rest is next. -/
def RunTo (ps : List Phr) (n : Nat) (L : List (List Int)) : Prop := RestOk ps L ∧ n ≤ L.length ∧ runR ps (200 - n) n L = restsR ps
theorem RunTo.start (ps : List Phr) : RunTo ps 0 (seedR ps) := ⟨RestOk.seedI ps ps.length, Nat.zero_le _, rfl⟩
theorem RunTo.bd {ps : List Phr} {n : Nat} {L : List (List Int)} (h : RunTo ps n L) (hb : bookB ps = true) : L.length ≤ 160 ∧ n ≤ 160 := by
  have h1 := h.1.len hb
  have h2 := h.2.1
  omega
theorem RunTo.on {ps : List Phr} {n : Nat} {L : List (List Int)} {x : List Int} (h : RunTo ps n L) (hb : bookB ps = true) (hx : L[n]? = some x) : RunTo ps (n + 1) (turnR ps x L ps.length) := by
  have h0 := h.bd hb
  have hn := (List.getElem?_eq_some_iff.1 hx).1
  have hr := h.1.turnR (h.1.ends x (List.mem_of_getElem? hx)) ps.length
  have hp : L.length ≤ (turnR ps x L ps.length).length := (turnR_pre).length_le
  refine ⟨hr, by omega, ?_⟩
  have h3 := h.2.2
  rw [show 200 - n = (200 - (n + 1)) + 1 by omega, runR_on hx] at h3
  exact h3
theorem RunTo.fin {ps : List Phr} {n : Nat} {L : List (List Int)} (h : RunTo ps n L) (hl : L.length ≤ n) : L = restsR ps := by
  have h3 := h.2.2
  rwa [runR_end hl] at h3
theorem RunTo.sub {ps : List Phr} {n : Nat} {L : List (List Int)} (h : RunTo ps n L) : L <+: restsR ps := by
  rw [← h.2.2]; exact runR_pre _ _ _
/-- While the n-th rest is held against the phrases. -/
theorem RunTo.mid {ps : List Phr} {n : Nat} {L : List (List Int)} {x : List Int} (h : RunTo ps n L) (hb : bookB ps = true) (hx : L[n]? = some x) {j : Nat} (hj : j ≤ ps.length) : turnR ps x L j <+: restsR ps ∧ RestOk ps (turnR ps x L j) ∧ (turnR ps x L j).length ≤ 160 ∧ (turnR ps x L j)[n]? = some x := by
  have hr := h.1.turnR (h.1.ends x (List.mem_of_getElem? hx)) j
  refine ⟨(turnR_mono hj).trans (h.on hb hx).sub, hr, hr.len hb, ?_⟩
  obtain ⟨t, ht⟩ := turnR_pre (ps := ps) (x := x) (L := L) (j := j)
  rw [← ht, List.getElem?_append_left (List.getElem?_eq_some_iff.1 hx).1]
  exact hx
/-- A rest that is a phrase: nothing is left of it. -/
theorem turn1_same {x : List Int} {L : List (List Int)} {y : Phr} (h : x = y.2) : [] ∈ turn1 x L y := by
  unfold turn1
  have hb : begB y.2 x = true := by rw [h]; exact begB_iff.2 (List.prefix_refl _)
  dsimp only
  rw [if_pos hb, show x.drop y.2.length = [] by rw [h]; exact List.drop_length]
  exact putR_mem
theorem turn1_fore {x : List Int} {L : List (List Int)} {y : Phr} (h : x ≠ y.2) (hb : begB x y.2 = true) : turn1 x L y = putR L (y.2.drop x.length) ∧ y.2.drop x.length ≠ [] := by
  have hp := begB_iff.1 hb
  have hlt : x.length < y.2.length := by
    rcases Nat.lt_or_ge x.length y.2.length with h1 | h1
    · exact h1
    · exact absurd (hp.eq_of_length (Nat.le_antisymm hp.length_le h1)) h
  have hn : begB y.2 x = false := by
    cases e : begB y.2 x
    · rfl
    · have := begB_le e; omega
  unfold turn1
  refine ⟨by dsimp only; rw [if_pos hb, hn]; rfl, fun e => ?_⟩
  have := congrArg List.length e
  rw [List.length_drop, List.length_nil] at this
  omega
theorem turn1_aft {x : List Int} {L : List (List Int)} {y : Phr} (hb : begB x y.2 = false) (hb2 : begB y.2 x = true) : turn1 x L y = putR L (x.drop y.2.length) ∧ x.drop y.2.length ≠ [] := by
  have hp := begB_iff.1 hb2
  unfold turn1
  refine ⟨by dsimp only; rw [hb, if_pos hb2]; rfl, fun e => ?_⟩
  have h1 := congrArg List.length e
  rw [List.length_drop, List.length_nil] at h1
  have h2 := hp.eq_of_length (Nat.le_antisymm hp.length_le (by omega))
  rw [h2, begB_iff.2 (List.prefix_refl _)] at hb
  cases hb
theorem turn1_no {x : List Int} {L : List (List Int)} {y : Phr} (hb : begB x y.2 = false) (hb2 : begB y.2 x = false) : turn1 x L y = L := by
  unfold turn1; dsimp only; rw [hb, hb2]; rfl
theorem put_ne {L : List (List Int)} {r : List Int} (h : [] ∉ L) (hr : r ≠ []) : [] ∉ putR L r := by
  unfold putR; split
  · exact h
  · rw [List.mem_append, List.mem_singleton]
    rintro (h1 | h1)
    · exact h h1
    · exact hr h1.symm
theorem seed1_ne {ps : List Phr} (hb : bookB ps = true) {i k : Nat} {x : Phr} {L : List (List Int)} (hx : ps[i]? = some x) (h : [] ∉ L) : [] ∉ seed1 ps i x L k := by
  unfold seed1
  split
  · rename_i y hy
    split
    · rename_i hc
      refine put_ne h fun e => ?_
      have hp := begB_iff.1 hc.2
      have h1 := congrArg List.length e
      rw [List.length_drop, List.length_nil] at h1
      have h2 := hp.eq_of_length (Nat.le_antisymm hp.length_le (by omega))
      rcases Nat.lt_or_gt_of_ne hc.1 with hlt | hlt
      · exact book_sigs hb hx hy hlt h2
      · exact book_sigs hb hy hx hlt h2.symm
    · exact h
  · exact h
theorem seedK_ne {ps : List Phr} (hb : bookB ps = true) {i : Nat} {x : Phr} {L : List (List Int)} (hx : ps[i]? = some x) (h : [] ∉ L) : ∀ j, [] ∉ seedK ps i x L j
  | 0 => h
  | j + 1 => by rw [seedK_succ]; exact seed1_ne hb hx (seedK_ne hb hx h j)
theorem seedI_ne {ps : List Phr} (hb : bookB ps = true) : ∀ i, [] ∉ seedI ps i
  | 0 => by simp [seedI]
  | i + 1 => by
    rw [seedI]
    split
    · rename_i x hx; exact seedK_ne hb hx (seedI_ne hb i) _
    · exact seedI_ne hb i
end Go.Proofs.Ytabiobjcfopakaa
