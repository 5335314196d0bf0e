/- Contracts of the tests whether words are a code, and of the words written one after the other; of the program and of the reference. -/
import Derived.Test.YtabiobjcfopakaaM5
import Derived.Test.YtabiobjcfopakaaC1
namespace Go.Proofs.Ytabiobjcfopakaa
open Go.RowKit
def wordOk (xs : List Int) : Bool := inB xs.length 1 6 && allB xs 0 59
def noClash (xss : List (List Int)) : Bool := (List.range xss.length).all fun i => (List.range xss.length).all fun k => i == k || !begB (xss.getD i []) (xss.getD k [])
def codeB (xss : List (List Int)) : Bool := inB xss.length 1 20 && (xss.all wordOk && noClash xss)
theorem noClash_iff {xss : List (List Int)} : noClash xss = true ↔ ∀ (i k : Nat) (x y : List Int), i ≠ k → xss[i]? = some x → xss[k]? = some y → begB x y = false := by
  unfold noClash
  simp only [List.all_eq_true, List.mem_range, Bool.or_eq_true, beq_iff_eq, Bool.not_eq_true']
  constructor
  · intro h i k x y hne hx hy
    have h1 := (List.getElem?_eq_some_iff.1 hx).1
    have h2 := (List.getElem?_eq_some_iff.1 hy).1
    rcases h i h1 k h2 with e | e
    · exact absurd e hne
    · rw [List.getD_eq_getElem?_getD, List.getD_eq_getElem?_getD, hx, hy] at e; exact e
  · intro h i hi k hk
    by_cases e : i = k
    · exact .inl e
    · right
      have := h i k xss[i] xss[k] e (by simp [hi]) (by simp [hk])
      simpa [List.getD_eq_getElem?_getD, hi, hk] using this
theorem codeB_word {xss : List (List Int)} {i : Nat} {x : List Int} (hx : xss[i]? = some x) (h : wordOk x = false) : codeB xss = false := by
  have : xss.all wordOk = false := by rw [List.all_eq_false]; exact ⟨x, List.mem_of_getElem? hx, by simp [h]⟩
  unfold codeB; rw [this]; simp
theorem codeB_clash {xss : List (List Int)} {i k : Nat} {x y : List Int} (hx : xss[i]? = some x) (hy : xss[k]? = some y) (hne : i ≠ k) (h : begB x y = true) : codeB xss = false := by
  have : noClash xss = false := by
    cases e : noClash xss
    · rfl
    · have := noClash_iff.1 e i k x y hne hx hy
      rw [h] at this; cases this
  unfold codeB; rw [this]; simp
/-- What holds behind i rounds. -/
def CodeUpto (xss : List (List Int)) (i : Nat) : Prop := ∀ (j : Nat) (x : List Int), j < i → xss[j]? = some x → wordOk x = true ∧ ∀ (k : Nat) (y : List Int), j ≠ k → xss[k]? = some y → begB x y = false
theorem codeB_yes {xss : List (List Int)} (h : CodeUpto xss xss.length) (hl : inB xss.length 1 20 = true) : codeB xss = true := by
  unfold codeB
  rw [hl, Bool.true_and, Bool.and_eq_true, List.all_eq_true]
  refine ⟨fun x hx => ?_, noClash_iff.2 fun i k x y hne hx hy => ?_⟩
  · obtain ⟨j, hj⟩ := List.getElem?_of_mem hx
    exact (h j x (List.getElem?_eq_some_iff.1 hj).1 hj).1
  · exact (h i x (List.getElem?_eq_some_iff.1 hx).1 hx).2 k y hne hy
/-- What holds behind i rounds of the reference. -/
def CodeDown (xss : List (List Int)) (i : Nat) : Prop := ∀ (j : Nat) (x : List Int), j < i → xss[j]? = some x → wordOk x = true ∧ ∀ (k : Nat) (y : List Int), k < j → xss[k]? = some y → begB x y = false ∧ begB y x = false
theorem codeB_down {xss : List (List Int)} (h : CodeDown xss xss.length) : codeB xss = inB xss.length 1 20 := by
  cases hl : inB xss.length 1 20
  · unfold codeB; rw [hl]; rfl
  · refine codeB_yes (fun j x hj hx => ⟨(h j x hj hx).1, fun k y hne hy => ?_⟩) hl
    rcases Nat.lt_or_gt_of_ne hne with hlt | hlt
    · exact ((h k y (List.getElem?_eq_some_iff.1 hy).1 hy).2 j x hlt hx).2
    · exact ((h j x hj hx).2 k y hlt hy).1
theorem wordOk_len {xs : List Int} (h : inB xs.length 1 6 = false) : wordOk xs = false := by unfold wordOk; rw [h]; rfl
theorem wordOk_all {xs : List Int} (h : allB xs 0 59 = false) : wordOk xs = false := by unfold wordOk; rw [h]; simp
theorem wordOk_yes {xs : List Int} (h : inB xs.length 1 6 = true) (h2 : allB xs 0 59 = true) : wordOk xs = true := by unfold wordOk; rw [h, h2]; rfl
set_option maxHeartbeats 1600000 in
theorem isCode_any (xss : List (List Int)) (v : Value) (hi : Nat) (w : World) (h : RdII w hi v xss) : Calls Try.prog 204 #[v] w fun e w' => e = .returned (.bool (codeB xss)) ∧ ∃ n, w' = w.drewN n := by
  obtain ⟨A, c, rfl, hm⟩ := h.form
  have H := Lib.hid h
  clear h
  cases hl : inB xss.length 1 20
  · go_enter Try.func204, Try.ntmps204
    go_wp2_with (go_at_call 125; refine (within_any _ _ _ _).mono ?_; rintro e w' ⟨rfl, rfl⟩)
    go_ret
    exact ⟨ret_bool (by unfold codeB; rw [hl]; rfl), 0, rfl⟩
  · have hl20 := inB_iff.1 hl
    go_enter Try.func204, Try.ntmps204
    go_wp2_with (go_at_call 125; refine (within_any _ _ _ _).mono ?_; rintro e w' ⟨rfl, rfl⟩)
    go_loopw [13] (fun i wr => ∃ k : Nat, k ≤ xss.length ∧ i = .int .i64 k ∧ Hid (CodeUpto xss k) ∧ ∃ n, wr = w.drewN n) (fun i _ => xss.length - (intOf i).toNat)
    case atStart => exact ⟨0, Nat.zero_le _, rfl, fun j x hj _ => by omega, 0, rfl⟩
    case round =>
      obtain ⟨i, hi', rfl, hup, n, rfl⟩ := hrel
      by_cases hlt : i < xss.length
      · obtain ⟨b1, o1, c1, a, xs, hv, _, hx, hcell1, hra⟩ := H.out.at_ hlt
        cases hv
        have HA := Lib.hid hra
        have HX := Lib.hid hx
        obtain ⟨A2, c2, rfl, hc2, hm2⟩ := Rd.form hra
        clear hra hx
        cases hw1 : inB xs.length 1 6
        · go_wp2_with (first | (go_at_call 125; refine (within_any _ _ _ _).mono ?_; rintro e w' ⟨rfl, rfl⟩) | (go_at_call 181; refine (allWithin_any xs _ _ _ hi _ (by exact HA.out)).mono ?_; rintro e w' ⟨rfl, rfl⟩))
          go_ret
          exact ⟨ret_bool (codeB_word HX.out (wordOk_len hw1)).symm, _, rfl⟩
        · cases hw2 : allB xs 0 59
          · go_wp2_with (first | (go_at_call 125; refine (within_any _ _ _ _).mono ?_; rintro e w' ⟨rfl, rfl⟩) | (go_at_call 181; refine (allWithin_any xs _ _ _ hi _ (by exact HA.out)).mono ?_; rintro e w' ⟨rfl, rfl⟩))
            go_ret
            exact ⟨ret_bool (codeB_word HX.out (wordOk_all hw2)).symm, _, rfl⟩
          · have HW := Lib.hid (wordOk_yes hw1 hw2)
            go_wp2_with (first | (go_at_call 125; refine (within_any _ _ _ _).mono ?_; rintro e w' ⟨rfl, rfl⟩) | (go_at_call 181; refine (allWithin_any xs _ _ _ hi _ (by exact HA.out)).mono ?_; rintro e w' ⟨rfl, rfl⟩))
            go_loopw [29] (fun i2 wr => ∃ k : Nat, k ≤ xss.length ∧ i2 = .int .i64 k ∧ Hid (∀ (k' : Nat) (y : List Int), k' < k → i ≠ k' → xss[k']? = some y → begB xs y = false) ∧ ∃ n, wr = w.drewN n) (fun i2 _ => xss.length - (intOf i2).toNat)
            case atStart => exact ⟨0, Nat.zero_le _, rfl, fun k y hk _ _ => by omega, _, rfl⟩
            case round =>
              obtain ⟨k, hk, rfl, hin, m, rfl⟩ := hrel
              by_cases hltk : k < xss.length
              · obtain ⟨b3, o3, c3, b, ys, hv, _, hy, hcell3, hrb⟩ := H.out.at_ hltk
                cases hv
                have HB := Lib.hid hrb
                have HY := Lib.hid hy
                obtain ⟨A4, c4, rfl, hc4, hm4⟩ := Rd.form hrb
                clear hrb hy
                by_cases hne : i = k
                · have hne1 : ((i : Int) != (k : Int)) = false := by rw [hne]; simp
                  have HNE := Lib.hid hne
                  clear hne
                  go_wp2_with fail
                  go_roundw
                  case rel => exact ⟨k + 1, by omega, by go_num, fun k' y hk' hn hy => by
                    by_cases e : k' = k
                    · exact absurd (by rw [HNE.out, e]) hn
                    · exact hin.out k' y (by omega) hn hy, _, rfl⟩
                  case measure => simp [intOf]; omega
                · have hne1 : ((i : Int) != (k : Int)) = true := by rw [bne_iff_ne]; omega
                  cases hbg : begB xs ys
                  · have HBG := Lib.hid hbg
                    go_wp2_with fail
                    refine (begins_any xs ys _ _ hi hi _ (by exact HA.out) (by exact HB.out)).mono ?_
                    rw [HBG.out]
                    rintro e w' ⟨rfl, q, rfl⟩
                    go_wp2_with fail
                    go_roundw
                    case rel => exact ⟨k + 1, by omega, by go_num, fun k' y hk' hn hy => by
                      by_cases e : k' = k
                      · subst e; rw [HY.out] at hy; cases hy; exact HBG.out
                      · exact hin.out k' y (by omega) hn hy, _, rfl⟩
                    case measure => simp [intOf]; omega
                  · have HBG := Lib.hid hbg
                    go_wp2_with fail
                    refine (begins_any xs ys _ _ hi hi _ (by exact HA.out) (by exact HB.out)).mono ?_
                    rw [HBG.out]
                    rintro e w' ⟨rfl, q, rfl⟩
                    go_wp2_with fail
                    go_ret
                    exact ⟨ret_bool (codeB_clash HX.out HY.out hne HBG.out).symm, _, rfl⟩
              · obtain rfl : k = xss.length := by omega
                go_wp2_with fail
                go_roundw
                case rel => exact ⟨i + 1, by omega, by go_num, fun j x hj hx => by
                  by_cases e : j = i
                  · subst e; rw [HX.out] at hx; cases hx
                    exact ⟨HW.out, fun k y hn hy => hin.out k y (List.getElem?_eq_some_iff.1 hy).1 hn hy⟩
                  · exact hup.out j x (by omega) hx, _, rfl⟩
                case measure => simp [intOf]; omega
      · obtain rfl : i = xss.length := by omega
        go_wp2_with fail
        go_ret
        exact ⟨ret_bool (codeB_yes hup.out hl).symm, _, rfl⟩
set_option maxHeartbeats 1600000 in
theorem cmCode_any (xss : List (List Int)) (v : Value) (hi : Nat) (w : World) (h : RdII w hi v xss) : Calls Try.prog 205 #[v] w fun e w' => e = .returned (.bool (codeB xss)) ∧ ∃ n, w' = w.drewN n := by
  obtain ⟨A, c, rfl, hm⟩ := h.form
  obtain ⟨us0, hr0, hR0⟩ := h
  obtain ⟨_, _, hcc⟩ := Rd.form hR0
  obtain ⟨hv0, hcap, _⟩ := hcc
  cases hv0
  have H : Hid (RdII w hi (.slice A xss.length c) xss) := ⟨us0, hr0, hR0⟩
  clear hr0 hR0
  go_enter Try.func205, Try.ntmps205
  go_wp2
  go_loopw [9] (fun i wr => ∃ k : Nat, k ≤ xss.length ∧ i = .int .i64 k ∧ Hid (CodeDown xss k) ∧ ∃ n, wr = w.drewN n) (fun i _ => xss.length - (intOf i).toNat)
  case atStart => exact ⟨0, Nat.zero_le _, rfl, fun j x hj _ => by omega, 0, rfl⟩
  case round =>
    obtain ⟨i, hi', rfl, hup, n, rfl⟩ := hrel
    by_cases hlt : i < xss.length
    · obtain ⟨b1, o1, c1, a, xs, hv, _, hx, hcell1, hra⟩ := H.out.at_ hlt
      cases hv
      have HA := Lib.hid hra
      have HX := Lib.hid hx
      obtain ⟨A2, c2, rfl, hc2, hm2⟩ := Rd.form hra
      clear hra hx
      cases hw1 : inB xs.length 1 6
      · go_wp2_with (first | (go_at_call 191; refine (l1In_any _ _ _ _).mono ?_; rintro e w' ⟨rfl, rfl⟩) | (go_at_call 184; refine (l1All_any xs _ _ _ hi _ (by exact HA.out)).mono ?_; rintro e w' ⟨rfl, rfl⟩))
        go_ret
        exact ⟨ret_bool (codeB_word HX.out (wordOk_len hw1)).symm, _, rfl⟩
      · cases hw2 : allB xs 0 59
        · go_wp2_with (first | (go_at_call 191; refine (l1In_any _ _ _ _).mono ?_; rintro e w' ⟨rfl, rfl⟩) | (go_at_call 184; refine (l1All_any xs _ _ _ hi _ (by exact HA.out)).mono ?_; rintro e w' ⟨rfl, rfl⟩))
          go_ret
          exact ⟨ret_bool (codeB_word HX.out (wordOk_all hw2)).symm, _, rfl⟩
        · have HW := Lib.hid (wordOk_yes hw1 hw2)
          go_wp2_with (first | (go_at_call 191; refine (l1In_any _ _ _ _).mono ?_; rintro e w' ⟨rfl, rfl⟩) | (go_at_call 184; refine (l1All_any xs _ _ _ hi _ (by exact HA.out)).mono ?_; rintro e w' ⟨rfl, rfl⟩))
          go_loopw [27] (fun i2 wr => ∃ k : Nat, k ≤ i ∧ i2 = .int .i64 k ∧ Hid (∀ (k' : Nat) (y : List Int), k' < k → xss[k']? = some y → begB xs y = false ∧ begB y xs = false) ∧ ∃ n, wr = w.drewN n) (fun i2 _ => xss.length - (intOf i2).toNat)
          case atStart => exact ⟨0, Nat.zero_le _, rfl, fun k y hk _ => by omega, _, rfl⟩
          case round =>
            obtain ⟨k, hk, rfl, hin, m, rfl⟩ := hrel
            by_cases hltk : k < i
            · obtain ⟨b3, o3, c3, b, ys, hv, _, hy, hcell3, hrb⟩ := H.out.at_ (show k < xss.length by omega)
              cases hv
              have HB := Lib.hid hrb
              have HY := Lib.hid hy
              obtain ⟨A4, c4, rfl, hc4, hm4⟩ := Rd.form hrb
              clear hrb hy
              cases hbg : begB xs ys
              · have HBG := Lib.hid hbg
                cases hbh : begB ys xs
                · have HBH := Lib.hid hbh
                  go_wp2_with fail
                  refine (bkBegins_any xs ys _ _ hi hi _ (by exact HA.out) (by exact HB.out)).mono ?_
                  rw [HBG.out]
                  rintro e w' ⟨rfl, q, rfl⟩
                  go_wp2_with fail
                  refine (bkBegins_any ys xs _ _ hi hi _ (by exact HB.out) (by exact HA.out)).mono ?_
                  rw [HBH.out]
                  rintro e w' ⟨rfl, q2, rfl⟩
                  go_wp2_with fail
                  go_roundw
                  case rel => exact ⟨k + 1, by omega, by go_num, fun k' y hk' hy => by
                    by_cases e : k' = k
                    · subst e; rw [HY.out] at hy; cases hy; exact ⟨HBG.out, HBH.out⟩
                    · exact hin.out k' y (by omega) hy, _, rfl⟩
                  case measure => simp [intOf]; omega
                · have HBH := Lib.hid hbh
                  go_wp2_with fail
                  refine (bkBegins_any xs ys _ _ hi hi _ (by exact HA.out) (by exact HB.out)).mono ?_
                  rw [HBG.out]
                  rintro e w' ⟨rfl, q, rfl⟩
                  go_wp2_with fail
                  refine (bkBegins_any ys xs _ _ hi hi _ (by exact HB.out) (by exact HA.out)).mono ?_
                  rw [HBH.out]
                  rintro e w' ⟨rfl, q2, rfl⟩
                  go_wp2_with fail
                  go_ret
                  exact ⟨ret_bool (codeB_clash HY.out HX.out (by omega) HBH.out).symm, _, rfl⟩
              · have HBG := Lib.hid hbg
                go_wp2_with fail
                refine (bkBegins_any xs ys _ _ hi hi _ (by exact HA.out) (by exact HB.out)).mono ?_
                rw [HBG.out]
                rintro e w' ⟨rfl, q, rfl⟩
                go_wp2_with fail
                go_ret
                exact ⟨ret_bool (codeB_clash HX.out HY.out (by omega) HBG.out).symm, _, rfl⟩
            · obtain rfl : k = i := by omega
              go_wp2_with fail
              go_roundw
              case rel => exact ⟨k + 1, by omega, by go_num, fun j x hj hx => by
                by_cases e : j = k
                · subst e; rw [HX.out] at hx; cases hx
                  exact ⟨HW.out, fun k y hn hy => hin.out k y hn hy⟩
                · exact hup.out j x (by omega) hx, _, rfl⟩
              case measure => simp [intOf]; omega
    · obtain rfl : i = xss.length := by omega
      go_wp2_with fail
      refine (l1In_any _ _ _ _).mono ?_
      rintro e w' ⟨rfl, rfl⟩
      go_wp2
      go_ret
      exact ⟨ret_bool (codeB_down hup.out).symm, _, rfl⟩
/-- The words of the indices, one after the other. -/
def wordsI (xss : List (List Int)) (is : List Int) : List Int := is.flatMap fun i => xss.getD i.toNat []
theorem wordsI_step {xss : List (List Int)} {is : List Int} {k i : Nat} {xs : List Int} (h : is[k]? = some (i : Int)) (hx : xss[i]? = some xs) : wordsI xss (is.take (k + 1)) = wordsI xss (is.take k) ++ xs := by
  unfold wordsI
  rw [take_snocI h, List.flatMap_append]
  simp [List.getD_eq_getElem?_getD, hx]
theorem wordsI_len {xss : List (List Int)} (hb : ∀ (j : Nat) (x : List Int), xss[j]? = some x → x.length ≤ 6) (is : List Int) : (wordsI xss is).length ≤ 6 * is.length := by
  induction is with
  | nil => simp [wordsI]
  | cons i r ih =>
    unfold wordsI at *
    simp only [List.flatMap_cons, List.length_append, List.length_cons]
    have : (xss.getD i.toNat []).length ≤ 6 := by
      rw [List.getD_eq_getElem?_getD]
      cases h : xss[i.toNat]? with
      | none => simp
      | some x => exact hb _ x h
    omega
theorem codeB_len {xss : List (List Int)} (h : codeB xss = true) : (1 ≤ xss.length ∧ xss.length ≤ 20) ∧ ∀ (j : Nat) (x : List Int), xss[j]? = some x → (1 ≤ x.length ∧ x.length ≤ 6) ∧ allB x 0 59 = true := by
  unfold codeB at h
  rw [Bool.and_eq_true, Bool.and_eq_true, List.all_eq_true] at h
  have h1 := inB_iff.1 h.1
  refine ⟨⟨by omega, by omega⟩, fun j x hx => ?_⟩
  have h2 := h.2.1 x (List.mem_of_getElem? hx)
  unfold wordOk at h2
  rw [Bool.and_eq_true] at h2
  have h3 := inB_iff.1 h2.1
  exact ⟨⟨by omega, by omega⟩, h2.2⟩
def writeB (xss : List (List Int)) (is : List Int) : Bool := codeB xss && (decide (is.length ≤ 30) && allB is 0 ((xss.length : Int) - 1))
def writeL (xss : List (List Int)) (is : List Int) : List Int := if writeB xss is then wordsI xss is else []
theorem writeL_len (xss : List (List Int)) (is : List Int) : (writeL xss is).length ≤ 180 := by
  unfold writeL
  split
  · rename_i h
    unfold writeB at h
    simp only [Bool.and_eq_true, decide_eq_true_eq] at h
    have h1 := (codeB_len h.1).2
    have := wordsI_len (fun j x hx => (h1 j x hx).1.2) is
    omega
  · simp
set_option maxHeartbeats 1600000 in
theorem WriteWords_any (xss : List (List Int)) (is : List Int) (v u : Value) (hi hj : Nat) (w : World) (h : RdII w hi v xss) (g : RdI w hj u is) (hh : hi ≤ w.heap.size) (hg : hj ≤ w.heap.size) :
    Calls Try.prog 112 #[v, u] w (RetOwT (writeL xss is) (writeB xss is) w) := by
  obtain ⟨A, c, rfl, hm⟩ := h.form
  obtain ⟨A', c', rfl, hc', hm'⟩ := Rd.form g
  have H := Lib.hid h
  have HI := Lib.hid g
  clear h g
  cases hcode : codeB xss
  · have e : writeL xss is = [] ∧ writeB xss is = false := by simp [writeL, writeB, hcode]
    rw [e.1, e.2]; clear e
    go_enter Try.func112, Try.ntmps112
    go_wp2_with fail
    refine (isCode_any xss _ hi _ H.out).mono ?_
    rw [hcode]
    rintro e w' ⟨rfl, n, rfl⟩
    go_wp2_with fail
    go_ret2
    exact ⟨_, rfl, owI_nil _ _ _, bel_drewN _ _ _⟩
  · by_cases hlen : is.length ≤ 30
    · cases hall : allB is 0 ((xss.length : Int) - 1)
      · have e : writeL xss is = [] ∧ writeB xss is = false := by simp [writeL, writeB, hall]
        rw [e.1, e.2]; clear e
        have hcl := (codeB_len hcode).1
        go_enter Try.func112, Try.ntmps112
        go_wp2_with fail
        refine (isCode_any xss _ hi _ H.out).mono ?_
        rw [hcode]
        rintro e w' ⟨rfl, n, rfl⟩
        go_wp2_with (go_at_call 181; refine (allWithin_any is _ _ _ hj _ (by exact HI.out)).mono ?_; rintro e w' ⟨rfl, rfl⟩)
        go_ret2
        exact ⟨_, rfl, owI_nil _ _ _, bel_drewN _ _ _⟩
      · have e : writeL xss is = wordsI xss is ∧ writeB xss is = true := by simp [writeL, writeB, hcode, hlen, hall]
        rw [e.1, e.2]; clear e
        obtain ⟨hcl, hcw⟩ := codeB_len hcode
        have HCW := Lib.hid hcw
        have HALL := Lib.hid hall
        clear hcw
        go_enter Try.func112, Try.ntmps112
        go_wp2_with fail
        refine (isCode_any xss _ hi _ H.out).mono ?_
        rw [hcode]
        rintro e w' ⟨rfl, n, rfl⟩
        go_wp2_with (go_at_call 181; refine (allWithin_any is _ _ _ hj _ (by exact HI.out)).mono ?_; rintro e w' ⟨rfl, rfl⟩)
        clear hall hcode
        go_loopw [6, 27] (fun s i wr => ∃ (k : Nat), k ≤ is.length ∧ i = .int .i64 k ∧ GrowI w w.heap.size wr s (wordsI xss (is.take k))) (fun _ i _ => is.length - (intOf i).toNat)
        case atStart => exact ⟨0, Nat.zero_le _, rfl, GrowI.nil (bel_drewN _ _ _)⟩
        case round =>
          obtain ⟨k, hk, rfl, hG⟩ := hrel
          by_cases hlt : k < is.length
          · obtain ⟨b1, o1, c1, y, hv, _, hy, hcell1⟩ := Rd.at_ (Rd.below HI.out hG.bel hg) hlt
            cases hv
            have hyb := allB_mem hy HALL.out
            obtain ⟨y, rfl⟩ := Int.eq_ofNat_of_zero_le hyb.1
            obtain ⟨b2, o2, c2, a, xs, hv, _, hx, hcell2, hra⟩ := (H.out.below hG.bel hh).at_ (show y < xss.length by omega)
            cases hv
            have hst := wordsI_step hy hx
            have hwl := wordsI_len (fun j x hx => (HCW.out j x hx).1.2) (is.take k)
            have hxl := (HCW.out y xs hx).1.2
            have htk : (is.take k).length ≤ k := by rw [List.length_take]; omega
            have HS := Lib.hid hst
            have HRA := Lib.hid hra
            clear hst hy hx hra
            go_wp2_with (at_builtin; refine GrowI.appI rfl (.tmp 31) (.tmp 35) rfl hG HRA.out (by omega) rfl rfl ?_; intro v' w2 hG')
            go_roundw
            case rel => exact ⟨k + 1, by omega, by go_num, by rw [HS.out]; exact hG'⟩
            case measure => simp [intOf]; omega
          · obtain rfl : k = is.length := by omega
            rw [List.take_of_length_le (Nat.le_refl _)] at hG
            go_wp2_with fail
            go_ret2
            exact retOwT true hG
    · have e : writeL xss is = [] ∧ writeB xss is = false := by simp [writeL, writeB, hlen]
      rw [e.1, e.2]; clear e
      go_enter Try.func112, Try.ntmps112
      go_wp2_with fail
      refine (isCode_any xss _ hi _ H.out).mono ?_
      rw [hcode]
      rintro e w' ⟨rfl, n, rfl⟩
      go_wp2_with fail
      go_ret2
      exact ⟨_, rfl, owI_nil _ _ _, bel_drewN _ _ _⟩
set_option maxHeartbeats 1600000 in
theorem sWriteWords_any (xss : List (List Int)) (is : List Int) (v u : Value) (hi hj : Nat) (w : World) (h : RdII w hi v xss) (g : RdI w hj u is) (hh : hi ≤ w.heap.size) (hg : hj ≤ w.heap.size) :
    Calls Try.prog 113 #[v, u] w (RetOwT (writeL xss is) (writeB xss is) w) := by
  obtain ⟨A, c, rfl, hm⟩ := h.form
  obtain ⟨A', c', rfl, hc', hm'⟩ := Rd.form g
  have H := Lib.hid h
  have HI := Lib.hid g
  clear h g
  cases hcode : codeB xss
  · have e : writeL xss is = [] ∧ writeB xss is = false := by simp [writeL, writeB, hcode]
    rw [e.1, e.2]; clear e
    go_enter Try.func113, Try.ntmps113
    go_wp2_with fail
    refine (cmCode_any xss _ hi _ H.out).mono ?_
    rw [hcode]
    rintro e w' ⟨rfl, n, rfl⟩
    go_wp2_with fail
    go_ret2
    exact ⟨_, rfl, owI_nil _ _ _, bel_drewN _ _ _⟩
  · by_cases hlen : is.length ≤ 30
    · cases hall : allB is 0 ((xss.length : Int) - 1)
      · have e : writeL xss is = [] ∧ writeB xss is = false := by simp [writeL, writeB, hall]
        rw [e.1, e.2]; clear e
        have hcl := (codeB_len hcode).1
        go_enter Try.func113, Try.ntmps113
        go_wp2_with fail
        refine (cmCode_any xss _ hi _ H.out).mono ?_
        rw [hcode]
        rintro e w' ⟨rfl, n, rfl⟩
        go_wp2_with (go_at_call 184; refine (l1All_any is _ _ _ hj _ (by exact HI.out)).mono ?_; rintro e w' ⟨rfl, rfl⟩)
        go_ret2
        exact ⟨_, rfl, owI_nil _ _ _, bel_drewN _ _ _⟩
      · have e : writeL xss is = wordsI xss is ∧ writeB xss is = true := by simp [writeL, writeB, hcode, hlen, hall]
        rw [e.1, e.2]; clear e
        obtain ⟨hcl, hcw⟩ := codeB_len hcode
        have HCW := Lib.hid hcw
        have HALL := Lib.hid hall
        clear hcw
        go_enter Try.func113, Try.ntmps113
        go_wp2_with fail
        refine (cmCode_any xss _ hi _ H.out).mono ?_
        rw [hcode]
        rintro e w' ⟨rfl, n, rfl⟩
        go_wp2_with (go_at_call 184; refine (l1All_any is _ _ _ hj _ (by exact HI.out)).mono ?_; rintro e w' ⟨rfl, rfl⟩)
        clear hall hcode
        go_loopw [6, 27] (fun s i wr => ∃ (k : Nat), k ≤ is.length ∧ i = .int .i64 k ∧ GrowI w w.heap.size wr s (wordsI xss (is.take k))) (fun _ i _ => is.length - (intOf i).toNat)
        case atStart => exact ⟨0, Nat.zero_le _, rfl, GrowI.nil (bel_drewN _ _ _)⟩
        case round =>
          obtain ⟨k, hk, rfl, hG⟩ := hrel
          by_cases hlt : k < is.length
          · obtain ⟨b1, o1, c1, y, hv, _, hy, hcell1⟩ := Rd.at_ (Rd.below HI.out hG.bel hg) hlt
            cases hv
            have hyb := allB_mem hy HALL.out
            obtain ⟨y, rfl⟩ := Int.eq_ofNat_of_zero_le hyb.1
            obtain ⟨b2, o2, c2, a, xs, hv, _, hx, hcell2, hra⟩ := (H.out.below hG.bel hh).at_ (show y < xss.length by omega)
            cases hv
            have hst := wordsI_step hy hx
            have hwl := wordsI_len (fun j x hx => (HCW.out j x hx).1.2) (is.take k)
            have hxl := (HCW.out y xs hx).1.2
            have htk : (is.take k).length ≤ k := by rw [List.length_take]; omega
            have HS := Lib.hid hst
            have HRA := Lib.hid hra
            clear hst hy hx hra
            go_wp2_with (at_builtin; refine GrowI.appI rfl (.tmp 31) (.tmp 35) rfl hG HRA.out (by omega) rfl rfl ?_; intro v' w2 hG')
            go_roundw
            case rel => exact ⟨k + 1, by omega, by go_num, by rw [HS.out]; exact hG'⟩
            case measure => simp [intOf]; omega
          · obtain rfl : k = is.length := by omega
            rw [List.take_of_length_le (Nat.le_refl _)] at hG
            go_wp2_with fail
            go_ret2
            exact retOwT true hG
    · have e : writeL xss is = [] ∧ writeB xss is = false := by simp [writeL, writeB, hlen]
      rw [e.1, e.2]; clear e
      go_enter Try.func113, Try.ntmps113
      go_wp2_with fail
      refine (cmCode_any xss _ hi _ H.out).mono ?_
      rw [hcode]
      rintro e w' ⟨rfl, n, rfl⟩
      go_wp2_with fail
      go_ret2
      exact ⟨_, rfl, owI_nil _ _ _, bel_drewN _ _ _⟩
end Go.Proofs.Ytabiobjcfopakaa
