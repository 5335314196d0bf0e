/- Contracts: LeastLengths and LeastCost of the reference. -/
import Derived.Test.YtabiobjcfopakaaR18
namespace Go.Proofs.Ytabiobjcfopakaa
open Go.RowKit
theorem cmAsked_any (ls : List Int) (r l : Int) (v : Value) (hi : Nat) (w : World) (h : RdI w hi v ls) : Calls Try.prog 163 #[v, .int .i64 r, .int .i64 l] w fun e w' => e = .returned (.bool (askB ls r l)) ∧ w = w' := by
  obtain ⟨A, c, rfl, hc, hm⟩ := Rd.form h
  have H := Lib.hid h
  clear h
  cases h1 : weightsB ls
  · go_enter Try.func163, Try.ntmps163
    go_wp2_with (first | (go_at_call 190; refine (cmWeights_any ls _ hi _ H.out).mono ?_; rintro e w' ⟨rfl, rfl⟩) | (go_at_call 152; refine (cmBase_any _ _).mono ?_; rintro e w' ⟨rfl, rfl⟩) | (go_at_call 191; refine (l1In_any _ _ _ _).mono ?_; rintro e w' ⟨rfl, rfl⟩))
    go_ret
    exact ⟨ret_bool (by unfold askB; rw [h1]; rfl), rfl⟩
  · cases h2 : inB r 2 60
    · go_enter Try.func163, Try.ntmps163
      go_wp2_with (first | (go_at_call 190; refine (cmWeights_any ls _ hi _ H.out).mono ?_; rintro e w' ⟨rfl, rfl⟩) | (go_at_call 152; refine (cmBase_any _ _).mono ?_; rintro e w' ⟨rfl, rfl⟩) | (go_at_call 191; refine (l1In_any _ _ _ _).mono ?_; rintro e w' ⟨rfl, rfl⟩))
      go_ret
      exact ⟨ret_bool (by unfold askB; rw [h1, h2]; rfl), rfl⟩
    · go_enter Try.func163, Try.ntmps163
      go_wp2_with (first | (go_at_call 190; refine (cmWeights_any ls _ hi _ H.out).mono ?_; rintro e w' ⟨rfl, rfl⟩) | (go_at_call 152; refine (cmBase_any _ _).mono ?_; rintro e w' ⟨rfl, rfl⟩) | (go_at_call 191; refine (l1In_any _ _ _ _).mono ?_; rintro e w' ⟨rfl, rfl⟩))
      go_ret
      exact ⟨ret_bool (by unfold askB; rw [h1, h2]; simp), rfl⟩
theorem leastB_no {ws : List Int} {r l : Int} (h : askB ws r l = false) : leastB ws r l = false := by
  unfold leastB leastC; rw [h]; rfl
theorem sLeastLengths_any (ls : List Int) (r l : Int) (v : Value) (hi : Nat) (w : World) (h : RdI w hi v ls) (hh : hi ≤ w.heap.size) : Calls Try.prog 61 #[v, .int .i64 r, .int .i64 l] w (RetOwT (leastL ls r l) (leastB ls r l) w) := by
  have cA := cmAsked_any ls r l v hi w h
  cases ha : askB ls r l
  · rw [ha] at cA
    have CA := Lib.hid cA
    obtain ⟨A, c, rfl, hc, hm⟩ := Rd.form h
    have HN := Lib.hid (leastB_no ha)
    clear cA h ha
    go_enter Try.func61, Try.ntmps61
    go_wp2_with (go_at_call 163; refine (CA.out).mono ?_; rintro e w' ⟨rfl, rfl⟩)
    go_ret2
    rw [leastL_no HN.out, HN.out]
    exact retOwT _ (GrowI.nil (Below.refl _ _))
  · rw [ha] at cA
    have CA := Lib.hid cA
    obtain ⟨_, _, hr, hl⟩ := askB_iff.1 ha
    obtain ⟨r, rfl⟩ := Int.eq_ofNat_of_zero_le (show 0 ≤ r by omega)
    obtain ⟨l, rfl⟩ := Int.eq_ofNat_of_zero_le (show 0 ≤ l by omega)
    have CL := Lib.hid (cmLengths_any ls r l v hi w h hh ha)
    obtain ⟨A, c, rfl, hc, hm⟩ := Rd.form h
    clear cA h ha
    go_enter Try.func61, Try.ntmps61
    go_wp2_with (go_at_call 163; refine (CA.out).mono ?_; rintro e w' ⟨rfl, rfl⟩)
    refine CL.out.mono ?_
    rintro e w1 ⟨u, rfl, hu, hb⟩
    obtain ⟨A2, c2, rfl, _⟩ := hu.form
    have HU := Lib.hid hu
    have HB := Lib.hid hb
    clear hu hb
    go_wp2_with fail
    go_ret2
    exact ⟨_, ret_val rfl, HU.out, HB.out⟩
theorem sLeastCost_any (ls : List Int) (r l : Int) (v : Value) (hi : Nat) (w : World) (h : RdI w hi v ls) (hh : hi ≤ w.heap.size) : Calls Try.prog 64 #[v, .int .i64 r, .int .i64 l] w fun e w' => e = .returned (lcostV ls r l) ∧ Below w.heap.size w w' := by
  have cA := cmAsked_any ls r l v hi w h
  cases ha : askB ls r l
  · rw [ha] at cA
    have CA := Lib.hid cA
    obtain ⟨A, c, rfl, hc, hm⟩ := Rd.form h
    have HV : Hid (lcostV ls r l = .tuple #[.int .i64 0, .bool false]) := by show _ = _; unfold lcostV; rw [leastB_no ha]; rfl
    clear cA h ha
    go_enter Try.func64, Try.ntmps64
    go_wp2_with (go_at_call 163; refine (CA.out).mono ?_; rintro e w' ⟨rfl, rfl⟩)
    go_ret2
    exact ⟨ret_val HV.out.symm, Below.refl _ _⟩
  · rw [ha] at cA
    have CA := Lib.hid cA
    obtain ⟨_, _, hr, hl⟩ := askB_iff.1 ha
    obtain ⟨r, rfl⟩ := Int.eq_ofNat_of_zero_le (show 0 ≤ r by omega)
    obtain ⟨l, rfl⟩ := Int.eq_ofNat_of_zero_le (show 0 ≤ l by omega)
    have cL := cmLengths_any ls r l v hi w h hh ha
    have HW : Hid (weightsB ls = true) := by
      show _ = _
      unfold askB at ha
      simp only [Bool.and_eq_true] at ha
      exact ha.1.1
    obtain ⟨A, c, rfl, hc, hm⟩ := Rd.form h
    have H := Lib.hid h
    cases hb : leastB ls (r : Int) (l : Int)
    · rw [hb] at cL
      have CL := Lib.hid cL
      have HV : Hid (lcostV ls (r : Int) (l : Int) = .tuple #[.int .i64 0, .bool false]) := by show _ = _; unfold lcostV; rw [hb]; rfl
      clear cL cA h ha hb
      go_enter Try.func64, Try.ntmps64
      go_wp2_with (go_at_call 163; refine (CA.out).mono ?_; rintro e w' ⟨rfl, rfl⟩)
      refine CL.out.mono ?_
      rintro e w1 ⟨u, rfl, hu, hb⟩
      obtain ⟨A2, c2, rfl, _⟩ := hu.form
      have HB := Lib.hid hb
      clear hu hb
      go_wp2_with fail
      go_ret2
      exact ⟨ret_val HV.out.symm, HB.out⟩
    · rw [hb] at cL
      have CL := Lib.hid cL
      have HV : Hid (lcostV ls (r : Int) (l : Int) = .tuple #[.int .i64 (dotI ls (leastL ls (r : Int) (l : Int))), .bool true]) := by show _ = _; unfold lcostV; rw [hb]; rfl
      have HOK := Lib.hid (leastL_ok hb)
      clear cL cA h ha hb
      go_enter Try.func64, Try.ntmps64
      go_wp2_with (go_at_call 163; refine (CA.out).mono ?_; rintro e w' ⟨rfl, rfl⟩)
      refine CL.out.mono ?_
      rintro e w1 ⟨u, rfl, hu, hb⟩
      obtain ⟨A2, c2, rfl, _⟩ := hu.form
      have HB := Lib.hid hb
      have CC := Lib.hid (cmCost_any ls (leastL ls (r : Int) (l : Int)) _ _ hi w1.heap.size w1 (RdI.below H.out hb hh) hu.rd HW.out HOK.out.1 HOK.out.2.1.symm)
      clear hu hb
      go_wp2_with (first | (go_at_call 166; refine (CC.out).mono ?_; rintro e w' ⟨rfl, rfl⟩))
      go_ret2
      exact ⟨ret_val HV.out.symm, HB.out⟩
end Go.Proofs.Ytabiobjcfopakaa
