/- Texts of one claim, joined: VSignalLists. -/
import Derived.Deep.DeepCutAuto
import Derived.Deep.CutBlock
import Derived.Test.YtjnkdjokbamibaaGreatDoorP6SignalLists
/- The walk of the law FnSignalLists. -/
namespace Go.Proofs.YtjnkdjokbamibaaGreatDoor.fnSignalLists
open Go.ChangeShapes Go.WideShapes Go.ChangeAt Go.RowKit
open Go.ChangeMaps (open_string)
set_option linter.unusedVariables false
set_option maxHeartbeats 20000000 in
set_option maxRecDepth 100000 in
theorem walk (v0 : Value) (xs0 : List UInt8) (v1 : Value) (xs1 : List UInt8) (w : World) (hLW0 : LW w) (hr0 : RdU w w.heap.size v0 xs0) (hr1 : RdU w w.heap.size v1 xs1) : Calls Tryz.prog 3 #[v0, v1] w fun e w' => e = .returned (.bool true) ∧ Below w.heap.size w w' := by
  obtain ⟨A0, c0, rfl, hc0, hm0⟩ := Rd.form hr0
  obtain ⟨A1, c1, rfl, hc1, hm1⟩ := Rd.form hr1
  have cb := big_any xs0 xs1 _ _ _ _ w hr0 hr1
  have HLW := Lib.hid hLW0
  clear hLW0
  have H0 := Lib.hid hr0
  have H1 := Lib.hid hr1
  clear hr0 hr1
  cases hbig : (decide (1048576 < xs0.length) || decide (1048576 - (xs0.length : Int) < xs1.length))
  · rw [hbig] at cb
    have CB := Lib.hid cb
    clear cb hbig
    go_enter Tryz.func3, Tryz.ntmps3
    go_wp2_with fail
    refine CB.out.mono ?_
    rintro e _ ⟨rfl, rfl⟩
    clear CB
    go_wp2_with fail
    refine (DrawSignalsText_any xs0 _ w.heap.size w H0.out (Nat.le_refl _)).mono ?_
    rintro e w1 ⟨u2, xs, rfl, hn1, fx, hb1⟩
    obtain ⟨A2, c2, rfl, _, _⟩ := Rd.form fx
    have hw1 : Below w.heap.size w w1 := hb1
    have hs1 : w.heap.size ≤ w1.heap.size := hw1.size
    have hB1 : Below w.heap.size w w1 := hw1.mono (by omega)
    have H0_1 : RdU w1 w.heap.size (.slice A0 xs0.length c0) xs0 := H0.out.below hw1 (by omega)
    have H1_1 : RdU w1 w.heap.size (.slice A1 xs1.length c1) xs1 := H1.out.below hw1 (by omega)
    clear H0_1
    obtain ⟨ok, HOK⟩ : ∃ ok, Hid (sigsB xs = ok) := ⟨_, rfl⟩
    obtain ⟨st, HST⟩ : ∃ st, Hid (lineV xs = .tuple #[.string st, .bool ok] ∧ (ok = true → st = ⟨(numsT 32 xs).toArray⟩)) := by
      show ∃ st, _ ∧ _; unfold lineV; rw [HOK.out]; cases ok
      · exact ⟨_, rfl, fun h => by cases h⟩
      · exact ⟨_, rfl, fun _ => rfl⟩
    obtain ⟨mv, HMV⟩ : ∃ mv : Int, Hid (movesT xs = .tuple #[.int .i64 mv, .bool ok] ∧ (ok = true → 0 ≤ mv ∧ mv ≤ 700 ∧ mv % 2 = 0)) := by
      show ∃ mv : Int, _ ∧ _; unfold movesT; rw [HOK.out]; cases ok
      · exact ⟨_, rfl, fun h => by cases h⟩
      · refine ⟨_, rfl, fun _ => ?_⟩
        have h1 := moves_even HOK.out
        have h2 := movesM_le 0 (xs ++ [0])
        simp at h2
        omega
    have k10 := (by have h := SignalsText_any xs _ _ w1 fx (by omega); rw [HST.out.1] at h; exact h : Calls Tryz.prog 7 #[.slice A2 xs.length c2] w1 fun e w' => e = .returned (.tuple #[.string st, .bool ok]) ∧ Below w1.heap.size w1 w')
    have K1 := Lib.hid k10
    clear k10
    go_wp2_with fail
    refine (K1.out).mono ?_
    rintro e w2 ⟨rfl, hb2⟩
    have hw2 : Below w1.heap.size w1 w2 := hb2
    have hs2 : w1.heap.size ≤ w2.heap.size := hw2.size
    have hB2 : Below w.heap.size w w2 := hB1.trans (hw2.mono (by omega))
    have H1_2 : RdU w2 w.heap.size (.slice A1 xs1.length c1) xs1 := H1_1.below hw2 (by omega)
    clear H1_1
    have fx_2 : RdI w2 w1.heap.size (.slice A2 xs.length c2) xs := fx.below hw2 (by omega)
    clear fx
    clear K1
    have k20 := (by have h := sSignalsText_any xs _ _ w2 fx_2 (by omega); rw [HST.out.1] at h; exact h : Calls Tryz.prog 8 #[.slice A2 xs.length c2] w2 fun e w' => e = .returned (.tuple #[.string st, .bool ok]) ∧ Below w2.heap.size w2 w')
    have K2 := Lib.hid k20
    clear k20
    go_wp2_with fail
    refine (K2.out).mono ?_
    rintro e w3 ⟨rfl, hb3⟩
    have hw3 : Below w2.heap.size w2 w3 := hb3
    have hs3 : w2.heap.size ≤ w3.heap.size := hw3.size
    have hB3 : Below w.heap.size w w3 := hB2.trans (hw3.mono (by omega))
    have H1_3 : RdU w3 w.heap.size (.slice A1 xs1.length c1) xs1 := H1_2.below hw3 (by omega)
    clear H1_2
    have fx_3 : RdI w3 w1.heap.size (.slice A2 xs.length c2) xs := fx_2.below hw3 (by omega)
    clear fx_2
    clear K2
    have k30 := (by have h := MovementsOf_any xs _ _ w3 fx_3; rw [HMV.out.1] at h; exact h : Calls Tryz.prog 9 #[.slice A2 xs.length c2] w3 fun e w' => e = .returned (.tuple #[.int .i64 (mv), .bool ok]) ∧ w3 = w')
    have K3 := Lib.hid k30
    clear k30
    go_wp2_with fail
    refine (K3.out).mono ?_
    rintro e w' ⟨rfl, rfl⟩
    clear K3
    have k40 := (by have h := sMovementsOf_any xs _ _ w3 fx_3 (by omega); rw [HMV.out.1] at h; exact h : Calls Tryz.prog 10 #[.slice A2 xs.length c2] w3 fun e w' => e = .returned (.tuple #[.int .i64 (mv), .bool ok]) ∧ Below w3.heap.size w3 w')
    have K4 := Lib.hid k40
    clear k40
    go_wp2_with fail
    refine (K4.out).mono ?_
    rintro e w4 ⟨rfl, hb4⟩
    have hw4 : Below w3.heap.size w3 w4 := hb4
    have hs4 : w3.heap.size ≤ w4.heap.size := hw4.size
    have hB4 : Below w.heap.size w w4 := hB3.trans (hw4.mono (by omega))
    have H1_4 : RdU w4 w.heap.size (.slice A1 xs1.length c1) xs1 := H1_3.below hw4 (by omega)
    clear H1_3
    have fx_4 : RdI w4 w1.heap.size (.slice A2 xs.length c2) xs := fx_3.below hw4 (by omega)
    clear fx_3
    clear K4
    go_upto_if 89 with fail
    go_cut [14] (fun s wx => Hid (Below w4.heap.size w4 wx))
    case first => as_aux_lemma =>
      clear H1_4
      cases ok
      · go_wp2_with fail
        go_meet
        exact Below.refl _ _
      · have hst := HST.out.2 rfl
        have hm3 := HMV.out.2 rfl
        obtain ⟨hm0, hm1, hm2⟩ := hm3
        have HRO : Hid (readO st.data.toList = some xs) := by show _ = _; rw [hst]; exact readO_iff.2 ⟨HOK.out, rfl⟩
        have hss : st.size ≤ 1048576 := by
          have h1 := numsT_len (c := 32) (sigs_all HOK.out)
          have h2 : st.size = (numsT 32 xs).length := by rw [hst]; show (numsT 32 xs).toArray.size = _; simp
          omega
        have HRV : Hid (movesT xs.reverse = .tuple #[.int .i64 mv, .bool true]) := by show _ = _; rw [movesT_rev HOK.out]; exact HMV.out.1
        clear hst
        have k50 := (by have h := ReadSignals_any st hss w4 (HLW.out.below hB4); rw [HRO.out] at h; exact h : Calls Tryz.prog 11 #[.string st] w4 (RetOwT (xs) true w4))
        have K5 := Lib.hid k50
        clear k50
        go_wp2_with fail
        refine (K5.out).mono ?_
        rintro e w5 ⟨bk, rfl, fbk, hb5⟩
        obtain ⟨Abk, cbk, rfl, _⟩ := fbk.form
        have fbk_5 : RdI w5 w5.heap.size (.slice Abk (xs).length cbk) (xs) := fbk.rd
        clear fbk
        have hw5 : Below w4.heap.size w4 w5 := hb5
        have hs5 : w4.heap.size ≤ w5.heap.size := hw5.size
        have hB5 : Below w.heap.size w w5 := hB4.trans (hw5.mono (by omega))
        have fx_5 : RdI w5 w1.heap.size (.slice A2 xs.length c2) xs := fx_4.below hw5 (by omega)
        clear fx_4
        clear K5
        go_wp2_with fail
        refine (sameInts_eqB _ _ _ _ _ _ fbk_5 fx_5).mono ?_
        rintro e w6 ⟨rfl, hb6⟩
        have hw6 : Below w5.heap.size w5 w6 := hb6
        have hs6 : w5.heap.size ≤ w6.heap.size := hw6.size
        have hB6 : Below w.heap.size w w6 := hB5.trans (hw6.mono (by omega))
        have fx_6 : RdI w6 w1.heap.size (.slice A2 xs.length c2) xs := fx_5.below hw6 (by omega)
        clear fx_5
        have fbk_6 : RdI w6 w5.heap.size (.slice Abk (xs).length cbk) (xs) := fbk_5.below hw6 (by omega)
        clear fbk_5
        clear fbk_6
        have hx100 : xs.length ≤ 101 := hn1
        go_wp2_with fail
        rw [hm2]
        clear hm2
        go_loopw [16, 17, 110] (fun v _ i wr => ∃ k : Nat, k ≤ xs.length ∧ i = .int .i64 (k : Int) ∧ Hid (GrowI w6 w6.heap.size wr v (xs.reverse.take k))) (fun _ _ i _ => xs.length - (intOf i).toNat)
        case atStart => exact ⟨0, Nat.zero_le _, rfl, GrowI.start _⟩
        case round =>
          obtain ⟨k, hk, rfl, HG⟩ := hrel
          by_cases hlt : k < xs.length
          · obtain ⟨d, hd⟩ : ∃ d : Nat, (xs.length : Int) - 1 - (k : Int) = (d : Int) := ⟨xs.length - 1 - k, by omega⟩
            have hdl : d < xs.length := by omega
            obtain ⟨b1, o1, c1, y, hv, _, hx, hcell1⟩ := Rd.at_ (RdI.below fx_6 HG.out.2.1 (by omega)) hdl
            injection hv with hv1 hv2 hv3; cases hv1; clear hv2 hv3
            have HT := Lib.hid (turn_take (l := xs) (k := k) hlt (by rw [show xs.length - 1 - k = d by omega]; exact hx))
            have hln : (xs.reverse.take k).length ≤ 101 := by rw [List.length_take]; omega
            clear hx
            go_wp2_with (at_builtin; refine GrowI.app rfl (.tmp 113) (.tmp 122) rfl HG.out (by omega) rfl rfl ?_; intro v' w2 hG'; have HG1 := Lib.hid hG'; clear hG')
            go_roundw
            case rel => exact ⟨k + 1, by omega, by go_num, by rw [HT.out]; exact HG1.out⟩
            case measure => (simp [intOf]; try omega)
          · have hg := HG.out
            rw [List.take_of_length_le (by rw [List.length_reverse]; omega)] at hg
            have hb7 : Below w6.heap.size w6 wr := hg.2.1
            have frv := hg.own.rd
            obtain ⟨A9, c9, rfl, _, _⟩ := Rd.form frv
            rw [List.length_reverse] at frv ⊢
            have FRV := Lib.hid frv
            clear hg HG frv
            have hw7 : Below w6.heap.size w6 wr := hb7
            have hs7 : w6.heap.size ≤ wr.heap.size := hw7.size
            have hB7 : Below w.heap.size w wr := hB6.trans (hw7.mono (by omega))
            have fx_7 : RdI wr w1.heap.size (.slice A2 xs.length c2) xs := fx_6.below hw7 (by omega)
            clear fx_6
            have k60 := (by have h := MovementsOf_any xs.reverse _ _ wr FRV.out; rw [HRV.out] at h; exact h : Calls Tryz.prog 9 #[.slice A9 xs.length c9] wr fun e w' => e = .returned (.tuple #[.int .i64 (mv), .bool true]) ∧ wr = w')
            have K6 := Lib.hid k60
            clear k60
            go_wp2_with fail
            refine (K6.out).mono ?_
            rintro e w' ⟨rfl, rfl⟩
            clear K6
            go_wp2_with fail
            go_meet
            exact ((hw5).trans (hw6.mono (by omega))).trans (hw7.mono (by omega))
    case rest => as_aux_lemma =>
      have HBC := hcut
      rename World => wc1
      have hb5 := HBC.out
      clear HBC
      have hw5 : Below w4.heap.size w4 wc1 := hb5
      have hs5 : w4.heap.size ≤ wc1.heap.size := hw5.size
      have hB5 : Below w.heap.size w wc1 := hB4.trans (hw5.mono (by omega))
      have H1_5 : RdU wc1 w.heap.size (.slice A1 xs1.length c1) xs1 := H1_4.below hw5 (by omega)
      clear H1_4
      have fx_5 : RdI wc1 w1.heap.size (.slice A2 xs.length c2) xs := fx_4.below hw5 (by omega)
      clear fx_4
      clear fx_5
      clear HOK HST HMV
      go_wp2_with fail
      refine (DrawNearestSignals_any xs1 _ w.heap.size wc1 H1_5 (by omega)).mono ?_
      rintro e w6 ⟨nn, u3, us, rfl, hn3, fu, hb6⟩
      obtain ⟨A3, c3, rfl, _, _⟩ := Rd.form fu
      have hw6 : Below wc1.heap.size wc1 w6 := hb6
      have hs6 : wc1.heap.size ≤ w6.heap.size := hw6.size
      have hB6 : Below w.heap.size w w6 := hB5.trans (hw6.mono (by omega))
      have H1_6 : RdU w6 w.heap.size (.slice A1 xs1.length c1) xs1 := H1_5.below hw6 (by omega)
      clear H1_5
      obtain ⟨th, HTH⟩ : ∃ th, Hid (nearB nn us = th) := ⟨_, rfl⟩
      have hl100 := nearL_len nn us
      obtain ⟨nl, HNL⟩ : ∃ nl, Hid (nearL nn us = nl) := ⟨_, rfl⟩
      rw [HNL.out] at hl100
      have k70 := (by have h := NearestSignals_any nn us _ _ w6 fu (by omega); rw [HTH.out, HNL.out] at h; exact h : Calls Tryz.prog 14 #[.int .i64 nn, .slice A3 us.length c3] w6 (RetOwT (nl) th w6))
      have K7 := Lib.hid k70
      clear k70
      go_wp2_with fail
      refine (K7.out).mono ?_
      rintro e w7 ⟨x, rfl, fnx, hb7⟩
      obtain ⟨Ax, cx, rfl, _⟩ := fnx.form
      have fnx_7 : RdI w7 w7.heap.size (.slice Ax (nl).length cx) (nl) := fnx.rd
      clear fnx
      have hw7 : Below w6.heap.size w6 w7 := hb7
      have hs7 : w6.heap.size ≤ w7.heap.size := hw7.size
      have hB7 : Below w.heap.size w w7 := hB6.trans (hw7.mono (by omega))
      have H1_7 : RdU w7 w.heap.size (.slice A1 xs1.length c1) xs1 := H1_6.below hw7 (by omega)
      clear H1_6
      have fu_7 : RdI w7 w6.heap.size (.slice A3 us.length c3) us := fu.below hw7 (by omega)
      clear fu
      clear K7
      have k80 := (by have h := sNearestSignals_any nn us _ _ w7 fu_7 (by omega); rw [HTH.out, HNL.out] at h; exact h : Calls Tryz.prog 15 #[.int .i64 nn, .slice A3 us.length c3] w7 (RetOwT (nl) th w7))
      have K8 := Lib.hid k80
      clear k80
      go_wp2_with fail
      refine (K8.out).mono ?_
      rintro e w8 ⟨y, rfl, fny, hb8⟩
      obtain ⟨Ay, cy, rfl, _⟩ := fny.form
      have fny_8 : RdI w8 w8.heap.size (.slice Ay (nl).length cy) (nl) := fny.rd
      clear fny
      have hw8 : Below w7.heap.size w7 w8 := hb8
      have hs8 : w7.heap.size ≤ w8.heap.size := hw8.size
      have hB8 : Below w.heap.size w w8 := hB7.trans (hw8.mono (by omega))
      have H1_8 : RdU w8 w.heap.size (.slice A1 xs1.length c1) xs1 := H1_7.below hw8 (by omega)
      clear H1_7
      have fu_8 : RdI w8 w6.heap.size (.slice A3 us.length c3) us := fu_7.below hw8 (by omega)
      clear fu_7
      have fnx_8 : RdI w8 w7.heap.size (.slice Ax (nl).length cx) (nl) := fnx_7.below hw8 (by omega)
      clear fnx_7
      clear K8
      go_wp2_with fail
      refine (sameInts_eqB _ _ _ _ _ _ fnx_8 fny_8).mono ?_
      rintro e w9 ⟨rfl, hb9⟩
      have hw9 : Below w8.heap.size w8 w9 := hb9
      have hs9 : w8.heap.size ≤ w9.heap.size := hw9.size
      have hB9 : Below w.heap.size w w9 := hB8.trans (hw9.mono (by omega))
      have H1_9 : RdU w9 w.heap.size (.slice A1 xs1.length c1) xs1 := H1_8.below hw9 (by omega)
      clear H1_8
      have fu_9 : RdI w9 w6.heap.size (.slice A3 us.length c3) us := fu_8.below hw9 (by omega)
      clear fu_8
      have fnx_9 : RdI w9 w7.heap.size (.slice Ax (nl).length cx) (nl) := fnx_8.below hw9 (by omega)
      clear fnx_8
      have fny_9 : RdI w9 w8.heap.size (.slice Ay (nl).length cy) (nl) := fny_8.below hw9 (by omega)
      clear fny_8
      clear fnx_9
      go_upto_if 163 with fail
      go_cut [26] (fun s wx => Hid (Below w9.heap.size w9 wx))
      case first => as_aux_lemma =>
        cases th
        · go_wp2_with fail
          go_meet
          exact Below.refl _ _
        · obtain ⟨a, D, i0, x0, rfl, ha, hD6, hu100, hub, hi0, hp0, hn0, hx0, hd0, hall⟩ := near_told HTH.out
          rw [HNL.out] at hp0 hn0 hall
          have HUB := Lib.hid hub
          have HALL := Lib.hid hall
          clear hub hall
          obtain ⟨b4, o4, c4, y4, hv, hb4, hy4, hcell4⟩ := Rd.at_ fny_9 hp0
          rw [hn0] at hy4; cases hy4
          injection hv with hv1 hv2 hv3; cases hv1; clear hv2 hv3
          rw [Nat.add_zero] at hcell4
          obtain ⟨b5, o5, c5, y5, hv, hb5x, hy5, hcell5⟩ := Rd.at_ fu_9 hi0
          rw [hx0] at hy5; cases hy5
          injection hv with hv1 hv2 hv3; cases hv1; clear hv2 hv3
          have hx0b := HUB.out x0 (List.mem_of_getElem? hx0)
          have HD0 : Hid (sigDT (a : Int) x0 = .tuple #[.int .i64 (D : Int), .bool true]) := by
            show _ = _; unfold sigDT; rw [inB_iff.2 (show (0 : Int) ≤ (a : Int) ∧ (a : Int) ≤ 63 by omega), inB_iff.2 hx0b, Int.toNat_natCast, hd0]; rfl
          clear hd0 hx0 hn0
          have k90 := (by have h := SignalDistance_any (a : Int) x0 w9; rw [HD0.out] at h; exact h : Calls Tryz.prog 16 #[.int .i64 (a : Int), .int .i64 x0] w9 fun e w' => e = .returned (.tuple #[.int .i64 ((D : Int)), .bool true]) ∧ w9 = w')
          have K9 := Lib.hid k90
          clear k90
          go_wp2_with fail
          refine (K9.out).mono ?_
          rintro e w' ⟨rfl, rfl⟩
          clear K9
          have ka0 := (by have h := sSignalDistance_any (a : Int) x0 w9; rw [HD0.out] at h; exact h : Calls Tryz.prog 17 #[.int .i64 (a : Int), .int .i64 x0] w9 fun e w' => e = .returned (.tuple #[.int .i64 ((D : Int)), .bool true]) ∧ Below w9.heap.size w9 w')
          have KA := Lib.hid ka0
          clear ka0
          go_wp2_with fail
          refine (KA.out).mono ?_
          rintro e w10 ⟨rfl, hb10⟩
          have hw10 : Below w9.heap.size w9 w10 := hb10
          have hs10 : w9.heap.size ≤ w10.heap.size := hw10.size
          have hB10 : Below w.heap.size w w10 := hB9.trans (hw10.mono (by omega))
          have H1_10 : RdU w10 w.heap.size (.slice A1 xs1.length c1) xs1 := H1_9.below hw10 (by omega)
          clear H1_9
          have fu_10 : RdI w10 w6.heap.size (.slice (some ⟨b5, o5, Option.none⟩) us.length c3) us := fu_9.below hw10 (by omega)
          clear fu_9
          have fny_10 : RdI w10 w8.heap.size (.slice (some ⟨b4, o4, Option.none⟩) (nl).length cy) (nl) := fny_9.below hw10 (by omega)
          clear fny_9
          clear KA
          go_wp2_with fail
          go_loopw [199] (fun i wr => ∃ k : Nat, k ≤ us.length ∧ i = .int .i64 (k : Int) ∧ Hid (Below w10.heap.size w10 wr)) (fun i _ => us.length - (intOf i).toNat)
          case atStart => exact ⟨0, Nat.zero_le _, rfl, Below.refl _ _⟩
          case round =>
            obtain ⟨k, hk, rfl, HBL⟩ := hrel
            have hb11 : Below w10.heap.size w10 wr := HBL.out
            clear HBL hcell4 hcell5
            have hw11 : Below w10.heap.size w10 wr := hb11
            have hs11 : w10.heap.size ≤ wr.heap.size := hw11.size
            have hB11 : Below w.heap.size w wr := hB10.trans (hw11.mono (by omega))
            have H1_11 : RdU wr w.heap.size (.slice A1 xs1.length c1) xs1 := H1_10.below hw11 (by omega)
            clear H1_10
            have fu_11 : RdI wr w6.heap.size (.slice (some ⟨b5, o5, Option.none⟩) us.length c3) us := fu_10.below hw11 (by omega)
            clear fu_10
            have fny_11 : RdI wr w8.heap.size (.slice (some ⟨b4, o4, Option.none⟩) (nl).length cy) (nl) := fny_10.below hw11 (by omega)
            clear fny_10
            by_cases hlt : k < us.length
            · obtain ⟨b6, o6, c6, x, hv, hb6x, hx, hcell6⟩ := Rd.at_ fu_11 hlt
              injection hv with hv1 hv2 hv3; cases hv1; clear hv2 hv3
              have hxb := HUB.out x (List.mem_of_getElem? hx)
              obtain ⟨hge, hin⟩ := HALL.out k x hx
              have HIN := Lib.hid hin
              have HDX : Hid (sigDT (a : Int) x = .tuple #[.int .i64 (distM a x.toNat : Int), .bool true]) := by
                show _ = _; unfold sigDT; rw [inB_iff.2 (show (0 : Int) ≤ (a : Int) ∧ (a : Int) ≤ 63 by omega), inB_iff.2 hxb, Int.toNat_natCast]; rfl
              obtain ⟨dx, hdx⟩ : ∃ dx, dx = distM a x.toNat := ⟨_, rfl⟩
              rw [← hdx] at hge HDX HIN
              clear hx hin hdx
              have kb0 := (by have h := SignalDistance_any (a : Int) x wr; rw [HDX.out] at h; exact h : Calls Tryz.prog 16 #[.int .i64 (a : Int), .int .i64 x] wr fun e w' => e = .returned (.tuple #[.int .i64 ((dx : Int)), .bool true]) ∧ wr = w')
              have KB := Lib.hid kb0
              clear kb0
              go_wp2_with fail
              refine (KB.out).mono ?_
              rintro e w' ⟨rfl, rfl⟩
              clear KB
              have kc0 := (by have h := sSignalDistance_any (a : Int) x wr; rw [HDX.out] at h; exact h : Calls Tryz.prog 17 #[.int .i64 (a : Int), .int .i64 x] wr fun e w' => e = .returned (.tuple #[.int .i64 ((dx : Int)), .bool true]) ∧ Below wr.heap.size wr w')
              have KC := Lib.hid kc0
              clear kc0
              go_wp2_with fail
              refine (KC.out).mono ?_
              rintro e w12 ⟨rfl, hb12⟩
              have hw12 : Below wr.heap.size wr w12 := hb12
              have hs12 : wr.heap.size ≤ w12.heap.size := hw12.size
              have hB12 : Below w.heap.size w w12 := hB11.trans (hw12.mono (by omega))
              have H1_12 : RdU w12 w.heap.size (.slice A1 xs1.length c1) xs1 := H1_11.below hw12 (by omega)
              clear H1_11
              have fu_12 : RdI w12 w6.heap.size (.slice (some ⟨b5, o5, Option.none⟩) us.length c3) us := fu_11.below hw12 (by omega)
              clear fu_11
              have fny_12 : RdI w12 w8.heap.size (.slice (some ⟨b4, o4, Option.none⟩) (nl).length cy) (nl) := fny_11.below hw12 (by omega)
              clear fny_11
              clear KC
              have hnlt : decide (dx < D) = false := decide_eq_false (by omega)
              cases he : decide (dx = D)
              · rw [he] at HIN
                have hbq : ((dx : Int) == (D : Int)) = false := by rw [beq_eq_false_iff_ne]; have := of_decide_eq_false he; omega
                clear he
                have kd0 := (by have h := pIn_any nl (k : Int) _ _ w12 fny_12; rw [HIN.out] at h; exact h : Calls Tryz.prog 18 #[.slice (some ⟨b4, o4, Option.none⟩) (nl).length cy, .int .i64 (k : Int)] w12 fun e w' => e = .returned (.bool false) ∧ w12 = w')
                have KD := Lib.hid kd0
                clear kd0
                go_wp2_with fail
                refine (KD.out).mono ?_
                rintro e w' ⟨rfl, rfl⟩
                clear KD
                go_wp2_with fail
                go_roundw
                case rel => exact ⟨k + 1, by omega, by go_num, (hw11).trans (hw12.mono (by omega))⟩
                case measure => (simp [intOf]; try omega)
              · rw [he] at HIN
                have hbq : ((dx : Int) == (D : Int)) = true := by rw [beq_iff_eq]; have := of_decide_eq_true he; omega
                clear he
                have kd0 := (by have h := pIn_any nl (k : Int) _ _ w12 fny_12; rw [HIN.out] at h; exact h : Calls Tryz.prog 18 #[.slice (some ⟨b4, o4, Option.none⟩) (nl).length cy, .int .i64 (k : Int)] w12 fun e w' => e = .returned (.bool true) ∧ w12 = w')
                have KD := Lib.hid kd0
                clear kd0
                go_wp2_with fail
                refine (KD.out).mono ?_
                rintro e w' ⟨rfl, rfl⟩
                clear KD
                go_wp2_with fail
                go_roundw
                case rel => exact ⟨k + 1, by omega, by go_num, (hw11).trans (hw12.mono (by omega))⟩
                case measure => (simp [intOf]; try omega)
            · go_wp2_with fail
              go_meet
              exact (hw10).trans (hw11.mono (by omega))
      case rest => as_aux_lemma =>
        have HBC := hcut
        rename World => wc2
        have hb10 := HBC.out
        clear HBC
        have hw10 : Below w9.heap.size w9 wc2 := hb10
        have hs10 : w9.heap.size ≤ wc2.heap.size := hw10.size
        have hB10 : Below w.heap.size w wc2 := hB9.trans (hw10.mono (by omega))
        have H1_10 : RdU wc2 w.heap.size (.slice A1 xs1.length c1) xs1 := H1_9.below hw10 (by omega)
        clear H1_9
        have fu_10 : RdI wc2 w6.heap.size (.slice A3 us.length c3) us := fu_9.below hw10 (by omega)
        clear fu_9
        have fny_10 : RdI wc2 w8.heap.size (.slice Ay (nl).length cy) (nl) := fny_9.below hw10 (by omega)
        clear fny_9
        clear fu_10
        clear fny_10
        clear HTH HNL
        go_wp2_with fail
        refine (DrawReadSignals_any xs1 _ w.heap.size wc2 H1_10 (by omega)).mono ?_
        rintro e w11 ⟨tt, rfl, htt, hb11⟩
        have hw11 : Below wc2.heap.size wc2 w11 := hb11
        have hs11 : wc2.heap.size ≤ w11.heap.size := hw11.size
        have hB11 : Below w.heap.size w w11 := hB10.trans (hw11.mono (by omega))
        have H1_11 : RdU w11 w.heap.size (.slice A1 xs1.length c1) xs1 := H1_10.below hw11 (by omega)
        clear H1_10
        clear H1_11
        obtain ⟨rl, HRL⟩ : ∃ rl, Hid ((readO tt.data.toList).getD [] = rl) := ⟨_, rfl⟩
        obtain ⟨rb, HRB⟩ : ∃ rb, Hid ((readO tt.data.toList).isSome = rb) := ⟨_, rfl⟩
        have ke0 := (by have h := ReadSignals_any tt (by omega) w11 (HLW.out.below hB11); rw [HRL.out, HRB.out] at h; exact h : Calls Tryz.prog 11 #[.string tt] w11 (RetOwT (rl) rb w11))
        have KE := Lib.hid ke0
        clear ke0
        go_wp2_with fail
        refine (KE.out).mono ?_
        rintro e w12 ⟨r, rfl, fr, hb12⟩
        obtain ⟨Ar, cr, rfl, _⟩ := fr.form
        have fr_12 : RdI w12 w12.heap.size (.slice Ar (rl).length cr) (rl) := fr.rd
        clear fr
        have hw12 : Below w11.heap.size w11 w12 := hb12
        have hs12 : w11.heap.size ≤ w12.heap.size := hw12.size
        have hB12 : Below w.heap.size w w12 := hB11.trans (hw12.mono (by omega))
        clear KE
        have kf0 := (by have h := sReadSignals_any tt (by omega) w12; rw [HRL.out, HRB.out] at h; exact h : Calls Tryz.prog 20 #[.string tt] w12 (RetOwT (rl) rb w12))
        have KF := Lib.hid kf0
        clear kf0
        go_wp2_with fail
        refine (KF.out).mono ?_
        rintro e w13 ⟨s, rfl, fs, hb13⟩
        obtain ⟨As, cs, rfl, _⟩ := fs.form
        have fs_13 : RdI w13 w13.heap.size (.slice As (rl).length cs) (rl) := fs.rd
        clear fs
        have hw13 : Below w12.heap.size w12 w13 := hb13
        have hs13 : w12.heap.size ≤ w13.heap.size := hw13.size
        have hB13 : Below w.heap.size w w13 := hB12.trans (hw13.mono (by omega))
        have fr_13 : RdI w13 w12.heap.size (.slice Ar (rl).length cr) (rl) := fr_12.below hw13 (by omega)
        clear fr_12
        clear KF
        go_wp2_with fail
        refine (sameInts_eqB _ _ _ _ _ _ fr_13 fs_13).mono ?_
        rintro e w14 ⟨rfl, hb14⟩
        have hw14 : Below w13.heap.size w13 w14 := hb14
        have hs14 : w13.heap.size ≤ w14.heap.size := hw14.size
        have hB14 : Below w.heap.size w w14 := hB13.trans (hw14.mono (by omega))
        have fr_14 : RdI w14 w12.heap.size (.slice Ar (rl).length cr) (rl) := fr_13.below hw14 (by omega)
        clear fr_13
        have fs_14 : RdI w14 w13.heap.size (.slice As (rl).length cs) (rl) := fs_13.below hw14 (by omega)
        clear fs_13
        go_wp2_with fail
        go_ret
        exact ⟨ret_bool (by simp), hB14⟩
  · rw [hbig] at cb
    have CB := Lib.hid cb
    clear cb hbig
    go_enter Tryz.func3, Tryz.ntmps3
    go_wp2_with fail
    refine CB.out.mono ?_
    rintro e _ ⟨rfl, rfl⟩
    go_wp2_with fail
    go_ret
    exact ⟨rfl, Below.refl _ _⟩
end Go.Proofs.YtjnkdjokbamibaaGreatDoor.fnSignalLists
