/- Texts of one claim, joined: VLeastCodes. -/
import Derived.Test.YtabiobjcfopakaaC9LeastCodes
/- The walk of the law FnLeastCodes. -/
namespace Go.Proofs.Ytabiobjcfopakaa.fnLeastCodes
open Go.ChangeShapes Go.WideShapes Go.ChangeAt Go.RowKit
open Go.ChangeMaps (open_string)
set_option linter.unusedVariables false
set_option maxHeartbeats 20000000 in
set_option maxRecDepth 100000 in
theorem walk (v0 : Value) (xs0 : List UInt8) (v1 : Value) (xs1 : List UInt8) (w : World) (hr0 : RdU w w.heap.size v0 xs0) (hr1 : RdU w w.heap.size v1 xs1) : Calls Try.prog 12 #[v0, v1] w fun e w' => e = .returned (.bool true) ∧ Below w.heap.size w w' := by
  obtain ⟨A0, c0, rfl, hc0, hm0⟩ := Rd.form hr0
  obtain ⟨A1, c1, rfl, hc1, hm1⟩ := Rd.form hr1
  have H0 := Lib.hid hr0
  have H1 := Lib.hid hr1
  clear hr0 hr1
  by_cases hbig : 1048576 < wrap64 ((xs0.length : Int) + (xs1.length : Int))
  · go_enter Try.func12, Try.ntmps12
    go_wp2_with fail
    go_ret
    exact ⟨rfl, Below.refl _ _⟩
  go_enter Try.func12, Try.ntmps12
  go_wp2_with fail
  refine (DrawLeastLengths_any xs0 _ w.heap.size w H0.out (Nat.le_refl _)).mono ?_
  rintro e w1 ⟨u0, ws, r, l, rfl, hnw, fws, hb1⟩
  clear hbig
  obtain ⟨A2, c2, rfl, _, _⟩ := Rd.form fws
  have hw1 : Below w.heap.size w w1 := hb1
  have hs1 : w.heap.size ≤ w1.heap.size := hw1.size
  have hB1 : Below w.heap.size w w1 := hw1.mono (by omega)
  have H0_1 : RdU w1 w.heap.size (.slice A0 xs0.length c0) xs0 := H0.out.below hw1 (by omega)
  have H1_1 : RdU w1 w.heap.size (.slice A1 xs1.length c1) xs1 := H1.out.below hw1 (by omega)
  obtain ⟨ok, HOK⟩ : ∃ ok, Hid (leastB ws r l = ok) := ⟨_, rfl⟩
  obtain ⟨lc, HLC⟩ : ∃ lc, Hid (lcostV ws r l = .tuple #[.int .i64 lc, .bool ok] ∧ (ok = true → lc = dotI ws (leastL ws r l))) := by
    show ∃ lc, _ ∧ _; unfold lcostV; rw [HOK.out]; cases ok
    · exact ⟨0, rfl, fun h => by cases h⟩
    · exact ⟨_, rfl, fun _ => rfl⟩
  have k10 := (by have h := LeastLengths_any ws r l _ _ w1 fws (by omega); rw [HOK.out] at h; exact h : Calls Try.prog 62 #[.slice A2 ws.length c2, .int .i64 r, .int .i64 l] w1 (RetOwT (leastL ws r l) ok w1))
  have K1 := Lib.hid k10
  clear k10
  go_wp2_with fail
  refine (K1.out).mono ?_
  rintro e w2 ⟨x, rfl, fx, hb2⟩
  obtain ⟨Ax, cx, rfl, _⟩ := fx.form
  have fx_2 : RdI w2 w2.heap.size (.slice Ax (leastL ws r l).length cx) (leastL ws r l) := fx.rd
  clear fx
  have hw2 : Below w1.heap.size w1 w2 := hb2
  have hs2 : w1.heap.size ≤ w2.heap.size := hw2.size
  have hB2 : Below w.heap.size w w2 := hB1.trans (hw2.mono (by omega))
  have H0_2 : RdU w2 w.heap.size (.slice A0 xs0.length c0) xs0 := H0_1.below hw2 (by omega)
  clear H0_1
  have H1_2 : RdU w2 w.heap.size (.slice A1 xs1.length c1) xs1 := H1_1.below hw2 (by omega)
  clear H1_1
  have fws_2 : RdI w2 w1.heap.size (.slice A2 ws.length c2) ws := fws.below hw2 (by omega)
  clear fws
  clear K1
  have k20 := (by have h := sLeastLengths_any ws r l _ _ w2 fws_2 (by omega); rw [HOK.out] at h; exact h : Calls Try.prog 61 #[.slice A2 ws.length c2, .int .i64 r, .int .i64 l] w2 (RetOwT (leastL ws r l) ok w2))
  have K2 := Lib.hid k20
  clear k20
  go_wp2_with fail
  refine (K2.out).mono ?_
  rintro e w3 ⟨y, rfl, fy, hb3⟩
  obtain ⟨Ay, cy, rfl, _⟩ := fy.form
  have fy_3 : RdI w3 w3.heap.size (.slice Ay (leastL ws r l).length cy) (leastL ws r l) := fy.rd
  clear fy
  have hw3 : Below w2.heap.size w2 w3 := hb3
  have hs3 : w2.heap.size ≤ w3.heap.size := hw3.size
  have hB3 : Below w.heap.size w w3 := hB2.trans (hw3.mono (by omega))
  have H0_3 : RdU w3 w.heap.size (.slice A0 xs0.length c0) xs0 := H0_2.below hw3 (by omega)
  clear H0_2
  have H1_3 : RdU w3 w.heap.size (.slice A1 xs1.length c1) xs1 := H1_2.below hw3 (by omega)
  clear H1_2
  have fws_3 : RdI w3 w1.heap.size (.slice A2 ws.length c2) ws := fws_2.below hw3 (by omega)
  clear fws_2
  have fx_3 : RdI w3 w2.heap.size (.slice Ax (leastL ws r l).length cx) (leastL ws r l) := fx_2.below hw3 (by omega)
  clear fx_2
  clear K2
  have k30 := (by have h := LeastCost_any ws r l _ _ w3 fws_3 (by omega); rw [HLC.out.1] at h; exact h : Calls Try.prog 65 #[.slice A2 ws.length c2, .int .i64 r, .int .i64 l] w3 fun e w' => e = .returned (.tuple #[.int .i64 lc, .bool ok]) ∧ Below w3.heap.size w3 w')
  have K3 := Lib.hid k30
  clear k30
  go_wp2_with fail
  refine (K3.out).mono ?_
  rintro e w4 ⟨rfl, hb4⟩
  have hw4 : Below w3.heap.size w3 w4 := hb4
  have hs4 : w3.heap.size ≤ w4.heap.size := hw4.size
  have hB4 : Below w.heap.size w w4 := hB3.trans (hw4.mono (by omega))
  have H0_4 : RdU w4 w.heap.size (.slice A0 xs0.length c0) xs0 := H0_3.below hw4 (by omega)
  clear H0_3
  have H1_4 : RdU w4 w.heap.size (.slice A1 xs1.length c1) xs1 := H1_3.below hw4 (by omega)
  clear H1_3
  have fws_4 : RdI w4 w1.heap.size (.slice A2 ws.length c2) ws := fws_3.below hw4 (by omega)
  clear fws_3
  have fx_4 : RdI w4 w2.heap.size (.slice Ax (leastL ws r l).length cx) (leastL ws r l) := fx_3.below hw4 (by omega)
  clear fx_3
  have fy_4 : RdI w4 w3.heap.size (.slice Ay (leastL ws r l).length cy) (leastL ws r l) := fy_3.below hw4 (by omega)
  clear fy_3
  clear K3
  have k40 := (by have h := sLeastCost_any ws r l _ _ w4 fws_4 (by omega); rw [HLC.out.1] at h; exact h : Calls Try.prog 64 #[.slice A2 ws.length c2, .int .i64 r, .int .i64 l] w4 fun e w' => e = .returned (.tuple #[.int .i64 lc, .bool ok]) ∧ Below w4.heap.size w4 w')
  have K4 := Lib.hid k40
  clear k40
  go_wp2_with fail
  refine (K4.out).mono ?_
  rintro e w5 ⟨rfl, hb5⟩
  have hw5 : Below w4.heap.size w4 w5 := hb5
  have hs5 : w4.heap.size ≤ w5.heap.size := hw5.size
  have hB5 : Below w.heap.size w w5 := hB4.trans (hw5.mono (by omega))
  have H0_5 : RdU w5 w.heap.size (.slice A0 xs0.length c0) xs0 := H0_4.below hw5 (by omega)
  clear H0_4
  have H1_5 : RdU w5 w.heap.size (.slice A1 xs1.length c1) xs1 := H1_4.below hw5 (by omega)
  clear H1_4
  have fws_5 : RdI w5 w1.heap.size (.slice A2 ws.length c2) ws := fws_4.below hw5 (by omega)
  clear fws_4
  have fx_5 : RdI w5 w2.heap.size (.slice Ax (leastL ws r l).length cx) (leastL ws r l) := fx_4.below hw5 (by omega)
  clear fx_4
  have fy_5 : RdI w5 w3.heap.size (.slice Ay (leastL ws r l).length cy) (leastL ws r l) := fy_4.below hw5 (by omega)
  clear fy_4
  clear K4
  go_wp2_with fail
  refine (DrawCostOf_any xs1 _ w.heap.size w5 H1_5 (by omega)).mono ?_
  rintro e w6 ⟨u1, u2, va, vb, rfl, hna, hnb, fas, fbs, hb6⟩
  obtain ⟨A3, c3, rfl, _, _⟩ := Rd.form fas
  obtain ⟨A4, c4, rfl, _, _⟩ := Rd.form fbs
  have hw6 : Below w5.heap.size w5 w6 := hb6
  have hs6 : w5.heap.size ≤ w6.heap.size := hw6.size
  have hB6 : Below w.heap.size w w6 := hB5.trans (hw6.mono (by omega))
  have H0_6 : RdU w6 w.heap.size (.slice A0 xs0.length c0) xs0 := H0_5.below hw6 (by omega)
  clear H0_5
  have H1_6 : RdU w6 w.heap.size (.slice A1 xs1.length c1) xs1 := H1_5.below hw6 (by omega)
  clear H1_5
  have fws_6 : RdI w6 w1.heap.size (.slice A2 ws.length c2) ws := fws_5.below hw6 (by omega)
  clear fws_5
  have fx_6 : RdI w6 w2.heap.size (.slice Ax (leastL ws r l).length cx) (leastL ws r l) := fx_5.below hw6 (by omega)
  clear fx_5
  have fy_6 : RdI w6 w3.heap.size (.slice Ay (leastL ws r l).length cy) (leastL ws r l) := fy_5.below hw6 (by omega)
  clear fy_5
  obtain ⟨cs, th, HCT, HTH⟩ : ∃ cs th, Hid (costT va vb = .tuple #[.int .i64 cs, .bool th]) ∧ Hid (th = true → weightsB va = true ∧ lengthsB vb = true ∧ va.length = vb.length ∧ cs = dotI va vb) := by
    show ∃ cs th, _ ∧ _; unfold costT
    by_cases h : (weightsB va && lengthsB vb && decide (va.length = vb.length)) = true
    · rw [if_pos h]; simp only [Bool.and_eq_true, decide_eq_true_eq] at h; exact ⟨_, _, rfl, fun _ => ⟨h.1.1, h.1.2, h.2, rfl⟩⟩
    · rw [if_neg h]; exact ⟨_, _, rfl, fun h => by cases h⟩
  have k50 := (by have h := CostOf_any va vb _ _ _ _ w6 fas fbs; rw [HCT.out] at h; exact h : Calls Try.prog 84 #[.slice A3 va.length c3, .slice A4 vb.length c4] w6 fun e w' => e = .returned (.tuple #[.int .i64 cs, .bool th]) ∧ w6 = w')
  have K5 := Lib.hid k50
  clear k50
  go_wp2_with fail
  refine (K5.out).mono ?_
  rintro e w' ⟨rfl, rfl⟩
  clear K5
  have k60 := (by have h := sCostOf_any va vb _ _ _ _ w6 fas fbs; rw [HCT.out] at h; exact h : Calls Try.prog 85 #[.slice A3 va.length c3, .slice A4 vb.length c4] w6 fun e w' => e = .returned (.tuple #[.int .i64 cs, .bool th]) ∧ w6 = w')
  have K6 := Lib.hid k60
  clear k60
  go_wp2_with fail
  refine (K6.out).mono ?_
  rintro e w' ⟨rfl, rfl⟩
  clear K6
  go_wp2_with fail
  refine (DrawFlatLength_any xs1 _ w.heap.size w6 H1_6 (by omega)).mono ?_
  rintro e w7 ⟨m, base, rfl, hb7⟩
  have hw7 : Below w6.heap.size w6 w7 := hb7
  have hs7 : w6.heap.size ≤ w7.heap.size := hw7.size
  have hB7 : Below w.heap.size w w7 := hB6.trans (hw7.mono (by omega))
  have H0_7 : RdU w7 w.heap.size (.slice A0 xs0.length c0) xs0 := H0_6.below hw7 (by omega)
  clear H0_6
  have H1_7 : RdU w7 w.heap.size (.slice A1 xs1.length c1) xs1 := H1_6.below hw7 (by omega)
  clear H1_6
  have fws_7 : RdI w7 w1.heap.size (.slice A2 ws.length c2) ws := fws_6.below hw7 (by omega)
  clear fws_6
  have fx_7 : RdI w7 w2.heap.size (.slice Ax (leastL ws r l).length cx) (leastL ws r l) := fx_6.below hw7 (by omega)
  clear fx_6
  have fy_7 : RdI w7 w3.heap.size (.slice Ay (leastL ws r l).length cy) (leastL ws r l) := fy_6.below hw7 (by omega)
  clear fy_6
  have fas_7 : RdI w7 w6.heap.size (.slice A3 va.length c3) va := fas.below hw7 (by omega)
  clear fas
  have fbs_7 : RdI w7 w6.heap.size (.slice A4 vb.length c4) vb := fbs.below hw7 (by omega)
  clear fbs
  obtain ⟨ff, fb, HF⟩ : ∃ x b, Hid (flatT m base = .tuple #[.int .i64 x, .bool b]) := by show ∃ x b, _ = _; unfold flatT; split <;> exact ⟨_, _, rfl⟩
  have k70 := (by have h := FlatLength_any m base w7; rw [HF.out] at h; exact h : Calls Try.prog 87 #[.int .i64 m, .int .i64 base] w7 fun e w' => e = .returned (.tuple #[.int .i64 ff, .bool fb]) ∧ w7 = w')
  have K7 := Lib.hid k70
  clear k70
  go_wp2_with fail
  refine (K7.out).mono ?_
  rintro e w' ⟨rfl, rfl⟩
  clear K7
  have k80 := (by have h := sFlatLength_any m base w7; rw [HF.out] at h; exact h : Calls Try.prog 88 #[.int .i64 m, .int .i64 base] w7 fun e w' => e = .returned (.tuple #[.int .i64 ff, .bool fb]) ∧ w7 = w')
  have K8 := Lib.hid k80
  clear k80
  go_wp2_with fail
  refine (K8.out).mono ?_
  rintro e w' ⟨rfl, rfl⟩
  clear K8
  go_wp2_with fail
  refine (qInts_sameB _ _ _ _ _ _ fx_7 fy_7).mono ?_
  rintro e w8 ⟨rfl, hb8⟩
  have hw8 : Below w7.heap.size w7 w8 := hb8
  have hs8 : w7.heap.size ≤ w8.heap.size := hw8.size
  have hB8 : Below w.heap.size w w8 := hB7.trans (hw8.mono (by omega))
  have H0_8 : RdU w8 w.heap.size (.slice A0 xs0.length c0) xs0 := H0_7.below hw8 (by omega)
  clear H0_7
  have H1_8 : RdU w8 w.heap.size (.slice A1 xs1.length c1) xs1 := H1_7.below hw8 (by omega)
  clear H1_7
  have fws_8 : RdI w8 w1.heap.size (.slice A2 ws.length c2) ws := fws_7.below hw8 (by omega)
  clear fws_7
  have fx_8 : RdI w8 w2.heap.size (.slice Ax (leastL ws r l).length cx) (leastL ws r l) := fx_7.below hw8 (by omega)
  clear fx_7
  have fy_8 : RdI w8 w3.heap.size (.slice Ay (leastL ws r l).length cy) (leastL ws r l) := fy_7.below hw8 (by omega)
  clear fy_7
  have fas_8 : RdI w8 w6.heap.size (.slice A3 va.length c3) va := fas_7.below hw8 (by omega)
  clear fas_7
  have fbs_8 : RdI w8 w6.heap.size (.slice A4 vb.length c4) vb := fbs_7.below hw8 (by omega)
  clear fbs_7
  cases th
  · cases ok
    · go_wp2_with fail
      go_ret
      exact ⟨rfl, hB8⟩
    · clear fas_8
      clear fbs_8
      obtain ⟨L, HL⟩ : ∃ L, Hid (L = leastL ws r l) := ⟨_, rfl⟩
      have HK := Lib.hid (leastL_ok HOK.out)
      have HKC := Lib.hid (least_code HOK.out)
      have HMO : Hid (∀ i k, i < ws.length → k < ws.length → ws.getD k 0 < ws.getD i 0 → (leastL ws r l).getD i 0 ≤ (leastL ws r l).getD k 0) := fun i k h1 h2 h3 => least_mono HOK.out h1 h2 h3
      have hask : askB ws r l = true := by have h := HOK.out; unfold leastB at h; obtain ⟨y, hy⟩ := Option.isSome_iff_exists.1 h; exact (leastC_ask hy).1
      have HFL : Hid ((flatM ws.length r.toNat : Int) ≤ l → dotI ws (leastL ws r l) ≤ ws.sum * (flatM ws.length r.toNat : Int)) := fun h => least_flat hask h
      obtain ⟨⟨hq1, hq2⟩, hq3, ⟨hr2, hr60⟩, ⟨hl1, hl6⟩⟩ := askB_iff.1 hask
      have HWB : Hid (weightsB ws = true) := weightsB_iff.2 ⟨⟨hq1, hq2⟩, hq3⟩
      have HALL := Lib.hid hq3
      clear hask hq3
      have HD := Lib.hid (HLC.out.2 rfl)
      rw [← HL.out] at HK HKC HMO HFL HD fx_8 fy_8 ⊢
      have hln : L.length = ws.length := HK.out.2.1
      rw [hln] at fx_8 fy_8 ⊢
      have HLN := Lib.hid hln
      clear hln HLC HOK
      have k130 := (by have h := HasCode_any L r _ _ w8 fx_8; rw [show hasT L r = .tuple #[.bool true, .bool true] by unfold hasT; rw [HK.out.1, inB_iff.2 ⟨hr2, hr60⟩]; have h1 := HKC.out; simp only [Bool.and_self, if_true]; rw [decide_eq_true (by exact_mod_cast h1)]] at h; exact h : Calls Try.prog 89 #[.slice Ax ws.length cx, .int .i64 r] w8 fun e w' => e = .returned (.tuple #[.bool true, .bool true]) ∧ w8 = w')
      have K13 := Lib.hid k130
      clear k130
      go_wp2_with fail
      refine (K13.out).mono ?_
      rintro e w' ⟨rfl, rfl⟩
      clear K13
      have k140 := (by have h := CostOf_any ws L _ _ _ _ w8 fws_8 fx_8; rw [costT_yes HWB.out HK.out.1 HLN.out.symm, ← HD.out] at h; exact h : Calls Try.prog 84 #[.slice A2 ws.length c2, .slice Ax ws.length cx] w8 fun e w' => e = .returned (.tuple #[.int .i64 lc, .bool true]) ∧ w8 = w')
      have K14 := Lib.hid k140
      clear k140
      go_wp2_with fail
      refine (K14.out).mono ?_
      rintro e w' ⟨rfl, rfl⟩
      clear K14
      obtain ⟨fm, hfm⟩ : ∃ fm : Nat, fm = flatM ws.length r.toNat := ⟨_, rfl⟩
      have hfm5 := flatM_le ws.length r.toNat
      rw [← hfm] at HFL hfm5
      have HFT : Hid (flatT (ws.length : Int) r = .tuple #[.int .i64 (fm : Int), .bool true]) := by
        show _ = _; unfold flatT; rw [inB_iff.2 ⟨by omega, by omega⟩, inB_iff.2 ⟨hr2, hr60⟩, hfm]; rfl
      clear hfm
      have k150 := (by have h := FlatLength_any (ws.length : Int) r w8; rw [HFT.out] at h; exact h : Calls Try.prog 87 #[.int .i64 (ws.length : Int), .int .i64 r] w8 fun e w' => e = .returned (.tuple #[.int .i64 (fm : Int), .bool true]) ∧ w8 = w')
      have K15 := Lib.hid k150
      clear k150
      go_wp2_with fail
      refine (K15.out).mono ?_
      rintro e w' ⟨rfl, rfl⟩
      clear K15
      have k160 := (by have h := sFlatLength_any (ws.length : Int) r w8; rw [HFT.out] at h; exact h : Calls Try.prog 88 #[.int .i64 (ws.length : Int), .int .i64 r] w8 fun e w' => e = .returned (.tuple #[.int .i64 (fm : Int), .bool true]) ∧ w8 = w')
      have K16 := Lib.hid k160
      clear k160
      go_wp2_with fail
      refine (K16.out).mono ?_
      rintro e w' ⟨rfl, rfl⟩
      clear K16
      go_wp2_with fail
      go_loopw [46, 299] (fun s i wr => ∃ (k : Nat) (p : Int), k ≤ ws.length ∧ i = .int .i64 (k : Int) ∧ s = .int .i64 p ∧ Hid (p = (ws.take k).sum) ∧ 0 ≤ p ∧ p ≤ 10000 * k ∧ Hid (Below w8.heap.size w8 wr)) (fun _ i _ => ws.length - (intOf i).toNat)
      case atStart => exact ⟨0, 0, Nat.zero_le _, rfl, rfl, rfl, by omega, by omega, Below.refl _ _⟩
      case round =>
        obtain ⟨k, p, hk, rfl, rfl, HP, hp0, hp1, HBL⟩ := hrel
        have hb9 := HBL.out
        clear HBL
        have hw9 : Below w8.heap.size w8 wr := hb9
        have hs9 : w8.heap.size ≤ wr.heap.size := hw9.size
        have hB9 : Below w.heap.size w wr := hB8.trans (hw9.mono (by omega))
        have H0_9 : RdU wr w.heap.size (.slice A0 xs0.length c0) xs0 := H0_8.below hw9 (by omega)
        clear H0_8
        have H1_9 : RdU wr w.heap.size (.slice A1 xs1.length c1) xs1 := H1_8.below hw9 (by omega)
        clear H1_8
        have fws_9 : RdI wr w1.heap.size (.slice A2 ws.length c2) ws := fws_8.below hw9 (by omega)
        clear fws_8
        have fx_9 : RdI wr w2.heap.size (.slice Ax ws.length cx) L := fx_8.below hw9 (by omega)
        clear fx_8
        have fy_9 : RdI wr w3.heap.size (.slice Ay ws.length cy) L := fy_8.below hw9 (by omega)
        clear fy_8
        by_cases hlt : k < ws.length
        · obtain ⟨b1, o1, c1, x0, hv, hb1, hx0, hcell1⟩ := Rd.at_ fws_9 hlt
          cases hv
          obtain ⟨b2, o2, c2, y0, hv, hb2, hy0, hcell2⟩ := Rd.at_ fy_9 (show k < L.length by rw [HLN.out]; exact hlt)
          injection hv with hv1 hv2 hv3; cases hv1; clear hv2 hv3
          have hxb := allB_mem hx0 HALL.out
          have HS : Hid ((ws.take (k + 1)).sum = p + x0) := by show _ = _; rw [sum_takeI hx0, HP.out]
          have hyb : 1 ≤ y0 ∧ y0 ≤ l := by have h := HK.out.2.2 k hlt; rw [List.getD_eq_getElem?_getD, hy0] at h; exact h
          have hy1 : decide (y0 < 1) = false := decide_eq_false (by omega)
          have hy2 : decide (l < y0) = false := decide_eq_false (by omega)
          have HX := Lib.hid hx0
          have HY := Lib.hid hy0
          clear hx0 hy0
          go_wp2_with fail
          rename World => wo
          go_loopw [322] (fun i wr => ∃ j : Nat, j ≤ ws.length ∧ i = .int .i64 (j : Int) ∧ Hid (Below wo.heap.size wo wr)) (fun i _ => ws.length - (intOf i).toNat)
          case atStart => exact ⟨0, Nat.zero_le _, rfl, Below.refl _ _⟩
          case round =>
            obtain ⟨j, hj, rfl, HBJ⟩ := hrel
            by_cases hltj : j < ws.length
            · have hszj := HBJ.out.size
              have g1 := fws_9.below HBJ.out (by omega)
              have g2 := fy_9.below HBJ.out (by omega)
              have hlk : k < L.length := by rw [HLN.out]; exact hlt
              have hlj : j < L.length := by rw [HLN.out]; exact hltj
              obtain ⟨bj, oj, cj, xj, hv, _, hxj, hcellj⟩ := Rd.at_ g1 hltj
              injection hv with hv1 hv2 hv3; cases hv1; clear hv2 hv3
              obtain ⟨bk, ok2, ck, yk, hv, _, hyk, hcellk⟩ := Rd.at_ g2 hlk
              injection hv with hv1 hv2 hv3; cases hv1; clear hv2 hv3
              obtain ⟨bl, ol, cl, yj, hv, _, hyj, hcelll⟩ := Rd.at_ g2 hlj
              injection hv with hv1 hv2 hv3; cases hv1; clear hv2 hv3
              have hmo : xj < x0 → yk ≤ yj := fun hlt2 => by
                have h := HMO.out k j hlt hltj
                rw [List.getD_eq_getElem?_getD, List.getD_eq_getElem?_getD, List.getD_eq_getElem?_getD, List.getD_eq_getElem?_getD, hxj, HX.out, hyk, hyj] at h
                exact h hlt2
              clear hxj hyk hyj g1 g2 hlk hlj
              by_cases hxy : xj < x0
              · have hyy : decide (yj < yk) = false := decide_eq_false (by have := hmo hxy; omega)
                have hgd : decide (xj < x0) = true := decide_eq_true hxy
                clear hmo hxy
                go_wp2_with fail
                go_quiet (fail)
                go_wp2_with fail
                go_roundw
                case rel => exact ⟨j + 1, by omega, by go_num, HBJ.out.trans (bel_drewN _ _ _)⟩
                case measure => (simp [intOf]; try omega)
              · have hgd : decide (xj < x0) = false := decide_eq_false hxy
                clear hmo hxy
                go_wp2_with fail
                go_quiet (fail)
                go_wp2_with fail
                go_roundw
                case rel => exact ⟨j + 1, by omega, by go_num, HBJ.out.trans (bel_drewN _ _ _)⟩
                case measure => (simp [intOf]; try omega)
            · obtain rfl : j = ws.length := by omega
              go_wp2_with fail
              go_roundw
              case rel => exact ⟨k + 1, p + x0, by omega, by go_num, rfl, HS.out.symm, by omega, by omega, hw9.trans (HBJ.out.mono (by omega))⟩
              case measure => (simp [intOf]; try omega)
        · obtain rfl : k = ws.length := by omega
          have hps : p = ws.sum := by rw [HP.out, List.take_length]
          have hpf : 0 ≤ p * (fm : Int) ∧ p * (fm : Int) ≤ 200000 * 5 := ⟨Int.mul_nonneg hp0 (by omega), Int.mul_le_mul (by omega) (by omega) (by omega) (by omega)⟩
          by_cases hfl : l < (fm : Int)
          · have hgd : decide (l < (fm : Int)) = true := decide_eq_true hfl
            clear hps hpf
            clear hfl
            go_wp2_with fail
            go_ret
            exact ⟨ret_bool (by simp), hB9⟩
          · have hgd : decide (l < (fm : Int)) = false := decide_eq_false hfl
            have hle : lc ≤ p * (fm : Int) := by rw [HD.out, hps]; exact HFL.out (by omega)
            have hwr : wrap64 (p * (fm : Int)) = p * (fm : Int) := wrap_id (by omega) (by omega)
            have hle2 : decide (lc ≤ p * (fm : Int)) = true := decide_eq_true hle
            clear hle hps hpf
            clear hfl
            go_wp2_with fail
            go_ret
            exact ⟨ret_bool (by simp), hB9⟩
  · obtain ⟨hwa, hlb, hab, hcs⟩ := HTH.out rfl
    have HWA := Lib.hid hwa
    have HLB := Lib.hid hlb
    have HAB := Lib.hid hab
    have HCS := Lib.hid hcs
    clear hwa hlb hab hcs HCT HTH
    have hb9 : Below w8.heap.size w8 (w8.alloc (.cells #[.int .i64 2, .int .i64 3, .int .i64 10] 3)) := (Below.refl _ _).alloc (Nat.le_refl _) _
    have hz9 : (w8.alloc (.cells #[.int .i64 2, .int .i64 3, .int .i64 10] 3)).heap.size = w8.heap.size + 1 := by simp
    have qz0_9 : (w8.alloc (.cells #[.int .i64 2, .int .i64 3, .int .i64 10] 3)).cell? ⟨w8.heap.size, 0, Option.none⟩ = some (.int .i64 2) := (Blk.new w8 3 #[.int .i64 2, .int .i64 3, .int .i64 10]).cell 0
    have qz1_9 : (w8.alloc (.cells #[.int .i64 2, .int .i64 3, .int .i64 10] 3)).cell? ⟨w8.heap.size, 1, Option.none⟩ = some (.int .i64 3) := (Blk.new w8 3 #[.int .i64 2, .int .i64 3, .int .i64 10]).cell 1
    have qz2_9 : (w8.alloc (.cells #[.int .i64 2, .int .i64 3, .int .i64 10] 3)).cell? ⟨w8.heap.size, 2, Option.none⟩ = some (.int .i64 10) := (Blk.new w8 3 #[.int .i64 2, .int .i64 3, .int .i64 10]).cell 2
    go_wp2_with fail
    generalize w8.alloc (.cells #[.int .i64 2, .int .i64 3, .int .i64 10] 3) = w9 at hb9 hz9 qz0_9 qz1_9 qz2_9 ⊢
    have hy9 : w8.heap.size + 1 ≤ w9.heap.size := by omega
    clear hz9
    have hw9 : Below w8.heap.size w8 w9 := hb9
    have hs9 : w8.heap.size ≤ w9.heap.size := hw9.size
    have hB9 : Below w.heap.size w w9 := hB8.trans (hw9.mono (by omega))
    have H0_9 : RdU w9 w.heap.size (.slice A0 xs0.length c0) xs0 := H0_8.below hw9 (by omega)
    clear H0_8
    have H1_9 : RdU w9 w.heap.size (.slice A1 xs1.length c1) xs1 := H1_8.below hw9 (by omega)
    clear H1_8
    have fws_9 : RdI w9 w1.heap.size (.slice A2 ws.length c2) ws := fws_8.below hw9 (by omega)
    clear fws_8
    have fx_9 : RdI w9 w2.heap.size (.slice Ax (leastL ws r l).length cx) (leastL ws r l) := fx_8.below hw9 (by omega)
    clear fx_8
    have fy_9 : RdI w9 w3.heap.size (.slice Ay (leastL ws r l).length cy) (leastL ws r l) := fy_8.below hw9 (by omega)
    clear fy_8
    have fas_9 : RdI w9 w6.heap.size (.slice A3 va.length c3) va := fas_8.below hw9 (by omega)
    clear fas_8
    have fbs_9 : RdI w9 w6.heap.size (.slice A4 vb.length c4) vb := fbs_8.below hw9 (by omega)
    clear fbs_8
    go_loopw [172] (fun i wr => ∃ j : Nat, j ≤ 3 ∧ i = .int .i64 (j : Int) ∧ Hid (Below w9.heap.size w9 wr)) (fun i _ => 3 - (intOf i).toNat)
    case atStart => exact ⟨0, by omega, rfl, Below.refl _ _⟩
    case round =>
      obtain ⟨j, hj, rfl, HBL⟩ := hrel
      have hb10 := HBL.out
      clear HBL
      have hw10 : Below w9.heap.size w9 wr := hb10
      have hs10 : w9.heap.size ≤ wr.heap.size := hw10.size
      have hB10 : Below w.heap.size w wr := hB9.trans (hw10.mono (by omega))
      have H0_10 : RdU wr w.heap.size (.slice A0 xs0.length c0) xs0 := H0_9.below hw10 (by omega)
      clear H0_9
      have H1_10 : RdU wr w.heap.size (.slice A1 xs1.length c1) xs1 := H1_9.below hw10 (by omega)
      clear H1_9
      have fws_10 : RdI wr w1.heap.size (.slice A2 ws.length c2) ws := fws_9.below hw10 (by omega)
      clear fws_9
      have fx_10 : RdI wr w2.heap.size (.slice Ax (leastL ws r l).length cx) (leastL ws r l) := fx_9.below hw10 (by omega)
      clear fx_9
      have fy_10 : RdI wr w3.heap.size (.slice Ay (leastL ws r l).length cy) (leastL ws r l) := fy_9.below hw10 (by omega)
      clear fy_9
      have fas_10 : RdI wr w6.heap.size (.slice A3 va.length c3) va := fas_9.below hw10 (by omega)
      clear fas_9
      have fbs_10 : RdI wr w6.heap.size (.slice A4 vb.length c4) vb := fbs_9.below hw10 (by omega)
      clear fbs_9
      have qz0_10 := (hw10.cell (p := ⟨w8.heap.size, 0, Option.none⟩) (by show w8.heap.size < _; omega)).trans qz0_9
      clear qz0_9
      have qz1_10 := (hw10.cell (p := ⟨w8.heap.size, 1, Option.none⟩) (by show w8.heap.size < _; omega)).trans qz1_9
      clear qz1_9
      have qz2_10 := (hw10.cell (p := ⟨w8.heap.size, 2, Option.none⟩) (by show w8.heap.size < _; omega)).trans qz2_9
      clear qz2_9
      by_cases hlt : j < 3
      · obtain ⟨rr, hrr, hr2, hr60⟩ : ∃ rr : Int, wr.cell? ⟨w8.heap.size, j, Option.none⟩ = some (.int .i64 rr) ∧ 2 ≤ rr ∧ rr ≤ 60 := by
          have h3 : j = 0 ∨ j = 1 ∨ j = 2 := by omega
          rcases h3 with rfl | rfl | rfl
          · exact ⟨2, qz0_10, by omega, by omega⟩
          · exact ⟨3, qz1_10, by omega, by omega⟩
          · exact ⟨10, qz2_10, by omega, by omega⟩
        clear qz0_10
        clear qz1_10
        clear qz2_10
        obtain ⟨has, HHS, HHB⟩ : ∃ has, Hid (hasT vb rr = .tuple #[.bool has, .bool true]) ∧ Hid (has = true → kraftN rr.toNat (mostI vb).toNat vb ≤ rr.toNat ^ (mostI vb).toNat) := by
          show ∃ has, _ ∧ _; unfold hasT; rw [HLB.out, inB_iff.2 ⟨hr2, hr60⟩]
          exact ⟨_, rfl, fun h => by have h1 := of_decide_eq_true h; omega⟩
        have k90 := (by have h := HasCode_any vb rr _ _ wr fbs_10; rw [HHS.out] at h; exact h : Calls Try.prog 89 #[.slice A4 vb.length c4, .int .i64 rr] wr fun e w' => e = .returned (.tuple #[.bool has, .bool true]) ∧ wr = w')
        have K9 := Lib.hid k90
        clear k90
        go_wp2_with fail
        refine (K9.out).mono ?_
        rintro e w' ⟨rfl, rfl⟩
        clear K9
        have k100 := (by have h := sHasCode_any vb rr _ _ wr fbs_10; rw [HHS.out] at h; exact h : Calls Try.prog 90 #[.slice A4 vb.length c4, .int .i64 rr] wr fun e w' => e = .returned (.tuple #[.bool has, .bool true]) ∧ wr = w')
        have K10 := Lib.hid k100
        clear k100
        go_wp2_with fail
        refine (K10.out).mono ?_
        rintro e w' ⟨rfl, rfl⟩
        clear K10
        obtain ⟨tc, tb, HTC, HTB⟩ : ∃ tc tb, Hid (lcostV va rr 6 = .tuple #[.int .i64 tc, .bool tb]) ∧ Hid (has = true → tb = true ∧ tc ≤ cs) := by
          cases hl : leastB va rr 6
          · refine ⟨0, false, by show _ = _; unfold lcostV; rw [hl]; rfl, fun h => ?_⟩
            have h1 := (least_drawn HWA.out HLB.out HAB.out ⟨hr2, hr60⟩ (HHB.out h)).1
            rw [hl] at h1; cases h1
          · refine ⟨dotI va (leastL va rr 6), true, by show _ = _; unfold lcostV; rw [hl]; rfl, fun h => ⟨rfl, ?_⟩⟩
            rw [HCS.out]; exact (least_drawn HWA.out HLB.out HAB.out ⟨hr2, hr60⟩ (HHB.out h)).2
        have k110 := (by have h := LeastCost_any va rr 6 _ _ wr fas_10 (by omega); rw [HTC.out] at h; exact h : Calls Try.prog 65 #[.slice A3 va.length c3, .int .i64 rr, .int .i64 6] wr fun e w' => e = .returned (.tuple #[.int .i64 tc, .bool tb]) ∧ Below wr.heap.size wr w')
        have K11 := Lib.hid k110
        clear k110
        go_wp2_with fail
        refine (K11.out).mono ?_
        rintro e w11 ⟨rfl, hb11⟩
        have hw11 : Below wr.heap.size wr w11 := hb11
        have hs11 : wr.heap.size ≤ w11.heap.size := hw11.size
        have hB11 : Below w.heap.size w w11 := hB10.trans (hw11.mono (by omega))
        have H0_11 : RdU w11 w.heap.size (.slice A0 xs0.length c0) xs0 := H0_10.below hw11 (by omega)
        clear H0_10
        have H1_11 : RdU w11 w.heap.size (.slice A1 xs1.length c1) xs1 := H1_10.below hw11 (by omega)
        clear H1_10
        have fws_11 : RdI w11 w1.heap.size (.slice A2 ws.length c2) ws := fws_10.below hw11 (by omega)
        clear fws_10
        have fx_11 : RdI w11 w2.heap.size (.slice Ax (leastL ws r l).length cx) (leastL ws r l) := fx_10.below hw11 (by omega)
        clear fx_10
        have fy_11 : RdI w11 w3.heap.size (.slice Ay (leastL ws r l).length cy) (leastL ws r l) := fy_10.below hw11 (by omega)
        clear fy_10
        have fas_11 : RdI w11 w6.heap.size (.slice A3 va.length c3) va := fas_10.below hw11 (by omega)
        clear fas_10
        have fbs_11 : RdI w11 w6.heap.size (.slice A4 vb.length c4) vb := fbs_10.below hw11 (by omega)
        clear fbs_10
        clear K11
        have k120 := (by have h := sLeastCost_any va rr 6 _ _ w11 fas_11 (by omega); rw [HTC.out] at h; exact h : Calls Try.prog 64 #[.slice A3 va.length c3, .int .i64 rr, .int .i64 6] w11 fun e w' => e = .returned (.tuple #[.int .i64 tc, .bool tb]) ∧ Below w11.heap.size w11 w')
        have K12 := Lib.hid k120
        clear k120
        go_wp2_with fail
        refine (K12.out).mono ?_
        rintro e w12 ⟨rfl, hb12⟩
        have hw12 : Below w11.heap.size w11 w12 := hb12
        have hs12 : w11.heap.size ≤ w12.heap.size := hw12.size
        have hB12 : Below w.heap.size w w12 := hB11.trans (hw12.mono (by omega))
        have H0_12 : RdU w12 w.heap.size (.slice A0 xs0.length c0) xs0 := H0_11.below hw12 (by omega)
        clear H0_11
        have H1_12 : RdU w12 w.heap.size (.slice A1 xs1.length c1) xs1 := H1_11.below hw12 (by omega)
        clear H1_11
        have fws_12 : RdI w12 w1.heap.size (.slice A2 ws.length c2) ws := fws_11.below hw12 (by omega)
        clear fws_11
        have fx_12 : RdI w12 w2.heap.size (.slice Ax (leastL ws r l).length cx) (leastL ws r l) := fx_11.below hw12 (by omega)
        clear fx_11
        have fy_12 : RdI w12 w3.heap.size (.slice Ay (leastL ws r l).length cy) (leastL ws r l) := fy_11.below hw12 (by omega)
        clear fy_11
        have fas_12 : RdI w12 w6.heap.size (.slice A3 va.length c3) va := fas_11.below hw12 (by omega)
        clear fas_11
        have fbs_12 : RdI w12 w6.heap.size (.slice A4 vb.length c4) vb := fbs_11.below hw12 (by omega)
        clear fbs_11
        clear K12
        cases has
        · go_wp2_with fail
          go_roundw
          case rel => exact ⟨j + 1, by omega, by go_num, ((hw10).trans (hw11.mono (by omega))).trans (hw12.mono (by omega))⟩
          case measure => (simp [intOf]; try omega)
        · obtain ⟨rfl, htc⟩ := HTB.out rfl
          go_wp2_with fail
          go_roundw
          case rel => exact ⟨j + 1, by omega, by go_num, ((hw10).trans (hw11.mono (by omega))).trans (hw12.mono (by omega))⟩
          case measure => (simp [intOf]; try omega)
      · obtain rfl : j = 3 := by omega
        clear qz0_10
        clear qz1_10
        clear qz2_10
        obtain ⟨wz, hwz⟩ : ∃ wz, wz = wr := ⟨_, rfl⟩; subst hwz
        cases ok
        · go_wp2_with fail
          go_ret
          exact ⟨rfl, hB10⟩
        · clear fas_10
          clear fbs_10
          obtain ⟨L, HL⟩ : ∃ L, Hid (L = leastL ws r l) := ⟨_, rfl⟩
          have HK := Lib.hid (leastL_ok HOK.out)
          have HKC := Lib.hid (least_code HOK.out)
          have HMO : Hid (∀ i k, i < ws.length → k < ws.length → ws.getD k 0 < ws.getD i 0 → (leastL ws r l).getD i 0 ≤ (leastL ws r l).getD k 0) := fun i k h1 h2 h3 => least_mono HOK.out h1 h2 h3
          have hask : askB ws r l = true := by have h := HOK.out; unfold leastB at h; obtain ⟨y, hy⟩ := Option.isSome_iff_exists.1 h; exact (leastC_ask hy).1
          have HFL : Hid ((flatM ws.length r.toNat : Int) ≤ l → dotI ws (leastL ws r l) ≤ ws.sum * (flatM ws.length r.toNat : Int)) := fun h => least_flat hask h
          obtain ⟨⟨hq1, hq2⟩, hq3, ⟨hr2, hr60⟩, ⟨hl1, hl6⟩⟩ := askB_iff.1 hask
          have HWB : Hid (weightsB ws = true) := weightsB_iff.2 ⟨⟨hq1, hq2⟩, hq3⟩
          have HALL := Lib.hid hq3
          clear hask hq3
          have HD := Lib.hid (HLC.out.2 rfl)
          rw [← HL.out] at HK HKC HMO HFL HD fx_10 fy_10 ⊢
          have hln : L.length = ws.length := HK.out.2.1
          rw [hln] at fx_10 fy_10 ⊢
          have HLN := Lib.hid hln
          clear hln HLC HOK
          have k130 := (by have h := HasCode_any L r _ _ wz fx_10; rw [show hasT L r = .tuple #[.bool true, .bool true] by unfold hasT; rw [HK.out.1, inB_iff.2 ⟨hr2, hr60⟩]; have h1 := HKC.out; simp only [Bool.and_self, if_true]; rw [decide_eq_true (by exact_mod_cast h1)]] at h; exact h : Calls Try.prog 89 #[.slice Ax ws.length cx, .int .i64 r] wz fun e w' => e = .returned (.tuple #[.bool true, .bool true]) ∧ wz = w')
          have K13 := Lib.hid k130
          clear k130
          go_wp2_with fail
          refine (K13.out).mono ?_
          rintro e w' ⟨rfl, rfl⟩
          clear K13
          have k140 := (by have h := CostOf_any ws L _ _ _ _ wz fws_10 fx_10; rw [costT_yes HWB.out HK.out.1 HLN.out.symm, ← HD.out] at h; exact h : Calls Try.prog 84 #[.slice A2 ws.length c2, .slice Ax ws.length cx] wz fun e w' => e = .returned (.tuple #[.int .i64 lc, .bool true]) ∧ wz = w')
          have K14 := Lib.hid k140
          clear k140
          go_wp2_with fail
          refine (K14.out).mono ?_
          rintro e w' ⟨rfl, rfl⟩
          clear K14
          obtain ⟨fm, hfm⟩ : ∃ fm : Nat, fm = flatM ws.length r.toNat := ⟨_, rfl⟩
          have hfm5 := flatM_le ws.length r.toNat
          rw [← hfm] at HFL hfm5
          have HFT : Hid (flatT (ws.length : Int) r = .tuple #[.int .i64 (fm : Int), .bool true]) := by
            show _ = _; unfold flatT; rw [inB_iff.2 ⟨by omega, by omega⟩, inB_iff.2 ⟨hr2, hr60⟩, hfm]; rfl
          clear hfm
          have k150 := (by have h := FlatLength_any (ws.length : Int) r wz; rw [HFT.out] at h; exact h : Calls Try.prog 87 #[.int .i64 (ws.length : Int), .int .i64 r] wz fun e w' => e = .returned (.tuple #[.int .i64 (fm : Int), .bool true]) ∧ wz = w')
          have K15 := Lib.hid k150
          clear k150
          go_wp2_with fail
          refine (K15.out).mono ?_
          rintro e w' ⟨rfl, rfl⟩
          clear K15
          have k160 := (by have h := sFlatLength_any (ws.length : Int) r wz; rw [HFT.out] at h; exact h : Calls Try.prog 88 #[.int .i64 (ws.length : Int), .int .i64 r] wz fun e w' => e = .returned (.tuple #[.int .i64 (fm : Int), .bool true]) ∧ wz = w')
          have K16 := Lib.hid k160
          clear k160
          go_wp2_with fail
          refine (K16.out).mono ?_
          rintro e w' ⟨rfl, rfl⟩
          clear K16
          go_wp2_with fail
          go_loopw [46, 299] (fun s i wr => ∃ (k : Nat) (p : Int), k ≤ ws.length ∧ i = .int .i64 (k : Int) ∧ s = .int .i64 p ∧ Hid (p = (ws.take k).sum) ∧ 0 ≤ p ∧ p ≤ 10000 * k ∧ Hid (Below wz.heap.size wz wr)) (fun _ i _ => ws.length - (intOf i).toNat)
          case atStart => exact ⟨0, 0, Nat.zero_le _, rfl, rfl, rfl, by omega, by omega, Below.refl _ _⟩
          case round =>
            obtain ⟨k, p, hk, rfl, rfl, HP, hp0, hp1, HBL⟩ := hrel
            have hb11 := HBL.out
            clear HBL
            have hw11 : Below wz.heap.size wz wr := hb11
            have hs11 : wz.heap.size ≤ wr.heap.size := hw11.size
            have hB11 : Below w.heap.size w wr := hB10.trans (hw11.mono (by omega))
            have H0_11 : RdU wr w.heap.size (.slice A0 xs0.length c0) xs0 := H0_10.below hw11 (by omega)
            clear H0_10
            have H1_11 : RdU wr w.heap.size (.slice A1 xs1.length c1) xs1 := H1_10.below hw11 (by omega)
            clear H1_10
            have fws_11 : RdI wr w1.heap.size (.slice A2 ws.length c2) ws := fws_10.below hw11 (by omega)
            clear fws_10
            have fx_11 : RdI wr w2.heap.size (.slice Ax ws.length cx) L := fx_10.below hw11 (by omega)
            clear fx_10
            have fy_11 : RdI wr w3.heap.size (.slice Ay ws.length cy) L := fy_10.below hw11 (by omega)
            clear fy_10
            by_cases hlt : k < ws.length
            · obtain ⟨b1, o1, c1, x0, hv, hb1, hx0, hcell1⟩ := Rd.at_ fws_11 hlt
              cases hv
              obtain ⟨b2, o2, c2, y0, hv, hb2, hy0, hcell2⟩ := Rd.at_ fy_11 (show k < L.length by rw [HLN.out]; exact hlt)
              injection hv with hv1 hv2 hv3; cases hv1; clear hv2 hv3
              have hxb := allB_mem hx0 HALL.out
              have HS : Hid ((ws.take (k + 1)).sum = p + x0) := by show _ = _; rw [sum_takeI hx0, HP.out]
              have hyb : 1 ≤ y0 ∧ y0 ≤ l := by have h := HK.out.2.2 k hlt; rw [List.getD_eq_getElem?_getD, hy0] at h; exact h
              have hy1 : decide (y0 < 1) = false := decide_eq_false (by omega)
              have hy2 : decide (l < y0) = false := decide_eq_false (by omega)
              have HX := Lib.hid hx0
              have HY := Lib.hid hy0
              clear hx0 hy0
              go_wp2_with fail
              rename World => wo
              go_loopw [322] (fun i wr => ∃ j : Nat, j ≤ ws.length ∧ i = .int .i64 (j : Int) ∧ Hid (Below wo.heap.size wo wr)) (fun i _ => ws.length - (intOf i).toNat)
              case atStart => exact ⟨0, Nat.zero_le _, rfl, Below.refl _ _⟩
              case round =>
                obtain ⟨j, hj, rfl, HBJ⟩ := hrel
                by_cases hltj : j < ws.length
                · have hszj := HBJ.out.size
                  have g1 := fws_11.below HBJ.out (by omega)
                  have g2 := fy_11.below HBJ.out (by omega)
                  have hlk : k < L.length := by rw [HLN.out]; exact hlt
                  have hlj : j < L.length := by rw [HLN.out]; exact hltj
                  obtain ⟨bj, oj, cj, xj, hv, _, hxj, hcellj⟩ := Rd.at_ g1 hltj
                  injection hv with hv1 hv2 hv3; cases hv1; clear hv2 hv3
                  obtain ⟨bk, ok2, ck, yk, hv, _, hyk, hcellk⟩ := Rd.at_ g2 hlk
                  injection hv with hv1 hv2 hv3; cases hv1; clear hv2 hv3
                  obtain ⟨bl, ol, cl, yj, hv, _, hyj, hcelll⟩ := Rd.at_ g2 hlj
                  injection hv with hv1 hv2 hv3; cases hv1; clear hv2 hv3
                  have hmo : xj < x0 → yk ≤ yj := fun hlt2 => by
                    have h := HMO.out k j hlt hltj
                    rw [List.getD_eq_getElem?_getD, List.getD_eq_getElem?_getD, List.getD_eq_getElem?_getD, List.getD_eq_getElem?_getD, hxj, HX.out, hyk, hyj] at h
                    exact h hlt2
                  clear hxj hyk hyj g1 g2 hlk hlj
                  by_cases hxy : xj < x0
                  · have hyy : decide (yj < yk) = false := decide_eq_false (by have := hmo hxy; omega)
                    have hgd : decide (xj < x0) = true := decide_eq_true hxy
                    clear hmo hxy
                    go_wp2_with fail
                    go_quiet (fail)
                    go_wp2_with fail
                    go_roundw
                    case rel => exact ⟨j + 1, by omega, by go_num, HBJ.out.trans (bel_drewN _ _ _)⟩
                    case measure => (simp [intOf]; try omega)
                  · have hgd : decide (xj < x0) = false := decide_eq_false hxy
                    clear hmo hxy
                    go_wp2_with fail
                    go_quiet (fail)
                    go_wp2_with fail
                    go_roundw
                    case rel => exact ⟨j + 1, by omega, by go_num, HBJ.out.trans (bel_drewN _ _ _)⟩
                    case measure => (simp [intOf]; try omega)
                · obtain rfl : j = ws.length := by omega
                  go_wp2_with fail
                  go_roundw
                  case rel => exact ⟨k + 1, p + x0, by omega, by go_num, rfl, HS.out.symm, by omega, by omega, hw11.trans (HBJ.out.mono (by omega))⟩
                  case measure => (simp [intOf]; try omega)
            · obtain rfl : k = ws.length := by omega
              have hps : p = ws.sum := by rw [HP.out, List.take_length]
              have hpf : 0 ≤ p * (fm : Int) ∧ p * (fm : Int) ≤ 200000 * 5 := ⟨Int.mul_nonneg hp0 (by omega), Int.mul_le_mul (by omega) (by omega) (by omega) (by omega)⟩
              by_cases hfl : l < (fm : Int)
              · have hgd : decide (l < (fm : Int)) = true := decide_eq_true hfl
                clear hps hpf
                clear hfl
                go_wp2_with fail
                go_ret
                exact ⟨ret_bool (by simp), hB11⟩
              · have hgd : decide (l < (fm : Int)) = false := decide_eq_false hfl
                have hle : lc ≤ p * (fm : Int) := by rw [HD.out, hps]; exact HFL.out (by omega)
                have hwr : wrap64 (p * (fm : Int)) = p * (fm : Int) := wrap_id (by omega) (by omega)
                have hle2 : decide (lc ≤ p * (fm : Int)) = true := decide_eq_true hle
                clear hle hps hpf
                clear hfl
                go_wp2_with fail
                go_ret
                exact ⟨ret_bool (by simp), hB11⟩
end Go.Proofs.Ytabiobjcfopakaa.fnLeastCodes
