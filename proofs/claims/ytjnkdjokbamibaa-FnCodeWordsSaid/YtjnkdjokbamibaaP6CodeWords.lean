/- Texts of one claim, joined: VCodeWords. -/
import Derived.Test.YtjnkdjokbamibaaP5CodeWords
/- The walk of the law FnCodeWords. -/
namespace Go.Proofs.Ytjnkdjokbamibaa.fnCodeWords
open Go.ChangeShapes Go.WideShapes Go.ChangeAt Go.RowKit
open Go.ChangeMaps (open_string)
set_option linter.unusedVariables false
set_option maxHeartbeats 20000000 in
set_option maxRecDepth 100000 in
theorem walk (v0 : Value) (xs0 : List UInt8) (v1 : Value) (xs1 : List UInt8) (w : World) (hr0 : RdU w w.heap.size v0 xs0) (hr1 : RdU w w.heap.size v1 xs1) : Calls Try.prog 6 #[v0, v1] w fun e w' => e = .returned (.bool true) ∧ Below w.heap.size w w' := by
  obtain ⟨A0, c0, rfl, hc0, hm0⟩ := Rd.form hr0
  obtain ⟨A1, c1, rfl, hc1, hm1⟩ := Rd.form hr1
  have H0 := Lib.hid hr0
  have H1 := Lib.hid hr1
  clear hr0 hr1
  by_cases hbig : 1048576 < wrap64 ((xs0.length : Int) + (xs1.length : Int))
  · go_enter Try.func6, Try.ntmps6
    go_wp2_with fail
    go_ret
    exact ⟨rfl, Below.refl _ _⟩
  go_enter Try.func6, Try.ntmps6
  go_wp2_with fail
  refine (DrawCanonicalCode_any xs0 _ w.heap.size w H0.out (Nat.le_refl _)).mono ?_
  rintro e w1 ⟨u0, ls, r, rfl, hnl, fls, hb1⟩
  clear hbig
  obtain ⟨A2, c2, rfl, _, _⟩ := Rd.form fls
  have hw1 : Below w.heap.size w w1 := hb1
  have hs1 : w.heap.size ≤ w1.heap.size := hw1.size
  have hB1 : Below w.heap.size w w1 := hw1.mono (by omega)
  have H0_1 : RdU w1 w.heap.size (.slice A0 xs0.length c0) xs0 := H0.out.below hw1 (by omega)
  have H1_1 : RdU w1 w.heap.size (.slice A1 xs1.length c1) xs1 := H1.out.below hw1 (by omega)
  obtain ⟨K, Wn, hh, th, hkt, hht, hcb, hth, hkw⟩ := can_told ls r
  have HKT := Lib.hid hkt
  have HHT := Lib.hid hht
  have HCB := Lib.hid hcb
  clear hkt hht hcb
  cases th
  · obtain rfl := hth rfl
    clear hth hkw
    have HOK : Hid (canB ls r = false) := HCB.out
    clear HCB
    have k10 := (by have h := CanonicalCode_any ls r _ _ w1 fls (by omega); rw [HOK.out] at h; exact h : Calls Try.prog 43 #[.slice A2 ls.length c2, .int .i64 r] w1 (RetOwIIT (canR ls r) false w1))
    have K1 := Lib.hid k10
    clear k10
    go_wp2_with fail
    refine (K1.out).mono ?_
    rintro e w2 ⟨x, rfl, fx, hb2⟩
    have fx_2 := fx.rd
    obtain ⟨Ax, cx, rfl, _⟩ := fx_2.form
    clear fx
    have hw2 : Below w1.heap.size w1 w2 := hb2
    have hs2 : w1.heap.size ≤ w2.heap.size := hw2.size
    have hB2 : Below w.heap.size w w2 := hB1.trans (hw2.mono (by omega))
    have H0_2 : RdU w2 w.heap.size (.slice A0 xs0.length c0) xs0 := H0_1.below hw2 (by omega)
    clear H0_1
    have H1_2 : RdU w2 w.heap.size (.slice A1 xs1.length c1) xs1 := H1_1.below hw2 (by omega)
    clear H1_1
    have fls_2 : RdI w2 w1.heap.size (.slice A2 ls.length c2) ls := fls.below hw2 (by omega)
    clear fls
    clear K1
    have k20 := (by have h := sCanonicalCode_any ls r _ _ w2 fls_2 (by omega); rw [HOK.out] at h; exact h : Calls Try.prog 44 #[.slice A2 ls.length c2, .int .i64 r] w2 (RetOwIIT (canR ls r) false w2))
    have K2 := Lib.hid k20
    clear k20
    go_wp2_with fail
    refine (K2.out).mono ?_
    rintro e w3 ⟨y, rfl, fy, hb3⟩
    have fy_3 := fy.rd
    obtain ⟨Ay, cy, rfl, _⟩ := fy_3.form
    clear fy
    have hw3 : Below w2.heap.size w2 w3 := hb3
    have hs3 : w2.heap.size ≤ w3.heap.size := hw3.size
    have hB3 : Below w.heap.size w w3 := hB2.trans (hw3.mono (by omega))
    have H0_3 : RdU w3 w.heap.size (.slice A0 xs0.length c0) xs0 := H0_2.below hw3 (by omega)
    clear H0_2
    have H1_3 : RdU w3 w.heap.size (.slice A1 xs1.length c1) xs1 := H1_2.below hw3 (by omega)
    clear H1_2
    have fls_3 : RdI w3 w1.heap.size (.slice A2 ls.length c2) ls := fls_2.below hw3 (by omega)
    clear fls_2
    have fx_3 : RdII w3 w2.heap.size (.slice Ax (canR ls r).length cx) (canR ls r) := fx_2.below hw3 (by omega)
    clear fx_2
    clear K2
    have k30 := (by have h := KraftSum_any ls r _ _ w3 fls_3; rw [HKT.out] at h; exact h : Calls Try.prog 45 #[.slice A2 ls.length c2, .int .i64 r] w3 fun e w' => e = .returned (.tuple #[.int .i64 (K), .int .i64 (Wn), .bool false]) ∧ w3 = w')
    have K3 := Lib.hid k30
    clear k30
    go_wp2_with fail
    refine (K3.out).mono ?_
    rintro e w' ⟨rfl, rfl⟩
    clear K3
    have k40 := (by have h := sKraftSum_any ls r _ _ w3 fls_3; rw [HKT.out] at h; exact h : Calls Try.prog 46 #[.slice A2 ls.length c2, .int .i64 r] w3 fun e w' => e = .returned (.tuple #[.int .i64 (K), .int .i64 (Wn), .bool false]) ∧ w3 = w')
    have K4 := Lib.hid k40
    clear k40
    go_wp2_with fail
    refine (K4.out).mono ?_
    rintro e w' ⟨rfl, rfl⟩
    clear K4
    have k50 := (by have h := HasCode_any ls r _ _ w3 fls_3; rw [HHT.out] at h; exact h : Calls Try.prog 47 #[.slice A2 ls.length c2, .int .i64 r] w3 fun e w' => e = .returned (.tuple #[.bool false, .bool false]) ∧ w3 = w')
    have K5 := Lib.hid k50
    clear k50
    go_wp2_with fail
    refine (K5.out).mono ?_
    rintro e w' ⟨rfl, rfl⟩
    clear K5
    have k60 := (by have h := sHasCode_any ls r _ _ w3 fls_3; rw [HHT.out] at h; exact h : Calls Try.prog 48 #[.slice A2 ls.length c2, .int .i64 r] w3 fun e w' => e = .returned (.tuple #[.bool false, .bool false]) ∧ w3 = w')
    have K6 := Lib.hid k60
    clear k60
    go_wp2_with fail
    refine (K6.out).mono ?_
    rintro e w' ⟨rfl, rfl⟩
    clear K6
    go_wp2_with fail
    refine (DrawWriteWords_any xs1 _ w.heap.size w3 H1_3 (by omega)).mono ?_
    rintro e w4 ⟨vu, nu, vl, is, rfl, his, hru, hoi, hb4⟩
    obtain ⟨A4, c4, rfl⟩ := hru.form
    obtain ⟨us, hul, fu⟩ := hru.rd
    subst hul
    obtain ⟨A5, c5, rfl, _⟩ := hoi.form
    have fi := hoi.rd
    clear hru hoi
    have hw4 : Below w3.heap.size w3 w4 := hb4
    have hs4 : w3.heap.size ≤ w4.heap.size := hw4.size
    have hB4 : Below w.heap.size w w4 := hB3.trans (hw4.mono (by omega))
    have H0_4 : RdU w4 w.heap.size (.slice A0 xs0.length c0) xs0 := H0_3.below hw4 (by omega)
    clear H0_3
    have H1_4 : RdU w4 w.heap.size (.slice A1 xs1.length c1) xs1 := H1_3.below hw4 (by omega)
    clear H1_3
    have fls_4 : RdI w4 w1.heap.size (.slice A2 ls.length c2) ls := fls_3.below hw4 (by omega)
    clear fls_3
    have fx_4 : RdII w4 w2.heap.size (.slice Ax (canR ls r).length cx) (canR ls r) := fx_3.below hw4 (by omega)
    clear fx_3
    have fy_4 : RdII w4 w3.heap.size (.slice Ay (canR ls r).length cy) (canR ls r) := fy_3.below hw4 (by omega)
    clear fy_3
    obtain ⟨fv, HFV⟩ : ∃ fv, Hid (writeB us is = fv) := ⟨_, rfl⟩
    have k70 := (by have h := WriteWords_any us is _ _ _ _ w4 fu fi (by omega) (by omega); rw [HFV.out] at h; exact h : Calls Try.prog 50 #[.slice A4 us.length c4, .slice A5 is.length c5] w4 (RetOwT (writeL us is) fv w4))
    have K7 := Lib.hid k70
    clear k70
    go_wp2_with fail
    refine (K7.out).mono ?_
    rintro e w5 ⟨wa, rfl, fwa, hb5⟩
    obtain ⟨Awa, cwa, rfl, _⟩ := fwa.form
    have fwa_5 : RdI w5 w5.heap.size (.slice Awa (writeL us is).length cwa) (writeL us is) := fwa.rd
    clear fwa
    have hw5 : Below w4.heap.size w4 w5 := hb5
    have hs5 : w4.heap.size ≤ w5.heap.size := hw5.size
    have hB5 : Below w.heap.size w w5 := hB4.trans (hw5.mono (by omega))
    have H0_5 : RdU w5 w.heap.size (.slice A0 xs0.length c0) xs0 := H0_4.below hw5 (by omega)
    clear H0_4
    have H1_5 : RdU w5 w.heap.size (.slice A1 xs1.length c1) xs1 := H1_4.below hw5 (by omega)
    clear H1_4
    have fls_5 : RdI w5 w1.heap.size (.slice A2 ls.length c2) ls := fls_4.below hw5 (by omega)
    clear fls_4
    have fx_5 : RdII w5 w2.heap.size (.slice Ax (canR ls r).length cx) (canR ls r) := fx_4.below hw5 (by omega)
    clear fx_4
    have fy_5 : RdII w5 w3.heap.size (.slice Ay (canR ls r).length cy) (canR ls r) := fy_4.below hw5 (by omega)
    clear fy_4
    have fu_5 : RdII w5 w4.heap.size (.slice A4 us.length c4) us := fu.below hw5 (by omega)
    clear fu
    have fi_5 : RdI w5 w4.heap.size (.slice A5 is.length c5) is := fi.below hw5 (by omega)
    clear fi
    clear K7
    have k80 := (by have h := sWriteWords_any us is _ _ _ _ w5 fu_5 fi_5 (by omega) (by omega); rw [HFV.out] at h; exact h : Calls Try.prog 51 #[.slice A4 us.length c4, .slice A5 is.length c5] w5 (RetOwT (writeL us is) fv w5))
    have K8 := Lib.hid k80
    clear k80
    go_wp2_with fail
    refine (K8.out).mono ?_
    rintro e w6 ⟨wb, rfl, fwb, hb6⟩
    obtain ⟨Awb, cwb, rfl, _⟩ := fwb.form
    have fwb_6 : RdI w6 w6.heap.size (.slice Awb (writeL us is).length cwb) (writeL us is) := fwb.rd
    clear fwb
    have hw6 : Below w5.heap.size w5 w6 := hb6
    have hs6 : w5.heap.size ≤ w6.heap.size := hw6.size
    have hB6 : Below w.heap.size w w6 := hB5.trans (hw6.mono (by omega))
    have H0_6 : RdU w6 w.heap.size (.slice A0 xs0.length c0) xs0 := H0_5.below hw6 (by omega)
    clear H0_5
    have H1_6 : RdU w6 w.heap.size (.slice A1 xs1.length c1) xs1 := H1_5.below hw6 (by omega)
    clear H1_5
    have fls_6 : RdI w6 w1.heap.size (.slice A2 ls.length c2) ls := fls_5.below hw6 (by omega)
    clear fls_5
    have fx_6 : RdII w6 w2.heap.size (.slice Ax (canR ls r).length cx) (canR ls r) := fx_5.below hw6 (by omega)
    clear fx_5
    have fy_6 : RdII w6 w3.heap.size (.slice Ay (canR ls r).length cy) (canR ls r) := fy_5.below hw6 (by omega)
    clear fy_5
    have fu_6 : RdII w6 w4.heap.size (.slice A4 us.length c4) us := fu_5.below hw6 (by omega)
    clear fu_5
    have fi_6 : RdI w6 w4.heap.size (.slice A5 is.length c5) is := fi_5.below hw6 (by omega)
    clear fi_5
    have fwa_6 : RdI w6 w5.heap.size (.slice Awa (writeL us is).length cwa) (writeL us is) := fwa_5.below hw6 (by omega)
    clear fwa_5
    clear K8
    go_wp2_with fail
    refine (DrawReadWords_any xs1 _ w.heap.size w6 H1_6 (by omega)).mono ?_
    rintro e w7 ⟨vv, vs, vd, ds, rfl, hdl, fv2, fd, hb7⟩
    obtain ⟨A6, c6, rfl, _⟩ := fv2.form
    obtain ⟨A7, c7, rfl, _, _⟩ := Rd.form fd
    have hw7 : Below w6.heap.size w6 w7 := hb7
    have hs7 : w6.heap.size ≤ w7.heap.size := hw7.size
    have hB7 : Below w.heap.size w w7 := hB6.trans (hw7.mono (by omega))
    have H0_7 : RdU w7 w.heap.size (.slice A0 xs0.length c0) xs0 := H0_6.below hw7 (by omega)
    clear H0_6
    have H1_7 : RdU w7 w.heap.size (.slice A1 xs1.length c1) xs1 := H1_6.below hw7 (by omega)
    clear H1_6
    have fls_7 : RdI w7 w1.heap.size (.slice A2 ls.length c2) ls := fls_6.below hw7 (by omega)
    clear fls_6
    have fx_7 : RdII w7 w2.heap.size (.slice Ax (canR ls r).length cx) (canR ls r) := fx_6.below hw7 (by omega)
    clear fx_6
    have fy_7 : RdII w7 w3.heap.size (.slice Ay (canR ls r).length cy) (canR ls r) := fy_6.below hw7 (by omega)
    clear fy_6
    have fu_7 : RdII w7 w4.heap.size (.slice A4 us.length c4) us := fu_6.below hw7 (by omega)
    clear fu_6
    have fi_7 : RdI w7 w4.heap.size (.slice A5 is.length c5) is := fi_6.below hw7 (by omega)
    clear fi_6
    have fwa_7 : RdI w7 w5.heap.size (.slice Awa (writeL us is).length cwa) (writeL us is) := fwa_6.below hw7 (by omega)
    clear fwa_6
    have fwb_7 : RdI w7 w6.heap.size (.slice Awb (writeL us is).length cwb) (writeL us is) := fwb_6.below hw7 (by omega)
    clear fwb_6
    obtain ⟨rl, rq, HRR⟩ : ∃ rl rq, Hid (readRes vs ds = (rl, rq)) := ⟨_, _, rfl⟩
    have k90 := (by have h := ReadWords_any vs ds _ _ _ _ w7 fv2 fd (by omega) (by omega); rw [HRR.out] at h; exact h : Calls Try.prog 53 #[.slice A6 vs.length c6, .slice A7 ds.length c7] w7 (RetOwT (rl) rq w7))
    have K9 := Lib.hid k90
    clear k90
    go_wp2_with fail
    refine (K9.out).mono ?_
    rintro e w8 ⟨ra, rfl, fra, hb8⟩
    obtain ⟨Ara, cra, rfl, _⟩ := fra.form
    have fra_8 : RdI w8 w8.heap.size (.slice Ara (rl).length cra) (rl) := fra.rd
    clear fra
    have hw8 : Below w7.heap.size w7 w8 := hb8
    have hs8 : w7.heap.size ≤ w8.heap.size := hw8.size
    have hB8 : Below w.heap.size w w8 := hB7.trans (hw8.mono (by omega))
    have H0_8 : RdU w8 w.heap.size (.slice A0 xs0.length c0) xs0 := H0_7.below hw8 (by omega)
    clear H0_7
    have H1_8 : RdU w8 w.heap.size (.slice A1 xs1.length c1) xs1 := H1_7.below hw8 (by omega)
    clear H1_7
    have fls_8 : RdI w8 w1.heap.size (.slice A2 ls.length c2) ls := fls_7.below hw8 (by omega)
    clear fls_7
    have fx_8 : RdII w8 w2.heap.size (.slice Ax (canR ls r).length cx) (canR ls r) := fx_7.below hw8 (by omega)
    clear fx_7
    have fy_8 : RdII w8 w3.heap.size (.slice Ay (canR ls r).length cy) (canR ls r) := fy_7.below hw8 (by omega)
    clear fy_7
    have fu_8 : RdII w8 w4.heap.size (.slice A4 us.length c4) us := fu_7.below hw8 (by omega)
    clear fu_7
    have fi_8 : RdI w8 w4.heap.size (.slice A5 is.length c5) is := fi_7.below hw8 (by omega)
    clear fi_7
    have fwa_8 : RdI w8 w5.heap.size (.slice Awa (writeL us is).length cwa) (writeL us is) := fwa_7.below hw8 (by omega)
    clear fwa_7
    have fwb_8 : RdI w8 w6.heap.size (.slice Awb (writeL us is).length cwb) (writeL us is) := fwb_7.below hw8 (by omega)
    clear fwb_7
    have fv2_8 : RdII w8 w7.heap.size (.slice A6 vs.length c6) vs := fv2.below hw8 (by omega)
    clear fv2
    have fd_8 : RdI w8 w7.heap.size (.slice A7 ds.length c7) ds := fd.below hw8 (by omega)
    clear fd
    clear K9
    have ka0 := (by have h := sReadWords_any vs ds _ _ _ _ w8 fv2_8 fd_8 (by omega) (by omega); rw [HRR.out] at h; exact h : Calls Try.prog 54 #[.slice A6 vs.length c6, .slice A7 ds.length c7] w8 (RetOwT (rl) rq w8))
    have KA := Lib.hid ka0
    clear ka0
    go_wp2_with fail
    refine (KA.out).mono ?_
    rintro e w9 ⟨rb, rfl, frb, hb9⟩
    obtain ⟨Arb, crb, rfl, _⟩ := frb.form
    have frb_9 : RdI w9 w9.heap.size (.slice Arb (rl).length crb) (rl) := frb.rd
    clear frb
    have hw9 : Below w8.heap.size w8 w9 := hb9
    have hs9 : w8.heap.size ≤ w9.heap.size := hw9.size
    have hB9 : Below w.heap.size w w9 := hB8.trans (hw9.mono (by omega))
    have H0_9 : RdU w9 w.heap.size (.slice A0 xs0.length c0) xs0 := H0_8.below hw9 (by omega)
    clear H0_8
    have H1_9 : RdU w9 w.heap.size (.slice A1 xs1.length c1) xs1 := H1_8.below hw9 (by omega)
    clear H1_8
    have fls_9 : RdI w9 w1.heap.size (.slice A2 ls.length c2) ls := fls_8.below hw9 (by omega)
    clear fls_8
    have fx_9 : RdII w9 w2.heap.size (.slice Ax (canR ls r).length cx) (canR ls r) := fx_8.below hw9 (by omega)
    clear fx_8
    have fy_9 : RdII w9 w3.heap.size (.slice Ay (canR ls r).length cy) (canR ls r) := fy_8.below hw9 (by omega)
    clear fy_8
    have fu_9 : RdII w9 w4.heap.size (.slice A4 us.length c4) us := fu_8.below hw9 (by omega)
    clear fu_8
    have fi_9 : RdI w9 w4.heap.size (.slice A5 is.length c5) is := fi_8.below hw9 (by omega)
    clear fi_8
    have fwa_9 : RdI w9 w5.heap.size (.slice Awa (writeL us is).length cwa) (writeL us is) := fwa_8.below hw9 (by omega)
    clear fwa_8
    have fwb_9 : RdI w9 w6.heap.size (.slice Awb (writeL us is).length cwb) (writeL us is) := fwb_8.below hw9 (by omega)
    clear fwb_8
    have fv2_9 : RdII w9 w7.heap.size (.slice A6 vs.length c6) vs := fv2_8.below hw9 (by omega)
    clear fv2_8
    have fd_9 : RdI w9 w7.heap.size (.slice A7 ds.length c7) ds := fd_8.below hw9 (by omega)
    clear fd_8
    have fra_9 : RdI w9 w8.heap.size (.slice Ara (rl).length cra) (rl) := fra_8.below hw9 (by omega)
    clear fra_8
    clear KA
    go_upto_region 16 with fail
    go_cut [207] (fun s wx => s = .bool false ∧ Hid (Below w9.heap.size w9 wx))
    case first => as_aux_lemma =>
      go_wp2_with fail
      refine (qLists_sameB _ _ _ _ _ _ fx_9 fy_9 (by omega) (by omega)).mono ?_
      rintro e w10 ⟨rfl, hb10⟩
      have hw10 : Below w9.heap.size w9 w10 := hb10
      have hs10 : w9.heap.size ≤ w10.heap.size := hw10.size
      have hB10 : Below w.heap.size w w10 := hB9.trans (hw10.mono (by omega))
      have H0_10 : RdU w10 w.heap.size (.slice A0 xs0.length c0) xs0 := H0_9.below hw10 (by omega)
      clear H0_9
      have H1_10 : RdU w10 w.heap.size (.slice A1 xs1.length c1) xs1 := H1_9.below hw10 (by omega)
      clear H1_9
      have fls_10 : RdI w10 w1.heap.size (.slice A2 ls.length c2) ls := fls_9.below hw10 (by omega)
      clear fls_9
      have fx_10 : RdII w10 w2.heap.size (.slice Ax (canR ls r).length cx) (canR ls r) := fx_9.below hw10 (by omega)
      clear fx_9
      have fy_10 : RdII w10 w3.heap.size (.slice Ay (canR ls r).length cy) (canR ls r) := fy_9.below hw10 (by omega)
      clear fy_9
      have fu_10 : RdII w10 w4.heap.size (.slice A4 us.length c4) us := fu_9.below hw10 (by omega)
      clear fu_9
      have fi_10 : RdI w10 w4.heap.size (.slice A5 is.length c5) is := fi_9.below hw10 (by omega)
      clear fi_9
      have fwa_10 : RdI w10 w5.heap.size (.slice Awa (writeL us is).length cwa) (writeL us is) := fwa_9.below hw10 (by omega)
      clear fwa_9
      have fwb_10 : RdI w10 w6.heap.size (.slice Awb (writeL us is).length cwb) (writeL us is) := fwb_9.below hw10 (by omega)
      clear fwb_9
      have fv2_10 : RdII w10 w7.heap.size (.slice A6 vs.length c6) vs := fv2_9.below hw10 (by omega)
      clear fv2_9
      have fd_10 : RdI w10 w7.heap.size (.slice A7 ds.length c7) ds := fd_9.below hw10 (by omega)
      clear fd_9
      have fra_10 : RdI w10 w8.heap.size (.slice Ara (rl).length cra) (rl) := fra_9.below hw10 (by omega)
      clear fra_9
      have frb_10 : RdI w10 w9.heap.size (.slice Arb (rl).length crb) (rl) := frb_9.below hw10 (by omega)
      clear frb_9
      go_wp2_with fail
      refine (qInts_sameB _ _ _ _ _ _ fwa_10 fwb_10).mono ?_
      rintro e w11 ⟨rfl, hb11⟩
      have hw11 : Below w10.heap.size w10 w11 := hb11
      have hs11 : w10.heap.size ≤ w11.heap.size := hw11.size
      have hB11 : Below w.heap.size w w11 := hB10.trans (hw11.mono (by omega))
      have H0_11 : RdU w11 w.heap.size (.slice A0 xs0.length c0) xs0 := H0_10.below hw11 (by omega)
      clear H0_10
      have H1_11 : RdU w11 w.heap.size (.slice A1 xs1.length c1) xs1 := H1_10.below hw11 (by omega)
      clear H1_10
      have fls_11 : RdI w11 w1.heap.size (.slice A2 ls.length c2) ls := fls_10.below hw11 (by omega)
      clear fls_10
      have fx_11 : RdII w11 w2.heap.size (.slice Ax (canR ls r).length cx) (canR ls r) := fx_10.below hw11 (by omega)
      clear fx_10
      have fy_11 : RdII w11 w3.heap.size (.slice Ay (canR ls r).length cy) (canR ls r) := fy_10.below hw11 (by omega)
      clear fy_10
      have fu_11 : RdII w11 w4.heap.size (.slice A4 us.length c4) us := fu_10.below hw11 (by omega)
      clear fu_10
      have fi_11 : RdI w11 w4.heap.size (.slice A5 is.length c5) is := fi_10.below hw11 (by omega)
      clear fi_10
      have fwa_11 : RdI w11 w5.heap.size (.slice Awa (writeL us is).length cwa) (writeL us is) := fwa_10.below hw11 (by omega)
      clear fwa_10
      have fwb_11 : RdI w11 w6.heap.size (.slice Awb (writeL us is).length cwb) (writeL us is) := fwb_10.below hw11 (by omega)
      clear fwb_10
      have fv2_11 : RdII w11 w7.heap.size (.slice A6 vs.length c6) vs := fv2_10.below hw11 (by omega)
      clear fv2_10
      have fd_11 : RdI w11 w7.heap.size (.slice A7 ds.length c7) ds := fd_10.below hw11 (by omega)
      clear fd_10
      have fra_11 : RdI w11 w8.heap.size (.slice Ara (rl).length cra) (rl) := fra_10.below hw11 (by omega)
      clear fra_10
      have frb_11 : RdI w11 w9.heap.size (.slice Arb (rl).length crb) (rl) := frb_10.below hw11 (by omega)
      clear frb_10
      go_wp2_with fail
      refine (qInts_sameB _ _ _ _ _ _ fra_11 frb_11).mono ?_
      rintro e w12 ⟨rfl, hb12⟩
      have hw12 : Below w11.heap.size w11 w12 := hb12
      have hs12 : w11.heap.size ≤ w12.heap.size := hw12.size
      have hB12 : Below w.heap.size w w12 := hB11.trans (hw12.mono (by omega))
      have H0_12 : RdU w12 w.heap.size (.slice A0 xs0.length c0) xs0 := H0_11.below hw12 (by omega)
      clear H0_11
      have H1_12 : RdU w12 w.heap.size (.slice A1 xs1.length c1) xs1 := H1_11.below hw12 (by omega)
      clear H1_11
      have fls_12 : RdI w12 w1.heap.size (.slice A2 ls.length c2) ls := fls_11.below hw12 (by omega)
      clear fls_11
      have fx_12 : RdII w12 w2.heap.size (.slice Ax (canR ls r).length cx) (canR ls r) := fx_11.below hw12 (by omega)
      clear fx_11
      have fy_12 : RdII w12 w3.heap.size (.slice Ay (canR ls r).length cy) (canR ls r) := fy_11.below hw12 (by omega)
      clear fy_11
      have fu_12 : RdII w12 w4.heap.size (.slice A4 us.length c4) us := fu_11.below hw12 (by omega)
      clear fu_11
      have fi_12 : RdI w12 w4.heap.size (.slice A5 is.length c5) is := fi_11.below hw12 (by omega)
      clear fi_11
      have fwa_12 : RdI w12 w5.heap.size (.slice Awa (writeL us is).length cwa) (writeL us is) := fwa_11.below hw12 (by omega)
      clear fwa_11
      have fwb_12 : RdI w12 w6.heap.size (.slice Awb (writeL us is).length cwb) (writeL us is) := fwb_11.below hw12 (by omega)
      clear fwb_11
      have fv2_12 : RdII w12 w7.heap.size (.slice A6 vs.length c6) vs := fv2_11.below hw12 (by omega)
      clear fv2_11
      have fd_12 : RdI w12 w7.heap.size (.slice A7 ds.length c7) ds := fd_11.below hw12 (by omega)
      clear fd_11
      have fra_12 : RdI w12 w8.heap.size (.slice Ara (rl).length cra) (rl) := fra_11.below hw12 (by omega)
      clear fra_11
      have frb_12 : RdI w12 w9.heap.size (.slice Arb (rl).length crb) (rl) := frb_11.below hw12 (by omega)
      clear frb_11
      go_wp2_with fail
      go_meet
      exact ⟨rfl, ((hw10).trans (hw11.mono (by omega))).trans (hw12.mono (by omega))⟩
    case rest => as_aux_lemma =>
      obtain ⟨rfl, HBC⟩ := hcut
      rename World => wc1
      have hb10 := HBC.out
      clear HBC
      have hw10 : Below w9.heap.size w9 wc1 := hb10
      have hs10 : w9.heap.size ≤ wc1.heap.size := hw10.size
      have hB10 : Below w.heap.size w wc1 := hB9.trans (hw10.mono (by omega))
      have H0_10 : RdU wc1 w.heap.size (.slice A0 xs0.length c0) xs0 := H0_9.below hw10 (by omega)
      clear H0_9
      have H1_10 : RdU wc1 w.heap.size (.slice A1 xs1.length c1) xs1 := H1_9.below hw10 (by omega)
      clear H1_9
      have fls_10 : RdI wc1 w1.heap.size (.slice A2 ls.length c2) ls := fls_9.below hw10 (by omega)
      clear fls_9
      have fx_10 : RdII wc1 w2.heap.size (.slice Ax (canR ls r).length cx) (canR ls r) := fx_9.below hw10 (by omega)
      clear fx_9
      have fy_10 : RdII wc1 w3.heap.size (.slice Ay (canR ls r).length cy) (canR ls r) := fy_9.below hw10 (by omega)
      clear fy_9
      have fu_10 : RdII wc1 w4.heap.size (.slice A4 us.length c4) us := fu_9.below hw10 (by omega)
      clear fu_9
      have fi_10 : RdI wc1 w4.heap.size (.slice A5 is.length c5) is := fi_9.below hw10 (by omega)
      clear fi_9
      have fwa_10 : RdI wc1 w5.heap.size (.slice Awa (writeL us is).length cwa) (writeL us is) := fwa_9.below hw10 (by omega)
      clear fwa_9
      have fwb_10 : RdI wc1 w6.heap.size (.slice Awb (writeL us is).length cwb) (writeL us is) := fwb_9.below hw10 (by omega)
      clear fwb_9
      have fv2_10 : RdII wc1 w7.heap.size (.slice A6 vs.length c6) vs := fv2_9.below hw10 (by omega)
      clear fv2_9
      have fd_10 : RdI wc1 w7.heap.size (.slice A7 ds.length c7) ds := fd_9.below hw10 (by omega)
      clear fd_9
      have fra_10 : RdI wc1 w8.heap.size (.slice Ara (rl).length cra) (rl) := fra_9.below hw10 (by omega)
      clear fra_9
      have frb_10 : RdI wc1 w9.heap.size (.slice Arb (rl).length crb) (rl) := frb_9.below hw10 (by omega)
      clear frb_9
      clear fwb_10
      clear frb_10
      clear H0_10
      clear H1_10
      go_upto_if 208 with fail
      go_cut [33] (fun s wx => Hid (Below wc1.heap.size wc1 wx))
      case first => as_aux_lemma =>
        cases fv
        · go_wp2_with fail
          go_meet
          exact Below.refl _ _
        · have HBK := Lib.hid (back_ok HFV.out)
          have kb0 := (by have h := ReadWords_any us (writeL us is) _ _ _ _ wc1 fu_10 fwa_10 (by omega) (by omega); rw [HBK.out] at h; exact h : Calls Try.prog 53 #[.slice A4 us.length c4, .slice Awa (writeL us is).length cwa] wc1 (RetOwT (is) true wc1))
          have KB := Lib.hid kb0
          clear kb0
          go_wp2_with fail
          refine (KB.out).mono ?_
          rintro e w11 ⟨bk, rfl, fbk, hb11⟩
          obtain ⟨Abk, cbk, rfl, _⟩ := fbk.form
          have fbk_11 : RdI w11 w11.heap.size (.slice Abk (is).length cbk) (is) := fbk.rd
          clear fbk
          have hw11 : Below wc1.heap.size wc1 w11 := hb11
          have hs11 : wc1.heap.size ≤ w11.heap.size := hw11.size
          have hB11 : Below w.heap.size w w11 := hB10.trans (hw11.mono (by omega))
          have fls_11 : RdI w11 w1.heap.size (.slice A2 ls.length c2) ls := fls_10.below hw11 (by omega)
          clear fls_10
          have fx_11 : RdII w11 w2.heap.size (.slice Ax (canR ls r).length cx) (canR ls r) := fx_10.below hw11 (by omega)
          clear fx_10
          have fy_11 : RdII w11 w3.heap.size (.slice Ay (canR ls r).length cy) (canR ls r) := fy_10.below hw11 (by omega)
          clear fy_10
          have fu_11 : RdII w11 w4.heap.size (.slice A4 us.length c4) us := fu_10.below hw11 (by omega)
          clear fu_10
          have fi_11 : RdI w11 w4.heap.size (.slice A5 is.length c5) is := fi_10.below hw11 (by omega)
          clear fi_10
          have fwa_11 : RdI w11 w5.heap.size (.slice Awa (writeL us is).length cwa) (writeL us is) := fwa_10.below hw11 (by omega)
          clear fwa_10
          have fv2_11 : RdII w11 w7.heap.size (.slice A6 vs.length c6) vs := fv2_10.below hw11 (by omega)
          clear fv2_10
          have fd_11 : RdI w11 w7.heap.size (.slice A7 ds.length c7) ds := fd_10.below hw11 (by omega)
          clear fd_10
          have fra_11 : RdI w11 w8.heap.size (.slice Ara (rl).length cra) (rl) := fra_10.below hw11 (by omega)
          clear fra_10
          clear KB
          go_wp2_with fail
          refine (qInts_sameB _ _ _ _ _ _ fbk_11 fi_11).mono ?_
          rintro e w12 ⟨rfl, hb12⟩
          have hw12 : Below w11.heap.size w11 w12 := hb12
          have hs12 : w11.heap.size ≤ w12.heap.size := hw12.size
          have hB12 : Below w.heap.size w w12 := hB11.trans (hw12.mono (by omega))
          have fls_12 : RdI w12 w1.heap.size (.slice A2 ls.length c2) ls := fls_11.below hw12 (by omega)
          clear fls_11
          have fx_12 : RdII w12 w2.heap.size (.slice Ax (canR ls r).length cx) (canR ls r) := fx_11.below hw12 (by omega)
          clear fx_11
          have fy_12 : RdII w12 w3.heap.size (.slice Ay (canR ls r).length cy) (canR ls r) := fy_11.below hw12 (by omega)
          clear fy_11
          have fu_12 : RdII w12 w4.heap.size (.slice A4 us.length c4) us := fu_11.below hw12 (by omega)
          clear fu_11
          have fi_12 : RdI w12 w4.heap.size (.slice A5 is.length c5) is := fi_11.below hw12 (by omega)
          clear fi_11
          have fwa_12 : RdI w12 w5.heap.size (.slice Awa (writeL us is).length cwa) (writeL us is) := fwa_11.below hw12 (by omega)
          clear fwa_11
          have fv2_12 : RdII w12 w7.heap.size (.slice A6 vs.length c6) vs := fv2_11.below hw12 (by omega)
          clear fv2_11
          have fd_12 : RdI w12 w7.heap.size (.slice A7 ds.length c7) ds := fd_11.below hw12 (by omega)
          clear fd_11
          have fra_12 : RdI w12 w8.heap.size (.slice Ara (rl).length cra) (rl) := fra_11.below hw12 (by omega)
          clear fra_11
          have fbk_12 : RdI w12 w11.heap.size (.slice Abk (is).length cbk) (is) := fbk_11.below hw12 (by omega)
          clear fbk_11
          go_wp2_with fail
          go_meet
          exact (hw11).trans (hw12.mono (by omega))
      case rest => as_aux_lemma =>
        have HBC := hcut
        rename World => wc2
        have hb11 := HBC.out
        clear HBC
        have hw11 : Below wc1.heap.size wc1 wc2 := hb11
        have hs11 : wc1.heap.size ≤ wc2.heap.size := hw11.size
        have hB11 : Below w.heap.size w wc2 := hB10.trans (hw11.mono (by omega))
        have fls_11 : RdI wc2 w1.heap.size (.slice A2 ls.length c2) ls := fls_10.below hw11 (by omega)
        clear fls_10
        have fx_11 : RdII wc2 w2.heap.size (.slice Ax (canR ls r).length cx) (canR ls r) := fx_10.below hw11 (by omega)
        clear fx_10
        have fy_11 : RdII wc2 w3.heap.size (.slice Ay (canR ls r).length cy) (canR ls r) := fy_10.below hw11 (by omega)
        clear fy_10
        have fu_11 : RdII wc2 w4.heap.size (.slice A4 us.length c4) us := fu_10.below hw11 (by omega)
        clear fu_10
        have fi_11 : RdI wc2 w4.heap.size (.slice A5 is.length c5) is := fi_10.below hw11 (by omega)
        clear fi_10
        have fwa_11 : RdI wc2 w5.heap.size (.slice Awa (writeL us is).length cwa) (writeL us is) := fwa_10.below hw11 (by omega)
        clear fwa_10
        have fv2_11 : RdII wc2 w7.heap.size (.slice A6 vs.length c6) vs := fv2_10.below hw11 (by omega)
        clear fv2_10
        have fd_11 : RdI wc2 w7.heap.size (.slice A7 ds.length c7) ds := fd_10.below hw11 (by omega)
        clear fd_10
        have fra_11 : RdI wc2 w8.heap.size (.slice Ara (rl).length cra) (rl) := fra_10.below hw11 (by omega)
        clear fra_10
        clear fu_11
        clear fi_11
        clear fwa_11
        obtain ⟨q, HQ⟩ : ∃ q, Hid (q = (rq && decide (rl.length ≤ 30))) := ⟨_, rfl⟩
        go_upto_region 22 with fail
        go_cut [228] (fun s wx => s = .bool q ∧ wx = wc2)
        case first => as_aux_lemma =>
          cases rq
          · go_wp2_with fail
            go_meet
            exact ⟨by rw [HQ.out]; rfl, rfl⟩
          · go_wp2_with fail
            go_meet
            exact ⟨by rw [HQ.out, Bool.true_and]; exact congrArg Value.bool (decide_eq_decide.2 (by omega)), rfl⟩
        case rest => as_aux_lemma =>
          obtain ⟨rfl, hwx⟩ := hcut
          have hwy := hwx.symm
          clear hwx
          subst hwy
          go_upto_if 228 with fail
          go_cut [35] (fun s wx => Hid (Below wc2.heap.size wc2 wx))
          case first => as_aux_lemma =>
            cases q
            · go_wp2_with fail
              go_meet
              exact Below.refl _ _
            · have hq := HQ.out.symm
              rw [Bool.and_eq_true, decide_eq_true_eq] at hq
              obtain ⟨rfl, h30⟩ := hq
              have HAG := Lib.hid (again_ok HRR.out h30)
              clear h30
              have kc0 := (by have h := WriteWords_any vs rl _ _ _ _ wc2 fv2_11 fra_11 (by omega) (by omega); rw [HAG.out.1, HAG.out.2] at h; exact h : Calls Try.prog 50 #[.slice A6 vs.length c6, .slice Ara rl.length cra] wc2 (RetOwT ds true wc2))
              have KC := Lib.hid kc0
              clear kc0
              go_wp2_with fail
              refine (KC.out).mono ?_
              rintro e w12 ⟨ag, rfl, fag, hb12⟩
              obtain ⟨Aag, cag, rfl, _⟩ := fag.form
              have fag_12 : RdI w12 w12.heap.size (.slice Aag (ds).length cag) (ds) := fag.rd
              clear fag
              have hw12 : Below wc2.heap.size wc2 w12 := hb12
              have hs12 : wc2.heap.size ≤ w12.heap.size := hw12.size
              have hB12 : Below w.heap.size w w12 := hB11.trans (hw12.mono (by omega))
              have fls_12 : RdI w12 w1.heap.size (.slice A2 ls.length c2) ls := fls_11.below hw12 (by omega)
              clear fls_11
              have fx_12 : RdII w12 w2.heap.size (.slice Ax (canR ls r).length cx) (canR ls r) := fx_11.below hw12 (by omega)
              clear fx_11
              have fy_12 : RdII w12 w3.heap.size (.slice Ay (canR ls r).length cy) (canR ls r) := fy_11.below hw12 (by omega)
              clear fy_11
              have fv2_12 : RdII w12 w7.heap.size (.slice A6 vs.length c6) vs := fv2_11.below hw12 (by omega)
              clear fv2_11
              have fd_12 : RdI w12 w7.heap.size (.slice A7 ds.length c7) ds := fd_11.below hw12 (by omega)
              clear fd_11
              have fra_12 : RdI w12 w8.heap.size (.slice Ara (rl).length cra) (rl) := fra_11.below hw12 (by omega)
              clear fra_11
              clear KC
              go_wp2_with fail
              refine (qInts_sameB _ _ _ _ _ _ fag_12 fd_12).mono ?_
              rintro e w13 ⟨rfl, hb13⟩
              have hw13 : Below w12.heap.size w12 w13 := hb13
              have hs13 : w12.heap.size ≤ w13.heap.size := hw13.size
              have hB13 : Below w.heap.size w w13 := hB12.trans (hw13.mono (by omega))
              have fls_13 : RdI w13 w1.heap.size (.slice A2 ls.length c2) ls := fls_12.below hw13 (by omega)
              clear fls_12
              have fx_13 : RdII w13 w2.heap.size (.slice Ax (canR ls r).length cx) (canR ls r) := fx_12.below hw13 (by omega)
              clear fx_12
              have fy_13 : RdII w13 w3.heap.size (.slice Ay (canR ls r).length cy) (canR ls r) := fy_12.below hw13 (by omega)
              clear fy_12
              have fv2_13 : RdII w13 w7.heap.size (.slice A6 vs.length c6) vs := fv2_12.below hw13 (by omega)
              clear fv2_12
              have fd_13 : RdI w13 w7.heap.size (.slice A7 ds.length c7) ds := fd_12.below hw13 (by omega)
              clear fd_12
              have fra_13 : RdI w13 w8.heap.size (.slice Ara (rl).length cra) (rl) := fra_12.below hw13 (by omega)
              clear fra_12
              have fag_13 : RdI w13 w12.heap.size (.slice Aag (ds).length cag) (ds) := fag_12.below hw13 (by omega)
              clear fag_12
              go_wp2_with fail
              go_meet
              exact (hw12).trans (hw13.mono (by omega))
          case rest => as_aux_lemma =>
            have HBC := hcut
            rename World => wc3
            have hb12 := HBC.out
            clear HBC
            have hw12 : Below wc2.heap.size wc2 wc3 := hb12
            have hs12 : wc2.heap.size ≤ wc3.heap.size := hw12.size
            have hB12 : Below w.heap.size w wc3 := hB11.trans (hw12.mono (by omega))
            have fls_12 : RdI wc3 w1.heap.size (.slice A2 ls.length c2) ls := fls_11.below hw12 (by omega)
            clear fls_11
            have fx_12 : RdII wc3 w2.heap.size (.slice Ax (canR ls r).length cx) (canR ls r) := fx_11.below hw12 (by omega)
            clear fx_11
            have fy_12 : RdII wc3 w3.heap.size (.slice Ay (canR ls r).length cy) (canR ls r) := fy_11.below hw12 (by omega)
            clear fy_11
            have fv2_12 : RdII wc3 w7.heap.size (.slice A6 vs.length c6) vs := fv2_11.below hw12 (by omega)
            clear fv2_11
            have fd_12 : RdI wc3 w7.heap.size (.slice A7 ds.length c7) ds := fd_11.below hw12 (by omega)
            clear fd_11
            have fra_12 : RdI wc3 w8.heap.size (.slice Ara (rl).length cra) (rl) := fra_11.below hw12 (by omega)
            clear fra_11
            clear fv2_12
            clear fd_12
            clear fra_12
            go_wp2_with fail
            go_ret
            exact ⟨rfl, hB12⟩
  · have hkw := hkw rfl
    clear hth
    cases hh
    · have HOK : Hid (canB ls r = false) := HCB.out
      clear HCB
      have k10 := (by have h := CanonicalCode_any ls r _ _ w1 fls (by omega); rw [HOK.out] at h; exact h : Calls Try.prog 43 #[.slice A2 ls.length c2, .int .i64 r] w1 (RetOwIIT (canR ls r) false w1))
      have K1 := Lib.hid k10
      clear k10
      go_wp2_with fail
      refine (K1.out).mono ?_
      rintro e w2 ⟨x, rfl, fx, hb2⟩
      have fx_2 := fx.rd
      obtain ⟨Ax, cx, rfl, _⟩ := fx_2.form
      clear fx
      have hw2 : Below w1.heap.size w1 w2 := hb2
      have hs2 : w1.heap.size ≤ w2.heap.size := hw2.size
      have hB2 : Below w.heap.size w w2 := hB1.trans (hw2.mono (by omega))
      have H0_2 : RdU w2 w.heap.size (.slice A0 xs0.length c0) xs0 := H0_1.below hw2 (by omega)
      clear H0_1
      have H1_2 : RdU w2 w.heap.size (.slice A1 xs1.length c1) xs1 := H1_1.below hw2 (by omega)
      clear H1_1
      have fls_2 : RdI w2 w1.heap.size (.slice A2 ls.length c2) ls := fls.below hw2 (by omega)
      clear fls
      clear K1
      have k20 := (by have h := sCanonicalCode_any ls r _ _ w2 fls_2 (by omega); rw [HOK.out] at h; exact h : Calls Try.prog 44 #[.slice A2 ls.length c2, .int .i64 r] w2 (RetOwIIT (canR ls r) false w2))
      have K2 := Lib.hid k20
      clear k20
      go_wp2_with fail
      refine (K2.out).mono ?_
      rintro e w3 ⟨y, rfl, fy, hb3⟩
      have fy_3 := fy.rd
      obtain ⟨Ay, cy, rfl, _⟩ := fy_3.form
      clear fy
      have hw3 : Below w2.heap.size w2 w3 := hb3
      have hs3 : w2.heap.size ≤ w3.heap.size := hw3.size
      have hB3 : Below w.heap.size w w3 := hB2.trans (hw3.mono (by omega))
      have H0_3 : RdU w3 w.heap.size (.slice A0 xs0.length c0) xs0 := H0_2.below hw3 (by omega)
      clear H0_2
      have H1_3 : RdU w3 w.heap.size (.slice A1 xs1.length c1) xs1 := H1_2.below hw3 (by omega)
      clear H1_2
      have fls_3 : RdI w3 w1.heap.size (.slice A2 ls.length c2) ls := fls_2.below hw3 (by omega)
      clear fls_2
      have fx_3 : RdII w3 w2.heap.size (.slice Ax (canR ls r).length cx) (canR ls r) := fx_2.below hw3 (by omega)
      clear fx_2
      clear K2
      have k30 := (by have h := KraftSum_any ls r _ _ w3 fls_3; rw [HKT.out] at h; exact h : Calls Try.prog 45 #[.slice A2 ls.length c2, .int .i64 r] w3 fun e w' => e = .returned (.tuple #[.int .i64 (K), .int .i64 (Wn), .bool true]) ∧ w3 = w')
      have K3 := Lib.hid k30
      clear k30
      go_wp2_with fail
      refine (K3.out).mono ?_
      rintro e w' ⟨rfl, rfl⟩
      clear K3
      have k40 := (by have h := sKraftSum_any ls r _ _ w3 fls_3; rw [HKT.out] at h; exact h : Calls Try.prog 46 #[.slice A2 ls.length c2, .int .i64 r] w3 fun e w' => e = .returned (.tuple #[.int .i64 (K), .int .i64 (Wn), .bool true]) ∧ w3 = w')
      have K4 := Lib.hid k40
      clear k40
      go_wp2_with fail
      refine (K4.out).mono ?_
      rintro e w' ⟨rfl, rfl⟩
      clear K4
      have k50 := (by have h := HasCode_any ls r _ _ w3 fls_3; rw [HHT.out] at h; exact h : Calls Try.prog 47 #[.slice A2 ls.length c2, .int .i64 r] w3 fun e w' => e = .returned (.tuple #[.bool false, .bool true]) ∧ w3 = w')
      have K5 := Lib.hid k50
      clear k50
      go_wp2_with fail
      refine (K5.out).mono ?_
      rintro e w' ⟨rfl, rfl⟩
      clear K5
      have k60 := (by have h := sHasCode_any ls r _ _ w3 fls_3; rw [HHT.out] at h; exact h : Calls Try.prog 48 #[.slice A2 ls.length c2, .int .i64 r] w3 fun e w' => e = .returned (.tuple #[.bool false, .bool true]) ∧ w3 = w')
      have K6 := Lib.hid k60
      clear k60
      go_wp2_with fail
      refine (K6.out).mono ?_
      rintro e w' ⟨rfl, rfl⟩
      clear K6
      go_wp2_with fail
      refine (DrawWriteWords_any xs1 _ w.heap.size w3 H1_3 (by omega)).mono ?_
      rintro e w4 ⟨vu, nu, vl, is, rfl, his, hru, hoi, hb4⟩
      obtain ⟨A4, c4, rfl⟩ := hru.form
      obtain ⟨us, hul, fu⟩ := hru.rd
      subst hul
      obtain ⟨A5, c5, rfl, _⟩ := hoi.form
      have fi := hoi.rd
      clear hru hoi
      have hw4 : Below w3.heap.size w3 w4 := hb4
      have hs4 : w3.heap.size ≤ w4.heap.size := hw4.size
      have hB4 : Below w.heap.size w w4 := hB3.trans (hw4.mono (by omega))
      have H0_4 : RdU w4 w.heap.size (.slice A0 xs0.length c0) xs0 := H0_3.below hw4 (by omega)
      clear H0_3
      have H1_4 : RdU w4 w.heap.size (.slice A1 xs1.length c1) xs1 := H1_3.below hw4 (by omega)
      clear H1_3
      have fls_4 : RdI w4 w1.heap.size (.slice A2 ls.length c2) ls := fls_3.below hw4 (by omega)
      clear fls_3
      have fx_4 : RdII w4 w2.heap.size (.slice Ax (canR ls r).length cx) (canR ls r) := fx_3.below hw4 (by omega)
      clear fx_3
      have fy_4 : RdII w4 w3.heap.size (.slice Ay (canR ls r).length cy) (canR ls r) := fy_3.below hw4 (by omega)
      clear fy_3
      obtain ⟨fv, HFV⟩ : ∃ fv, Hid (writeB us is = fv) := ⟨_, rfl⟩
      have k70 := (by have h := WriteWords_any us is _ _ _ _ w4 fu fi (by omega) (by omega); rw [HFV.out] at h; exact h : Calls Try.prog 50 #[.slice A4 us.length c4, .slice A5 is.length c5] w4 (RetOwT (writeL us is) fv w4))
      have K7 := Lib.hid k70
      clear k70
      go_wp2_with fail
      refine (K7.out).mono ?_
      rintro e w5 ⟨wa, rfl, fwa, hb5⟩
      obtain ⟨Awa, cwa, rfl, _⟩ := fwa.form
      have fwa_5 : RdI w5 w5.heap.size (.slice Awa (writeL us is).length cwa) (writeL us is) := fwa.rd
      clear fwa
      have hw5 : Below w4.heap.size w4 w5 := hb5
      have hs5 : w4.heap.size ≤ w5.heap.size := hw5.size
      have hB5 : Below w.heap.size w w5 := hB4.trans (hw5.mono (by omega))
      have H0_5 : RdU w5 w.heap.size (.slice A0 xs0.length c0) xs0 := H0_4.below hw5 (by omega)
      clear H0_4
      have H1_5 : RdU w5 w.heap.size (.slice A1 xs1.length c1) xs1 := H1_4.below hw5 (by omega)
      clear H1_4
      have fls_5 : RdI w5 w1.heap.size (.slice A2 ls.length c2) ls := fls_4.below hw5 (by omega)
      clear fls_4
      have fx_5 : RdII w5 w2.heap.size (.slice Ax (canR ls r).length cx) (canR ls r) := fx_4.below hw5 (by omega)
      clear fx_4
      have fy_5 : RdII w5 w3.heap.size (.slice Ay (canR ls r).length cy) (canR ls r) := fy_4.below hw5 (by omega)
      clear fy_4
      have fu_5 : RdII w5 w4.heap.size (.slice A4 us.length c4) us := fu.below hw5 (by omega)
      clear fu
      have fi_5 : RdI w5 w4.heap.size (.slice A5 is.length c5) is := fi.below hw5 (by omega)
      clear fi
      clear K7
      have k80 := (by have h := sWriteWords_any us is _ _ _ _ w5 fu_5 fi_5 (by omega) (by omega); rw [HFV.out] at h; exact h : Calls Try.prog 51 #[.slice A4 us.length c4, .slice A5 is.length c5] w5 (RetOwT (writeL us is) fv w5))
      have K8 := Lib.hid k80
      clear k80
      go_wp2_with fail
      refine (K8.out).mono ?_
      rintro e w6 ⟨wb, rfl, fwb, hb6⟩
      obtain ⟨Awb, cwb, rfl, _⟩ := fwb.form
      have fwb_6 : RdI w6 w6.heap.size (.slice Awb (writeL us is).length cwb) (writeL us is) := fwb.rd
      clear fwb
      have hw6 : Below w5.heap.size w5 w6 := hb6
      have hs6 : w5.heap.size ≤ w6.heap.size := hw6.size
      have hB6 : Below w.heap.size w w6 := hB5.trans (hw6.mono (by omega))
      have H0_6 : RdU w6 w.heap.size (.slice A0 xs0.length c0) xs0 := H0_5.below hw6 (by omega)
      clear H0_5
      have H1_6 : RdU w6 w.heap.size (.slice A1 xs1.length c1) xs1 := H1_5.below hw6 (by omega)
      clear H1_5
      have fls_6 : RdI w6 w1.heap.size (.slice A2 ls.length c2) ls := fls_5.below hw6 (by omega)
      clear fls_5
      have fx_6 : RdII w6 w2.heap.size (.slice Ax (canR ls r).length cx) (canR ls r) := fx_5.below hw6 (by omega)
      clear fx_5
      have fy_6 : RdII w6 w3.heap.size (.slice Ay (canR ls r).length cy) (canR ls r) := fy_5.below hw6 (by omega)
      clear fy_5
      have fu_6 : RdII w6 w4.heap.size (.slice A4 us.length c4) us := fu_5.below hw6 (by omega)
      clear fu_5
      have fi_6 : RdI w6 w4.heap.size (.slice A5 is.length c5) is := fi_5.below hw6 (by omega)
      clear fi_5
      have fwa_6 : RdI w6 w5.heap.size (.slice Awa (writeL us is).length cwa) (writeL us is) := fwa_5.below hw6 (by omega)
      clear fwa_5
      clear K8
      go_wp2_with fail
      refine (DrawReadWords_any xs1 _ w.heap.size w6 H1_6 (by omega)).mono ?_
      rintro e w7 ⟨vv, vs, vd, ds, rfl, hdl, fv2, fd, hb7⟩
      obtain ⟨A6, c6, rfl, _⟩ := fv2.form
      obtain ⟨A7, c7, rfl, _, _⟩ := Rd.form fd
      have hw7 : Below w6.heap.size w6 w7 := hb7
      have hs7 : w6.heap.size ≤ w7.heap.size := hw7.size
      have hB7 : Below w.heap.size w w7 := hB6.trans (hw7.mono (by omega))
      have H0_7 : RdU w7 w.heap.size (.slice A0 xs0.length c0) xs0 := H0_6.below hw7 (by omega)
      clear H0_6
      have H1_7 : RdU w7 w.heap.size (.slice A1 xs1.length c1) xs1 := H1_6.below hw7 (by omega)
      clear H1_6
      have fls_7 : RdI w7 w1.heap.size (.slice A2 ls.length c2) ls := fls_6.below hw7 (by omega)
      clear fls_6
      have fx_7 : RdII w7 w2.heap.size (.slice Ax (canR ls r).length cx) (canR ls r) := fx_6.below hw7 (by omega)
      clear fx_6
      have fy_7 : RdII w7 w3.heap.size (.slice Ay (canR ls r).length cy) (canR ls r) := fy_6.below hw7 (by omega)
      clear fy_6
      have fu_7 : RdII w7 w4.heap.size (.slice A4 us.length c4) us := fu_6.below hw7 (by omega)
      clear fu_6
      have fi_7 : RdI w7 w4.heap.size (.slice A5 is.length c5) is := fi_6.below hw7 (by omega)
      clear fi_6
      have fwa_7 : RdI w7 w5.heap.size (.slice Awa (writeL us is).length cwa) (writeL us is) := fwa_6.below hw7 (by omega)
      clear fwa_6
      have fwb_7 : RdI w7 w6.heap.size (.slice Awb (writeL us is).length cwb) (writeL us is) := fwb_6.below hw7 (by omega)
      clear fwb_6
      obtain ⟨rl, rq, HRR⟩ : ∃ rl rq, Hid (readRes vs ds = (rl, rq)) := ⟨_, _, rfl⟩
      have k90 := (by have h := ReadWords_any vs ds _ _ _ _ w7 fv2 fd (by omega) (by omega); rw [HRR.out] at h; exact h : Calls Try.prog 53 #[.slice A6 vs.length c6, .slice A7 ds.length c7] w7 (RetOwT (rl) rq w7))
      have K9 := Lib.hid k90
      clear k90
      go_wp2_with fail
      refine (K9.out).mono ?_
      rintro e w8 ⟨ra, rfl, fra, hb8⟩
      obtain ⟨Ara, cra, rfl, _⟩ := fra.form
      have fra_8 : RdI w8 w8.heap.size (.slice Ara (rl).length cra) (rl) := fra.rd
      clear fra
      have hw8 : Below w7.heap.size w7 w8 := hb8
      have hs8 : w7.heap.size ≤ w8.heap.size := hw8.size
      have hB8 : Below w.heap.size w w8 := hB7.trans (hw8.mono (by omega))
      have H0_8 : RdU w8 w.heap.size (.slice A0 xs0.length c0) xs0 := H0_7.below hw8 (by omega)
      clear H0_7
      have H1_8 : RdU w8 w.heap.size (.slice A1 xs1.length c1) xs1 := H1_7.below hw8 (by omega)
      clear H1_7
      have fls_8 : RdI w8 w1.heap.size (.slice A2 ls.length c2) ls := fls_7.below hw8 (by omega)
      clear fls_7
      have fx_8 : RdII w8 w2.heap.size (.slice Ax (canR ls r).length cx) (canR ls r) := fx_7.below hw8 (by omega)
      clear fx_7
      have fy_8 : RdII w8 w3.heap.size (.slice Ay (canR ls r).length cy) (canR ls r) := fy_7.below hw8 (by omega)
      clear fy_7
      have fu_8 : RdII w8 w4.heap.size (.slice A4 us.length c4) us := fu_7.below hw8 (by omega)
      clear fu_7
      have fi_8 : RdI w8 w4.heap.size (.slice A5 is.length c5) is := fi_7.below hw8 (by omega)
      clear fi_7
      have fwa_8 : RdI w8 w5.heap.size (.slice Awa (writeL us is).length cwa) (writeL us is) := fwa_7.below hw8 (by omega)
      clear fwa_7
      have fwb_8 : RdI w8 w6.heap.size (.slice Awb (writeL us is).length cwb) (writeL us is) := fwb_7.below hw8 (by omega)
      clear fwb_7
      have fv2_8 : RdII w8 w7.heap.size (.slice A6 vs.length c6) vs := fv2.below hw8 (by omega)
      clear fv2
      have fd_8 : RdI w8 w7.heap.size (.slice A7 ds.length c7) ds := fd.below hw8 (by omega)
      clear fd
      clear K9
      have ka0 := (by have h := sReadWords_any vs ds _ _ _ _ w8 fv2_8 fd_8 (by omega) (by omega); rw [HRR.out] at h; exact h : Calls Try.prog 54 #[.slice A6 vs.length c6, .slice A7 ds.length c7] w8 (RetOwT (rl) rq w8))
      have KA := Lib.hid ka0
      clear ka0
      go_wp2_with fail
      refine (KA.out).mono ?_
      rintro e w9 ⟨rb, rfl, frb, hb9⟩
      obtain ⟨Arb, crb, rfl, _⟩ := frb.form
      have frb_9 : RdI w9 w9.heap.size (.slice Arb (rl).length crb) (rl) := frb.rd
      clear frb
      have hw9 : Below w8.heap.size w8 w9 := hb9
      have hs9 : w8.heap.size ≤ w9.heap.size := hw9.size
      have hB9 : Below w.heap.size w w9 := hB8.trans (hw9.mono (by omega))
      have H0_9 : RdU w9 w.heap.size (.slice A0 xs0.length c0) xs0 := H0_8.below hw9 (by omega)
      clear H0_8
      have H1_9 : RdU w9 w.heap.size (.slice A1 xs1.length c1) xs1 := H1_8.below hw9 (by omega)
      clear H1_8
      have fls_9 : RdI w9 w1.heap.size (.slice A2 ls.length c2) ls := fls_8.below hw9 (by omega)
      clear fls_8
      have fx_9 : RdII w9 w2.heap.size (.slice Ax (canR ls r).length cx) (canR ls r) := fx_8.below hw9 (by omega)
      clear fx_8
      have fy_9 : RdII w9 w3.heap.size (.slice Ay (canR ls r).length cy) (canR ls r) := fy_8.below hw9 (by omega)
      clear fy_8
      have fu_9 : RdII w9 w4.heap.size (.slice A4 us.length c4) us := fu_8.below hw9 (by omega)
      clear fu_8
      have fi_9 : RdI w9 w4.heap.size (.slice A5 is.length c5) is := fi_8.below hw9 (by omega)
      clear fi_8
      have fwa_9 : RdI w9 w5.heap.size (.slice Awa (writeL us is).length cwa) (writeL us is) := fwa_8.below hw9 (by omega)
      clear fwa_8
      have fwb_9 : RdI w9 w6.heap.size (.slice Awb (writeL us is).length cwb) (writeL us is) := fwb_8.below hw9 (by omega)
      clear fwb_8
      have fv2_9 : RdII w9 w7.heap.size (.slice A6 vs.length c6) vs := fv2_8.below hw9 (by omega)
      clear fv2_8
      have fd_9 : RdI w9 w7.heap.size (.slice A7 ds.length c7) ds := fd_8.below hw9 (by omega)
      clear fd_8
      have fra_9 : RdI w9 w8.heap.size (.slice Ara (rl).length cra) (rl) := fra_8.below hw9 (by omega)
      clear fra_8
      clear KA
      go_upto_region 16 with fail
      go_cut [207] (fun s wx => s = .bool false ∧ Hid (Below w9.heap.size w9 wx))
      case first => as_aux_lemma =>
        go_wp2_with fail
        refine (qLists_sameB _ _ _ _ _ _ fx_9 fy_9 (by omega) (by omega)).mono ?_
        rintro e w10 ⟨rfl, hb10⟩
        have hw10 : Below w9.heap.size w9 w10 := hb10
        have hs10 : w9.heap.size ≤ w10.heap.size := hw10.size
        have hB10 : Below w.heap.size w w10 := hB9.trans (hw10.mono (by omega))
        have H0_10 : RdU w10 w.heap.size (.slice A0 xs0.length c0) xs0 := H0_9.below hw10 (by omega)
        clear H0_9
        have H1_10 : RdU w10 w.heap.size (.slice A1 xs1.length c1) xs1 := H1_9.below hw10 (by omega)
        clear H1_9
        have fls_10 : RdI w10 w1.heap.size (.slice A2 ls.length c2) ls := fls_9.below hw10 (by omega)
        clear fls_9
        have fx_10 : RdII w10 w2.heap.size (.slice Ax (canR ls r).length cx) (canR ls r) := fx_9.below hw10 (by omega)
        clear fx_9
        have fy_10 : RdII w10 w3.heap.size (.slice Ay (canR ls r).length cy) (canR ls r) := fy_9.below hw10 (by omega)
        clear fy_9
        have fu_10 : RdII w10 w4.heap.size (.slice A4 us.length c4) us := fu_9.below hw10 (by omega)
        clear fu_9
        have fi_10 : RdI w10 w4.heap.size (.slice A5 is.length c5) is := fi_9.below hw10 (by omega)
        clear fi_9
        have fwa_10 : RdI w10 w5.heap.size (.slice Awa (writeL us is).length cwa) (writeL us is) := fwa_9.below hw10 (by omega)
        clear fwa_9
        have fwb_10 : RdI w10 w6.heap.size (.slice Awb (writeL us is).length cwb) (writeL us is) := fwb_9.below hw10 (by omega)
        clear fwb_9
        have fv2_10 : RdII w10 w7.heap.size (.slice A6 vs.length c6) vs := fv2_9.below hw10 (by omega)
        clear fv2_9
        have fd_10 : RdI w10 w7.heap.size (.slice A7 ds.length c7) ds := fd_9.below hw10 (by omega)
        clear fd_9
        have fra_10 : RdI w10 w8.heap.size (.slice Ara (rl).length cra) (rl) := fra_9.below hw10 (by omega)
        clear fra_9
        have frb_10 : RdI w10 w9.heap.size (.slice Arb (rl).length crb) (rl) := frb_9.below hw10 (by omega)
        clear frb_9
        go_wp2_with fail
        refine (qInts_sameB _ _ _ _ _ _ fwa_10 fwb_10).mono ?_
        rintro e w11 ⟨rfl, hb11⟩
        have hw11 : Below w10.heap.size w10 w11 := hb11
        have hs11 : w10.heap.size ≤ w11.heap.size := hw11.size
        have hB11 : Below w.heap.size w w11 := hB10.trans (hw11.mono (by omega))
        have H0_11 : RdU w11 w.heap.size (.slice A0 xs0.length c0) xs0 := H0_10.below hw11 (by omega)
        clear H0_10
        have H1_11 : RdU w11 w.heap.size (.slice A1 xs1.length c1) xs1 := H1_10.below hw11 (by omega)
        clear H1_10
        have fls_11 : RdI w11 w1.heap.size (.slice A2 ls.length c2) ls := fls_10.below hw11 (by omega)
        clear fls_10
        have fx_11 : RdII w11 w2.heap.size (.slice Ax (canR ls r).length cx) (canR ls r) := fx_10.below hw11 (by omega)
        clear fx_10
        have fy_11 : RdII w11 w3.heap.size (.slice Ay (canR ls r).length cy) (canR ls r) := fy_10.below hw11 (by omega)
        clear fy_10
        have fu_11 : RdII w11 w4.heap.size (.slice A4 us.length c4) us := fu_10.below hw11 (by omega)
        clear fu_10
        have fi_11 : RdI w11 w4.heap.size (.slice A5 is.length c5) is := fi_10.below hw11 (by omega)
        clear fi_10
        have fwa_11 : RdI w11 w5.heap.size (.slice Awa (writeL us is).length cwa) (writeL us is) := fwa_10.below hw11 (by omega)
        clear fwa_10
        have fwb_11 : RdI w11 w6.heap.size (.slice Awb (writeL us is).length cwb) (writeL us is) := fwb_10.below hw11 (by omega)
        clear fwb_10
        have fv2_11 : RdII w11 w7.heap.size (.slice A6 vs.length c6) vs := fv2_10.below hw11 (by omega)
        clear fv2_10
        have fd_11 : RdI w11 w7.heap.size (.slice A7 ds.length c7) ds := fd_10.below hw11 (by omega)
        clear fd_10
        have fra_11 : RdI w11 w8.heap.size (.slice Ara (rl).length cra) (rl) := fra_10.below hw11 (by omega)
        clear fra_10
        have frb_11 : RdI w11 w9.heap.size (.slice Arb (rl).length crb) (rl) := frb_10.below hw11 (by omega)
        clear frb_10
        go_wp2_with fail
        refine (qInts_sameB _ _ _ _ _ _ fra_11 frb_11).mono ?_
        rintro e w12 ⟨rfl, hb12⟩
        have hw12 : Below w11.heap.size w11 w12 := hb12
        have hs12 : w11.heap.size ≤ w12.heap.size := hw12.size
        have hB12 : Below w.heap.size w w12 := hB11.trans (hw12.mono (by omega))
        have H0_12 : RdU w12 w.heap.size (.slice A0 xs0.length c0) xs0 := H0_11.below hw12 (by omega)
        clear H0_11
        have H1_12 : RdU w12 w.heap.size (.slice A1 xs1.length c1) xs1 := H1_11.below hw12 (by omega)
        clear H1_11
        have fls_12 : RdI w12 w1.heap.size (.slice A2 ls.length c2) ls := fls_11.below hw12 (by omega)
        clear fls_11
        have fx_12 : RdII w12 w2.heap.size (.slice Ax (canR ls r).length cx) (canR ls r) := fx_11.below hw12 (by omega)
        clear fx_11
        have fy_12 : RdII w12 w3.heap.size (.slice Ay (canR ls r).length cy) (canR ls r) := fy_11.below hw12 (by omega)
        clear fy_11
        have fu_12 : RdII w12 w4.heap.size (.slice A4 us.length c4) us := fu_11.below hw12 (by omega)
        clear fu_11
        have fi_12 : RdI w12 w4.heap.size (.slice A5 is.length c5) is := fi_11.below hw12 (by omega)
        clear fi_11
        have fwa_12 : RdI w12 w5.heap.size (.slice Awa (writeL us is).length cwa) (writeL us is) := fwa_11.below hw12 (by omega)
        clear fwa_11
        have fwb_12 : RdI w12 w6.heap.size (.slice Awb (writeL us is).length cwb) (writeL us is) := fwb_11.below hw12 (by omega)
        clear fwb_11
        have fv2_12 : RdII w12 w7.heap.size (.slice A6 vs.length c6) vs := fv2_11.below hw12 (by omega)
        clear fv2_11
        have fd_12 : RdI w12 w7.heap.size (.slice A7 ds.length c7) ds := fd_11.below hw12 (by omega)
        clear fd_11
        have fra_12 : RdI w12 w8.heap.size (.slice Ara (rl).length cra) (rl) := fra_11.below hw12 (by omega)
        clear fra_11
        have frb_12 : RdI w12 w9.heap.size (.slice Arb (rl).length crb) (rl) := frb_11.below hw12 (by omega)
        clear frb_11
        go_wp2_with fail
        go_meet
        exact ⟨rfl, ((hw10).trans (hw11.mono (by omega))).trans (hw12.mono (by omega))⟩
      case rest => as_aux_lemma =>
        obtain ⟨rfl, HBC⟩ := hcut
        rename World => wc4
        have hb10 := HBC.out
        clear HBC
        have hw10 : Below w9.heap.size w9 wc4 := hb10
        have hs10 : w9.heap.size ≤ wc4.heap.size := hw10.size
        have hB10 : Below w.heap.size w wc4 := hB9.trans (hw10.mono (by omega))
        have H0_10 : RdU wc4 w.heap.size (.slice A0 xs0.length c0) xs0 := H0_9.below hw10 (by omega)
        clear H0_9
        have H1_10 : RdU wc4 w.heap.size (.slice A1 xs1.length c1) xs1 := H1_9.below hw10 (by omega)
        clear H1_9
        have fls_10 : RdI wc4 w1.heap.size (.slice A2 ls.length c2) ls := fls_9.below hw10 (by omega)
        clear fls_9
        have fx_10 : RdII wc4 w2.heap.size (.slice Ax (canR ls r).length cx) (canR ls r) := fx_9.below hw10 (by omega)
        clear fx_9
        have fy_10 : RdII wc4 w3.heap.size (.slice Ay (canR ls r).length cy) (canR ls r) := fy_9.below hw10 (by omega)
        clear fy_9
        have fu_10 : RdII wc4 w4.heap.size (.slice A4 us.length c4) us := fu_9.below hw10 (by omega)
        clear fu_9
        have fi_10 : RdI wc4 w4.heap.size (.slice A5 is.length c5) is := fi_9.below hw10 (by omega)
        clear fi_9
        have fwa_10 : RdI wc4 w5.heap.size (.slice Awa (writeL us is).length cwa) (writeL us is) := fwa_9.below hw10 (by omega)
        clear fwa_9
        have fwb_10 : RdI wc4 w6.heap.size (.slice Awb (writeL us is).length cwb) (writeL us is) := fwb_9.below hw10 (by omega)
        clear fwb_9
        have fv2_10 : RdII wc4 w7.heap.size (.slice A6 vs.length c6) vs := fv2_9.below hw10 (by omega)
        clear fv2_9
        have fd_10 : RdI wc4 w7.heap.size (.slice A7 ds.length c7) ds := fd_9.below hw10 (by omega)
        clear fd_9
        have fra_10 : RdI wc4 w8.heap.size (.slice Ara (rl).length cra) (rl) := fra_9.below hw10 (by omega)
        clear fra_9
        have frb_10 : RdI wc4 w9.heap.size (.slice Arb (rl).length crb) (rl) := frb_9.below hw10 (by omega)
        clear frb_9
        clear fwb_10
        clear frb_10
        clear H0_10
        clear H1_10
        go_upto_if 208 with fail
        go_cut [33] (fun s wx => Hid (Below wc4.heap.size wc4 wx))
        case first => as_aux_lemma =>
          cases fv
          · go_wp2_with fail
            go_meet
            exact Below.refl _ _
          · have HBK := Lib.hid (back_ok HFV.out)
            have kb0 := (by have h := ReadWords_any us (writeL us is) _ _ _ _ wc4 fu_10 fwa_10 (by omega) (by omega); rw [HBK.out] at h; exact h : Calls Try.prog 53 #[.slice A4 us.length c4, .slice Awa (writeL us is).length cwa] wc4 (RetOwT (is) true wc4))
            have KB := Lib.hid kb0
            clear kb0
            go_wp2_with fail
            refine (KB.out).mono ?_
            rintro e w11 ⟨bk, rfl, fbk, hb11⟩
            obtain ⟨Abk, cbk, rfl, _⟩ := fbk.form
            have fbk_11 : RdI w11 w11.heap.size (.slice Abk (is).length cbk) (is) := fbk.rd
            clear fbk
            have hw11 : Below wc4.heap.size wc4 w11 := hb11
            have hs11 : wc4.heap.size ≤ w11.heap.size := hw11.size
            have hB11 : Below w.heap.size w w11 := hB10.trans (hw11.mono (by omega))
            have fls_11 : RdI w11 w1.heap.size (.slice A2 ls.length c2) ls := fls_10.below hw11 (by omega)
            clear fls_10
            have fx_11 : RdII w11 w2.heap.size (.slice Ax (canR ls r).length cx) (canR ls r) := fx_10.below hw11 (by omega)
            clear fx_10
            have fy_11 : RdII w11 w3.heap.size (.slice Ay (canR ls r).length cy) (canR ls r) := fy_10.below hw11 (by omega)
            clear fy_10
            have fu_11 : RdII w11 w4.heap.size (.slice A4 us.length c4) us := fu_10.below hw11 (by omega)
            clear fu_10
            have fi_11 : RdI w11 w4.heap.size (.slice A5 is.length c5) is := fi_10.below hw11 (by omega)
            clear fi_10
            have fwa_11 : RdI w11 w5.heap.size (.slice Awa (writeL us is).length cwa) (writeL us is) := fwa_10.below hw11 (by omega)
            clear fwa_10
            have fv2_11 : RdII w11 w7.heap.size (.slice A6 vs.length c6) vs := fv2_10.below hw11 (by omega)
            clear fv2_10
            have fd_11 : RdI w11 w7.heap.size (.slice A7 ds.length c7) ds := fd_10.below hw11 (by omega)
            clear fd_10
            have fra_11 : RdI w11 w8.heap.size (.slice Ara (rl).length cra) (rl) := fra_10.below hw11 (by omega)
            clear fra_10
            clear KB
            go_wp2_with fail
            refine (qInts_sameB _ _ _ _ _ _ fbk_11 fi_11).mono ?_
            rintro e w12 ⟨rfl, hb12⟩
            have hw12 : Below w11.heap.size w11 w12 := hb12
            have hs12 : w11.heap.size ≤ w12.heap.size := hw12.size
            have hB12 : Below w.heap.size w w12 := hB11.trans (hw12.mono (by omega))
            have fls_12 : RdI w12 w1.heap.size (.slice A2 ls.length c2) ls := fls_11.below hw12 (by omega)
            clear fls_11
            have fx_12 : RdII w12 w2.heap.size (.slice Ax (canR ls r).length cx) (canR ls r) := fx_11.below hw12 (by omega)
            clear fx_11
            have fy_12 : RdII w12 w3.heap.size (.slice Ay (canR ls r).length cy) (canR ls r) := fy_11.below hw12 (by omega)
            clear fy_11
            have fu_12 : RdII w12 w4.heap.size (.slice A4 us.length c4) us := fu_11.below hw12 (by omega)
            clear fu_11
            have fi_12 : RdI w12 w4.heap.size (.slice A5 is.length c5) is := fi_11.below hw12 (by omega)
            clear fi_11
            have fwa_12 : RdI w12 w5.heap.size (.slice Awa (writeL us is).length cwa) (writeL us is) := fwa_11.below hw12 (by omega)
            clear fwa_11
            have fv2_12 : RdII w12 w7.heap.size (.slice A6 vs.length c6) vs := fv2_11.below hw12 (by omega)
            clear fv2_11
            have fd_12 : RdI w12 w7.heap.size (.slice A7 ds.length c7) ds := fd_11.below hw12 (by omega)
            clear fd_11
            have fra_12 : RdI w12 w8.heap.size (.slice Ara (rl).length cra) (rl) := fra_11.below hw12 (by omega)
            clear fra_11
            have fbk_12 : RdI w12 w11.heap.size (.slice Abk (is).length cbk) (is) := fbk_11.below hw12 (by omega)
            clear fbk_11
            go_wp2_with fail
            go_meet
            exact (hw11).trans (hw12.mono (by omega))
        case rest => as_aux_lemma =>
          have HBC := hcut
          rename World => wc5
          have hb11 := HBC.out
          clear HBC
          have hw11 : Below wc4.heap.size wc4 wc5 := hb11
          have hs11 : wc4.heap.size ≤ wc5.heap.size := hw11.size
          have hB11 : Below w.heap.size w wc5 := hB10.trans (hw11.mono (by omega))
          have fls_11 : RdI wc5 w1.heap.size (.slice A2 ls.length c2) ls := fls_10.below hw11 (by omega)
          clear fls_10
          have fx_11 : RdII wc5 w2.heap.size (.slice Ax (canR ls r).length cx) (canR ls r) := fx_10.below hw11 (by omega)
          clear fx_10
          have fy_11 : RdII wc5 w3.heap.size (.slice Ay (canR ls r).length cy) (canR ls r) := fy_10.below hw11 (by omega)
          clear fy_10
          have fu_11 : RdII wc5 w4.heap.size (.slice A4 us.length c4) us := fu_10.below hw11 (by omega)
          clear fu_10
          have fi_11 : RdI wc5 w4.heap.size (.slice A5 is.length c5) is := fi_10.below hw11 (by omega)
          clear fi_10
          have fwa_11 : RdI wc5 w5.heap.size (.slice Awa (writeL us is).length cwa) (writeL us is) := fwa_10.below hw11 (by omega)
          clear fwa_10
          have fv2_11 : RdII wc5 w7.heap.size (.slice A6 vs.length c6) vs := fv2_10.below hw11 (by omega)
          clear fv2_10
          have fd_11 : RdI wc5 w7.heap.size (.slice A7 ds.length c7) ds := fd_10.below hw11 (by omega)
          clear fd_10
          have fra_11 : RdI wc5 w8.heap.size (.slice Ara (rl).length cra) (rl) := fra_10.below hw11 (by omega)
          clear fra_10
          clear fu_11
          clear fi_11
          clear fwa_11
          obtain ⟨q, HQ⟩ : ∃ q, Hid (q = (rq && decide (rl.length ≤ 30))) := ⟨_, rfl⟩
          go_upto_region 22 with fail
          go_cut [228] (fun s wx => s = .bool q ∧ wx = wc5)
          case first => as_aux_lemma =>
            cases rq
            · go_wp2_with fail
              go_meet
              exact ⟨by rw [HQ.out]; rfl, rfl⟩
            · go_wp2_with fail
              go_meet
              exact ⟨by rw [HQ.out, Bool.true_and]; exact congrArg Value.bool (decide_eq_decide.2 (by omega)), rfl⟩
          case rest => as_aux_lemma =>
            obtain ⟨rfl, hwx⟩ := hcut
            have hwy := hwx.symm
            clear hwx
            subst hwy
            go_upto_if 228 with fail
            go_cut [35] (fun s wx => Hid (Below wc5.heap.size wc5 wx))
            case first => as_aux_lemma =>
              cases q
              · go_wp2_with fail
                go_meet
                exact Below.refl _ _
              · have hq := HQ.out.symm
                rw [Bool.and_eq_true, decide_eq_true_eq] at hq
                obtain ⟨rfl, h30⟩ := hq
                have HAG := Lib.hid (again_ok HRR.out h30)
                clear h30
                have kc0 := (by have h := WriteWords_any vs rl _ _ _ _ wc5 fv2_11 fra_11 (by omega) (by omega); rw [HAG.out.1, HAG.out.2] at h; exact h : Calls Try.prog 50 #[.slice A6 vs.length c6, .slice Ara rl.length cra] wc5 (RetOwT ds true wc5))
                have KC := Lib.hid kc0
                clear kc0
                go_wp2_with fail
                refine (KC.out).mono ?_
                rintro e w12 ⟨ag, rfl, fag, hb12⟩
                obtain ⟨Aag, cag, rfl, _⟩ := fag.form
                have fag_12 : RdI w12 w12.heap.size (.slice Aag (ds).length cag) (ds) := fag.rd
                clear fag
                have hw12 : Below wc5.heap.size wc5 w12 := hb12
                have hs12 : wc5.heap.size ≤ w12.heap.size := hw12.size
                have hB12 : Below w.heap.size w w12 := hB11.trans (hw12.mono (by omega))
                have fls_12 : RdI w12 w1.heap.size (.slice A2 ls.length c2) ls := fls_11.below hw12 (by omega)
                clear fls_11
                have fx_12 : RdII w12 w2.heap.size (.slice Ax (canR ls r).length cx) (canR ls r) := fx_11.below hw12 (by omega)
                clear fx_11
                have fy_12 : RdII w12 w3.heap.size (.slice Ay (canR ls r).length cy) (canR ls r) := fy_11.below hw12 (by omega)
                clear fy_11
                have fv2_12 : RdII w12 w7.heap.size (.slice A6 vs.length c6) vs := fv2_11.below hw12 (by omega)
                clear fv2_11
                have fd_12 : RdI w12 w7.heap.size (.slice A7 ds.length c7) ds := fd_11.below hw12 (by omega)
                clear fd_11
                have fra_12 : RdI w12 w8.heap.size (.slice Ara (rl).length cra) (rl) := fra_11.below hw12 (by omega)
                clear fra_11
                clear KC
                go_wp2_with fail
                refine (qInts_sameB _ _ _ _ _ _ fag_12 fd_12).mono ?_
                rintro e w13 ⟨rfl, hb13⟩
                have hw13 : Below w12.heap.size w12 w13 := hb13
                have hs13 : w12.heap.size ≤ w13.heap.size := hw13.size
                have hB13 : Below w.heap.size w w13 := hB12.trans (hw13.mono (by omega))
                have fls_13 : RdI w13 w1.heap.size (.slice A2 ls.length c2) ls := fls_12.below hw13 (by omega)
                clear fls_12
                have fx_13 : RdII w13 w2.heap.size (.slice Ax (canR ls r).length cx) (canR ls r) := fx_12.below hw13 (by omega)
                clear fx_12
                have fy_13 : RdII w13 w3.heap.size (.slice Ay (canR ls r).length cy) (canR ls r) := fy_12.below hw13 (by omega)
                clear fy_12
                have fv2_13 : RdII w13 w7.heap.size (.slice A6 vs.length c6) vs := fv2_12.below hw13 (by omega)
                clear fv2_12
                have fd_13 : RdI w13 w7.heap.size (.slice A7 ds.length c7) ds := fd_12.below hw13 (by omega)
                clear fd_12
                have fra_13 : RdI w13 w8.heap.size (.slice Ara (rl).length cra) (rl) := fra_12.below hw13 (by omega)
                clear fra_12
                have fag_13 : RdI w13 w12.heap.size (.slice Aag (ds).length cag) (ds) := fag_12.below hw13 (by omega)
                clear fag_12
                go_wp2_with fail
                go_meet
                exact (hw12).trans (hw13.mono (by omega))
            case rest => as_aux_lemma =>
              have HBC := hcut
              rename World => wc6
              have hb12 := HBC.out
              clear HBC
              have hw12 : Below wc5.heap.size wc5 wc6 := hb12
              have hs12 : wc5.heap.size ≤ wc6.heap.size := hw12.size
              have hB12 : Below w.heap.size w wc6 := hB11.trans (hw12.mono (by omega))
              have fls_12 : RdI wc6 w1.heap.size (.slice A2 ls.length c2) ls := fls_11.below hw12 (by omega)
              clear fls_11
              have fx_12 : RdII wc6 w2.heap.size (.slice Ax (canR ls r).length cx) (canR ls r) := fx_11.below hw12 (by omega)
              clear fx_11
              have fy_12 : RdII wc6 w3.heap.size (.slice Ay (canR ls r).length cy) (canR ls r) := fy_11.below hw12 (by omega)
              clear fy_11
              have fv2_12 : RdII wc6 w7.heap.size (.slice A6 vs.length c6) vs := fv2_11.below hw12 (by omega)
              clear fv2_11
              have fd_12 : RdI wc6 w7.heap.size (.slice A7 ds.length c7) ds := fd_11.below hw12 (by omega)
              clear fd_11
              have fra_12 : RdI wc6 w8.heap.size (.slice Ara (rl).length cra) (rl) := fra_11.below hw12 (by omega)
              clear fra_11
              clear fv2_12
              clear fd_12
              clear fra_12
              go_wp2_with fail
              go_ret
              exact ⟨rfl, hB12⟩
    · have HOK : Hid (canB ls r = true) := HCB.out
      clear HCB
      have k10 := (by have h := CanonicalCode_any ls r _ _ w1 fls (by omega); rw [HOK.out] at h; exact h : Calls Try.prog 43 #[.slice A2 ls.length c2, .int .i64 r] w1 (RetOwIIT (canR ls r) true w1))
      have K1 := Lib.hid k10
      clear k10
      go_wp2_with fail
      refine (K1.out).mono ?_
      rintro e w2 ⟨x, rfl, fx, hb2⟩
      have fx_2 := fx.rd
      obtain ⟨Ax, cx, rfl, _⟩ := fx_2.form
      clear fx
      have hw2 : Below w1.heap.size w1 w2 := hb2
      have hs2 : w1.heap.size ≤ w2.heap.size := hw2.size
      have hB2 : Below w.heap.size w w2 := hB1.trans (hw2.mono (by omega))
      have H0_2 : RdU w2 w.heap.size (.slice A0 xs0.length c0) xs0 := H0_1.below hw2 (by omega)
      clear H0_1
      have H1_2 : RdU w2 w.heap.size (.slice A1 xs1.length c1) xs1 := H1_1.below hw2 (by omega)
      clear H1_1
      have fls_2 : RdI w2 w1.heap.size (.slice A2 ls.length c2) ls := fls.below hw2 (by omega)
      clear fls
      clear K1
      have k20 := (by have h := sCanonicalCode_any ls r _ _ w2 fls_2 (by omega); rw [HOK.out] at h; exact h : Calls Try.prog 44 #[.slice A2 ls.length c2, .int .i64 r] w2 (RetOwIIT (canR ls r) true w2))
      have K2 := Lib.hid k20
      clear k20
      go_wp2_with fail
      refine (K2.out).mono ?_
      rintro e w3 ⟨y, rfl, fy, hb3⟩
      have fy_3 := fy.rd
      obtain ⟨Ay, cy, rfl, _⟩ := fy_3.form
      clear fy
      have hw3 : Below w2.heap.size w2 w3 := hb3
      have hs3 : w2.heap.size ≤ w3.heap.size := hw3.size
      have hB3 : Below w.heap.size w w3 := hB2.trans (hw3.mono (by omega))
      have H0_3 : RdU w3 w.heap.size (.slice A0 xs0.length c0) xs0 := H0_2.below hw3 (by omega)
      clear H0_2
      have H1_3 : RdU w3 w.heap.size (.slice A1 xs1.length c1) xs1 := H1_2.below hw3 (by omega)
      clear H1_2
      have fls_3 : RdI w3 w1.heap.size (.slice A2 ls.length c2) ls := fls_2.below hw3 (by omega)
      clear fls_2
      have fx_3 : RdII w3 w2.heap.size (.slice Ax (canR ls r).length cx) (canR ls r) := fx_2.below hw3 (by omega)
      clear fx_2
      clear K2
      have k30 := (by have h := KraftSum_any ls r _ _ w3 fls_3; rw [HKT.out] at h; exact h : Calls Try.prog 45 #[.slice A2 ls.length c2, .int .i64 r] w3 fun e w' => e = .returned (.tuple #[.int .i64 (K), .int .i64 (Wn), .bool true]) ∧ w3 = w')
      have K3 := Lib.hid k30
      clear k30
      go_wp2_with fail
      refine (K3.out).mono ?_
      rintro e w' ⟨rfl, rfl⟩
      clear K3
      have k40 := (by have h := sKraftSum_any ls r _ _ w3 fls_3; rw [HKT.out] at h; exact h : Calls Try.prog 46 #[.slice A2 ls.length c2, .int .i64 r] w3 fun e w' => e = .returned (.tuple #[.int .i64 (K), .int .i64 (Wn), .bool true]) ∧ w3 = w')
      have K4 := Lib.hid k40
      clear k40
      go_wp2_with fail
      refine (K4.out).mono ?_
      rintro e w' ⟨rfl, rfl⟩
      clear K4
      have k50 := (by have h := HasCode_any ls r _ _ w3 fls_3; rw [HHT.out] at h; exact h : Calls Try.prog 47 #[.slice A2 ls.length c2, .int .i64 r] w3 fun e w' => e = .returned (.tuple #[.bool true, .bool true]) ∧ w3 = w')
      have K5 := Lib.hid k50
      clear k50
      go_wp2_with fail
      refine (K5.out).mono ?_
      rintro e w' ⟨rfl, rfl⟩
      clear K5
      have k60 := (by have h := sHasCode_any ls r _ _ w3 fls_3; rw [HHT.out] at h; exact h : Calls Try.prog 48 #[.slice A2 ls.length c2, .int .i64 r] w3 fun e w' => e = .returned (.tuple #[.bool true, .bool true]) ∧ w3 = w')
      have K6 := Lib.hid k60
      clear k60
      go_wp2_with fail
      refine (K6.out).mono ?_
      rintro e w' ⟨rfl, rfl⟩
      clear K6
      go_wp2_with fail
      refine (DrawWriteWords_any xs1 _ w.heap.size w3 H1_3 (by omega)).mono ?_
      rintro e w4 ⟨vu, nu, vl, is, rfl, his, hru, hoi, hb4⟩
      obtain ⟨A4, c4, rfl⟩ := hru.form
      obtain ⟨us, hul, fu⟩ := hru.rd
      subst hul
      obtain ⟨A5, c5, rfl, _⟩ := hoi.form
      have fi := hoi.rd
      clear hru hoi
      have hw4 : Below w3.heap.size w3 w4 := hb4
      have hs4 : w3.heap.size ≤ w4.heap.size := hw4.size
      have hB4 : Below w.heap.size w w4 := hB3.trans (hw4.mono (by omega))
      have H0_4 : RdU w4 w.heap.size (.slice A0 xs0.length c0) xs0 := H0_3.below hw4 (by omega)
      clear H0_3
      have H1_4 : RdU w4 w.heap.size (.slice A1 xs1.length c1) xs1 := H1_3.below hw4 (by omega)
      clear H1_3
      have fls_4 : RdI w4 w1.heap.size (.slice A2 ls.length c2) ls := fls_3.below hw4 (by omega)
      clear fls_3
      have fx_4 : RdII w4 w2.heap.size (.slice Ax (canR ls r).length cx) (canR ls r) := fx_3.below hw4 (by omega)
      clear fx_3
      have fy_4 : RdII w4 w3.heap.size (.slice Ay (canR ls r).length cy) (canR ls r) := fy_3.below hw4 (by omega)
      clear fy_3
      obtain ⟨fv, HFV⟩ : ∃ fv, Hid (writeB us is = fv) := ⟨_, rfl⟩
      have k70 := (by have h := WriteWords_any us is _ _ _ _ w4 fu fi (by omega) (by omega); rw [HFV.out] at h; exact h : Calls Try.prog 50 #[.slice A4 us.length c4, .slice A5 is.length c5] w4 (RetOwT (writeL us is) fv w4))
      have K7 := Lib.hid k70
      clear k70
      go_wp2_with fail
      refine (K7.out).mono ?_
      rintro e w5 ⟨wa, rfl, fwa, hb5⟩
      obtain ⟨Awa, cwa, rfl, _⟩ := fwa.form
      have fwa_5 : RdI w5 w5.heap.size (.slice Awa (writeL us is).length cwa) (writeL us is) := fwa.rd
      clear fwa
      have hw5 : Below w4.heap.size w4 w5 := hb5
      have hs5 : w4.heap.size ≤ w5.heap.size := hw5.size
      have hB5 : Below w.heap.size w w5 := hB4.trans (hw5.mono (by omega))
      have H0_5 : RdU w5 w.heap.size (.slice A0 xs0.length c0) xs0 := H0_4.below hw5 (by omega)
      clear H0_4
      have H1_5 : RdU w5 w.heap.size (.slice A1 xs1.length c1) xs1 := H1_4.below hw5 (by omega)
      clear H1_4
      have fls_5 : RdI w5 w1.heap.size (.slice A2 ls.length c2) ls := fls_4.below hw5 (by omega)
      clear fls_4
      have fx_5 : RdII w5 w2.heap.size (.slice Ax (canR ls r).length cx) (canR ls r) := fx_4.below hw5 (by omega)
      clear fx_4
      have fy_5 : RdII w5 w3.heap.size (.slice Ay (canR ls r).length cy) (canR ls r) := fy_4.below hw5 (by omega)
      clear fy_4
      have fu_5 : RdII w5 w4.heap.size (.slice A4 us.length c4) us := fu.below hw5 (by omega)
      clear fu
      have fi_5 : RdI w5 w4.heap.size (.slice A5 is.length c5) is := fi.below hw5 (by omega)
      clear fi
      clear K7
      have k80 := (by have h := sWriteWords_any us is _ _ _ _ w5 fu_5 fi_5 (by omega) (by omega); rw [HFV.out] at h; exact h : Calls Try.prog 51 #[.slice A4 us.length c4, .slice A5 is.length c5] w5 (RetOwT (writeL us is) fv w5))
      have K8 := Lib.hid k80
      clear k80
      go_wp2_with fail
      refine (K8.out).mono ?_
      rintro e w6 ⟨wb, rfl, fwb, hb6⟩
      obtain ⟨Awb, cwb, rfl, _⟩ := fwb.form
      have fwb_6 : RdI w6 w6.heap.size (.slice Awb (writeL us is).length cwb) (writeL us is) := fwb.rd
      clear fwb
      have hw6 : Below w5.heap.size w5 w6 := hb6
      have hs6 : w5.heap.size ≤ w6.heap.size := hw6.size
      have hB6 : Below w.heap.size w w6 := hB5.trans (hw6.mono (by omega))
      have H0_6 : RdU w6 w.heap.size (.slice A0 xs0.length c0) xs0 := H0_5.below hw6 (by omega)
      clear H0_5
      have H1_6 : RdU w6 w.heap.size (.slice A1 xs1.length c1) xs1 := H1_5.below hw6 (by omega)
      clear H1_5
      have fls_6 : RdI w6 w1.heap.size (.slice A2 ls.length c2) ls := fls_5.below hw6 (by omega)
      clear fls_5
      have fx_6 : RdII w6 w2.heap.size (.slice Ax (canR ls r).length cx) (canR ls r) := fx_5.below hw6 (by omega)
      clear fx_5
      have fy_6 : RdII w6 w3.heap.size (.slice Ay (canR ls r).length cy) (canR ls r) := fy_5.below hw6 (by omega)
      clear fy_5
      have fu_6 : RdII w6 w4.heap.size (.slice A4 us.length c4) us := fu_5.below hw6 (by omega)
      clear fu_5
      have fi_6 : RdI w6 w4.heap.size (.slice A5 is.length c5) is := fi_5.below hw6 (by omega)
      clear fi_5
      have fwa_6 : RdI w6 w5.heap.size (.slice Awa (writeL us is).length cwa) (writeL us is) := fwa_5.below hw6 (by omega)
      clear fwa_5
      clear K8
      go_wp2_with fail
      refine (DrawReadWords_any xs1 _ w.heap.size w6 H1_6 (by omega)).mono ?_
      rintro e w7 ⟨vv, vs, vd, ds, rfl, hdl, fv2, fd, hb7⟩
      obtain ⟨A6, c6, rfl, _⟩ := fv2.form
      obtain ⟨A7, c7, rfl, _, _⟩ := Rd.form fd
      have hw7 : Below w6.heap.size w6 w7 := hb7
      have hs7 : w6.heap.size ≤ w7.heap.size := hw7.size
      have hB7 : Below w.heap.size w w7 := hB6.trans (hw7.mono (by omega))
      have H0_7 : RdU w7 w.heap.size (.slice A0 xs0.length c0) xs0 := H0_6.below hw7 (by omega)
      clear H0_6
      have H1_7 : RdU w7 w.heap.size (.slice A1 xs1.length c1) xs1 := H1_6.below hw7 (by omega)
      clear H1_6
      have fls_7 : RdI w7 w1.heap.size (.slice A2 ls.length c2) ls := fls_6.below hw7 (by omega)
      clear fls_6
      have fx_7 : RdII w7 w2.heap.size (.slice Ax (canR ls r).length cx) (canR ls r) := fx_6.below hw7 (by omega)
      clear fx_6
      have fy_7 : RdII w7 w3.heap.size (.slice Ay (canR ls r).length cy) (canR ls r) := fy_6.below hw7 (by omega)
      clear fy_6
      have fu_7 : RdII w7 w4.heap.size (.slice A4 us.length c4) us := fu_6.below hw7 (by omega)
      clear fu_6
      have fi_7 : RdI w7 w4.heap.size (.slice A5 is.length c5) is := fi_6.below hw7 (by omega)
      clear fi_6
      have fwa_7 : RdI w7 w5.heap.size (.slice Awa (writeL us is).length cwa) (writeL us is) := fwa_6.below hw7 (by omega)
      clear fwa_6
      have fwb_7 : RdI w7 w6.heap.size (.slice Awb (writeL us is).length cwb) (writeL us is) := fwb_6.below hw7 (by omega)
      clear fwb_6
      obtain ⟨rl, rq, HRR⟩ : ∃ rl rq, Hid (readRes vs ds = (rl, rq)) := ⟨_, _, rfl⟩
      have k90 := (by have h := ReadWords_any vs ds _ _ _ _ w7 fv2 fd (by omega) (by omega); rw [HRR.out] at h; exact h : Calls Try.prog 53 #[.slice A6 vs.length c6, .slice A7 ds.length c7] w7 (RetOwT (rl) rq w7))
      have K9 := Lib.hid k90
      clear k90
      go_wp2_with fail
      refine (K9.out).mono ?_
      rintro e w8 ⟨ra, rfl, fra, hb8⟩
      obtain ⟨Ara, cra, rfl, _⟩ := fra.form
      have fra_8 : RdI w8 w8.heap.size (.slice Ara (rl).length cra) (rl) := fra.rd
      clear fra
      have hw8 : Below w7.heap.size w7 w8 := hb8
      have hs8 : w7.heap.size ≤ w8.heap.size := hw8.size
      have hB8 : Below w.heap.size w w8 := hB7.trans (hw8.mono (by omega))
      have H0_8 : RdU w8 w.heap.size (.slice A0 xs0.length c0) xs0 := H0_7.below hw8 (by omega)
      clear H0_7
      have H1_8 : RdU w8 w.heap.size (.slice A1 xs1.length c1) xs1 := H1_7.below hw8 (by omega)
      clear H1_7
      have fls_8 : RdI w8 w1.heap.size (.slice A2 ls.length c2) ls := fls_7.below hw8 (by omega)
      clear fls_7
      have fx_8 : RdII w8 w2.heap.size (.slice Ax (canR ls r).length cx) (canR ls r) := fx_7.below hw8 (by omega)
      clear fx_7
      have fy_8 : RdII w8 w3.heap.size (.slice Ay (canR ls r).length cy) (canR ls r) := fy_7.below hw8 (by omega)
      clear fy_7
      have fu_8 : RdII w8 w4.heap.size (.slice A4 us.length c4) us := fu_7.below hw8 (by omega)
      clear fu_7
      have fi_8 : RdI w8 w4.heap.size (.slice A5 is.length c5) is := fi_7.below hw8 (by omega)
      clear fi_7
      have fwa_8 : RdI w8 w5.heap.size (.slice Awa (writeL us is).length cwa) (writeL us is) := fwa_7.below hw8 (by omega)
      clear fwa_7
      have fwb_8 : RdI w8 w6.heap.size (.slice Awb (writeL us is).length cwb) (writeL us is) := fwb_7.below hw8 (by omega)
      clear fwb_7
      have fv2_8 : RdII w8 w7.heap.size (.slice A6 vs.length c6) vs := fv2.below hw8 (by omega)
      clear fv2
      have fd_8 : RdI w8 w7.heap.size (.slice A7 ds.length c7) ds := fd.below hw8 (by omega)
      clear fd
      clear K9
      have ka0 := (by have h := sReadWords_any vs ds _ _ _ _ w8 fv2_8 fd_8 (by omega) (by omega); rw [HRR.out] at h; exact h : Calls Try.prog 54 #[.slice A6 vs.length c6, .slice A7 ds.length c7] w8 (RetOwT (rl) rq w8))
      have KA := Lib.hid ka0
      clear ka0
      go_wp2_with fail
      refine (KA.out).mono ?_
      rintro e w9 ⟨rb, rfl, frb, hb9⟩
      obtain ⟨Arb, crb, rfl, _⟩ := frb.form
      have frb_9 : RdI w9 w9.heap.size (.slice Arb (rl).length crb) (rl) := frb.rd
      clear frb
      have hw9 : Below w8.heap.size w8 w9 := hb9
      have hs9 : w8.heap.size ≤ w9.heap.size := hw9.size
      have hB9 : Below w.heap.size w w9 := hB8.trans (hw9.mono (by omega))
      have H0_9 : RdU w9 w.heap.size (.slice A0 xs0.length c0) xs0 := H0_8.below hw9 (by omega)
      clear H0_8
      have H1_9 : RdU w9 w.heap.size (.slice A1 xs1.length c1) xs1 := H1_8.below hw9 (by omega)
      clear H1_8
      have fls_9 : RdI w9 w1.heap.size (.slice A2 ls.length c2) ls := fls_8.below hw9 (by omega)
      clear fls_8
      have fx_9 : RdII w9 w2.heap.size (.slice Ax (canR ls r).length cx) (canR ls r) := fx_8.below hw9 (by omega)
      clear fx_8
      have fy_9 : RdII w9 w3.heap.size (.slice Ay (canR ls r).length cy) (canR ls r) := fy_8.below hw9 (by omega)
      clear fy_8
      have fu_9 : RdII w9 w4.heap.size (.slice A4 us.length c4) us := fu_8.below hw9 (by omega)
      clear fu_8
      have fi_9 : RdI w9 w4.heap.size (.slice A5 is.length c5) is := fi_8.below hw9 (by omega)
      clear fi_8
      have fwa_9 : RdI w9 w5.heap.size (.slice Awa (writeL us is).length cwa) (writeL us is) := fwa_8.below hw9 (by omega)
      clear fwa_8
      have fwb_9 : RdI w9 w6.heap.size (.slice Awb (writeL us is).length cwb) (writeL us is) := fwb_8.below hw9 (by omega)
      clear fwb_8
      have fv2_9 : RdII w9 w7.heap.size (.slice A6 vs.length c6) vs := fv2_8.below hw9 (by omega)
      clear fv2_8
      have fd_9 : RdI w9 w7.heap.size (.slice A7 ds.length c7) ds := fd_8.below hw9 (by omega)
      clear fd_8
      have fra_9 : RdI w9 w8.heap.size (.slice Ara (rl).length cra) (rl) := fra_8.below hw9 (by omega)
      clear fra_8
      clear KA
      go_upto_region 16 with fail
      go_cut [207] (fun s wx => s = .bool false ∧ Hid (Below w9.heap.size w9 wx))
      case first => as_aux_lemma =>
        go_wp2_with fail
        refine (qLists_sameB _ _ _ _ _ _ fx_9 fy_9 (by omega) (by omega)).mono ?_
        rintro e w10 ⟨rfl, hb10⟩
        have hw10 : Below w9.heap.size w9 w10 := hb10
        have hs10 : w9.heap.size ≤ w10.heap.size := hw10.size
        have hB10 : Below w.heap.size w w10 := hB9.trans (hw10.mono (by omega))
        have H0_10 : RdU w10 w.heap.size (.slice A0 xs0.length c0) xs0 := H0_9.below hw10 (by omega)
        clear H0_9
        have H1_10 : RdU w10 w.heap.size (.slice A1 xs1.length c1) xs1 := H1_9.below hw10 (by omega)
        clear H1_9
        have fls_10 : RdI w10 w1.heap.size (.slice A2 ls.length c2) ls := fls_9.below hw10 (by omega)
        clear fls_9
        have fx_10 : RdII w10 w2.heap.size (.slice Ax (canR ls r).length cx) (canR ls r) := fx_9.below hw10 (by omega)
        clear fx_9
        have fy_10 : RdII w10 w3.heap.size (.slice Ay (canR ls r).length cy) (canR ls r) := fy_9.below hw10 (by omega)
        clear fy_9
        have fu_10 : RdII w10 w4.heap.size (.slice A4 us.length c4) us := fu_9.below hw10 (by omega)
        clear fu_9
        have fi_10 : RdI w10 w4.heap.size (.slice A5 is.length c5) is := fi_9.below hw10 (by omega)
        clear fi_9
        have fwa_10 : RdI w10 w5.heap.size (.slice Awa (writeL us is).length cwa) (writeL us is) := fwa_9.below hw10 (by omega)
        clear fwa_9
        have fwb_10 : RdI w10 w6.heap.size (.slice Awb (writeL us is).length cwb) (writeL us is) := fwb_9.below hw10 (by omega)
        clear fwb_9
        have fv2_10 : RdII w10 w7.heap.size (.slice A6 vs.length c6) vs := fv2_9.below hw10 (by omega)
        clear fv2_9
        have fd_10 : RdI w10 w7.heap.size (.slice A7 ds.length c7) ds := fd_9.below hw10 (by omega)
        clear fd_9
        have fra_10 : RdI w10 w8.heap.size (.slice Ara (rl).length cra) (rl) := fra_9.below hw10 (by omega)
        clear fra_9
        have frb_10 : RdI w10 w9.heap.size (.slice Arb (rl).length crb) (rl) := frb_9.below hw10 (by omega)
        clear frb_9
        go_wp2_with fail
        refine (qInts_sameB _ _ _ _ _ _ fwa_10 fwb_10).mono ?_
        rintro e w11 ⟨rfl, hb11⟩
        have hw11 : Below w10.heap.size w10 w11 := hb11
        have hs11 : w10.heap.size ≤ w11.heap.size := hw11.size
        have hB11 : Below w.heap.size w w11 := hB10.trans (hw11.mono (by omega))
        have H0_11 : RdU w11 w.heap.size (.slice A0 xs0.length c0) xs0 := H0_10.below hw11 (by omega)
        clear H0_10
        have H1_11 : RdU w11 w.heap.size (.slice A1 xs1.length c1) xs1 := H1_10.below hw11 (by omega)
        clear H1_10
        have fls_11 : RdI w11 w1.heap.size (.slice A2 ls.length c2) ls := fls_10.below hw11 (by omega)
        clear fls_10
        have fx_11 : RdII w11 w2.heap.size (.slice Ax (canR ls r).length cx) (canR ls r) := fx_10.below hw11 (by omega)
        clear fx_10
        have fy_11 : RdII w11 w3.heap.size (.slice Ay (canR ls r).length cy) (canR ls r) := fy_10.below hw11 (by omega)
        clear fy_10
        have fu_11 : RdII w11 w4.heap.size (.slice A4 us.length c4) us := fu_10.below hw11 (by omega)
        clear fu_10
        have fi_11 : RdI w11 w4.heap.size (.slice A5 is.length c5) is := fi_10.below hw11 (by omega)
        clear fi_10
        have fwa_11 : RdI w11 w5.heap.size (.slice Awa (writeL us is).length cwa) (writeL us is) := fwa_10.below hw11 (by omega)
        clear fwa_10
        have fwb_11 : RdI w11 w6.heap.size (.slice Awb (writeL us is).length cwb) (writeL us is) := fwb_10.below hw11 (by omega)
        clear fwb_10
        have fv2_11 : RdII w11 w7.heap.size (.slice A6 vs.length c6) vs := fv2_10.below hw11 (by omega)
        clear fv2_10
        have fd_11 : RdI w11 w7.heap.size (.slice A7 ds.length c7) ds := fd_10.below hw11 (by omega)
        clear fd_10
        have fra_11 : RdI w11 w8.heap.size (.slice Ara (rl).length cra) (rl) := fra_10.below hw11 (by omega)
        clear fra_10
        have frb_11 : RdI w11 w9.heap.size (.slice Arb (rl).length crb) (rl) := frb_10.below hw11 (by omega)
        clear frb_10
        go_wp2_with fail
        refine (qInts_sameB _ _ _ _ _ _ fra_11 frb_11).mono ?_
        rintro e w12 ⟨rfl, hb12⟩
        have hw12 : Below w11.heap.size w11 w12 := hb12
        have hs12 : w11.heap.size ≤ w12.heap.size := hw12.size
        have hB12 : Below w.heap.size w w12 := hB11.trans (hw12.mono (by omega))
        have H0_12 : RdU w12 w.heap.size (.slice A0 xs0.length c0) xs0 := H0_11.below hw12 (by omega)
        clear H0_11
        have H1_12 : RdU w12 w.heap.size (.slice A1 xs1.length c1) xs1 := H1_11.below hw12 (by omega)
        clear H1_11
        have fls_12 : RdI w12 w1.heap.size (.slice A2 ls.length c2) ls := fls_11.below hw12 (by omega)
        clear fls_11
        have fx_12 : RdII w12 w2.heap.size (.slice Ax (canR ls r).length cx) (canR ls r) := fx_11.below hw12 (by omega)
        clear fx_11
        have fy_12 : RdII w12 w3.heap.size (.slice Ay (canR ls r).length cy) (canR ls r) := fy_11.below hw12 (by omega)
        clear fy_11
        have fu_12 : RdII w12 w4.heap.size (.slice A4 us.length c4) us := fu_11.below hw12 (by omega)
        clear fu_11
        have fi_12 : RdI w12 w4.heap.size (.slice A5 is.length c5) is := fi_11.below hw12 (by omega)
        clear fi_11
        have fwa_12 : RdI w12 w5.heap.size (.slice Awa (writeL us is).length cwa) (writeL us is) := fwa_11.below hw12 (by omega)
        clear fwa_11
        have fwb_12 : RdI w12 w6.heap.size (.slice Awb (writeL us is).length cwb) (writeL us is) := fwb_11.below hw12 (by omega)
        clear fwb_11
        have fv2_12 : RdII w12 w7.heap.size (.slice A6 vs.length c6) vs := fv2_11.below hw12 (by omega)
        clear fv2_11
        have fd_12 : RdI w12 w7.heap.size (.slice A7 ds.length c7) ds := fd_11.below hw12 (by omega)
        clear fd_11
        have fra_12 : RdI w12 w8.heap.size (.slice Ara (rl).length cra) (rl) := fra_11.below hw12 (by omega)
        clear fra_11
        have frb_12 : RdI w12 w9.heap.size (.slice Arb (rl).length crb) (rl) := frb_11.below hw12 (by omega)
        clear frb_11
        go_wp2_with fail
        go_meet
        exact ⟨rfl, ((hw10).trans (hw11.mono (by omega))).trans (hw12.mono (by omega))⟩
      case rest => as_aux_lemma =>
        obtain ⟨rfl, HBC⟩ := hcut
        rename World => wc7
        have hb10 := HBC.out
        clear HBC
        have hw10 : Below w9.heap.size w9 wc7 := hb10
        have hs10 : w9.heap.size ≤ wc7.heap.size := hw10.size
        have hB10 : Below w.heap.size w wc7 := hB9.trans (hw10.mono (by omega))
        have H0_10 : RdU wc7 w.heap.size (.slice A0 xs0.length c0) xs0 := H0_9.below hw10 (by omega)
        clear H0_9
        have H1_10 : RdU wc7 w.heap.size (.slice A1 xs1.length c1) xs1 := H1_9.below hw10 (by omega)
        clear H1_9
        have fls_10 : RdI wc7 w1.heap.size (.slice A2 ls.length c2) ls := fls_9.below hw10 (by omega)
        clear fls_9
        have fx_10 : RdII wc7 w2.heap.size (.slice Ax (canR ls r).length cx) (canR ls r) := fx_9.below hw10 (by omega)
        clear fx_9
        have fy_10 : RdII wc7 w3.heap.size (.slice Ay (canR ls r).length cy) (canR ls r) := fy_9.below hw10 (by omega)
        clear fy_9
        have fu_10 : RdII wc7 w4.heap.size (.slice A4 us.length c4) us := fu_9.below hw10 (by omega)
        clear fu_9
        have fi_10 : RdI wc7 w4.heap.size (.slice A5 is.length c5) is := fi_9.below hw10 (by omega)
        clear fi_9
        have fwa_10 : RdI wc7 w5.heap.size (.slice Awa (writeL us is).length cwa) (writeL us is) := fwa_9.below hw10 (by omega)
        clear fwa_9
        have fwb_10 : RdI wc7 w6.heap.size (.slice Awb (writeL us is).length cwb) (writeL us is) := fwb_9.below hw10 (by omega)
        clear fwb_9
        have fv2_10 : RdII wc7 w7.heap.size (.slice A6 vs.length c6) vs := fv2_9.below hw10 (by omega)
        clear fv2_9
        have fd_10 : RdI wc7 w7.heap.size (.slice A7 ds.length c7) ds := fd_9.below hw10 (by omega)
        clear fd_9
        have fra_10 : RdI wc7 w8.heap.size (.slice Ara (rl).length cra) (rl) := fra_9.below hw10 (by omega)
        clear fra_9
        have frb_10 : RdI wc7 w9.heap.size (.slice Arb (rl).length crb) (rl) := frb_9.below hw10 (by omega)
        clear frb_9
        clear fwb_10
        clear frb_10
        clear H0_10
        clear H1_10
        go_upto_if 208 with fail
        go_cut [33] (fun s wx => Hid (Below wc7.heap.size wc7 wx))
        case first => as_aux_lemma =>
          cases fv
          · go_wp2_with fail
            go_meet
            exact Below.refl _ _
          · have HBK := Lib.hid (back_ok HFV.out)
            have kb0 := (by have h := ReadWords_any us (writeL us is) _ _ _ _ wc7 fu_10 fwa_10 (by omega) (by omega); rw [HBK.out] at h; exact h : Calls Try.prog 53 #[.slice A4 us.length c4, .slice Awa (writeL us is).length cwa] wc7 (RetOwT (is) true wc7))
            have KB := Lib.hid kb0
            clear kb0
            go_wp2_with fail
            refine (KB.out).mono ?_
            rintro e w11 ⟨bk, rfl, fbk, hb11⟩
            obtain ⟨Abk, cbk, rfl, _⟩ := fbk.form
            have fbk_11 : RdI w11 w11.heap.size (.slice Abk (is).length cbk) (is) := fbk.rd
            clear fbk
            have hw11 : Below wc7.heap.size wc7 w11 := hb11
            have hs11 : wc7.heap.size ≤ w11.heap.size := hw11.size
            have hB11 : Below w.heap.size w w11 := hB10.trans (hw11.mono (by omega))
            have fls_11 : RdI w11 w1.heap.size (.slice A2 ls.length c2) ls := fls_10.below hw11 (by omega)
            clear fls_10
            have fx_11 : RdII w11 w2.heap.size (.slice Ax (canR ls r).length cx) (canR ls r) := fx_10.below hw11 (by omega)
            clear fx_10
            have fy_11 : RdII w11 w3.heap.size (.slice Ay (canR ls r).length cy) (canR ls r) := fy_10.below hw11 (by omega)
            clear fy_10
            have fu_11 : RdII w11 w4.heap.size (.slice A4 us.length c4) us := fu_10.below hw11 (by omega)
            clear fu_10
            have fi_11 : RdI w11 w4.heap.size (.slice A5 is.length c5) is := fi_10.below hw11 (by omega)
            clear fi_10
            have fwa_11 : RdI w11 w5.heap.size (.slice Awa (writeL us is).length cwa) (writeL us is) := fwa_10.below hw11 (by omega)
            clear fwa_10
            have fv2_11 : RdII w11 w7.heap.size (.slice A6 vs.length c6) vs := fv2_10.below hw11 (by omega)
            clear fv2_10
            have fd_11 : RdI w11 w7.heap.size (.slice A7 ds.length c7) ds := fd_10.below hw11 (by omega)
            clear fd_10
            have fra_11 : RdI w11 w8.heap.size (.slice Ara (rl).length cra) (rl) := fra_10.below hw11 (by omega)
            clear fra_10
            clear KB
            go_wp2_with fail
            refine (qInts_sameB _ _ _ _ _ _ fbk_11 fi_11).mono ?_
            rintro e w12 ⟨rfl, hb12⟩
            have hw12 : Below w11.heap.size w11 w12 := hb12
            have hs12 : w11.heap.size ≤ w12.heap.size := hw12.size
            have hB12 : Below w.heap.size w w12 := hB11.trans (hw12.mono (by omega))
            have fls_12 : RdI w12 w1.heap.size (.slice A2 ls.length c2) ls := fls_11.below hw12 (by omega)
            clear fls_11
            have fx_12 : RdII w12 w2.heap.size (.slice Ax (canR ls r).length cx) (canR ls r) := fx_11.below hw12 (by omega)
            clear fx_11
            have fy_12 : RdII w12 w3.heap.size (.slice Ay (canR ls r).length cy) (canR ls r) := fy_11.below hw12 (by omega)
            clear fy_11
            have fu_12 : RdII w12 w4.heap.size (.slice A4 us.length c4) us := fu_11.below hw12 (by omega)
            clear fu_11
            have fi_12 : RdI w12 w4.heap.size (.slice A5 is.length c5) is := fi_11.below hw12 (by omega)
            clear fi_11
            have fwa_12 : RdI w12 w5.heap.size (.slice Awa (writeL us is).length cwa) (writeL us is) := fwa_11.below hw12 (by omega)
            clear fwa_11
            have fv2_12 : RdII w12 w7.heap.size (.slice A6 vs.length c6) vs := fv2_11.below hw12 (by omega)
            clear fv2_11
            have fd_12 : RdI w12 w7.heap.size (.slice A7 ds.length c7) ds := fd_11.below hw12 (by omega)
            clear fd_11
            have fra_12 : RdI w12 w8.heap.size (.slice Ara (rl).length cra) (rl) := fra_11.below hw12 (by omega)
            clear fra_11
            have fbk_12 : RdI w12 w11.heap.size (.slice Abk (is).length cbk) (is) := fbk_11.below hw12 (by omega)
            clear fbk_11
            go_wp2_with fail
            go_meet
            exact (hw11).trans (hw12.mono (by omega))
        case rest => as_aux_lemma =>
          have HBC := hcut
          rename World => wc8
          have hb11 := HBC.out
          clear HBC
          have hw11 : Below wc7.heap.size wc7 wc8 := hb11
          have hs11 : wc7.heap.size ≤ wc8.heap.size := hw11.size
          have hB11 : Below w.heap.size w wc8 := hB10.trans (hw11.mono (by omega))
          have fls_11 : RdI wc8 w1.heap.size (.slice A2 ls.length c2) ls := fls_10.below hw11 (by omega)
          clear fls_10
          have fx_11 : RdII wc8 w2.heap.size (.slice Ax (canR ls r).length cx) (canR ls r) := fx_10.below hw11 (by omega)
          clear fx_10
          have fy_11 : RdII wc8 w3.heap.size (.slice Ay (canR ls r).length cy) (canR ls r) := fy_10.below hw11 (by omega)
          clear fy_10
          have fu_11 : RdII wc8 w4.heap.size (.slice A4 us.length c4) us := fu_10.below hw11 (by omega)
          clear fu_10
          have fi_11 : RdI wc8 w4.heap.size (.slice A5 is.length c5) is := fi_10.below hw11 (by omega)
          clear fi_10
          have fwa_11 : RdI wc8 w5.heap.size (.slice Awa (writeL us is).length cwa) (writeL us is) := fwa_10.below hw11 (by omega)
          clear fwa_10
          have fv2_11 : RdII wc8 w7.heap.size (.slice A6 vs.length c6) vs := fv2_10.below hw11 (by omega)
          clear fv2_10
          have fd_11 : RdI wc8 w7.heap.size (.slice A7 ds.length c7) ds := fd_10.below hw11 (by omega)
          clear fd_10
          have fra_11 : RdI wc8 w8.heap.size (.slice Ara (rl).length cra) (rl) := fra_10.below hw11 (by omega)
          clear fra_10
          clear fu_11
          clear fi_11
          clear fwa_11
          obtain ⟨q, HQ⟩ : ∃ q, Hid (q = (rq && decide (rl.length ≤ 30))) := ⟨_, rfl⟩
          go_upto_region 22 with fail
          go_cut [228] (fun s wx => s = .bool q ∧ wx = wc8)
          case first => as_aux_lemma =>
            cases rq
            · go_wp2_with fail
              go_meet
              exact ⟨by rw [HQ.out]; rfl, rfl⟩
            · go_wp2_with fail
              go_meet
              exact ⟨by rw [HQ.out, Bool.true_and]; exact congrArg Value.bool (decide_eq_decide.2 (by omega)), rfl⟩
          case rest => as_aux_lemma =>
            obtain ⟨rfl, hwx⟩ := hcut
            have hwy := hwx.symm
            clear hwx
            subst hwy
            go_upto_if 228 with fail
            go_cut [35] (fun s wx => Hid (Below wc8.heap.size wc8 wx))
            case first => as_aux_lemma =>
              cases q
              · go_wp2_with fail
                go_meet
                exact Below.refl _ _
              · have hq := HQ.out.symm
                rw [Bool.and_eq_true, decide_eq_true_eq] at hq
                obtain ⟨rfl, h30⟩ := hq
                have HAG := Lib.hid (again_ok HRR.out h30)
                clear h30
                have kc0 := (by have h := WriteWords_any vs rl _ _ _ _ wc8 fv2_11 fra_11 (by omega) (by omega); rw [HAG.out.1, HAG.out.2] at h; exact h : Calls Try.prog 50 #[.slice A6 vs.length c6, .slice Ara rl.length cra] wc8 (RetOwT ds true wc8))
                have KC := Lib.hid kc0
                clear kc0
                go_wp2_with fail
                refine (KC.out).mono ?_
                rintro e w12 ⟨ag, rfl, fag, hb12⟩
                obtain ⟨Aag, cag, rfl, _⟩ := fag.form
                have fag_12 : RdI w12 w12.heap.size (.slice Aag (ds).length cag) (ds) := fag.rd
                clear fag
                have hw12 : Below wc8.heap.size wc8 w12 := hb12
                have hs12 : wc8.heap.size ≤ w12.heap.size := hw12.size
                have hB12 : Below w.heap.size w w12 := hB11.trans (hw12.mono (by omega))
                have fls_12 : RdI w12 w1.heap.size (.slice A2 ls.length c2) ls := fls_11.below hw12 (by omega)
                clear fls_11
                have fx_12 : RdII w12 w2.heap.size (.slice Ax (canR ls r).length cx) (canR ls r) := fx_11.below hw12 (by omega)
                clear fx_11
                have fy_12 : RdII w12 w3.heap.size (.slice Ay (canR ls r).length cy) (canR ls r) := fy_11.below hw12 (by omega)
                clear fy_11
                have fv2_12 : RdII w12 w7.heap.size (.slice A6 vs.length c6) vs := fv2_11.below hw12 (by omega)
                clear fv2_11
                have fd_12 : RdI w12 w7.heap.size (.slice A7 ds.length c7) ds := fd_11.below hw12 (by omega)
                clear fd_11
                have fra_12 : RdI w12 w8.heap.size (.slice Ara (rl).length cra) (rl) := fra_11.below hw12 (by omega)
                clear fra_11
                clear KC
                go_wp2_with fail
                refine (qInts_sameB _ _ _ _ _ _ fag_12 fd_12).mono ?_
                rintro e w13 ⟨rfl, hb13⟩
                have hw13 : Below w12.heap.size w12 w13 := hb13
                have hs13 : w12.heap.size ≤ w13.heap.size := hw13.size
                have hB13 : Below w.heap.size w w13 := hB12.trans (hw13.mono (by omega))
                have fls_13 : RdI w13 w1.heap.size (.slice A2 ls.length c2) ls := fls_12.below hw13 (by omega)
                clear fls_12
                have fx_13 : RdII w13 w2.heap.size (.slice Ax (canR ls r).length cx) (canR ls r) := fx_12.below hw13 (by omega)
                clear fx_12
                have fy_13 : RdII w13 w3.heap.size (.slice Ay (canR ls r).length cy) (canR ls r) := fy_12.below hw13 (by omega)
                clear fy_12
                have fv2_13 : RdII w13 w7.heap.size (.slice A6 vs.length c6) vs := fv2_12.below hw13 (by omega)
                clear fv2_12
                have fd_13 : RdI w13 w7.heap.size (.slice A7 ds.length c7) ds := fd_12.below hw13 (by omega)
                clear fd_12
                have fra_13 : RdI w13 w8.heap.size (.slice Ara (rl).length cra) (rl) := fra_12.below hw13 (by omega)
                clear fra_12
                have fag_13 : RdI w13 w12.heap.size (.slice Aag (ds).length cag) (ds) := fag_12.below hw13 (by omega)
                clear fag_12
                go_wp2_with fail
                go_meet
                exact (hw12).trans (hw13.mono (by omega))
            case rest => as_aux_lemma =>
              have HBC := hcut
              rename World => wc9
              have hb12 := HBC.out
              clear HBC
              have hw12 : Below wc8.heap.size wc8 wc9 := hb12
              have hs12 : wc8.heap.size ≤ wc9.heap.size := hw12.size
              have hB12 : Below w.heap.size w wc9 := hB11.trans (hw12.mono (by omega))
              have fls_12 : RdI wc9 w1.heap.size (.slice A2 ls.length c2) ls := fls_11.below hw12 (by omega)
              clear fls_11
              have fx_12 : RdII wc9 w2.heap.size (.slice Ax (canR ls r).length cx) (canR ls r) := fx_11.below hw12 (by omega)
              clear fx_11
              have fy_12 : RdII wc9 w3.heap.size (.slice Ay (canR ls r).length cy) (canR ls r) := fy_11.below hw12 (by omega)
              clear fy_11
              have fv2_12 : RdII wc9 w7.heap.size (.slice A6 vs.length c6) vs := fv2_11.below hw12 (by omega)
              clear fv2_11
              have fd_12 : RdI wc9 w7.heap.size (.slice A7 ds.length c7) ds := fd_11.below hw12 (by omega)
              clear fd_11
              have fra_12 : RdI wc9 w8.heap.size (.slice Ara (rl).length cra) (rl) := fra_11.below hw12 (by omega)
              clear fra_11
              clear fv2_12
              clear fd_12
              clear fra_12
              obtain ⟨n, hn⟩ : ∃ n, n = ls.length := ⟨_, rfl⟩
              have hnc := (canR_pos HOK.out).2
              have hpa := canB_parts HOK.out
              have hn20 : n ≤ 20 := by omega
              have HWO : Hid (∀ i x, (canR ls r)[i]? = some x → (x.length : Int) = ls.getD i 0 ∧ ∀ d ∈ x, 0 ≤ d ∧ d < r) := fun i x hx => word_ok HOK.out hx
              have HSO := Lib.hid (sent_ok HOK.out)
              have HBO := Lib.hid (back_ok (sent_ok HOK.out))
              rw [← hn] at hnc HSO HBO
              rw [← hn] at fls_12
              obtain ⟨cn, hcn⟩ : ∃ cn, cn = canR ls r := ⟨_, rfl⟩
              rw [← hcn] at hnc HWO HSO HBO fx_12 fy_12 ⊢
              rw [hnc] at fx_12 fy_12 ⊢
              rw [← hn]
              have HNC := Lib.hid hnc
              have HN := Lib.hid hn
              clear hnc hn hcn hpa hkw
              have hmk := make_ints n (by omega)
              go_wp2_with fail
              go_loopw [250] (fun i wr => ∃ k : Nat, k ≤ n ∧ i = .int .i64 (k : Int) ∧ Hid (Blk wr wc9.heap.size 3 (partI (allI n) k) ∧ Below wc9.heap.size wc9 wr)) (fun i _ => n - (intOf i).toNat)
              case atStart => exact ⟨0, Nat.zero_le _, rfl, by have h := partI_zero (allI n); rw [allI_len] at h; rw [h]; exact Blk.new _ _ _, (Below.refl _ _).alloc (Nat.le_refl _) _⟩
              case round =>
                obtain ⟨k, hk, rfl, HB⟩ := hrel
                clear hmk
                have hb13 := HB.out.2
                have hw13 : Below wc9.heap.size wc9 wr := hb13
                have hs13 : wc9.heap.size ≤ wr.heap.size := hw13.size
                have hB13 : Below w.heap.size w wr := hB12.trans (hw13.mono (by omega))
                have fls_13 : RdI wr w1.heap.size (.slice A2 n c2) ls := fls_12.below hw13 (by omega)
                clear fls_12
                have fx_13 : RdII wr w2.heap.size (.slice Ax n cx) cn := fx_12.below hw13 (by omega)
                clear fx_12
                have fy_13 : RdII wr w3.heap.size (.slice Ay n cy) cn := fy_12.below hw13 (by omega)
                clear fy_12
                by_cases hlt : k < n
                · have hal : k < (allI n).length := by rw [allI_len]; exact hlt
                  have hcell0 := HB.out.1.cell k
                  rw [partI_at hal] at hcell0
                  have hfr0 := HB.out.1.frozen k
                  have HST : Hid (Blk (wr.setCell ⟨wc9.heap.size, k, Option.none⟩ (.int .i64 (k : Int))) wc9.heap.size 3 (partI (allI n) (k + 1)) ∧ Below wc9.heap.size wc9 (wr.setCell ⟨wc9.heap.size, k, Option.none⟩ (.int .i64 (k : Int)))) := ⟨by rw [← partI_step (allI_at hlt)]; exact HB.out.1.set_ _ _, HB.out.2.setCell (Nat.le_refl _) _⟩
                  have hks : Below wc9.heap.size wr (wr.setCell ⟨wc9.heap.size, k, Option.none⟩ (.int .i64 (k : Int))) := (Below.refl _ _).setCell (p := ⟨wc9.heap.size, k, Option.none⟩) (Nat.le_refl _) _
                  have g1 := fy_13.below hks (by omega)
                  have g2 := fls_13.below hks (by omega)
                  obtain ⟨b1, o1, cc1, ux, x, hv, _, hx, hcell1, hrx⟩ := fy_13.at_ (show k < cn.length by rw [HNC.out]; exact hlt)
                  injection hv with hv1 hv2 hv3; cases hv1; clear hv2 hv3
                  obtain ⟨b2, o2, cc2, y0, hv, _, hy, hcell2⟩ := Rd.at_ g2 (show k < ls.length by rw [← HN.out]; exact hlt)
                  injection hv with hv1 hv2 hv3; cases hv1; clear hv2 hv3
                  have hw := HWO.out k x hx
                  rw [List.getD_eq_getElem?_getD, hy] at hw
                  have hrx2 := hrx.below hks (by omega)
                  obtain ⟨Ax2, cx2, rfl, hcx2, hmx2⟩ := Rd.form hrx
                  have hne : ((x.length : Int) != y0) = false := by have h := hw.1; simp at h; rw [bne_eq_false_iff_eq]; exact h
                  have HD := Lib.hid hw.2
                  have HRX := Lib.hid hrx2
                  clear hw hx hy hrx hrx2 g1 g2 hks hal
                  go_wp2_with fail
                  obtain ⟨wo, hwo⟩ : ∃ wo, wo = wr.setCell ⟨wc9.heap.size, k, Option.none⟩ (.int .i64 (k : Int)) := ⟨_, rfl⟩
                  rw [← hwo] at HST HRX hcell2 ⊢
                  clear hwo hcell0 hfr0
                  go_loopw [268] (fun i wr => ∃ j : Nat, j ≤ x.length ∧ i = .int .i64 (j : Int) ∧ wr = wo) (fun i _ => x.length - (intOf i).toNat)
                  case atStart => exact ⟨0, Nat.zero_le _, rfl, rfl⟩
                  case round =>
                    obtain ⟨j, hj, rfl, rfl⟩ := hrel
                    by_cases hltj : j < x.length
                    · obtain ⟨b3, o3, cc3, d0, hv, _, hd0, hcell3⟩ := Rd.at_ HRX.out hltj
                      injection hv with hv1 hv2 hv3; cases hv1; clear hv2 hv3
                      have hdb := HD.out d0 (List.mem_of_getElem? hd0)
                      have hd1 : decide (d0 < 0) = false := decide_eq_false (by omega)
                      have hd2 : decide (r ≤ d0) = false := decide_eq_false (by omega)
                      clear hd0
                      go_wp2_with fail
                      go_roundw
                      case rel => exact ⟨j + 1, by omega, by go_num, by first | rfl | trivial⟩
                      case measure => (simp [intOf]; try omega)
                    · have hje : j = x.length := by omega
                      subst hje
                      go_wp2_with fail
                      go_roundw
                      case rel => exact ⟨k + 1, by omega, by go_num, HST.out⟩
                      case measure => (simp [intOf]; try omega)
                · have hke : k = n := by omega
                  subst hke
                  have hbk := HB.out.1
                  have hpf := partI_full (allI k)
                  rw [allI_len] at hpf
                  rw [hpf] at hbk
                  have hoa := own_of_blk (lo := 0) (xs := allI k) hbk (Nat.zero_le _) hbk.lt (by unfold maxLen; rw [allI_len]; omega)
                  have hra := hoa.rd
                  rw [allI_len] at hra
                  have HRA := Lib.hid hra
                  clear hbk hpf hoa hra HB
                  obtain ⟨wz, hwz⟩ : ∃ wz, wz = wr := ⟨_, rfl⟩; subst hwz
                  have fal0 : RdI wz wz.heap.size (.slice (some ⟨wc9.heap.size, 0, Option.none⟩) k k) (allI k) := HRA.out
                  clear HRA
                  have kd0 := (by have h := WriteWords_any cn (allI k) _ _ _ _ wz fx_13 fal0 (by omega) (Nat.le_refl _); rw [HSO.out] at h; exact h : Calls Try.prog 50 #[.slice Ax k cx, .slice (some ⟨wc9.heap.size, 0, Option.none⟩) k k] wz (RetOwT (writeL cn (allI k)) true wz))
                  have KD := Lib.hid kd0
                  clear kd0
                  go_wp2_with fail
                  refine (KD.out).mono ?_
                  rintro e w14 ⟨se, rfl, fse, hb14⟩
                  obtain ⟨Ase, cse, rfl, _⟩ := fse.form
                  have fse_14 : RdI w14 w14.heap.size (.slice Ase (writeL cn (allI k)).length cse) (writeL cn (allI k)) := fse.rd
                  clear fse
                  have hw14 : Below wz.heap.size wz w14 := hb14
                  have hs14 : wz.heap.size ≤ w14.heap.size := hw14.size
                  have hB14 : Below w.heap.size w w14 := hB13.trans (hw14.mono (by omega))
                  have fls_14 : RdI w14 w1.heap.size (.slice A2 k c2) ls := fls_13.below hw14 (by omega)
                  clear fls_13
                  have fx_14 : RdII w14 w2.heap.size (.slice Ax k cx) cn := fx_13.below hw14 (by omega)
                  clear fx_13
                  have fy_14 : RdII w14 w3.heap.size (.slice Ay k cy) cn := fy_13.below hw14 (by omega)
                  clear fy_13
                  have fal_14 : RdI w14 wz.heap.size (.slice (some ⟨wc9.heap.size, 0, Option.none⟩) k k) (allI k) := fal0.below hw14 (by omega)
                  clear fal0
                  clear KD
                  have ke0 := (by have h := ReadWords_any cn (writeL cn (allI k)) _ _ _ _ w14 fx_14 fse_14 (by omega) (by omega); rw [HBO.out] at h; exact h : Calls Try.prog 53 #[.slice Ax k cx, .slice Ase (writeL cn (allI k)).length cse] w14 (RetOwT (allI k) true w14))
                  have KE := Lib.hid ke0
                  clear ke0
                  go_wp2_with fail
                  refine (KE.out).mono ?_
                  rintro e w15 ⟨ba, rfl, fba, hb15⟩
                  obtain ⟨Aba, cba, rfl, _⟩ := fba.form
                  have fba_15 : RdI w15 w15.heap.size (.slice Aba (allI k).length cba) (allI k) := fba.rd
                  clear fba
                  have hw15 : Below w14.heap.size w14 w15 := hb15
                  have hs15 : w14.heap.size ≤ w15.heap.size := hw15.size
                  have hB15 : Below w.heap.size w w15 := hB14.trans (hw15.mono (by omega))
                  have fls_15 : RdI w15 w1.heap.size (.slice A2 k c2) ls := fls_14.below hw15 (by omega)
                  clear fls_14
                  have fx_15 : RdII w15 w2.heap.size (.slice Ax k cx) cn := fx_14.below hw15 (by omega)
                  clear fx_14
                  have fy_15 : RdII w15 w3.heap.size (.slice Ay k cy) cn := fy_14.below hw15 (by omega)
                  clear fy_14
                  have fal_15 : RdI w15 wz.heap.size (.slice (some ⟨wc9.heap.size, 0, Option.none⟩) k k) (allI k) := fal_14.below hw15 (by omega)
                  clear fal_14
                  have fse_15 : RdI w15 w14.heap.size (.slice Ase (writeL cn (allI k)).length cse) (writeL cn (allI k)) := fse_14.below hw15 (by omega)
                  clear fse_14
                  clear KE
                  go_wp2_with fail
                  refine (qInts_sameB _ _ _ _ _ _ fba_15 fal_15).mono ?_
                  rintro e w16 ⟨rfl, hb16⟩
                  have hw16 : Below w15.heap.size w15 w16 := hb16
                  have hs16 : w15.heap.size ≤ w16.heap.size := hw16.size
                  have hB16 : Below w.heap.size w w16 := hB15.trans (hw16.mono (by omega))
                  have fls_16 : RdI w16 w1.heap.size (.slice A2 k c2) ls := fls_15.below hw16 (by omega)
                  clear fls_15
                  have fx_16 : RdII w16 w2.heap.size (.slice Ax k cx) cn := fx_15.below hw16 (by omega)
                  clear fx_15
                  have fy_16 : RdII w16 w3.heap.size (.slice Ay k cy) cn := fy_15.below hw16 (by omega)
                  clear fy_15
                  have fal_16 : RdI w16 wz.heap.size (.slice (some ⟨wc9.heap.size, 0, Option.none⟩) k k) (allI k) := fal_15.below hw16 (by omega)
                  clear fal_15
                  have fse_16 : RdI w16 w14.heap.size (.slice Ase (writeL cn (allI k)).length cse) (writeL cn (allI k)) := fse_15.below hw16 (by omega)
                  clear fse_15
                  have fba_16 : RdI w16 w15.heap.size (.slice Aba (allI k).length cba) (allI k) := fba_15.below hw16 (by omega)
                  clear fba_15
                  go_wp2_with fail
                  go_ret
                  exact ⟨ret_bool (by simp), hB16⟩
end Go.Proofs.Ytjnkdjokbamibaa.fnCodeWords
