/- Texts of one claim, joined: VReadings. -/
import Derived.Test.YtabiobjcfopakaaP6Readings
/- The walk of the law FnReadings. -/
namespace Go.Proofs.Ytabiobjcfopakaa.fnReadings
open Go.ChangeShapes Go.WideShapes Go.ChangeAt Go.RowKit
open Go.ChangeMaps (open_string)
set_option linter.unusedVariables false
set_option maxHeartbeats 20000000 in
set_option maxRecDepth 100000 in
theorem walk (v0 : Value) (xs0 : List UInt8) (v1 : Value) (xs1 : List UInt8) (w : World) (hr0 : RdU w w.heap.size v0 xs0) (hr1 : RdU w w.heap.size v1 xs1) : Calls Try.prog 11 #[v0, v1] w fun e w' => e = .returned (.bool true) ∧ Below w.heap.size w w' := by
  obtain ⟨A0, c0, rfl, hc0, hm0⟩ := Rd.form hr0
  obtain ⟨A1, c1, rfl, hc1, hm1⟩ := Rd.form hr1
  have cb := big_any xs0 xs1 _ _ _ _ w hr0 hr1
  have H0 := Lib.hid hr0
  have H1 := Lib.hid hr1
  clear hr0 hr1
  cases hbig : (decide (1048576 < xs0.length) || decide (1048576 - (xs0.length : Int) < xs1.length))
  · rw [hbig] at cb
    have CB := Lib.hid cb
    clear cb hbig
    go_enter Try.func11, Try.ntmps11
    go_wp2_with fail
    refine CB.out.mono ?_
    rintro e _ ⟨rfl, rfl⟩
    clear CB
    go_wp2_with fail
    refine (DrawFirstReading_any xs0 _ w.heap.size w H0.out (Nat.le_refl _)).mono ?_
    rintro e w1 ⟨u2, n2, u3, sg, rfl, hn2, hsl3, hr2, ho3, hb1⟩
    obtain ⟨A2, c2, rfl⟩ := hr2.form
    obtain ⟨ps, hpl2, fb⟩ := hr2.rdb
    subst hpl2
    obtain ⟨A3, c3, rfl, _⟩ := ho3.form
    have fs := ho3.rd
    clear hr2 ho3
    have hw1 : Below w.heap.size w w1 := hb1
    have hs1 : w.heap.size ≤ w1.heap.size := hw1.size
    have hB1 : Below w.heap.size w w1 := hw1.mono (by omega)
    have H0_1 : RdU w1 w.heap.size (.slice A0 xs0.length c0) xs0 := H0.out.below hw1 (by omega)
    have H1_1 : RdU w1 w.heap.size (.slice A1 xs1.length c1) xs1 := H1.out.below hw1 (by omega)
    have hb2 : Below w1.heap.size w1 (w1.alloc (.cells #[.slice A2 ps.length c2] 48)) := (Below.refl _ _).alloc (Nat.le_refl _) _
    have hz2 : (w1.alloc (.cells #[.slice A2 ps.length c2] 48)).heap.size = w1.heap.size + 1 := by simp
    have qb0_2 : (w1.alloc (.cells #[.slice A2 ps.length c2] 48)).cell? ⟨w1.heap.size, 0, Option.none⟩ = some (.slice A2 ps.length c2) := (Blk.new w1 48 #[.slice A2 ps.length c2]).cell 0
    go_wp2_with fail
    generalize w1.alloc (.cells #[.slice A2 ps.length c2] 48) = w2 at hb2 hz2 qb0_2 ⊢
    have hy2 : w1.heap.size + 1 ≤ w2.heap.size := by omega
    clear hz2
    have hw2 : Below w1.heap.size w1 w2 := hb2
    have hs2 : w1.heap.size ≤ w2.heap.size := hw2.size
    have hB2 : Below w.heap.size w w2 := hB1.trans (hw2.mono (by omega))
    have H0_2 : RdU w2 w.heap.size (.slice A0 xs0.length c0) xs0 := H0_1.below hw2 (by omega)
    clear H0_1
    have H1_2 : RdU w2 w.heap.size (.slice A1 xs1.length c1) xs1 := H1_1.below hw2 (by omega)
    clear H1_1
    have fb_2 : RdB w2 w1.heap.size (.agg #[.slice A2 ps.length c2]) ps := fb.below hw2 (by omega)
    clear fb
    have fs_2 : RdI w2 w1.heap.size (.slice A3 sg.length c3) sg := fs.below hw2 (by omega)
    clear fs
    cases hgd : (bookB ps && readB sg)
    · have HGD := Lib.hid hgd
      clear hgd
      have k10 := (by have h := FirstReading_any ps sg _ _ _ _ w2 fb_2 fs_2 (by omega) (by omega); rw [frN_no HGD.out, frQ_no HGD.out, show waysI [] = [] from rfl] at h; exact h : Calls Try.prog 73 #[.agg #[.slice A2 ps.length c2], .slice A3 sg.length c3] w2 (RetOwT ([]) false w2))
      have K1 := Lib.hid k10
      clear k10
      go_wp2_with fail
      refine (K1.out).mono ?_
      rintro e w3 ⟨x, rfl, fx, hb3⟩
      obtain ⟨Ax, cx, rfl, _⟩ := fx.form
      have fx_3 : RdI w3 w3.heap.size (.slice Ax ([]).length cx) ([]) := fx.rd
      clear fx
      have hw3 : Below w2.heap.size w2 w3 := hb3
      have hs3 : w2.heap.size ≤ w3.heap.size := hw3.size
      have hB3 : Below w.heap.size w w3 := hB2.trans (hw3.mono (by omega))
      have H0_3 : RdU w3 w.heap.size (.slice A0 xs0.length c0) xs0 := H0_2.below hw3 (by omega)
      clear H0_2
      have H1_3 : RdU w3 w.heap.size (.slice A1 xs1.length c1) xs1 := H1_2.below hw3 (by omega)
      clear H1_2
      have fb_3 : RdB w3 w1.heap.size (.agg #[.slice A2 ps.length c2]) ps := fb_2.below hw3 (by omega)
      clear fb_2
      have fs_3 : RdI w3 w1.heap.size (.slice A3 sg.length c3) sg := fs_2.below hw3 (by omega)
      clear fs_2
      have qb0_3 := (hw3.cell (p := ⟨w1.heap.size, 0, Option.none⟩) (by show w1.heap.size < _; omega)).trans qb0_2
      clear qb0_2
      clear K1
      have k20 := (by have h := sFirstReading_any ps sg _ _ _ _ w3 fb_3 fs_3 (by omega) (by omega); rw [frN_no HGD.out, frQ_no HGD.out, show waysI [] = [] from rfl] at h; exact h : Calls Try.prog 74 #[.agg #[.slice A2 ps.length c2], .slice A3 sg.length c3] w3 (RetOwT ([]) false w3))
      have K2 := Lib.hid k20
      clear k20
      go_wp2_with fail
      refine (K2.out).mono ?_
      rintro e w4 ⟨y, rfl, fy, hb4⟩
      obtain ⟨Ay, cy, rfl, _⟩ := fy.form
      have fy_4 : RdI w4 w4.heap.size (.slice Ay ([]).length cy) ([]) := fy.rd
      clear fy
      have hw4 : Below w3.heap.size w3 w4 := hb4
      have hs4 : w3.heap.size ≤ w4.heap.size := hw4.size
      have hB4 : Below w.heap.size w w4 := hB3.trans (hw4.mono (by omega))
      have H0_4 : RdU w4 w.heap.size (.slice A0 xs0.length c0) xs0 := H0_3.below hw4 (by omega)
      clear H0_3
      have H1_4 : RdU w4 w.heap.size (.slice A1 xs1.length c1) xs1 := H1_3.below hw4 (by omega)
      clear H1_3
      have fb_4 : RdB w4 w1.heap.size (.agg #[.slice A2 ps.length c2]) ps := fb_3.below hw4 (by omega)
      clear fb_3
      have fs_4 : RdI w4 w1.heap.size (.slice A3 sg.length c3) sg := fs_3.below hw4 (by omega)
      clear fs_3
      have fx_4 : RdI w4 w3.heap.size (.slice Ax ([]).length cx) ([]) := fx_3.below hw4 (by omega)
      clear fx_3
      have qb0_4 := (hw4.cell (p := ⟨w1.heap.size, 0, Option.none⟩) (by show w1.heap.size < _; omega)).trans qb0_3
      clear qb0_3
      clear K2
      have k30 := (by have h := CountReadings_any ps sg _ _ _ _ w4 fb_4 fs_4 (by omega) (by omega); rw [HGD.out, show cntV false (cntS ps sg) = .tuple #[.int .i64 (0), .bool false] from rfl] at h; exact h : Calls Try.prog 75 #[.agg #[.slice A2 ps.length c2], .slice A3 sg.length c3] w4 fun e w' => e = .returned (.tuple #[.int .i64 (0), .bool false]) ∧ Below w4.heap.size w4 w')
      have K3 := Lib.hid k30
      clear k30
      go_wp2_with fail
      refine (K3.out).mono ?_
      rintro e w5 ⟨rfl, hb5⟩
      have hw5 : Below w4.heap.size w4 w5 := hb5
      have hs5 : w4.heap.size ≤ w5.heap.size := hw5.size
      have hB5 : Below w.heap.size w w5 := hB4.trans (hw5.mono (by omega))
      have H0_5 : RdU w5 w.heap.size (.slice A0 xs0.length c0) xs0 := H0_4.below hw5 (by omega)
      clear H0_4
      have H1_5 : RdU w5 w.heap.size (.slice A1 xs1.length c1) xs1 := H1_4.below hw5 (by omega)
      clear H1_4
      have fb_5 : RdB w5 w1.heap.size (.agg #[.slice A2 ps.length c2]) ps := fb_4.below hw5 (by omega)
      clear fb_4
      have fs_5 : RdI w5 w1.heap.size (.slice A3 sg.length c3) sg := fs_4.below hw5 (by omega)
      clear fs_4
      have fx_5 : RdI w5 w3.heap.size (.slice Ax ([]).length cx) ([]) := fx_4.below hw5 (by omega)
      clear fx_4
      have fy_5 : RdI w5 w4.heap.size (.slice Ay ([]).length cy) ([]) := fy_4.below hw5 (by omega)
      clear fy_4
      have qb0_5 := (hw5.cell (p := ⟨w1.heap.size, 0, Option.none⟩) (by show w1.heap.size < _; omega)).trans qb0_4
      clear qb0_4
      clear K3
      have k40 := (by have h := sCountReadings_any ps sg _ _ _ _ w5 fb_5 fs_5 (by omega) (by omega); rw [HGD.out, show cntV false (cntS ps sg) = .tuple #[.int .i64 (0), .bool false] from rfl] at h; exact h : Calls Try.prog 76 #[.agg #[.slice A2 ps.length c2], .slice A3 sg.length c3] w5 fun e w' => e = .returned (.tuple #[.int .i64 (0), .bool false]) ∧ Below w5.heap.size w5 w')
      have K4 := Lib.hid k40
      clear k40
      go_wp2_with fail
      refine (K4.out).mono ?_
      rintro e w6 ⟨rfl, hb6⟩
      have hw6 : Below w5.heap.size w5 w6 := hb6
      have hs6 : w5.heap.size ≤ w6.heap.size := hw6.size
      have hB6 : Below w.heap.size w w6 := hB5.trans (hw6.mono (by omega))
      have H0_6 : RdU w6 w.heap.size (.slice A0 xs0.length c0) xs0 := H0_5.below hw6 (by omega)
      clear H0_5
      have H1_6 : RdU w6 w.heap.size (.slice A1 xs1.length c1) xs1 := H1_5.below hw6 (by omega)
      clear H1_5
      have fb_6 : RdB w6 w1.heap.size (.agg #[.slice A2 ps.length c2]) ps := fb_5.below hw6 (by omega)
      clear fb_5
      have fs_6 : RdI w6 w1.heap.size (.slice A3 sg.length c3) sg := fs_5.below hw6 (by omega)
      clear fs_5
      have fx_6 : RdI w6 w3.heap.size (.slice Ax ([]).length cx) ([]) := fx_5.below hw6 (by omega)
      clear fx_5
      have fy_6 : RdI w6 w4.heap.size (.slice Ay ([]).length cy) ([]) := fy_5.below hw6 (by omega)
      clear fy_5
      have qb0_6 := (hw6.cell (p := ⟨w1.heap.size, 0, Option.none⟩) (by show w1.heap.size < _; omega)).trans qb0_5
      clear qb0_5
      clear K4
      have k50 := (by have h := ReadMessage_any ps sg _ _ _ _ w6 fb_6 fs_6 (by omega) (by omega); rw [msgV_no HGD.out] at h; exact h : Calls Try.prog 77 #[.agg #[.slice A2 ps.length c2], .slice A3 sg.length c3] w6 fun e w' => e = .returned (.tuple #[.string ⟨#[]⟩, .bool false]) ∧ Below w6.heap.size w6 w')
      have K5 := Lib.hid k50
      clear k50
      go_wp2_with fail
      refine (K5.out).mono ?_
      rintro e w7 ⟨rfl, hb7⟩
      have hw7 : Below w6.heap.size w6 w7 := hb7
      have hs7 : w6.heap.size ≤ w7.heap.size := hw7.size
      have hB7 : Below w.heap.size w w7 := hB6.trans (hw7.mono (by omega))
      have H0_7 : RdU w7 w.heap.size (.slice A0 xs0.length c0) xs0 := H0_6.below hw7 (by omega)
      clear H0_6
      have H1_7 : RdU w7 w.heap.size (.slice A1 xs1.length c1) xs1 := H1_6.below hw7 (by omega)
      clear H1_6
      have fb_7 : RdB w7 w1.heap.size (.agg #[.slice A2 ps.length c2]) ps := fb_6.below hw7 (by omega)
      clear fb_6
      have fs_7 : RdI w7 w1.heap.size (.slice A3 sg.length c3) sg := fs_6.below hw7 (by omega)
      clear fs_6
      have fx_7 : RdI w7 w3.heap.size (.slice Ax ([]).length cx) ([]) := fx_6.below hw7 (by omega)
      clear fx_6
      have fy_7 : RdI w7 w4.heap.size (.slice Ay ([]).length cy) ([]) := fy_6.below hw7 (by omega)
      clear fy_6
      have qb0_7 := (hw7.cell (p := ⟨w1.heap.size, 0, Option.none⟩) (by show w1.heap.size < _; omega)).trans qb0_6
      clear qb0_6
      clear K5
      have k60 := (by have h := sReadMessage_any ps sg _ _ _ _ w7 fb_7 fs_7 (by omega) (by omega); rw [msgV_no HGD.out] at h; exact h : Calls Try.prog 78 #[.agg #[.slice A2 ps.length c2], .slice A3 sg.length c3] w7 fun e w' => e = .returned (.tuple #[.string ⟨#[]⟩, .bool false]) ∧ Below w7.heap.size w7 w')
      have K6 := Lib.hid k60
      clear k60
      go_wp2_with fail
      refine (K6.out).mono ?_
      rintro e w8 ⟨rfl, hb8⟩
      have hw8 : Below w7.heap.size w7 w8 := hb8
      have hs8 : w7.heap.size ≤ w8.heap.size := hw8.size
      have hB8 : Below w.heap.size w w8 := hB7.trans (hw8.mono (by omega))
      have H0_8 : RdU w8 w.heap.size (.slice A0 xs0.length c0) xs0 := H0_7.below hw8 (by omega)
      clear H0_7
      have H1_8 : RdU w8 w.heap.size (.slice A1 xs1.length c1) xs1 := H1_7.below hw8 (by omega)
      clear H1_7
      have fb_8 : RdB w8 w1.heap.size (.agg #[.slice A2 ps.length c2]) ps := fb_7.below hw8 (by omega)
      clear fb_7
      have fs_8 : RdI w8 w1.heap.size (.slice A3 sg.length c3) sg := fs_7.below hw8 (by omega)
      clear fs_7
      have fx_8 : RdI w8 w3.heap.size (.slice Ax ([]).length cx) ([]) := fx_7.below hw8 (by omega)
      clear fx_7
      have fy_8 : RdI w8 w4.heap.size (.slice Ay ([]).length cy) ([]) := fy_7.below hw8 (by omega)
      clear fy_7
      have qb0_8 := (hw8.cell (p := ⟨w1.heap.size, 0, Option.none⟩) (by show w1.heap.size < _; omega)).trans qb0_7
      clear qb0_7
      clear K6
      go_wp2_with fail
      refine (sameInts_sameB _ _ _ _ _ _ fx_8 fy_8).mono ?_
      rintro e w9 ⟨rfl, hb9⟩
      have hw9 : Below w8.heap.size w8 w9 := hb9
      have hs9 : w8.heap.size ≤ w9.heap.size := hw9.size
      have hB9 : Below w.heap.size w w9 := hB8.trans (hw9.mono (by omega))
      have H0_9 : RdU w9 w.heap.size (.slice A0 xs0.length c0) xs0 := H0_8.below hw9 (by omega)
      clear H0_8
      have H1_9 : RdU w9 w.heap.size (.slice A1 xs1.length c1) xs1 := H1_8.below hw9 (by omega)
      clear H1_8
      have fb_9 : RdB w9 w1.heap.size (.agg #[.slice A2 ps.length c2]) ps := fb_8.below hw9 (by omega)
      clear fb_8
      have fs_9 : RdI w9 w1.heap.size (.slice A3 sg.length c3) sg := fs_8.below hw9 (by omega)
      clear fs_8
      have fx_9 : RdI w9 w3.heap.size (.slice Ax ([]).length cx) ([]) := fx_8.below hw9 (by omega)
      clear fx_8
      have fy_9 : RdI w9 w4.heap.size (.slice Ay ([]).length cy) ([]) := fy_8.below hw9 (by omega)
      clear fy_8
      have qb0_9 := (hw9.cell (p := ⟨w1.heap.size, 0, Option.none⟩) (by show w1.heap.size < _; omega)).trans qb0_8
      clear qb0_8
      clear fx_9 fy_9
      obtain ⟨p3, q3, hT3⟩ := rowV_form (bookB ps) (oneB ps)
      have HT3 := Lib.hid hT3
      clear hT3
      have k80 := (by have h := IsReadOneWay_any ps _ _ w9 fb_9 (by omega); rw [HT3.out] at h; exact h : Calls Try.prog 39 #[.agg #[.slice A2 ps.length c2]] w9 fun e w' => e = .returned (.tuple #[.bool p3, .bool q3]) ∧ Below w9.heap.size w9 w')
      have K8 := Lib.hid k80
      clear k80
      go_wp2_with fail
      refine (K8.out).mono ?_
      rintro e w10 ⟨rfl, hb10⟩
      have hw10 : Below w9.heap.size w9 w10 := hb10
      have hs10 : w9.heap.size ≤ w10.heap.size := hw10.size
      have hB10 : Below w.heap.size w w10 := hB9.trans (hw10.mono (by omega))
      have H0_10 : RdU w10 w.heap.size (.slice A0 xs0.length c0) xs0 := H0_9.below hw10 (by omega)
      clear H0_9
      have H1_10 : RdU w10 w.heap.size (.slice A1 xs1.length c1) xs1 := H1_9.below hw10 (by omega)
      clear H1_9
      have fb_10 : RdB w10 w1.heap.size (.agg #[.slice A2 ps.length c2]) ps := fb_9.below hw10 (by omega)
      clear fb_9
      have fs_10 : RdI w10 w1.heap.size (.slice A3 sg.length c3) sg := fs_9.below hw10 (by omega)
      clear fs_9
      have qb0_10 := (hw10.cell (p := ⟨w1.heap.size, 0, Option.none⟩) (by show w1.heap.size < _; omega)).trans qb0_9
      clear qb0_9
      clear K8
      have k90 := (by have h := sIsReadOneWay_any ps _ _ w10 fb_10 (by omega); rw [HT3.out] at h; exact h : Calls Try.prog 37 #[.agg #[.slice A2 ps.length c2]] w10 fun e w' => e = .returned (.tuple #[.bool p3, .bool q3]) ∧ Below w10.heap.size w10 w')
      have K9 := Lib.hid k90
      clear k90
      go_wp2_with fail
      refine (K9.out).mono ?_
      rintro e w11 ⟨rfl, hb11⟩
      have hw11 : Below w10.heap.size w10 w11 := hb11
      have hs11 : w10.heap.size ≤ w11.heap.size := hw11.size
      have hB11 : Below w.heap.size w w11 := hB10.trans (hw11.mono (by omega))
      have H0_11 : RdU w11 w.heap.size (.slice A0 xs0.length c0) xs0 := H0_10.below hw11 (by omega)
      clear H0_10
      have H1_11 : RdU w11 w.heap.size (.slice A1 xs1.length c1) xs1 := H1_10.below hw11 (by omega)
      clear H1_10
      have fb_11 : RdB w11 w1.heap.size (.agg #[.slice A2 ps.length c2]) ps := fb_10.below hw11 (by omega)
      clear fb_10
      have fs_11 : RdI w11 w1.heap.size (.slice A3 sg.length c3) sg := fs_10.below hw11 (by omega)
      clear fs_10
      have qb0_11 := (hw11.cell (p := ⟨w1.heap.size, 0, Option.none⟩) (by show w1.heap.size < _; omega)).trans qb0_10
      clear qb0_10
      clear K9
      clear fb_11 fs_11
      clear qb0_11
      go_wp2_with fail
      refine (DrawTextOfPhrases_any xs1 _ w.heap.size w11 H1_11 (by omega)).mono ?_
      rintro e w12 ⟨u5, n5, u6, sh, rfl, hn5, hsl6, hr5, ho6, hb12⟩
      obtain ⟨A5, c5, rfl⟩ := hr5.form
      obtain ⟨qs, hpl5, fc⟩ := hr5.rdb
      subst hpl5
      obtain ⟨A6, c6, rfl, _⟩ := ho6.form
      have ft := ho6.rd
      clear hr5 ho6
      have hw12 : Below w11.heap.size w11 w12 := hb12
      have hs12 : w11.heap.size ≤ w12.heap.size := hw12.size
      have hB12 : Below w.heap.size w w12 := hB11.trans (hw12.mono (by omega))
      have H0_12 : RdU w12 w.heap.size (.slice A0 xs0.length c0) xs0 := H0_11.below hw12 (by omega)
      clear H0_11
      have H1_12 : RdU w12 w.heap.size (.slice A1 xs1.length c1) xs1 := H1_11.below hw12 (by omega)
      clear H1_11
      have hb13 : Below w12.heap.size w12 (w12.alloc (.cells #[.slice A5 qs.length c5] 48)) := (Below.refl _ _).alloc (Nat.le_refl _) _
      have hz13 : (w12.alloc (.cells #[.slice A5 qs.length c5] 48)).heap.size = w12.heap.size + 1 := by simp
      have qc0_13 : (w12.alloc (.cells #[.slice A5 qs.length c5] 48)).cell? ⟨w12.heap.size, 0, Option.none⟩ = some (.slice A5 qs.length c5) := (Blk.new w12 48 #[.slice A5 qs.length c5]).cell 0
      go_wp2_with fail
      generalize w12.alloc (.cells #[.slice A5 qs.length c5] 48) = w13 at hb13 hz13 qc0_13 ⊢
      have hy13 : w12.heap.size + 1 ≤ w13.heap.size := by omega
      clear hz13
      have hw13 : Below w12.heap.size w12 w13 := hb13
      have hs13 : w12.heap.size ≤ w13.heap.size := hw13.size
      have hB13 : Below w.heap.size w w13 := hB12.trans (hw13.mono (by omega))
      have H0_13 : RdU w13 w.heap.size (.slice A0 xs0.length c0) xs0 := H0_12.below hw13 (by omega)
      clear H0_12
      have H1_13 : RdU w13 w.heap.size (.slice A1 xs1.length c1) xs1 := H1_12.below hw13 (by omega)
      clear H1_12
      have fc_13 : RdB w13 w12.heap.size (.agg #[.slice A5 qs.length c5]) qs := fc.below hw13 (by omega)
      clear fc
      have ft_13 : RdI w13 w12.heap.size (.slice A6 sh.length c6) sh := ft.below hw13 (by omega)
      clear ft
      obtain ⟨p9, q9, hT9⟩ := txtsV_form qs sh
      have HT9 := Lib.hid hT9
      clear hT9
      have ka0 := (by have h := TextOfPhrases_any qs sh _ _ _ _ w13 fc_13 ft_13 (by omega) (by omega); rw [HT9.out] at h; exact h : Calls Try.prog 79 #[.agg #[.slice A5 qs.length c5], .slice A6 sh.length c6] w13 fun e w' => e = .returned (.tuple #[.string p9, .bool q9]) ∧ Below w13.heap.size w13 w')
      have KA := Lib.hid ka0
      clear ka0
      go_wp2_with fail
      refine (KA.out).mono ?_
      rintro e w14 ⟨rfl, hb14⟩
      have hw14 : Below w13.heap.size w13 w14 := hb14
      have hs14 : w13.heap.size ≤ w14.heap.size := hw14.size
      have hB14 : Below w.heap.size w w14 := hB13.trans (hw14.mono (by omega))
      have H0_14 : RdU w14 w.heap.size (.slice A0 xs0.length c0) xs0 := H0_13.below hw14 (by omega)
      clear H0_13
      have H1_14 : RdU w14 w.heap.size (.slice A1 xs1.length c1) xs1 := H1_13.below hw14 (by omega)
      clear H1_13
      have fc_14 : RdB w14 w12.heap.size (.agg #[.slice A5 qs.length c5]) qs := fc_13.below hw14 (by omega)
      clear fc_13
      have ft_14 : RdI w14 w12.heap.size (.slice A6 sh.length c6) sh := ft_13.below hw14 (by omega)
      clear ft_13
      have qc0_14 := (hw14.cell (p := ⟨w12.heap.size, 0, Option.none⟩) (by show w12.heap.size < _; omega)).trans qc0_13
      clear qc0_13
      clear KA
      have kb0 := (by have h := sTextOfPhrases_any qs sh _ _ _ _ w14 fc_14 ft_14 (by omega) (by omega); rw [HT9.out] at h; exact h : Calls Try.prog 81 #[.agg #[.slice A5 qs.length c5], .slice A6 sh.length c6] w14 fun e w' => e = .returned (.tuple #[.string p9, .bool q9]) ∧ Below w14.heap.size w14 w')
      have KB := Lib.hid kb0
      clear kb0
      go_wp2_with fail
      refine (KB.out).mono ?_
      rintro e w15 ⟨rfl, hb15⟩
      have hw15 : Below w14.heap.size w14 w15 := hb15
      have hs15 : w14.heap.size ≤ w15.heap.size := hw15.size
      have hB15 : Below w.heap.size w w15 := hB14.trans (hw15.mono (by omega))
      have H0_15 : RdU w15 w.heap.size (.slice A0 xs0.length c0) xs0 := H0_14.below hw15 (by omega)
      clear H0_14
      have H1_15 : RdU w15 w.heap.size (.slice A1 xs1.length c1) xs1 := H1_14.below hw15 (by omega)
      clear H1_14
      have fc_15 : RdB w15 w12.heap.size (.agg #[.slice A5 qs.length c5]) qs := fc_14.below hw15 (by omega)
      clear fc_14
      have ft_15 : RdI w15 w12.heap.size (.slice A6 sh.length c6) sh := ft_14.below hw15 (by omega)
      clear ft_14
      have qc0_15 := (hw15.cell (p := ⟨w12.heap.size, 0, Option.none⟩) (by show w12.heap.size < _; omega)).trans qc0_14
      clear qc0_14
      clear KB
      go_wp2_with fail
      go_ret
      exact ⟨ret_bool (by simp), hB15⟩
    · have HGD := Lib.hid hgd
      rw [Bool.and_eq_true] at hgd
      have HBK := Lib.hid hgd.1
      have hsl60 := readB_len hgd.2
      clear hgd
      obtain ⟨N, hN⟩ : ∃ N, N = cntS ps sg := ⟨_, rfl⟩
      have HN := Lib.hid hN
      clear hN
      obtain ⟨on, HON⟩ : ∃ on, Hid (oneB ps = on) := ⟨_, rfl⟩
      have hcs : N = 0 ∨ N = 1 ∨ 2 ≤ N := by omega
      rcases hcs with rfl | rfl | hN2
      · have hz : (tbS ps sg).getD 0 0 = 0 := HN.out.symm
        have HRN := Lib.hid (readN_no hz)
        have HRQ := Lib.hid (readQ_no hz)
        have HMV := Lib.hid (msgV_more (show (tbS ps sg).getD 0 0 ≠ 1 by omega))
        clear hz
        have k10 := (by have h := FirstReading_any ps sg _ _ _ _ w2 fb_2 fs_2 (by omega) (by omega); rw [frN_yes HGD.out, frQ_yes HGD.out, HRN.out, HRQ.out, show waysI [] = [] from rfl] at h; exact h : Calls Try.prog 73 #[.agg #[.slice A2 ps.length c2], .slice A3 sg.length c3] w2 (RetOwT ([]) false w2))
        have K1 := Lib.hid k10
        clear k10
        go_wp2_with fail
        refine (K1.out).mono ?_
        rintro e w3 ⟨x, rfl, fx, hb3⟩
        obtain ⟨Ax, cx, rfl, _⟩ := fx.form
        have fx_3 : RdI w3 w3.heap.size (.slice Ax ([]).length cx) ([]) := fx.rd
        clear fx
        have hw3 : Below w2.heap.size w2 w3 := hb3
        have hs3 : w2.heap.size ≤ w3.heap.size := hw3.size
        have hB3 : Below w.heap.size w w3 := hB2.trans (hw3.mono (by omega))
        have H0_3 : RdU w3 w.heap.size (.slice A0 xs0.length c0) xs0 := H0_2.below hw3 (by omega)
        clear H0_2
        have H1_3 : RdU w3 w.heap.size (.slice A1 xs1.length c1) xs1 := H1_2.below hw3 (by omega)
        clear H1_2
        have fb_3 : RdB w3 w1.heap.size (.agg #[.slice A2 ps.length c2]) ps := fb_2.below hw3 (by omega)
        clear fb_2
        have fs_3 : RdI w3 w1.heap.size (.slice A3 sg.length c3) sg := fs_2.below hw3 (by omega)
        clear fs_2
        have qb0_3 := (hw3.cell (p := ⟨w1.heap.size, 0, Option.none⟩) (by show w1.heap.size < _; omega)).trans qb0_2
        clear qb0_2
        clear K1
        have k20 := (by have h := sFirstReading_any ps sg _ _ _ _ w3 fb_3 fs_3 (by omega) (by omega); rw [frN_yes HGD.out, frQ_yes HGD.out, HRN.out, HRQ.out, show waysI [] = [] from rfl] at h; exact h : Calls Try.prog 74 #[.agg #[.slice A2 ps.length c2], .slice A3 sg.length c3] w3 (RetOwT ([]) false w3))
        have K2 := Lib.hid k20
        clear k20
        go_wp2_with fail
        refine (K2.out).mono ?_
        rintro e w4 ⟨y, rfl, fy, hb4⟩
        obtain ⟨Ay, cy, rfl, _⟩ := fy.form
        have fy_4 : RdI w4 w4.heap.size (.slice Ay ([]).length cy) ([]) := fy.rd
        clear fy
        have hw4 : Below w3.heap.size w3 w4 := hb4
        have hs4 : w3.heap.size ≤ w4.heap.size := hw4.size
        have hB4 : Below w.heap.size w w4 := hB3.trans (hw4.mono (by omega))
        have H0_4 : RdU w4 w.heap.size (.slice A0 xs0.length c0) xs0 := H0_3.below hw4 (by omega)
        clear H0_3
        have H1_4 : RdU w4 w.heap.size (.slice A1 xs1.length c1) xs1 := H1_3.below hw4 (by omega)
        clear H1_3
        have fb_4 : RdB w4 w1.heap.size (.agg #[.slice A2 ps.length c2]) ps := fb_3.below hw4 (by omega)
        clear fb_3
        have fs_4 : RdI w4 w1.heap.size (.slice A3 sg.length c3) sg := fs_3.below hw4 (by omega)
        clear fs_3
        have fx_4 : RdI w4 w3.heap.size (.slice Ax ([]).length cx) ([]) := fx_3.below hw4 (by omega)
        clear fx_3
        have qb0_4 := (hw4.cell (p := ⟨w1.heap.size, 0, Option.none⟩) (by show w1.heap.size < _; omega)).trans qb0_3
        clear qb0_3
        clear K2
        have k30 := (by have h := CountReadings_any ps sg _ _ _ _ w4 fb_4 fs_4 (by omega) (by omega); rw [HGD.out, ← HN.out, show cntV true 0 = .tuple #[.int .i64 (0), .bool true] from rfl] at h; exact h : Calls Try.prog 75 #[.agg #[.slice A2 ps.length c2], .slice A3 sg.length c3] w4 fun e w' => e = .returned (.tuple #[.int .i64 (0), .bool true]) ∧ Below w4.heap.size w4 w')
        have K3 := Lib.hid k30
        clear k30
        go_wp2_with fail
        refine (K3.out).mono ?_
        rintro e w5 ⟨rfl, hb5⟩
        have hw5 : Below w4.heap.size w4 w5 := hb5
        have hs5 : w4.heap.size ≤ w5.heap.size := hw5.size
        have hB5 : Below w.heap.size w w5 := hB4.trans (hw5.mono (by omega))
        have H0_5 : RdU w5 w.heap.size (.slice A0 xs0.length c0) xs0 := H0_4.below hw5 (by omega)
        clear H0_4
        have H1_5 : RdU w5 w.heap.size (.slice A1 xs1.length c1) xs1 := H1_4.below hw5 (by omega)
        clear H1_4
        have fb_5 : RdB w5 w1.heap.size (.agg #[.slice A2 ps.length c2]) ps := fb_4.below hw5 (by omega)
        clear fb_4
        have fs_5 : RdI w5 w1.heap.size (.slice A3 sg.length c3) sg := fs_4.below hw5 (by omega)
        clear fs_4
        have fx_5 : RdI w5 w3.heap.size (.slice Ax ([]).length cx) ([]) := fx_4.below hw5 (by omega)
        clear fx_4
        have fy_5 : RdI w5 w4.heap.size (.slice Ay ([]).length cy) ([]) := fy_4.below hw5 (by omega)
        clear fy_4
        have qb0_5 := (hw5.cell (p := ⟨w1.heap.size, 0, Option.none⟩) (by show w1.heap.size < _; omega)).trans qb0_4
        clear qb0_4
        clear K3
        have k40 := (by have h := sCountReadings_any ps sg _ _ _ _ w5 fb_5 fs_5 (by omega) (by omega); rw [HGD.out, ← HN.out, show cntV true 0 = .tuple #[.int .i64 (0), .bool true] from rfl] at h; exact h : Calls Try.prog 76 #[.agg #[.slice A2 ps.length c2], .slice A3 sg.length c3] w5 fun e w' => e = .returned (.tuple #[.int .i64 (0), .bool true]) ∧ Below w5.heap.size w5 w')
        have K4 := Lib.hid k40
        clear k40
        go_wp2_with fail
        refine (K4.out).mono ?_
        rintro e w6 ⟨rfl, hb6⟩
        have hw6 : Below w5.heap.size w5 w6 := hb6
        have hs6 : w5.heap.size ≤ w6.heap.size := hw6.size
        have hB6 : Below w.heap.size w w6 := hB5.trans (hw6.mono (by omega))
        have H0_6 : RdU w6 w.heap.size (.slice A0 xs0.length c0) xs0 := H0_5.below hw6 (by omega)
        clear H0_5
        have H1_6 : RdU w6 w.heap.size (.slice A1 xs1.length c1) xs1 := H1_5.below hw6 (by omega)
        clear H1_5
        have fb_6 : RdB w6 w1.heap.size (.agg #[.slice A2 ps.length c2]) ps := fb_5.below hw6 (by omega)
        clear fb_5
        have fs_6 : RdI w6 w1.heap.size (.slice A3 sg.length c3) sg := fs_5.below hw6 (by omega)
        clear fs_5
        have fx_6 : RdI w6 w3.heap.size (.slice Ax ([]).length cx) ([]) := fx_5.below hw6 (by omega)
        clear fx_5
        have fy_6 : RdI w6 w4.heap.size (.slice Ay ([]).length cy) ([]) := fy_5.below hw6 (by omega)
        clear fy_5
        have qb0_6 := (hw6.cell (p := ⟨w1.heap.size, 0, Option.none⟩) (by show w1.heap.size < _; omega)).trans qb0_5
        clear qb0_5
        clear K4
        have k50 := (by have h := ReadMessage_any ps sg _ _ _ _ w6 fb_6 fs_6 (by omega) (by omega); rw [HMV.out] at h; exact h : Calls Try.prog 77 #[.agg #[.slice A2 ps.length c2], .slice A3 sg.length c3] w6 fun e w' => e = .returned (.tuple #[.string ⟨#[]⟩, .bool false]) ∧ Below w6.heap.size w6 w')
        have K5 := Lib.hid k50
        clear k50
        go_wp2_with fail
        refine (K5.out).mono ?_
        rintro e w7 ⟨rfl, hb7⟩
        have hw7 : Below w6.heap.size w6 w7 := hb7
        have hs7 : w6.heap.size ≤ w7.heap.size := hw7.size
        have hB7 : Below w.heap.size w w7 := hB6.trans (hw7.mono (by omega))
        have H0_7 : RdU w7 w.heap.size (.slice A0 xs0.length c0) xs0 := H0_6.below hw7 (by omega)
        clear H0_6
        have H1_7 : RdU w7 w.heap.size (.slice A1 xs1.length c1) xs1 := H1_6.below hw7 (by omega)
        clear H1_6
        have fb_7 : RdB w7 w1.heap.size (.agg #[.slice A2 ps.length c2]) ps := fb_6.below hw7 (by omega)
        clear fb_6
        have fs_7 : RdI w7 w1.heap.size (.slice A3 sg.length c3) sg := fs_6.below hw7 (by omega)
        clear fs_6
        have fx_7 : RdI w7 w3.heap.size (.slice Ax ([]).length cx) ([]) := fx_6.below hw7 (by omega)
        clear fx_6
        have fy_7 : RdI w7 w4.heap.size (.slice Ay ([]).length cy) ([]) := fy_6.below hw7 (by omega)
        clear fy_6
        have qb0_7 := (hw7.cell (p := ⟨w1.heap.size, 0, Option.none⟩) (by show w1.heap.size < _; omega)).trans qb0_6
        clear qb0_6
        clear K5
        have k60 := (by have h := sReadMessage_any ps sg _ _ _ _ w7 fb_7 fs_7 (by omega) (by omega); rw [HMV.out] at h; exact h : Calls Try.prog 78 #[.agg #[.slice A2 ps.length c2], .slice A3 sg.length c3] w7 fun e w' => e = .returned (.tuple #[.string ⟨#[]⟩, .bool false]) ∧ Below w7.heap.size w7 w')
        have K6 := Lib.hid k60
        clear k60
        go_wp2_with fail
        refine (K6.out).mono ?_
        rintro e w8 ⟨rfl, hb8⟩
        have hw8 : Below w7.heap.size w7 w8 := hb8
        have hs8 : w7.heap.size ≤ w8.heap.size := hw8.size
        have hB8 : Below w.heap.size w w8 := hB7.trans (hw8.mono (by omega))
        have H0_8 : RdU w8 w.heap.size (.slice A0 xs0.length c0) xs0 := H0_7.below hw8 (by omega)
        clear H0_7
        have H1_8 : RdU w8 w.heap.size (.slice A1 xs1.length c1) xs1 := H1_7.below hw8 (by omega)
        clear H1_7
        have fb_8 : RdB w8 w1.heap.size (.agg #[.slice A2 ps.length c2]) ps := fb_7.below hw8 (by omega)
        clear fb_7
        have fs_8 : RdI w8 w1.heap.size (.slice A3 sg.length c3) sg := fs_7.below hw8 (by omega)
        clear fs_7
        have fx_8 : RdI w8 w3.heap.size (.slice Ax ([]).length cx) ([]) := fx_7.below hw8 (by omega)
        clear fx_7
        have fy_8 : RdI w8 w4.heap.size (.slice Ay ([]).length cy) ([]) := fy_7.below hw8 (by omega)
        clear fy_7
        have qb0_8 := (hw8.cell (p := ⟨w1.heap.size, 0, Option.none⟩) (by show w1.heap.size < _; omega)).trans qb0_7
        clear qb0_7
        clear K6
        go_wp2_with fail
        refine (sameInts_sameB _ _ _ _ _ _ fx_8 fy_8).mono ?_
        rintro e w9 ⟨rfl, hb9⟩
        have hw9 : Below w8.heap.size w8 w9 := hb9
        have hs9 : w8.heap.size ≤ w9.heap.size := hw9.size
        have hB9 : Below w.heap.size w w9 := hB8.trans (hw9.mono (by omega))
        have H0_9 : RdU w9 w.heap.size (.slice A0 xs0.length c0) xs0 := H0_8.below hw9 (by omega)
        clear H0_8
        have H1_9 : RdU w9 w.heap.size (.slice A1 xs1.length c1) xs1 := H1_8.below hw9 (by omega)
        clear H1_8
        have fb_9 : RdB w9 w1.heap.size (.agg #[.slice A2 ps.length c2]) ps := fb_8.below hw9 (by omega)
        clear fb_8
        have fs_9 : RdI w9 w1.heap.size (.slice A3 sg.length c3) sg := fs_8.below hw9 (by omega)
        clear fs_8
        have fx_9 : RdI w9 w3.heap.size (.slice Ax ([]).length cx) ([]) := fx_8.below hw9 (by omega)
        clear fx_8
        have fy_9 : RdI w9 w4.heap.size (.slice Ay ([]).length cy) ([]) := fy_8.below hw9 (by omega)
        clear fy_8
        have qb0_9 := (hw9.cell (p := ⟨w1.heap.size, 0, Option.none⟩) (by show w1.heap.size < _; omega)).trans qb0_8
        clear qb0_8
        clear fx_9 fy_9
        have k80 := (by have h := IsReadOneWay_any ps _ _ w9 fb_9 (by omega); rw [HBK.out, HON.out, show rowV true on = .tuple #[.bool on, .bool true] from rfl] at h; exact h : Calls Try.prog 39 #[.agg #[.slice A2 ps.length c2]] w9 fun e w' => e = .returned (.tuple #[.bool on, .bool true]) ∧ Below w9.heap.size w9 w')
        have K8 := Lib.hid k80
        clear k80
        go_wp2_with fail
        refine (K8.out).mono ?_
        rintro e w10 ⟨rfl, hb10⟩
        have hw10 : Below w9.heap.size w9 w10 := hb10
        have hs10 : w9.heap.size ≤ w10.heap.size := hw10.size
        have hB10 : Below w.heap.size w w10 := hB9.trans (hw10.mono (by omega))
        have H0_10 : RdU w10 w.heap.size (.slice A0 xs0.length c0) xs0 := H0_9.below hw10 (by omega)
        clear H0_9
        have H1_10 : RdU w10 w.heap.size (.slice A1 xs1.length c1) xs1 := H1_9.below hw10 (by omega)
        clear H1_9
        have fb_10 : RdB w10 w1.heap.size (.agg #[.slice A2 ps.length c2]) ps := fb_9.below hw10 (by omega)
        clear fb_9
        have fs_10 : RdI w10 w1.heap.size (.slice A3 sg.length c3) sg := fs_9.below hw10 (by omega)
        clear fs_9
        have qb0_10 := (hw10.cell (p := ⟨w1.heap.size, 0, Option.none⟩) (by show w1.heap.size < _; omega)).trans qb0_9
        clear qb0_9
        clear K8
        have k90 := (by have h := sIsReadOneWay_any ps _ _ w10 fb_10 (by omega); rw [HBK.out, HON.out, show rowV true on = .tuple #[.bool on, .bool true] from rfl] at h; exact h : Calls Try.prog 37 #[.agg #[.slice A2 ps.length c2]] w10 fun e w' => e = .returned (.tuple #[.bool on, .bool true]) ∧ Below w10.heap.size w10 w')
        have K9 := Lib.hid k90
        clear k90
        go_wp2_with fail
        refine (K9.out).mono ?_
        rintro e w11 ⟨rfl, hb11⟩
        have hw11 : Below w10.heap.size w10 w11 := hb11
        have hs11 : w10.heap.size ≤ w11.heap.size := hw11.size
        have hB11 : Below w.heap.size w w11 := hB10.trans (hw11.mono (by omega))
        have H0_11 : RdU w11 w.heap.size (.slice A0 xs0.length c0) xs0 := H0_10.below hw11 (by omega)
        clear H0_10
        have H1_11 : RdU w11 w.heap.size (.slice A1 xs1.length c1) xs1 := H1_10.below hw11 (by omega)
        clear H1_10
        have fb_11 : RdB w11 w1.heap.size (.agg #[.slice A2 ps.length c2]) ps := fb_10.below hw11 (by omega)
        clear fb_10
        have fs_11 : RdI w11 w1.heap.size (.slice A3 sg.length c3) sg := fs_10.below hw11 (by omega)
        clear fs_10
        have qb0_11 := (hw11.cell (p := ⟨w1.heap.size, 0, Option.none⟩) (by show w1.heap.size < _; omega)).trans qb0_10
        clear qb0_10
        clear K9
        cases on
        · clear fb_11 fs_11
          clear qb0_11
          go_wp2_with fail
          refine (DrawTextOfPhrases_any xs1 _ w.heap.size w11 H1_11 (by omega)).mono ?_
          rintro e w12 ⟨u5, n5, u6, sh, rfl, hn5, hsl6, hr5, ho6, hb12⟩
          obtain ⟨A5, c5, rfl⟩ := hr5.form
          obtain ⟨qs, hpl5, fc⟩ := hr5.rdb
          subst hpl5
          obtain ⟨A6, c6, rfl, _⟩ := ho6.form
          have ft := ho6.rd
          clear hr5 ho6
          have hw12 : Below w11.heap.size w11 w12 := hb12
          have hs12 : w11.heap.size ≤ w12.heap.size := hw12.size
          have hB12 : Below w.heap.size w w12 := hB11.trans (hw12.mono (by omega))
          have H0_12 : RdU w12 w.heap.size (.slice A0 xs0.length c0) xs0 := H0_11.below hw12 (by omega)
          clear H0_11
          have H1_12 : RdU w12 w.heap.size (.slice A1 xs1.length c1) xs1 := H1_11.below hw12 (by omega)
          clear H1_11
          have hb13 : Below w12.heap.size w12 (w12.alloc (.cells #[.slice A5 qs.length c5] 48)) := (Below.refl _ _).alloc (Nat.le_refl _) _
          have hz13 : (w12.alloc (.cells #[.slice A5 qs.length c5] 48)).heap.size = w12.heap.size + 1 := by simp
          have qc0_13 : (w12.alloc (.cells #[.slice A5 qs.length c5] 48)).cell? ⟨w12.heap.size, 0, Option.none⟩ = some (.slice A5 qs.length c5) := (Blk.new w12 48 #[.slice A5 qs.length c5]).cell 0
          go_wp2_with fail
          generalize w12.alloc (.cells #[.slice A5 qs.length c5] 48) = w13 at hb13 hz13 qc0_13 ⊢
          have hy13 : w12.heap.size + 1 ≤ w13.heap.size := by omega
          clear hz13
          have hw13 : Below w12.heap.size w12 w13 := hb13
          have hs13 : w12.heap.size ≤ w13.heap.size := hw13.size
          have hB13 : Below w.heap.size w w13 := hB12.trans (hw13.mono (by omega))
          have H0_13 : RdU w13 w.heap.size (.slice A0 xs0.length c0) xs0 := H0_12.below hw13 (by omega)
          clear H0_12
          have H1_13 : RdU w13 w.heap.size (.slice A1 xs1.length c1) xs1 := H1_12.below hw13 (by omega)
          clear H1_12
          have fc_13 : RdB w13 w12.heap.size (.agg #[.slice A5 qs.length c5]) qs := fc.below hw13 (by omega)
          clear fc
          have ft_13 : RdI w13 w12.heap.size (.slice A6 sh.length c6) sh := ft.below hw13 (by omega)
          clear ft
          obtain ⟨p9, q9, hT9⟩ := txtsV_form qs sh
          have HT9 := Lib.hid hT9
          clear hT9
          have ka0 := (by have h := TextOfPhrases_any qs sh _ _ _ _ w13 fc_13 ft_13 (by omega) (by omega); rw [HT9.out] at h; exact h : Calls Try.prog 79 #[.agg #[.slice A5 qs.length c5], .slice A6 sh.length c6] w13 fun e w' => e = .returned (.tuple #[.string p9, .bool q9]) ∧ Below w13.heap.size w13 w')
          have KA := Lib.hid ka0
          clear ka0
          go_wp2_with fail
          refine (KA.out).mono ?_
          rintro e w14 ⟨rfl, hb14⟩
          have hw14 : Below w13.heap.size w13 w14 := hb14
          have hs14 : w13.heap.size ≤ w14.heap.size := hw14.size
          have hB14 : Below w.heap.size w w14 := hB13.trans (hw14.mono (by omega))
          have H0_14 : RdU w14 w.heap.size (.slice A0 xs0.length c0) xs0 := H0_13.below hw14 (by omega)
          clear H0_13
          have H1_14 : RdU w14 w.heap.size (.slice A1 xs1.length c1) xs1 := H1_13.below hw14 (by omega)
          clear H1_13
          have fc_14 : RdB w14 w12.heap.size (.agg #[.slice A5 qs.length c5]) qs := fc_13.below hw14 (by omega)
          clear fc_13
          have ft_14 : RdI w14 w12.heap.size (.slice A6 sh.length c6) sh := ft_13.below hw14 (by omega)
          clear ft_13
          have qc0_14 := (hw14.cell (p := ⟨w12.heap.size, 0, Option.none⟩) (by show w12.heap.size < _; omega)).trans qc0_13
          clear qc0_13
          clear KA
          have kb0 := (by have h := sTextOfPhrases_any qs sh _ _ _ _ w14 fc_14 ft_14 (by omega) (by omega); rw [HT9.out] at h; exact h : Calls Try.prog 81 #[.agg #[.slice A5 qs.length c5], .slice A6 sh.length c6] w14 fun e w' => e = .returned (.tuple #[.string p9, .bool q9]) ∧ Below w14.heap.size w14 w')
          have KB := Lib.hid kb0
          clear kb0
          go_wp2_with fail
          refine (KB.out).mono ?_
          rintro e w15 ⟨rfl, hb15⟩
          have hw15 : Below w14.heap.size w14 w15 := hb15
          have hs15 : w14.heap.size ≤ w15.heap.size := hw15.size
          have hB15 : Below w.heap.size w w15 := hB14.trans (hw15.mono (by omega))
          have H0_15 : RdU w15 w.heap.size (.slice A0 xs0.length c0) xs0 := H0_14.below hw15 (by omega)
          clear H0_14
          have H1_15 : RdU w15 w.heap.size (.slice A1 xs1.length c1) xs1 := H1_14.below hw15 (by omega)
          clear H1_14
          have fc_15 : RdB w15 w12.heap.size (.agg #[.slice A5 qs.length c5]) qs := fc_14.below hw15 (by omega)
          clear fc_14
          have ft_15 : RdI w15 w12.heap.size (.slice A6 sh.length c6) sh := ft_14.below hw15 (by omega)
          clear ft_14
          have qc0_15 := (hw15.cell (p := ⟨w12.heap.size, 0, Option.none⟩) (by show w12.heap.size < _; omega)).trans qc0_14
          clear qc0_14
          clear KB
          go_wp2_with fail
          go_ret
          exact ⟨ret_bool (by simp), hB15⟩
        · clear fb_11 fs_11
          clear qb0_11
          go_wp2_with fail
          refine (DrawTextOfPhrases_any xs1 _ w.heap.size w11 H1_11 (by omega)).mono ?_
          rintro e w12 ⟨u5, n5, u6, sh, rfl, hn5, hsl6, hr5, ho6, hb12⟩
          obtain ⟨A5, c5, rfl⟩ := hr5.form
          obtain ⟨qs, hpl5, fc⟩ := hr5.rdb
          subst hpl5
          obtain ⟨A6, c6, rfl, _⟩ := ho6.form
          have ft := ho6.rd
          clear hr5 ho6
          have hw12 : Below w11.heap.size w11 w12 := hb12
          have hs12 : w11.heap.size ≤ w12.heap.size := hw12.size
          have hB12 : Below w.heap.size w w12 := hB11.trans (hw12.mono (by omega))
          have H0_12 : RdU w12 w.heap.size (.slice A0 xs0.length c0) xs0 := H0_11.below hw12 (by omega)
          clear H0_11
          have H1_12 : RdU w12 w.heap.size (.slice A1 xs1.length c1) xs1 := H1_11.below hw12 (by omega)
          clear H1_11
          have hb13 : Below w12.heap.size w12 (w12.alloc (.cells #[.slice A5 qs.length c5] 48)) := (Below.refl _ _).alloc (Nat.le_refl _) _
          have hz13 : (w12.alloc (.cells #[.slice A5 qs.length c5] 48)).heap.size = w12.heap.size + 1 := by simp
          have qc0_13 : (w12.alloc (.cells #[.slice A5 qs.length c5] 48)).cell? ⟨w12.heap.size, 0, Option.none⟩ = some (.slice A5 qs.length c5) := (Blk.new w12 48 #[.slice A5 qs.length c5]).cell 0
          go_wp2_with fail
          generalize w12.alloc (.cells #[.slice A5 qs.length c5] 48) = w13 at hb13 hz13 qc0_13 ⊢
          have hy13 : w12.heap.size + 1 ≤ w13.heap.size := by omega
          clear hz13
          have hw13 : Below w12.heap.size w12 w13 := hb13
          have hs13 : w12.heap.size ≤ w13.heap.size := hw13.size
          have hB13 : Below w.heap.size w w13 := hB12.trans (hw13.mono (by omega))
          have H0_13 : RdU w13 w.heap.size (.slice A0 xs0.length c0) xs0 := H0_12.below hw13 (by omega)
          clear H0_12
          have H1_13 : RdU w13 w.heap.size (.slice A1 xs1.length c1) xs1 := H1_12.below hw13 (by omega)
          clear H1_12
          have fc_13 : RdB w13 w12.heap.size (.agg #[.slice A5 qs.length c5]) qs := fc.below hw13 (by omega)
          clear fc
          have ft_13 : RdI w13 w12.heap.size (.slice A6 sh.length c6) sh := ft.below hw13 (by omega)
          clear ft
          obtain ⟨p9, q9, hT9⟩ := txtsV_form qs sh
          have HT9 := Lib.hid hT9
          clear hT9
          have ka0 := (by have h := TextOfPhrases_any qs sh _ _ _ _ w13 fc_13 ft_13 (by omega) (by omega); rw [HT9.out] at h; exact h : Calls Try.prog 79 #[.agg #[.slice A5 qs.length c5], .slice A6 sh.length c6] w13 fun e w' => e = .returned (.tuple #[.string p9, .bool q9]) ∧ Below w13.heap.size w13 w')
          have KA := Lib.hid ka0
          clear ka0
          go_wp2_with fail
          refine (KA.out).mono ?_
          rintro e w14 ⟨rfl, hb14⟩
          have hw14 : Below w13.heap.size w13 w14 := hb14
          have hs14 : w13.heap.size ≤ w14.heap.size := hw14.size
          have hB14 : Below w.heap.size w w14 := hB13.trans (hw14.mono (by omega))
          have H0_14 : RdU w14 w.heap.size (.slice A0 xs0.length c0) xs0 := H0_13.below hw14 (by omega)
          clear H0_13
          have H1_14 : RdU w14 w.heap.size (.slice A1 xs1.length c1) xs1 := H1_13.below hw14 (by omega)
          clear H1_13
          have fc_14 : RdB w14 w12.heap.size (.agg #[.slice A5 qs.length c5]) qs := fc_13.below hw14 (by omega)
          clear fc_13
          have ft_14 : RdI w14 w12.heap.size (.slice A6 sh.length c6) sh := ft_13.below hw14 (by omega)
          clear ft_13
          have qc0_14 := (hw14.cell (p := ⟨w12.heap.size, 0, Option.none⟩) (by show w12.heap.size < _; omega)).trans qc0_13
          clear qc0_13
          clear KA
          have kb0 := (by have h := sTextOfPhrases_any qs sh _ _ _ _ w14 fc_14 ft_14 (by omega) (by omega); rw [HT9.out] at h; exact h : Calls Try.prog 81 #[.agg #[.slice A5 qs.length c5], .slice A6 sh.length c6] w14 fun e w' => e = .returned (.tuple #[.string p9, .bool q9]) ∧ Below w14.heap.size w14 w')
          have KB := Lib.hid kb0
          clear kb0
          go_wp2_with fail
          refine (KB.out).mono ?_
          rintro e w15 ⟨rfl, hb15⟩
          have hw15 : Below w14.heap.size w14 w15 := hb15
          have hs15 : w14.heap.size ≤ w15.heap.size := hw15.size
          have hB15 : Below w.heap.size w w15 := hB14.trans (hw15.mono (by omega))
          have H0_15 : RdU w15 w.heap.size (.slice A0 xs0.length c0) xs0 := H0_14.below hw15 (by omega)
          clear H0_14
          have H1_15 : RdU w15 w.heap.size (.slice A1 xs1.length c1) xs1 := H1_14.below hw15 (by omega)
          clear H1_14
          have fc_15 : RdB w15 w12.heap.size (.agg #[.slice A5 qs.length c5]) qs := fc_14.below hw15 (by omega)
          clear fc_14
          have ft_15 : RdI w15 w12.heap.size (.slice A6 sh.length c6) sh := ft_14.below hw15 (by omega)
          clear ft_14
          have qc0_15 := (hw15.cell (p := ⟨w12.heap.size, 0, Option.none⟩) (by show w12.heap.size < _; omega)).trans qc0_14
          clear qc0_14
          clear KB
          go_wp2_with fail
          go_ret
          exact ⟨ret_bool (by simp), hB15⟩
      · have hz : 0 < (tbS ps sg).getD 0 0 := by have h := HN.out; unfold cntS at h; show 0 < (dpW (fitS sg) sigLen ps sg.length sg.length).getD 0 0; omega
        have HRQ := Lib.hid (readQ_yes hz)
        have HRS := Lib.hid (read_sigs HBK.out (show 0 < cntS ps sg from hz))
        have HRLT := Lib.hid (readN_lt ps sg)
        have hrl := readN_len ps sg
        have HMV0 := Lib.hid (msgV_one HGD.out (show (tbS ps sg).getD 0 0 = 1 from HN.out.symm))
        obtain ⟨tx, htx⟩ : ∃ tx : ByteArray, tx = ⟨(textL ps (waysI (readN ps sg))).toArray⟩ := ⟨_, rfl⟩
        have HTX := Lib.hid htx
        have HMV : Hid (msgV ps sg = .tuple #[.string tx, .bool true]) := by show _ = _; rw [HTX.out]; exact HMV0.out
        clear HMV0 htx
        clear hz
        have k10 := (by have h := FirstReading_any ps sg _ _ _ _ w2 fb_2 fs_2 (by omega) (by omega); rw [frN_yes HGD.out, frQ_yes HGD.out, HRQ.out] at h; exact h : Calls Try.prog 73 #[.agg #[.slice A2 ps.length c2], .slice A3 sg.length c3] w2 (RetOwT (waysI (readN ps sg)) true w2))
        have K1 := Lib.hid k10
        clear k10
        go_wp2_with fail
        refine (K1.out).mono ?_
        rintro e w3 ⟨x, rfl, fx, hb3⟩
        obtain ⟨Ax, cx, rfl, _⟩ := fx.form
        rw [waysI_len] at fx ⊢
        have fx_3 : RdI w3 w3.heap.size (.slice Ax (readN ps sg).length cx) (waysI (readN ps sg)) := fx.rd
        clear fx
        have hw3 : Below w2.heap.size w2 w3 := hb3
        have hs3 : w2.heap.size ≤ w3.heap.size := hw3.size
        have hB3 : Below w.heap.size w w3 := hB2.trans (hw3.mono (by omega))
        have H0_3 : RdU w3 w.heap.size (.slice A0 xs0.length c0) xs0 := H0_2.below hw3 (by omega)
        clear H0_2
        have H1_3 : RdU w3 w.heap.size (.slice A1 xs1.length c1) xs1 := H1_2.below hw3 (by omega)
        clear H1_2
        have fb_3 : RdB w3 w1.heap.size (.agg #[.slice A2 ps.length c2]) ps := fb_2.below hw3 (by omega)
        clear fb_2
        have fs_3 : RdI w3 w1.heap.size (.slice A3 sg.length c3) sg := fs_2.below hw3 (by omega)
        clear fs_2
        have qb0_3 := (hw3.cell (p := ⟨w1.heap.size, 0, Option.none⟩) (by show w1.heap.size < _; omega)).trans qb0_2
        clear qb0_2
        clear K1
        have k20 := (by have h := sFirstReading_any ps sg _ _ _ _ w3 fb_3 fs_3 (by omega) (by omega); rw [frN_yes HGD.out, frQ_yes HGD.out, HRQ.out] at h; exact h : Calls Try.prog 74 #[.agg #[.slice A2 ps.length c2], .slice A3 sg.length c3] w3 (RetOwT (waysI (readN ps sg)) true w3))
        have K2 := Lib.hid k20
        clear k20
        go_wp2_with fail
        refine (K2.out).mono ?_
        rintro e w4 ⟨y, rfl, fy, hb4⟩
        obtain ⟨Ay, cy, rfl, _⟩ := fy.form
        rw [waysI_len] at fy ⊢
        have fy_4 : RdI w4 w4.heap.size (.slice Ay (readN ps sg).length cy) (waysI (readN ps sg)) := fy.rd
        clear fy
        have hw4 : Below w3.heap.size w3 w4 := hb4
        have hs4 : w3.heap.size ≤ w4.heap.size := hw4.size
        have hB4 : Below w.heap.size w w4 := hB3.trans (hw4.mono (by omega))
        have H0_4 : RdU w4 w.heap.size (.slice A0 xs0.length c0) xs0 := H0_3.below hw4 (by omega)
        clear H0_3
        have H1_4 : RdU w4 w.heap.size (.slice A1 xs1.length c1) xs1 := H1_3.below hw4 (by omega)
        clear H1_3
        have fb_4 : RdB w4 w1.heap.size (.agg #[.slice A2 ps.length c2]) ps := fb_3.below hw4 (by omega)
        clear fb_3
        have fs_4 : RdI w4 w1.heap.size (.slice A3 sg.length c3) sg := fs_3.below hw4 (by omega)
        clear fs_3
        have fx_4 : RdI w4 w3.heap.size (.slice Ax (readN ps sg).length cx) (waysI (readN ps sg)) := fx_3.below hw4 (by omega)
        clear fx_3
        have qb0_4 := (hw4.cell (p := ⟨w1.heap.size, 0, Option.none⟩) (by show w1.heap.size < _; omega)).trans qb0_3
        clear qb0_3
        clear K2
        have k30 := (by have h := CountReadings_any ps sg _ _ _ _ w4 fb_4 fs_4 (by omega) (by omega); rw [HGD.out, ← HN.out, show cntV true 1 = .tuple #[.int .i64 (1), .bool true] from rfl] at h; exact h : Calls Try.prog 75 #[.agg #[.slice A2 ps.length c2], .slice A3 sg.length c3] w4 fun e w' => e = .returned (.tuple #[.int .i64 (1), .bool true]) ∧ Below w4.heap.size w4 w')
        have K3 := Lib.hid k30
        clear k30
        go_wp2_with fail
        refine (K3.out).mono ?_
        rintro e w5 ⟨rfl, hb5⟩
        have hw5 : Below w4.heap.size w4 w5 := hb5
        have hs5 : w4.heap.size ≤ w5.heap.size := hw5.size
        have hB5 : Below w.heap.size w w5 := hB4.trans (hw5.mono (by omega))
        have H0_5 : RdU w5 w.heap.size (.slice A0 xs0.length c0) xs0 := H0_4.below hw5 (by omega)
        clear H0_4
        have H1_5 : RdU w5 w.heap.size (.slice A1 xs1.length c1) xs1 := H1_4.below hw5 (by omega)
        clear H1_4
        have fb_5 : RdB w5 w1.heap.size (.agg #[.slice A2 ps.length c2]) ps := fb_4.below hw5 (by omega)
        clear fb_4
        have fs_5 : RdI w5 w1.heap.size (.slice A3 sg.length c3) sg := fs_4.below hw5 (by omega)
        clear fs_4
        have fx_5 : RdI w5 w3.heap.size (.slice Ax (readN ps sg).length cx) (waysI (readN ps sg)) := fx_4.below hw5 (by omega)
        clear fx_4
        have fy_5 : RdI w5 w4.heap.size (.slice Ay (readN ps sg).length cy) (waysI (readN ps sg)) := fy_4.below hw5 (by omega)
        clear fy_4
        have qb0_5 := (hw5.cell (p := ⟨w1.heap.size, 0, Option.none⟩) (by show w1.heap.size < _; omega)).trans qb0_4
        clear qb0_4
        clear K3
        have k40 := (by have h := sCountReadings_any ps sg _ _ _ _ w5 fb_5 fs_5 (by omega) (by omega); rw [HGD.out, ← HN.out, show cntV true 1 = .tuple #[.int .i64 (1), .bool true] from rfl] at h; exact h : Calls Try.prog 76 #[.agg #[.slice A2 ps.length c2], .slice A3 sg.length c3] w5 fun e w' => e = .returned (.tuple #[.int .i64 (1), .bool true]) ∧ Below w5.heap.size w5 w')
        have K4 := Lib.hid k40
        clear k40
        go_wp2_with fail
        refine (K4.out).mono ?_
        rintro e w6 ⟨rfl, hb6⟩
        have hw6 : Below w5.heap.size w5 w6 := hb6
        have hs6 : w5.heap.size ≤ w6.heap.size := hw6.size
        have hB6 : Below w.heap.size w w6 := hB5.trans (hw6.mono (by omega))
        have H0_6 : RdU w6 w.heap.size (.slice A0 xs0.length c0) xs0 := H0_5.below hw6 (by omega)
        clear H0_5
        have H1_6 : RdU w6 w.heap.size (.slice A1 xs1.length c1) xs1 := H1_5.below hw6 (by omega)
        clear H1_5
        have fb_6 : RdB w6 w1.heap.size (.agg #[.slice A2 ps.length c2]) ps := fb_5.below hw6 (by omega)
        clear fb_5
        have fs_6 : RdI w6 w1.heap.size (.slice A3 sg.length c3) sg := fs_5.below hw6 (by omega)
        clear fs_5
        have fx_6 : RdI w6 w3.heap.size (.slice Ax (readN ps sg).length cx) (waysI (readN ps sg)) := fx_5.below hw6 (by omega)
        clear fx_5
        have fy_6 : RdI w6 w4.heap.size (.slice Ay (readN ps sg).length cy) (waysI (readN ps sg)) := fy_5.below hw6 (by omega)
        clear fy_5
        have qb0_6 := (hw6.cell (p := ⟨w1.heap.size, 0, Option.none⟩) (by show w1.heap.size < _; omega)).trans qb0_5
        clear qb0_5
        clear K4
        have k50 := (by have h := ReadMessage_any ps sg _ _ _ _ w6 fb_6 fs_6 (by omega) (by omega); rw [HMV.out] at h; exact h : Calls Try.prog 77 #[.agg #[.slice A2 ps.length c2], .slice A3 sg.length c3] w6 fun e w' => e = .returned (.tuple #[.string tx, .bool true]) ∧ Below w6.heap.size w6 w')
        have K5 := Lib.hid k50
        clear k50
        go_wp2_with fail
        refine (K5.out).mono ?_
        rintro e w7 ⟨rfl, hb7⟩
        have hw7 : Below w6.heap.size w6 w7 := hb7
        have hs7 : w6.heap.size ≤ w7.heap.size := hw7.size
        have hB7 : Below w.heap.size w w7 := hB6.trans (hw7.mono (by omega))
        have H0_7 : RdU w7 w.heap.size (.slice A0 xs0.length c0) xs0 := H0_6.below hw7 (by omega)
        clear H0_6
        have H1_7 : RdU w7 w.heap.size (.slice A1 xs1.length c1) xs1 := H1_6.below hw7 (by omega)
        clear H1_6
        have fb_7 : RdB w7 w1.heap.size (.agg #[.slice A2 ps.length c2]) ps := fb_6.below hw7 (by omega)
        clear fb_6
        have fs_7 : RdI w7 w1.heap.size (.slice A3 sg.length c3) sg := fs_6.below hw7 (by omega)
        clear fs_6
        have fx_7 : RdI w7 w3.heap.size (.slice Ax (readN ps sg).length cx) (waysI (readN ps sg)) := fx_6.below hw7 (by omega)
        clear fx_6
        have fy_7 : RdI w7 w4.heap.size (.slice Ay (readN ps sg).length cy) (waysI (readN ps sg)) := fy_6.below hw7 (by omega)
        clear fy_6
        have qb0_7 := (hw7.cell (p := ⟨w1.heap.size, 0, Option.none⟩) (by show w1.heap.size < _; omega)).trans qb0_6
        clear qb0_6
        clear K5
        have k60 := (by have h := sReadMessage_any ps sg _ _ _ _ w7 fb_7 fs_7 (by omega) (by omega); rw [HMV.out] at h; exact h : Calls Try.prog 78 #[.agg #[.slice A2 ps.length c2], .slice A3 sg.length c3] w7 fun e w' => e = .returned (.tuple #[.string tx, .bool true]) ∧ Below w7.heap.size w7 w')
        have K6 := Lib.hid k60
        clear k60
        go_wp2_with fail
        refine (K6.out).mono ?_
        rintro e w8 ⟨rfl, hb8⟩
        have hw8 : Below w7.heap.size w7 w8 := hb8
        have hs8 : w7.heap.size ≤ w8.heap.size := hw8.size
        have hB8 : Below w.heap.size w w8 := hB7.trans (hw8.mono (by omega))
        have H0_8 : RdU w8 w.heap.size (.slice A0 xs0.length c0) xs0 := H0_7.below hw8 (by omega)
        clear H0_7
        have H1_8 : RdU w8 w.heap.size (.slice A1 xs1.length c1) xs1 := H1_7.below hw8 (by omega)
        clear H1_7
        have fb_8 : RdB w8 w1.heap.size (.agg #[.slice A2 ps.length c2]) ps := fb_7.below hw8 (by omega)
        clear fb_7
        have fs_8 : RdI w8 w1.heap.size (.slice A3 sg.length c3) sg := fs_7.below hw8 (by omega)
        clear fs_7
        have fx_8 : RdI w8 w3.heap.size (.slice Ax (readN ps sg).length cx) (waysI (readN ps sg)) := fx_7.below hw8 (by omega)
        clear fx_7
        have fy_8 : RdI w8 w4.heap.size (.slice Ay (readN ps sg).length cy) (waysI (readN ps sg)) := fy_7.below hw8 (by omega)
        clear fy_7
        have qb0_8 := (hw8.cell (p := ⟨w1.heap.size, 0, Option.none⟩) (by show w1.heap.size < _; omega)).trans qb0_7
        clear qb0_7
        clear K6
        go_wp2_with fail
        refine (sameInts_sameB _ _ _ _ _ _ fx_8 fy_8).mono ?_
        rintro e w9 ⟨rfl, hb9⟩
        have hw9 : Below w8.heap.size w8 w9 := hb9
        have hs9 : w8.heap.size ≤ w9.heap.size := hw9.size
        have hB9 : Below w.heap.size w w9 := hB8.trans (hw9.mono (by omega))
        have H0_9 : RdU w9 w.heap.size (.slice A0 xs0.length c0) xs0 := H0_8.below hw9 (by omega)
        clear H0_8
        have H1_9 : RdU w9 w.heap.size (.slice A1 xs1.length c1) xs1 := H1_8.below hw9 (by omega)
        clear H1_8
        have fb_9 : RdB w9 w1.heap.size (.agg #[.slice A2 ps.length c2]) ps := fb_8.below hw9 (by omega)
        clear fb_8
        have fs_9 : RdI w9 w1.heap.size (.slice A3 sg.length c3) sg := fs_8.below hw9 (by omega)
        clear fs_8
        have fx_9 : RdI w9 w3.heap.size (.slice Ax (readN ps sg).length cx) (waysI (readN ps sg)) := fx_8.below hw9 (by omega)
        clear fx_8
        have fy_9 : RdI w9 w4.heap.size (.slice Ay (readN ps sg).length cy) (waysI (readN ps sg)) := fy_8.below hw9 (by omega)
        clear fy_8
        have qb0_9 := (hw9.cell (p := ⟨w1.heap.size, 0, Option.none⟩) (by show w1.heap.size < _; omega)).trans qb0_8
        clear qb0_8
        go_wp2_with fail
        go_loopw [19, 128] (fun v i wr => ∃ k : Nat, k ≤ (readN ps sg).length ∧ i = .int .i64 (k : Int) ∧ Hid (GrowI w9 w9.heap.size wr v (sigsOf ps ((readN ps sg).take k)))) (fun _ i _ => (readN ps sg).length - (intOf i).toNat)
        case atStart => exact ⟨0, Nat.zero_le _, rfl, GrowI.start _⟩
        case round =>
          obtain ⟨k, hk, rfl, hg⟩ := hrel
          have hb10 := hg.out.2.1
          have hw10 : Below w9.heap.size w9 wr := hb10
          have hs10 : w9.heap.size ≤ wr.heap.size := hw10.size
          have hB10 : Below w.heap.size w wr := hB9.trans (hw10.mono (by omega))
          have H0_10 : RdU wr w.heap.size (.slice A0 xs0.length c0) xs0 := H0_9.below hw10 (by omega)
          clear H0_9
          have H1_10 : RdU wr w.heap.size (.slice A1 xs1.length c1) xs1 := H1_9.below hw10 (by omega)
          clear H1_9
          have fb_10 : RdB wr w1.heap.size (.agg #[.slice A2 ps.length c2]) ps := fb_9.below hw10 (by omega)
          clear fb_9
          have fs_10 : RdI wr w1.heap.size (.slice A3 sg.length c3) sg := fs_9.below hw10 (by omega)
          clear fs_9
          have fx_10 : RdI wr w3.heap.size (.slice Ax (readN ps sg).length cx) (waysI (readN ps sg)) := fx_9.below hw10 (by omega)
          clear fx_9
          have fy_10 : RdI wr w4.heap.size (.slice Ay (readN ps sg).length cy) (waysI (readN ps sg)) := fy_9.below hw10 (by omega)
          clear fy_9
          have qb0_10 := (hw10.cell (p := ⟨w1.heap.size, 0, Option.none⟩) (by show w1.heap.size < _; omega)).trans qb0_9
          clear qb0_9
          by_cases hlt : k < (readN ps sg).length
          · obtain ⟨i, hik⟩ : ∃ i, (readN ps sg)[k]? = some i := ⟨_, List.getElem?_eq_getElem hlt⟩
            have hil := HRLT.out i (List.mem_of_getElem? hik)
            obtain ⟨p, hp⟩ : ∃ p, ps[i]? = some p := ⟨_, List.getElem?_eq_getElem hil⟩
            have hle := sigs_len HBK.out ((readN ps sg).take k)
            rw [List.length_take, Nat.min_eq_left hk] at hle
            have hsm := (phrOk_sig (bookB_phr HBK.out (List.mem_of_getElem? hp))).2.1
            obtain ⟨b1, o1, cc1, y, hv, _, hy, hcell1⟩ := Rd.at_ fy_10 (k := k) (by rw [waysI_len]; exact hlt)
            rw [waysI_len] at hv
            injection hv with hv1 hv2 hv3; subst hv1; clear hv2 hv3
            rw [waysI_at hik] at hy
            cases hy
            obtain ⟨b2, o2, cc2, a2, t, xs, hv, _, hx, _, hcell3, hra, _⟩ := (by obtain ⟨_, hh, hq⟩ := fb_10; cases hh; exact hq : RdPS wr w1.heap.size (.slice A2 ps.length c2) ps).at_ hil
            injection hv with hv1 hv2 hv3; subst hv1; clear hv2 hv3
            rw [hp] at hx
            cases hx
            have HIK := Lib.hid hik
            have HP := Lib.hid hp
            have HRA := Lib.hid hra
            have hbd2 : (sigsOf ps ((readN ps sg).take k)).length + xs.length ≤ 4000 := by have h1 : xs.length ≤ 3 := hsm; omega
            clear hik hp hra hle hsm
            go_wp2_with (at_builtin; refine GrowI.appI rfl (.tmp 132) (.tmp 138) rfl hg.out HRA.out (by omega) rfl rfl ?_; intro v' w5 hG')
            go_roundw
            case rel => exact ⟨k + 1, by omega, by go_num, by show GrowI _ _ _ _ _; rw [take_snocN HIK.out, sigsOf_snoc HP.out]; exact hG'⟩
            case measure => (simp [intOf]; try omega)
          · have hke : k = (readN ps sg).length := by omega
            subst hke
            have hgo := hg.out.own.rd
            rw [List.take_of_length_le (Nat.le_refl _), HRS.out] at hgo
            have HGO := Lib.hid hgo
            clear hgo hg hlt hk
            obtain ⟨wz, hwz⟩ : ∃ wz, wz = wr := ⟨_, rfl⟩; subst hwz
            go_wp2_with fail
            refine (sameInts_sameB _ _ _ _ _ _ HGO.out fs_10).mono ?_
            rintro e w11 ⟨rfl, hb11⟩
            have hw11 : Below wz.heap.size wz w11 := hb11
            have hs11 : wz.heap.size ≤ w11.heap.size := hw11.size
            have hB11 : Below w.heap.size w w11 := hB10.trans (hw11.mono (by omega))
            have H0_11 : RdU w11 w.heap.size (.slice A0 xs0.length c0) xs0 := H0_10.below hw11 (by omega)
            clear H0_10
            have H1_11 : RdU w11 w.heap.size (.slice A1 xs1.length c1) xs1 := H1_10.below hw11 (by omega)
            clear H1_10
            have fb_11 : RdB w11 w1.heap.size (.agg #[.slice A2 ps.length c2]) ps := fb_10.below hw11 (by omega)
            clear fb_10
            have fs_11 : RdI w11 w1.heap.size (.slice A3 sg.length c3) sg := fs_10.below hw11 (by omega)
            clear fs_10
            have fx_11 : RdI w11 w3.heap.size (.slice Ax (readN ps sg).length cx) (waysI (readN ps sg)) := fx_10.below hw11 (by omega)
            clear fx_10
            have fy_11 : RdI w11 w4.heap.size (.slice Ay (readN ps sg).length cy) (waysI (readN ps sg)) := fy_10.below hw11 (by omega)
            clear fy_10
            have qb0_11 := (hw11.cell (p := ⟨w1.heap.size, 0, Option.none⟩) (by show w1.heap.size < _; omega)).trans qb0_10
            clear qb0_10
            clear HGO fy_11
            by_cases h40 : (readN ps sg).length ≤ 40
            · have hd4 : decide ((readN ps sg).length ≤ 40) = true := decide_eq_true h40
              have HIX := Lib.hid (ixB_read h40)
              have k70 := (by have h := TextOfPhrases_any ps (waysI (readN ps sg)) _ _ _ _ w11 fb_11 fx_11 (by omega) (by omega); rw [show txtsV ps (waysI (readN ps sg)) = .tuple #[.string tx, .bool true] by unfold txtsV; rw [HBK.out, HIX.out, HTX.out]; rfl] at h; exact h : Calls Try.prog 79 #[.agg #[.slice A2 ps.length c2], .slice Ax (readN ps sg).length cx] w11 fun e w' => e = .returned (.tuple #[.string tx, .bool true]) ∧ Below w11.heap.size w11 w')
              have K7 := Lib.hid k70
              clear k70
              go_wp2_with fail
              refine (K7.out).mono ?_
              rintro e w12 ⟨rfl, hb12⟩
              have hw12 : Below w11.heap.size w11 w12 := hb12
              have hs12 : w11.heap.size ≤ w12.heap.size := hw12.size
              have hB12 : Below w.heap.size w w12 := hB11.trans (hw12.mono (by omega))
              have H0_12 : RdU w12 w.heap.size (.slice A0 xs0.length c0) xs0 := H0_11.below hw12 (by omega)
              clear H0_11
              have H1_12 : RdU w12 w.heap.size (.slice A1 xs1.length c1) xs1 := H1_11.below hw12 (by omega)
              clear H1_11
              have fb_12 : RdB w12 w1.heap.size (.agg #[.slice A2 ps.length c2]) ps := fb_11.below hw12 (by omega)
              clear fb_11
              have fs_12 : RdI w12 w1.heap.size (.slice A3 sg.length c3) sg := fs_11.below hw12 (by omega)
              clear fs_11
              have fx_12 : RdI w12 w3.heap.size (.slice Ax (readN ps sg).length cx) (waysI (readN ps sg)) := fx_11.below hw12 (by omega)
              clear fx_11
              have qb0_12 := (hw12.cell (p := ⟨w1.heap.size, 0, Option.none⟩) (by show w1.heap.size < _; omega)).trans qb0_11
              clear qb0_11
              clear K7
              clear hd4 h40 HIX
              have k80 := (by have h := IsReadOneWay_any ps _ _ w12 fb_12 (by omega); rw [HBK.out, HON.out, show rowV true on = .tuple #[.bool on, .bool true] from rfl] at h; exact h : Calls Try.prog 39 #[.agg #[.slice A2 ps.length c2]] w12 fun e w' => e = .returned (.tuple #[.bool on, .bool true]) ∧ Below w12.heap.size w12 w')
              have K8 := Lib.hid k80
              clear k80
              go_wp2_with fail
              refine (K8.out).mono ?_
              rintro e w13 ⟨rfl, hb13⟩
              have hw13 : Below w12.heap.size w12 w13 := hb13
              have hs13 : w12.heap.size ≤ w13.heap.size := hw13.size
              have hB13 : Below w.heap.size w w13 := hB12.trans (hw13.mono (by omega))
              have H0_13 : RdU w13 w.heap.size (.slice A0 xs0.length c0) xs0 := H0_12.below hw13 (by omega)
              clear H0_12
              have H1_13 : RdU w13 w.heap.size (.slice A1 xs1.length c1) xs1 := H1_12.below hw13 (by omega)
              clear H1_12
              have fb_13 : RdB w13 w1.heap.size (.agg #[.slice A2 ps.length c2]) ps := fb_12.below hw13 (by omega)
              clear fb_12
              have fs_13 : RdI w13 w1.heap.size (.slice A3 sg.length c3) sg := fs_12.below hw13 (by omega)
              clear fs_12
              have fx_13 : RdI w13 w3.heap.size (.slice Ax (readN ps sg).length cx) (waysI (readN ps sg)) := fx_12.below hw13 (by omega)
              clear fx_12
              have qb0_13 := (hw13.cell (p := ⟨w1.heap.size, 0, Option.none⟩) (by show w1.heap.size < _; omega)).trans qb0_12
              clear qb0_12
              clear K8
              have k90 := (by have h := sIsReadOneWay_any ps _ _ w13 fb_13 (by omega); rw [HBK.out, HON.out, show rowV true on = .tuple #[.bool on, .bool true] from rfl] at h; exact h : Calls Try.prog 37 #[.agg #[.slice A2 ps.length c2]] w13 fun e w' => e = .returned (.tuple #[.bool on, .bool true]) ∧ Below w13.heap.size w13 w')
              have K9 := Lib.hid k90
              clear k90
              go_wp2_with fail
              refine (K9.out).mono ?_
              rintro e w14 ⟨rfl, hb14⟩
              have hw14 : Below w13.heap.size w13 w14 := hb14
              have hs14 : w13.heap.size ≤ w14.heap.size := hw14.size
              have hB14 : Below w.heap.size w w14 := hB13.trans (hw14.mono (by omega))
              have H0_14 : RdU w14 w.heap.size (.slice A0 xs0.length c0) xs0 := H0_13.below hw14 (by omega)
              clear H0_13
              have H1_14 : RdU w14 w.heap.size (.slice A1 xs1.length c1) xs1 := H1_13.below hw14 (by omega)
              clear H1_13
              have fb_14 : RdB w14 w1.heap.size (.agg #[.slice A2 ps.length c2]) ps := fb_13.below hw14 (by omega)
              clear fb_13
              have fs_14 : RdI w14 w1.heap.size (.slice A3 sg.length c3) sg := fs_13.below hw14 (by omega)
              clear fs_13
              have fx_14 : RdI w14 w3.heap.size (.slice Ax (readN ps sg).length cx) (waysI (readN ps sg)) := fx_13.below hw14 (by omega)
              clear fx_13
              have qb0_14 := (hw14.cell (p := ⟨w1.heap.size, 0, Option.none⟩) (by show w1.heap.size < _; omega)).trans qb0_13
              clear qb0_13
              clear K9
              cases on
              · clear fb_14 fs_14 fx_14
                clear qb0_14
                go_wp2_with fail
                refine (DrawTextOfPhrases_any xs1 _ w.heap.size w14 H1_14 (by omega)).mono ?_
                rintro e w15 ⟨u5, n5, u6, sh, rfl, hn5, hsl6, hr5, ho6, hb15⟩
                obtain ⟨A5, c5, rfl⟩ := hr5.form
                obtain ⟨qs, hpl5, fc⟩ := hr5.rdb
                subst hpl5
                obtain ⟨A6, c6, rfl, _⟩ := ho6.form
                have ft := ho6.rd
                clear hr5 ho6
                have hw15 : Below w14.heap.size w14 w15 := hb15
                have hs15 : w14.heap.size ≤ w15.heap.size := hw15.size
                have hB15 : Below w.heap.size w w15 := hB14.trans (hw15.mono (by omega))
                have H0_15 : RdU w15 w.heap.size (.slice A0 xs0.length c0) xs0 := H0_14.below hw15 (by omega)
                clear H0_14
                have H1_15 : RdU w15 w.heap.size (.slice A1 xs1.length c1) xs1 := H1_14.below hw15 (by omega)
                clear H1_14
                have hb16 : Below w15.heap.size w15 (w15.alloc (.cells #[.slice A5 qs.length c5] 48)) := (Below.refl _ _).alloc (Nat.le_refl _) _
                have hz16 : (w15.alloc (.cells #[.slice A5 qs.length c5] 48)).heap.size = w15.heap.size + 1 := by simp
                have qc0_16 : (w15.alloc (.cells #[.slice A5 qs.length c5] 48)).cell? ⟨w15.heap.size, 0, Option.none⟩ = some (.slice A5 qs.length c5) := (Blk.new w15 48 #[.slice A5 qs.length c5]).cell 0
                go_wp2_with fail
                generalize w15.alloc (.cells #[.slice A5 qs.length c5] 48) = w16 at hb16 hz16 qc0_16 ⊢
                have hy16 : w15.heap.size + 1 ≤ w16.heap.size := by omega
                clear hz16
                have hw16 : Below w15.heap.size w15 w16 := hb16
                have hs16 : w15.heap.size ≤ w16.heap.size := hw16.size
                have hB16 : Below w.heap.size w w16 := hB15.trans (hw16.mono (by omega))
                have H0_16 : RdU w16 w.heap.size (.slice A0 xs0.length c0) xs0 := H0_15.below hw16 (by omega)
                clear H0_15
                have H1_16 : RdU w16 w.heap.size (.slice A1 xs1.length c1) xs1 := H1_15.below hw16 (by omega)
                clear H1_15
                have fc_16 : RdB w16 w15.heap.size (.agg #[.slice A5 qs.length c5]) qs := fc.below hw16 (by omega)
                clear fc
                have ft_16 : RdI w16 w15.heap.size (.slice A6 sh.length c6) sh := ft.below hw16 (by omega)
                clear ft
                obtain ⟨p9, q9, hT9⟩ := txtsV_form qs sh
                have HT9 := Lib.hid hT9
                clear hT9
                have ka0 := (by have h := TextOfPhrases_any qs sh _ _ _ _ w16 fc_16 ft_16 (by omega) (by omega); rw [HT9.out] at h; exact h : Calls Try.prog 79 #[.agg #[.slice A5 qs.length c5], .slice A6 sh.length c6] w16 fun e w' => e = .returned (.tuple #[.string p9, .bool q9]) ∧ Below w16.heap.size w16 w')
                have KA := Lib.hid ka0
                clear ka0
                go_wp2_with fail
                refine (KA.out).mono ?_
                rintro e w17 ⟨rfl, hb17⟩
                have hw17 : Below w16.heap.size w16 w17 := hb17
                have hs17 : w16.heap.size ≤ w17.heap.size := hw17.size
                have hB17 : Below w.heap.size w w17 := hB16.trans (hw17.mono (by omega))
                have H0_17 : RdU w17 w.heap.size (.slice A0 xs0.length c0) xs0 := H0_16.below hw17 (by omega)
                clear H0_16
                have H1_17 : RdU w17 w.heap.size (.slice A1 xs1.length c1) xs1 := H1_16.below hw17 (by omega)
                clear H1_16
                have fc_17 : RdB w17 w15.heap.size (.agg #[.slice A5 qs.length c5]) qs := fc_16.below hw17 (by omega)
                clear fc_16
                have ft_17 : RdI w17 w15.heap.size (.slice A6 sh.length c6) sh := ft_16.below hw17 (by omega)
                clear ft_16
                have qc0_17 := (hw17.cell (p := ⟨w15.heap.size, 0, Option.none⟩) (by show w15.heap.size < _; omega)).trans qc0_16
                clear qc0_16
                clear KA
                have kb0 := (by have h := sTextOfPhrases_any qs sh _ _ _ _ w17 fc_17 ft_17 (by omega) (by omega); rw [HT9.out] at h; exact h : Calls Try.prog 81 #[.agg #[.slice A5 qs.length c5], .slice A6 sh.length c6] w17 fun e w' => e = .returned (.tuple #[.string p9, .bool q9]) ∧ Below w17.heap.size w17 w')
                have KB := Lib.hid kb0
                clear kb0
                go_wp2_with fail
                refine (KB.out).mono ?_
                rintro e w18 ⟨rfl, hb18⟩
                have hw18 : Below w17.heap.size w17 w18 := hb18
                have hs18 : w17.heap.size ≤ w18.heap.size := hw18.size
                have hB18 : Below w.heap.size w w18 := hB17.trans (hw18.mono (by omega))
                have H0_18 : RdU w18 w.heap.size (.slice A0 xs0.length c0) xs0 := H0_17.below hw18 (by omega)
                clear H0_17
                have H1_18 : RdU w18 w.heap.size (.slice A1 xs1.length c1) xs1 := H1_17.below hw18 (by omega)
                clear H1_17
                have fc_18 : RdB w18 w15.heap.size (.agg #[.slice A5 qs.length c5]) qs := fc_17.below hw18 (by omega)
                clear fc_17
                have ft_18 : RdI w18 w15.heap.size (.slice A6 sh.length c6) sh := ft_17.below hw18 (by omega)
                clear ft_17
                have qc0_18 := (hw18.cell (p := ⟨w15.heap.size, 0, Option.none⟩) (by show w15.heap.size < _; omega)).trans qc0_17
                clear qc0_17
                clear KB
                go_wp2_with fail
                go_ret
                exact ⟨ret_bool (by simp), hB18⟩
              · clear fb_14 fs_14 fx_14
                clear qb0_14
                go_wp2_with fail
                refine (DrawTextOfPhrases_any xs1 _ w.heap.size w14 H1_14 (by omega)).mono ?_
                rintro e w15 ⟨u5, n5, u6, sh, rfl, hn5, hsl6, hr5, ho6, hb15⟩
                obtain ⟨A5, c5, rfl⟩ := hr5.form
                obtain ⟨qs, hpl5, fc⟩ := hr5.rdb
                subst hpl5
                obtain ⟨A6, c6, rfl, _⟩ := ho6.form
                have ft := ho6.rd
                clear hr5 ho6
                have hw15 : Below w14.heap.size w14 w15 := hb15
                have hs15 : w14.heap.size ≤ w15.heap.size := hw15.size
                have hB15 : Below w.heap.size w w15 := hB14.trans (hw15.mono (by omega))
                have H0_15 : RdU w15 w.heap.size (.slice A0 xs0.length c0) xs0 := H0_14.below hw15 (by omega)
                clear H0_14
                have H1_15 : RdU w15 w.heap.size (.slice A1 xs1.length c1) xs1 := H1_14.below hw15 (by omega)
                clear H1_14
                have hb16 : Below w15.heap.size w15 (w15.alloc (.cells #[.slice A5 qs.length c5] 48)) := (Below.refl _ _).alloc (Nat.le_refl _) _
                have hz16 : (w15.alloc (.cells #[.slice A5 qs.length c5] 48)).heap.size = w15.heap.size + 1 := by simp
                have qc0_16 : (w15.alloc (.cells #[.slice A5 qs.length c5] 48)).cell? ⟨w15.heap.size, 0, Option.none⟩ = some (.slice A5 qs.length c5) := (Blk.new w15 48 #[.slice A5 qs.length c5]).cell 0
                go_wp2_with fail
                generalize w15.alloc (.cells #[.slice A5 qs.length c5] 48) = w16 at hb16 hz16 qc0_16 ⊢
                have hy16 : w15.heap.size + 1 ≤ w16.heap.size := by omega
                clear hz16
                have hw16 : Below w15.heap.size w15 w16 := hb16
                have hs16 : w15.heap.size ≤ w16.heap.size := hw16.size
                have hB16 : Below w.heap.size w w16 := hB15.trans (hw16.mono (by omega))
                have H0_16 : RdU w16 w.heap.size (.slice A0 xs0.length c0) xs0 := H0_15.below hw16 (by omega)
                clear H0_15
                have H1_16 : RdU w16 w.heap.size (.slice A1 xs1.length c1) xs1 := H1_15.below hw16 (by omega)
                clear H1_15
                have fc_16 : RdB w16 w15.heap.size (.agg #[.slice A5 qs.length c5]) qs := fc.below hw16 (by omega)
                clear fc
                have ft_16 : RdI w16 w15.heap.size (.slice A6 sh.length c6) sh := ft.below hw16 (by omega)
                clear ft
                obtain ⟨p9, q9, hT9⟩ := txtsV_form qs sh
                have HT9 := Lib.hid hT9
                clear hT9
                have ka0 := (by have h := TextOfPhrases_any qs sh _ _ _ _ w16 fc_16 ft_16 (by omega) (by omega); rw [HT9.out] at h; exact h : Calls Try.prog 79 #[.agg #[.slice A5 qs.length c5], .slice A6 sh.length c6] w16 fun e w' => e = .returned (.tuple #[.string p9, .bool q9]) ∧ Below w16.heap.size w16 w')
                have KA := Lib.hid ka0
                clear ka0
                go_wp2_with fail
                refine (KA.out).mono ?_
                rintro e w17 ⟨rfl, hb17⟩
                have hw17 : Below w16.heap.size w16 w17 := hb17
                have hs17 : w16.heap.size ≤ w17.heap.size := hw17.size
                have hB17 : Below w.heap.size w w17 := hB16.trans (hw17.mono (by omega))
                have H0_17 : RdU w17 w.heap.size (.slice A0 xs0.length c0) xs0 := H0_16.below hw17 (by omega)
                clear H0_16
                have H1_17 : RdU w17 w.heap.size (.slice A1 xs1.length c1) xs1 := H1_16.below hw17 (by omega)
                clear H1_16
                have fc_17 : RdB w17 w15.heap.size (.agg #[.slice A5 qs.length c5]) qs := fc_16.below hw17 (by omega)
                clear fc_16
                have ft_17 : RdI w17 w15.heap.size (.slice A6 sh.length c6) sh := ft_16.below hw17 (by omega)
                clear ft_16
                have qc0_17 := (hw17.cell (p := ⟨w15.heap.size, 0, Option.none⟩) (by show w15.heap.size < _; omega)).trans qc0_16
                clear qc0_16
                clear KA
                have kb0 := (by have h := sTextOfPhrases_any qs sh _ _ _ _ w17 fc_17 ft_17 (by omega) (by omega); rw [HT9.out] at h; exact h : Calls Try.prog 81 #[.agg #[.slice A5 qs.length c5], .slice A6 sh.length c6] w17 fun e w' => e = .returned (.tuple #[.string p9, .bool q9]) ∧ Below w17.heap.size w17 w')
                have KB := Lib.hid kb0
                clear kb0
                go_wp2_with fail
                refine (KB.out).mono ?_
                rintro e w18 ⟨rfl, hb18⟩
                have hw18 : Below w17.heap.size w17 w18 := hb18
                have hs18 : w17.heap.size ≤ w18.heap.size := hw18.size
                have hB18 : Below w.heap.size w w18 := hB17.trans (hw18.mono (by omega))
                have H0_18 : RdU w18 w.heap.size (.slice A0 xs0.length c0) xs0 := H0_17.below hw18 (by omega)
                clear H0_17
                have H1_18 : RdU w18 w.heap.size (.slice A1 xs1.length c1) xs1 := H1_17.below hw18 (by omega)
                clear H1_17
                have fc_18 : RdB w18 w15.heap.size (.agg #[.slice A5 qs.length c5]) qs := fc_17.below hw18 (by omega)
                clear fc_17
                have ft_18 : RdI w18 w15.heap.size (.slice A6 sh.length c6) sh := ft_17.below hw18 (by omega)
                clear ft_17
                have qc0_18 := (hw18.cell (p := ⟨w15.heap.size, 0, Option.none⟩) (by show w15.heap.size < _; omega)).trans qc0_17
                clear qc0_17
                clear KB
                go_wp2_with fail
                go_ret
                exact ⟨ret_bool (by simp), hB18⟩
            · have hd4 : decide ((readN ps sg).length ≤ 40) = false := decide_eq_false h40
              have k80 := (by have h := IsReadOneWay_any ps _ _ w11 fb_11 (by omega); rw [HBK.out, HON.out, show rowV true on = .tuple #[.bool on, .bool true] from rfl] at h; exact h : Calls Try.prog 39 #[.agg #[.slice A2 ps.length c2]] w11 fun e w' => e = .returned (.tuple #[.bool on, .bool true]) ∧ Below w11.heap.size w11 w')
              have K8 := Lib.hid k80
              clear k80
              go_wp2_with fail
              refine (K8.out).mono ?_
              rintro e w12 ⟨rfl, hb12⟩
              have hw12 : Below w11.heap.size w11 w12 := hb12
              have hs12 : w11.heap.size ≤ w12.heap.size := hw12.size
              have hB12 : Below w.heap.size w w12 := hB11.trans (hw12.mono (by omega))
              have H0_12 : RdU w12 w.heap.size (.slice A0 xs0.length c0) xs0 := H0_11.below hw12 (by omega)
              clear H0_11
              have H1_12 : RdU w12 w.heap.size (.slice A1 xs1.length c1) xs1 := H1_11.below hw12 (by omega)
              clear H1_11
              have fb_12 : RdB w12 w1.heap.size (.agg #[.slice A2 ps.length c2]) ps := fb_11.below hw12 (by omega)
              clear fb_11
              have fs_12 : RdI w12 w1.heap.size (.slice A3 sg.length c3) sg := fs_11.below hw12 (by omega)
              clear fs_11
              have fx_12 : RdI w12 w3.heap.size (.slice Ax (readN ps sg).length cx) (waysI (readN ps sg)) := fx_11.below hw12 (by omega)
              clear fx_11
              have qb0_12 := (hw12.cell (p := ⟨w1.heap.size, 0, Option.none⟩) (by show w1.heap.size < _; omega)).trans qb0_11
              clear qb0_11
              clear K8
              have k90 := (by have h := sIsReadOneWay_any ps _ _ w12 fb_12 (by omega); rw [HBK.out, HON.out, show rowV true on = .tuple #[.bool on, .bool true] from rfl] at h; exact h : Calls Try.prog 37 #[.agg #[.slice A2 ps.length c2]] w12 fun e w' => e = .returned (.tuple #[.bool on, .bool true]) ∧ Below w12.heap.size w12 w')
              have K9 := Lib.hid k90
              clear k90
              go_wp2_with fail
              refine (K9.out).mono ?_
              rintro e w13 ⟨rfl, hb13⟩
              have hw13 : Below w12.heap.size w12 w13 := hb13
              have hs13 : w12.heap.size ≤ w13.heap.size := hw13.size
              have hB13 : Below w.heap.size w w13 := hB12.trans (hw13.mono (by omega))
              have H0_13 : RdU w13 w.heap.size (.slice A0 xs0.length c0) xs0 := H0_12.below hw13 (by omega)
              clear H0_12
              have H1_13 : RdU w13 w.heap.size (.slice A1 xs1.length c1) xs1 := H1_12.below hw13 (by omega)
              clear H1_12
              have fb_13 : RdB w13 w1.heap.size (.agg #[.slice A2 ps.length c2]) ps := fb_12.below hw13 (by omega)
              clear fb_12
              have fs_13 : RdI w13 w1.heap.size (.slice A3 sg.length c3) sg := fs_12.below hw13 (by omega)
              clear fs_12
              have fx_13 : RdI w13 w3.heap.size (.slice Ax (readN ps sg).length cx) (waysI (readN ps sg)) := fx_12.below hw13 (by omega)
              clear fx_12
              have qb0_13 := (hw13.cell (p := ⟨w1.heap.size, 0, Option.none⟩) (by show w1.heap.size < _; omega)).trans qb0_12
              clear qb0_12
              clear K9
              cases on
              · clear fb_13 fs_13 fx_13
                clear qb0_13
                go_wp2_with fail
                refine (DrawTextOfPhrases_any xs1 _ w.heap.size w13 H1_13 (by omega)).mono ?_
                rintro e w14 ⟨u5, n5, u6, sh, rfl, hn5, hsl6, hr5, ho6, hb14⟩
                obtain ⟨A5, c5, rfl⟩ := hr5.form
                obtain ⟨qs, hpl5, fc⟩ := hr5.rdb
                subst hpl5
                obtain ⟨A6, c6, rfl, _⟩ := ho6.form
                have ft := ho6.rd
                clear hr5 ho6
                have hw14 : Below w13.heap.size w13 w14 := hb14
                have hs14 : w13.heap.size ≤ w14.heap.size := hw14.size
                have hB14 : Below w.heap.size w w14 := hB13.trans (hw14.mono (by omega))
                have H0_14 : RdU w14 w.heap.size (.slice A0 xs0.length c0) xs0 := H0_13.below hw14 (by omega)
                clear H0_13
                have H1_14 : RdU w14 w.heap.size (.slice A1 xs1.length c1) xs1 := H1_13.below hw14 (by omega)
                clear H1_13
                have hb15 : Below w14.heap.size w14 (w14.alloc (.cells #[.slice A5 qs.length c5] 48)) := (Below.refl _ _).alloc (Nat.le_refl _) _
                have hz15 : (w14.alloc (.cells #[.slice A5 qs.length c5] 48)).heap.size = w14.heap.size + 1 := by simp
                have qc0_15 : (w14.alloc (.cells #[.slice A5 qs.length c5] 48)).cell? ⟨w14.heap.size, 0, Option.none⟩ = some (.slice A5 qs.length c5) := (Blk.new w14 48 #[.slice A5 qs.length c5]).cell 0
                go_wp2_with fail
                generalize w14.alloc (.cells #[.slice A5 qs.length c5] 48) = w15 at hb15 hz15 qc0_15 ⊢
                have hy15 : w14.heap.size + 1 ≤ w15.heap.size := by omega
                clear hz15
                have hw15 : Below w14.heap.size w14 w15 := hb15
                have hs15 : w14.heap.size ≤ w15.heap.size := hw15.size
                have hB15 : Below w.heap.size w w15 := hB14.trans (hw15.mono (by omega))
                have H0_15 : RdU w15 w.heap.size (.slice A0 xs0.length c0) xs0 := H0_14.below hw15 (by omega)
                clear H0_14
                have H1_15 : RdU w15 w.heap.size (.slice A1 xs1.length c1) xs1 := H1_14.below hw15 (by omega)
                clear H1_14
                have fc_15 : RdB w15 w14.heap.size (.agg #[.slice A5 qs.length c5]) qs := fc.below hw15 (by omega)
                clear fc
                have ft_15 : RdI w15 w14.heap.size (.slice A6 sh.length c6) sh := ft.below hw15 (by omega)
                clear ft
                obtain ⟨p9, q9, hT9⟩ := txtsV_form qs sh
                have HT9 := Lib.hid hT9
                clear hT9
                have ka0 := (by have h := TextOfPhrases_any qs sh _ _ _ _ w15 fc_15 ft_15 (by omega) (by omega); rw [HT9.out] at h; exact h : Calls Try.prog 79 #[.agg #[.slice A5 qs.length c5], .slice A6 sh.length c6] w15 fun e w' => e = .returned (.tuple #[.string p9, .bool q9]) ∧ Below w15.heap.size w15 w')
                have KA := Lib.hid ka0
                clear ka0
                go_wp2_with fail
                refine (KA.out).mono ?_
                rintro e w16 ⟨rfl, hb16⟩
                have hw16 : Below w15.heap.size w15 w16 := hb16
                have hs16 : w15.heap.size ≤ w16.heap.size := hw16.size
                have hB16 : Below w.heap.size w w16 := hB15.trans (hw16.mono (by omega))
                have H0_16 : RdU w16 w.heap.size (.slice A0 xs0.length c0) xs0 := H0_15.below hw16 (by omega)
                clear H0_15
                have H1_16 : RdU w16 w.heap.size (.slice A1 xs1.length c1) xs1 := H1_15.below hw16 (by omega)
                clear H1_15
                have fc_16 : RdB w16 w14.heap.size (.agg #[.slice A5 qs.length c5]) qs := fc_15.below hw16 (by omega)
                clear fc_15
                have ft_16 : RdI w16 w14.heap.size (.slice A6 sh.length c6) sh := ft_15.below hw16 (by omega)
                clear ft_15
                have qc0_16 := (hw16.cell (p := ⟨w14.heap.size, 0, Option.none⟩) (by show w14.heap.size < _; omega)).trans qc0_15
                clear qc0_15
                clear KA
                have kb0 := (by have h := sTextOfPhrases_any qs sh _ _ _ _ w16 fc_16 ft_16 (by omega) (by omega); rw [HT9.out] at h; exact h : Calls Try.prog 81 #[.agg #[.slice A5 qs.length c5], .slice A6 sh.length c6] w16 fun e w' => e = .returned (.tuple #[.string p9, .bool q9]) ∧ Below w16.heap.size w16 w')
                have KB := Lib.hid kb0
                clear kb0
                go_wp2_with fail
                refine (KB.out).mono ?_
                rintro e w17 ⟨rfl, hb17⟩
                have hw17 : Below w16.heap.size w16 w17 := hb17
                have hs17 : w16.heap.size ≤ w17.heap.size := hw17.size
                have hB17 : Below w.heap.size w w17 := hB16.trans (hw17.mono (by omega))
                have H0_17 : RdU w17 w.heap.size (.slice A0 xs0.length c0) xs0 := H0_16.below hw17 (by omega)
                clear H0_16
                have H1_17 : RdU w17 w.heap.size (.slice A1 xs1.length c1) xs1 := H1_16.below hw17 (by omega)
                clear H1_16
                have fc_17 : RdB w17 w14.heap.size (.agg #[.slice A5 qs.length c5]) qs := fc_16.below hw17 (by omega)
                clear fc_16
                have ft_17 : RdI w17 w14.heap.size (.slice A6 sh.length c6) sh := ft_16.below hw17 (by omega)
                clear ft_16
                have qc0_17 := (hw17.cell (p := ⟨w14.heap.size, 0, Option.none⟩) (by show w14.heap.size < _; omega)).trans qc0_16
                clear qc0_16
                clear KB
                go_wp2_with fail
                go_ret
                exact ⟨ret_bool (by simp), hB17⟩
              · clear fb_13 fs_13 fx_13
                clear qb0_13
                go_wp2_with fail
                refine (DrawTextOfPhrases_any xs1 _ w.heap.size w13 H1_13 (by omega)).mono ?_
                rintro e w14 ⟨u5, n5, u6, sh, rfl, hn5, hsl6, hr5, ho6, hb14⟩
                obtain ⟨A5, c5, rfl⟩ := hr5.form
                obtain ⟨qs, hpl5, fc⟩ := hr5.rdb
                subst hpl5
                obtain ⟨A6, c6, rfl, _⟩ := ho6.form
                have ft := ho6.rd
                clear hr5 ho6
                have hw14 : Below w13.heap.size w13 w14 := hb14
                have hs14 : w13.heap.size ≤ w14.heap.size := hw14.size
                have hB14 : Below w.heap.size w w14 := hB13.trans (hw14.mono (by omega))
                have H0_14 : RdU w14 w.heap.size (.slice A0 xs0.length c0) xs0 := H0_13.below hw14 (by omega)
                clear H0_13
                have H1_14 : RdU w14 w.heap.size (.slice A1 xs1.length c1) xs1 := H1_13.below hw14 (by omega)
                clear H1_13
                have hb15 : Below w14.heap.size w14 (w14.alloc (.cells #[.slice A5 qs.length c5] 48)) := (Below.refl _ _).alloc (Nat.le_refl _) _
                have hz15 : (w14.alloc (.cells #[.slice A5 qs.length c5] 48)).heap.size = w14.heap.size + 1 := by simp
                have qc0_15 : (w14.alloc (.cells #[.slice A5 qs.length c5] 48)).cell? ⟨w14.heap.size, 0, Option.none⟩ = some (.slice A5 qs.length c5) := (Blk.new w14 48 #[.slice A5 qs.length c5]).cell 0
                go_wp2_with fail
                generalize w14.alloc (.cells #[.slice A5 qs.length c5] 48) = w15 at hb15 hz15 qc0_15 ⊢
                have hy15 : w14.heap.size + 1 ≤ w15.heap.size := by omega
                clear hz15
                have hw15 : Below w14.heap.size w14 w15 := hb15
                have hs15 : w14.heap.size ≤ w15.heap.size := hw15.size
                have hB15 : Below w.heap.size w w15 := hB14.trans (hw15.mono (by omega))
                have H0_15 : RdU w15 w.heap.size (.slice A0 xs0.length c0) xs0 := H0_14.below hw15 (by omega)
                clear H0_14
                have H1_15 : RdU w15 w.heap.size (.slice A1 xs1.length c1) xs1 := H1_14.below hw15 (by omega)
                clear H1_14
                have fc_15 : RdB w15 w14.heap.size (.agg #[.slice A5 qs.length c5]) qs := fc.below hw15 (by omega)
                clear fc
                have ft_15 : RdI w15 w14.heap.size (.slice A6 sh.length c6) sh := ft.below hw15 (by omega)
                clear ft
                obtain ⟨p9, q9, hT9⟩ := txtsV_form qs sh
                have HT9 := Lib.hid hT9
                clear hT9
                have ka0 := (by have h := TextOfPhrases_any qs sh _ _ _ _ w15 fc_15 ft_15 (by omega) (by omega); rw [HT9.out] at h; exact h : Calls Try.prog 79 #[.agg #[.slice A5 qs.length c5], .slice A6 sh.length c6] w15 fun e w' => e = .returned (.tuple #[.string p9, .bool q9]) ∧ Below w15.heap.size w15 w')
                have KA := Lib.hid ka0
                clear ka0
                go_wp2_with fail
                refine (KA.out).mono ?_
                rintro e w16 ⟨rfl, hb16⟩
                have hw16 : Below w15.heap.size w15 w16 := hb16
                have hs16 : w15.heap.size ≤ w16.heap.size := hw16.size
                have hB16 : Below w.heap.size w w16 := hB15.trans (hw16.mono (by omega))
                have H0_16 : RdU w16 w.heap.size (.slice A0 xs0.length c0) xs0 := H0_15.below hw16 (by omega)
                clear H0_15
                have H1_16 : RdU w16 w.heap.size (.slice A1 xs1.length c1) xs1 := H1_15.below hw16 (by omega)
                clear H1_15
                have fc_16 : RdB w16 w14.heap.size (.agg #[.slice A5 qs.length c5]) qs := fc_15.below hw16 (by omega)
                clear fc_15
                have ft_16 : RdI w16 w14.heap.size (.slice A6 sh.length c6) sh := ft_15.below hw16 (by omega)
                clear ft_15
                have qc0_16 := (hw16.cell (p := ⟨w14.heap.size, 0, Option.none⟩) (by show w14.heap.size < _; omega)).trans qc0_15
                clear qc0_15
                clear KA
                have kb0 := (by have h := sTextOfPhrases_any qs sh _ _ _ _ w16 fc_16 ft_16 (by omega) (by omega); rw [HT9.out] at h; exact h : Calls Try.prog 81 #[.agg #[.slice A5 qs.length c5], .slice A6 sh.length c6] w16 fun e w' => e = .returned (.tuple #[.string p9, .bool q9]) ∧ Below w16.heap.size w16 w')
                have KB := Lib.hid kb0
                clear kb0
                go_wp2_with fail
                refine (KB.out).mono ?_
                rintro e w17 ⟨rfl, hb17⟩
                have hw17 : Below w16.heap.size w16 w17 := hb17
                have hs17 : w16.heap.size ≤ w17.heap.size := hw17.size
                have hB17 : Below w.heap.size w w17 := hB16.trans (hw17.mono (by omega))
                have H0_17 : RdU w17 w.heap.size (.slice A0 xs0.length c0) xs0 := H0_16.below hw17 (by omega)
                clear H0_16
                have H1_17 : RdU w17 w.heap.size (.slice A1 xs1.length c1) xs1 := H1_16.below hw17 (by omega)
                clear H1_16
                have fc_17 : RdB w17 w14.heap.size (.agg #[.slice A5 qs.length c5]) qs := fc_16.below hw17 (by omega)
                clear fc_16
                have ft_17 : RdI w17 w14.heap.size (.slice A6 sh.length c6) sh := ft_16.below hw17 (by omega)
                clear ft_16
                have qc0_17 := (hw17.cell (p := ⟨w14.heap.size, 0, Option.none⟩) (by show w14.heap.size < _; omega)).trans qc0_16
                clear qc0_16
                clear KB
                go_wp2_with fail
                go_ret
                exact ⟨ret_bool (by simp), hB17⟩
      · have hz : 0 < (tbS ps sg).getD 0 0 := by have h := HN.out; unfold cntS at h; show 0 < (dpW (fitS sg) sigLen ps sg.length sg.length).getD 0 0; omega
        have HRQ := Lib.hid (readQ_yes hz)
        have HRS := Lib.hid (read_sigs HBK.out (show 0 < cntS ps sg from hz))
        have HRLT := Lib.hid (readN_lt ps sg)
        have hrl := readN_len ps sg
        have HMV := Lib.hid (msgV_more (show (tbS ps sg).getD 0 0 ≠ 1 by have h := HN.out; unfold cntS at h; show (dpW (fitS sg) sigLen ps sg.length sg.length).getD 0 0 ≠ 1; omega))
        have hon : on = false := by
          cases on
          · rfl
          · have h := one_read (sig := sg) HBK.out HON.out; have h2 := HN.out; omega
        subst hon
        clear hz
        have k10 := (by have h := FirstReading_any ps sg _ _ _ _ w2 fb_2 fs_2 (by omega) (by omega); rw [frN_yes HGD.out, frQ_yes HGD.out, HRQ.out] at h; exact h : Calls Try.prog 73 #[.agg #[.slice A2 ps.length c2], .slice A3 sg.length c3] w2 (RetOwT (waysI (readN ps sg)) true w2))
        have K1 := Lib.hid k10
        clear k10
        go_wp2_with fail
        refine (K1.out).mono ?_
        rintro e w3 ⟨x, rfl, fx, hb3⟩
        obtain ⟨Ax, cx, rfl, _⟩ := fx.form
        rw [waysI_len] at fx ⊢
        have fx_3 : RdI w3 w3.heap.size (.slice Ax (readN ps sg).length cx) (waysI (readN ps sg)) := fx.rd
        clear fx
        have hw3 : Below w2.heap.size w2 w3 := hb3
        have hs3 : w2.heap.size ≤ w3.heap.size := hw3.size
        have hB3 : Below w.heap.size w w3 := hB2.trans (hw3.mono (by omega))
        have H0_3 : RdU w3 w.heap.size (.slice A0 xs0.length c0) xs0 := H0_2.below hw3 (by omega)
        clear H0_2
        have H1_3 : RdU w3 w.heap.size (.slice A1 xs1.length c1) xs1 := H1_2.below hw3 (by omega)
        clear H1_2
        have fb_3 : RdB w3 w1.heap.size (.agg #[.slice A2 ps.length c2]) ps := fb_2.below hw3 (by omega)
        clear fb_2
        have fs_3 : RdI w3 w1.heap.size (.slice A3 sg.length c3) sg := fs_2.below hw3 (by omega)
        clear fs_2
        have qb0_3 := (hw3.cell (p := ⟨w1.heap.size, 0, Option.none⟩) (by show w1.heap.size < _; omega)).trans qb0_2
        clear qb0_2
        clear K1
        have k20 := (by have h := sFirstReading_any ps sg _ _ _ _ w3 fb_3 fs_3 (by omega) (by omega); rw [frN_yes HGD.out, frQ_yes HGD.out, HRQ.out] at h; exact h : Calls Try.prog 74 #[.agg #[.slice A2 ps.length c2], .slice A3 sg.length c3] w3 (RetOwT (waysI (readN ps sg)) true w3))
        have K2 := Lib.hid k20
        clear k20
        go_wp2_with fail
        refine (K2.out).mono ?_
        rintro e w4 ⟨y, rfl, fy, hb4⟩
        obtain ⟨Ay, cy, rfl, _⟩ := fy.form
        rw [waysI_len] at fy ⊢
        have fy_4 : RdI w4 w4.heap.size (.slice Ay (readN ps sg).length cy) (waysI (readN ps sg)) := fy.rd
        clear fy
        have hw4 : Below w3.heap.size w3 w4 := hb4
        have hs4 : w3.heap.size ≤ w4.heap.size := hw4.size
        have hB4 : Below w.heap.size w w4 := hB3.trans (hw4.mono (by omega))
        have H0_4 : RdU w4 w.heap.size (.slice A0 xs0.length c0) xs0 := H0_3.below hw4 (by omega)
        clear H0_3
        have H1_4 : RdU w4 w.heap.size (.slice A1 xs1.length c1) xs1 := H1_3.below hw4 (by omega)
        clear H1_3
        have fb_4 : RdB w4 w1.heap.size (.agg #[.slice A2 ps.length c2]) ps := fb_3.below hw4 (by omega)
        clear fb_3
        have fs_4 : RdI w4 w1.heap.size (.slice A3 sg.length c3) sg := fs_3.below hw4 (by omega)
        clear fs_3
        have fx_4 : RdI w4 w3.heap.size (.slice Ax (readN ps sg).length cx) (waysI (readN ps sg)) := fx_3.below hw4 (by omega)
        clear fx_3
        have qb0_4 := (hw4.cell (p := ⟨w1.heap.size, 0, Option.none⟩) (by show w1.heap.size < _; omega)).trans qb0_3
        clear qb0_3
        clear K2
        have k30 := (by have h := CountReadings_any ps sg _ _ _ _ w4 fb_4 fs_4 (by omega) (by omega); rw [HGD.out, ← HN.out, show cntV true N = .tuple #[.int .i64 ((N : Int)), .bool true] from rfl] at h; exact h : Calls Try.prog 75 #[.agg #[.slice A2 ps.length c2], .slice A3 sg.length c3] w4 fun e w' => e = .returned (.tuple #[.int .i64 ((N : Int)), .bool true]) ∧ Below w4.heap.size w4 w')
        have K3 := Lib.hid k30
        clear k30
        go_wp2_with fail
        refine (K3.out).mono ?_
        rintro e w5 ⟨rfl, hb5⟩
        have hw5 : Below w4.heap.size w4 w5 := hb5
        have hs5 : w4.heap.size ≤ w5.heap.size := hw5.size
        have hB5 : Below w.heap.size w w5 := hB4.trans (hw5.mono (by omega))
        have H0_5 : RdU w5 w.heap.size (.slice A0 xs0.length c0) xs0 := H0_4.below hw5 (by omega)
        clear H0_4
        have H1_5 : RdU w5 w.heap.size (.slice A1 xs1.length c1) xs1 := H1_4.below hw5 (by omega)
        clear H1_4
        have fb_5 : RdB w5 w1.heap.size (.agg #[.slice A2 ps.length c2]) ps := fb_4.below hw5 (by omega)
        clear fb_4
        have fs_5 : RdI w5 w1.heap.size (.slice A3 sg.length c3) sg := fs_4.below hw5 (by omega)
        clear fs_4
        have fx_5 : RdI w5 w3.heap.size (.slice Ax (readN ps sg).length cx) (waysI (readN ps sg)) := fx_4.below hw5 (by omega)
        clear fx_4
        have fy_5 : RdI w5 w4.heap.size (.slice Ay (readN ps sg).length cy) (waysI (readN ps sg)) := fy_4.below hw5 (by omega)
        clear fy_4
        have qb0_5 := (hw5.cell (p := ⟨w1.heap.size, 0, Option.none⟩) (by show w1.heap.size < _; omega)).trans qb0_4
        clear qb0_4
        clear K3
        have k40 := (by have h := sCountReadings_any ps sg _ _ _ _ w5 fb_5 fs_5 (by omega) (by omega); rw [HGD.out, ← HN.out, show cntV true N = .tuple #[.int .i64 ((N : Int)), .bool true] from rfl] at h; exact h : Calls Try.prog 76 #[.agg #[.slice A2 ps.length c2], .slice A3 sg.length c3] w5 fun e w' => e = .returned (.tuple #[.int .i64 ((N : Int)), .bool true]) ∧ Below w5.heap.size w5 w')
        have K4 := Lib.hid k40
        clear k40
        go_wp2_with fail
        refine (K4.out).mono ?_
        rintro e w6 ⟨rfl, hb6⟩
        have hw6 : Below w5.heap.size w5 w6 := hb6
        have hs6 : w5.heap.size ≤ w6.heap.size := hw6.size
        have hB6 : Below w.heap.size w w6 := hB5.trans (hw6.mono (by omega))
        have H0_6 : RdU w6 w.heap.size (.slice A0 xs0.length c0) xs0 := H0_5.below hw6 (by omega)
        clear H0_5
        have H1_6 : RdU w6 w.heap.size (.slice A1 xs1.length c1) xs1 := H1_5.below hw6 (by omega)
        clear H1_5
        have fb_6 : RdB w6 w1.heap.size (.agg #[.slice A2 ps.length c2]) ps := fb_5.below hw6 (by omega)
        clear fb_5
        have fs_6 : RdI w6 w1.heap.size (.slice A3 sg.length c3) sg := fs_5.below hw6 (by omega)
        clear fs_5
        have fx_6 : RdI w6 w3.heap.size (.slice Ax (readN ps sg).length cx) (waysI (readN ps sg)) := fx_5.below hw6 (by omega)
        clear fx_5
        have fy_6 : RdI w6 w4.heap.size (.slice Ay (readN ps sg).length cy) (waysI (readN ps sg)) := fy_5.below hw6 (by omega)
        clear fy_5
        have qb0_6 := (hw6.cell (p := ⟨w1.heap.size, 0, Option.none⟩) (by show w1.heap.size < _; omega)).trans qb0_5
        clear qb0_5
        clear K4
        have k50 := (by have h := ReadMessage_any ps sg _ _ _ _ w6 fb_6 fs_6 (by omega) (by omega); rw [HMV.out] at h; exact h : Calls Try.prog 77 #[.agg #[.slice A2 ps.length c2], .slice A3 sg.length c3] w6 fun e w' => e = .returned (.tuple #[.string ⟨#[]⟩, .bool false]) ∧ Below w6.heap.size w6 w')
        have K5 := Lib.hid k50
        clear k50
        go_wp2_with fail
        refine (K5.out).mono ?_
        rintro e w7 ⟨rfl, hb7⟩
        have hw7 : Below w6.heap.size w6 w7 := hb7
        have hs7 : w6.heap.size ≤ w7.heap.size := hw7.size
        have hB7 : Below w.heap.size w w7 := hB6.trans (hw7.mono (by omega))
        have H0_7 : RdU w7 w.heap.size (.slice A0 xs0.length c0) xs0 := H0_6.below hw7 (by omega)
        clear H0_6
        have H1_7 : RdU w7 w.heap.size (.slice A1 xs1.length c1) xs1 := H1_6.below hw7 (by omega)
        clear H1_6
        have fb_7 : RdB w7 w1.heap.size (.agg #[.slice A2 ps.length c2]) ps := fb_6.below hw7 (by omega)
        clear fb_6
        have fs_7 : RdI w7 w1.heap.size (.slice A3 sg.length c3) sg := fs_6.below hw7 (by omega)
        clear fs_6
        have fx_7 : RdI w7 w3.heap.size (.slice Ax (readN ps sg).length cx) (waysI (readN ps sg)) := fx_6.below hw7 (by omega)
        clear fx_6
        have fy_7 : RdI w7 w4.heap.size (.slice Ay (readN ps sg).length cy) (waysI (readN ps sg)) := fy_6.below hw7 (by omega)
        clear fy_6
        have qb0_7 := (hw7.cell (p := ⟨w1.heap.size, 0, Option.none⟩) (by show w1.heap.size < _; omega)).trans qb0_6
        clear qb0_6
        clear K5
        have k60 := (by have h := sReadMessage_any ps sg _ _ _ _ w7 fb_7 fs_7 (by omega) (by omega); rw [HMV.out] at h; exact h : Calls Try.prog 78 #[.agg #[.slice A2 ps.length c2], .slice A3 sg.length c3] w7 fun e w' => e = .returned (.tuple #[.string ⟨#[]⟩, .bool false]) ∧ Below w7.heap.size w7 w')
        have K6 := Lib.hid k60
        clear k60
        go_wp2_with fail
        refine (K6.out).mono ?_
        rintro e w8 ⟨rfl, hb8⟩
        have hw8 : Below w7.heap.size w7 w8 := hb8
        have hs8 : w7.heap.size ≤ w8.heap.size := hw8.size
        have hB8 : Below w.heap.size w w8 := hB7.trans (hw8.mono (by omega))
        have H0_8 : RdU w8 w.heap.size (.slice A0 xs0.length c0) xs0 := H0_7.below hw8 (by omega)
        clear H0_7
        have H1_8 : RdU w8 w.heap.size (.slice A1 xs1.length c1) xs1 := H1_7.below hw8 (by omega)
        clear H1_7
        have fb_8 : RdB w8 w1.heap.size (.agg #[.slice A2 ps.length c2]) ps := fb_7.below hw8 (by omega)
        clear fb_7
        have fs_8 : RdI w8 w1.heap.size (.slice A3 sg.length c3) sg := fs_7.below hw8 (by omega)
        clear fs_7
        have fx_8 : RdI w8 w3.heap.size (.slice Ax (readN ps sg).length cx) (waysI (readN ps sg)) := fx_7.below hw8 (by omega)
        clear fx_7
        have fy_8 : RdI w8 w4.heap.size (.slice Ay (readN ps sg).length cy) (waysI (readN ps sg)) := fy_7.below hw8 (by omega)
        clear fy_7
        have qb0_8 := (hw8.cell (p := ⟨w1.heap.size, 0, Option.none⟩) (by show w1.heap.size < _; omega)).trans qb0_7
        clear qb0_7
        clear K6
        go_wp2_with fail
        refine (sameInts_sameB _ _ _ _ _ _ fx_8 fy_8).mono ?_
        rintro e w9 ⟨rfl, hb9⟩
        have hw9 : Below w8.heap.size w8 w9 := hb9
        have hs9 : w8.heap.size ≤ w9.heap.size := hw9.size
        have hB9 : Below w.heap.size w w9 := hB8.trans (hw9.mono (by omega))
        have H0_9 : RdU w9 w.heap.size (.slice A0 xs0.length c0) xs0 := H0_8.below hw9 (by omega)
        clear H0_8
        have H1_9 : RdU w9 w.heap.size (.slice A1 xs1.length c1) xs1 := H1_8.below hw9 (by omega)
        clear H1_8
        have fb_9 : RdB w9 w1.heap.size (.agg #[.slice A2 ps.length c2]) ps := fb_8.below hw9 (by omega)
        clear fb_8
        have fs_9 : RdI w9 w1.heap.size (.slice A3 sg.length c3) sg := fs_8.below hw9 (by omega)
        clear fs_8
        have fx_9 : RdI w9 w3.heap.size (.slice Ax (readN ps sg).length cx) (waysI (readN ps sg)) := fx_8.below hw9 (by omega)
        clear fx_8
        have fy_9 : RdI w9 w4.heap.size (.slice Ay (readN ps sg).length cy) (waysI (readN ps sg)) := fy_8.below hw9 (by omega)
        clear fy_8
        have qb0_9 := (hw9.cell (p := ⟨w1.heap.size, 0, Option.none⟩) (by show w1.heap.size < _; omega)).trans qb0_8
        clear qb0_8
        have hd1 : decide (0 < N) = true := decide_eq_true (by omega)
        have hd2 : ((N : Int) == 1) = false := by rw [beq_eq_false_iff_ne]; omega
        have hd3 : decide (1 < N) = true := decide_eq_true (by omega)
        go_wp2_with fail
        go_loopw [19, 128] (fun v i wr => ∃ k : Nat, k ≤ (readN ps sg).length ∧ i = .int .i64 (k : Int) ∧ Hid (GrowI w9 w9.heap.size wr v (sigsOf ps ((readN ps sg).take k)))) (fun _ i _ => (readN ps sg).length - (intOf i).toNat)
        case atStart => exact ⟨0, Nat.zero_le _, rfl, GrowI.start _⟩
        case round =>
          obtain ⟨k, hk, rfl, hg⟩ := hrel
          have hb10 := hg.out.2.1
          have hw10 : Below w9.heap.size w9 wr := hb10
          have hs10 : w9.heap.size ≤ wr.heap.size := hw10.size
          have hB10 : Below w.heap.size w wr := hB9.trans (hw10.mono (by omega))
          have H0_10 : RdU wr w.heap.size (.slice A0 xs0.length c0) xs0 := H0_9.below hw10 (by omega)
          clear H0_9
          have H1_10 : RdU wr w.heap.size (.slice A1 xs1.length c1) xs1 := H1_9.below hw10 (by omega)
          clear H1_9
          have fb_10 : RdB wr w1.heap.size (.agg #[.slice A2 ps.length c2]) ps := fb_9.below hw10 (by omega)
          clear fb_9
          have fs_10 : RdI wr w1.heap.size (.slice A3 sg.length c3) sg := fs_9.below hw10 (by omega)
          clear fs_9
          have fx_10 : RdI wr w3.heap.size (.slice Ax (readN ps sg).length cx) (waysI (readN ps sg)) := fx_9.below hw10 (by omega)
          clear fx_9
          have fy_10 : RdI wr w4.heap.size (.slice Ay (readN ps sg).length cy) (waysI (readN ps sg)) := fy_9.below hw10 (by omega)
          clear fy_9
          have qb0_10 := (hw10.cell (p := ⟨w1.heap.size, 0, Option.none⟩) (by show w1.heap.size < _; omega)).trans qb0_9
          clear qb0_9
          by_cases hlt : k < (readN ps sg).length
          · obtain ⟨i, hik⟩ : ∃ i, (readN ps sg)[k]? = some i := ⟨_, List.getElem?_eq_getElem hlt⟩
            have hil := HRLT.out i (List.mem_of_getElem? hik)
            obtain ⟨p, hp⟩ : ∃ p, ps[i]? = some p := ⟨_, List.getElem?_eq_getElem hil⟩
            have hle := sigs_len HBK.out ((readN ps sg).take k)
            rw [List.length_take, Nat.min_eq_left hk] at hle
            have hsm := (phrOk_sig (bookB_phr HBK.out (List.mem_of_getElem? hp))).2.1
            obtain ⟨b1, o1, cc1, y, hv, _, hy, hcell1⟩ := Rd.at_ fy_10 (k := k) (by rw [waysI_len]; exact hlt)
            rw [waysI_len] at hv
            injection hv with hv1 hv2 hv3; subst hv1; clear hv2 hv3
            rw [waysI_at hik] at hy
            cases hy
            obtain ⟨b2, o2, cc2, a2, t, xs, hv, _, hx, _, hcell3, hra, _⟩ := (by obtain ⟨_, hh, hq⟩ := fb_10; cases hh; exact hq : RdPS wr w1.heap.size (.slice A2 ps.length c2) ps).at_ hil
            injection hv with hv1 hv2 hv3; subst hv1; clear hv2 hv3
            rw [hp] at hx
            cases hx
            have HIK := Lib.hid hik
            have HP := Lib.hid hp
            have HRA := Lib.hid hra
            have hbd2 : (sigsOf ps ((readN ps sg).take k)).length + xs.length ≤ 4000 := by have h1 : xs.length ≤ 3 := hsm; omega
            clear hik hp hra hle hsm
            go_wp2_with (at_builtin; refine GrowI.appI rfl (.tmp 132) (.tmp 138) rfl hg.out HRA.out (by omega) rfl rfl ?_; intro v' w5 hG')
            go_roundw
            case rel => exact ⟨k + 1, by omega, by go_num, by show GrowI _ _ _ _ _; rw [take_snocN HIK.out, sigsOf_snoc HP.out]; exact hG'⟩
            case measure => (simp [intOf]; try omega)
          · have hke : k = (readN ps sg).length := by omega
            subst hke
            have hgo := hg.out.own.rd
            rw [List.take_of_length_le (Nat.le_refl _), HRS.out] at hgo
            have HGO := Lib.hid hgo
            clear hgo hg hlt hk
            obtain ⟨wz, hwz⟩ : ∃ wz, wz = wr := ⟨_, rfl⟩; subst hwz
            go_wp2_with fail
            refine (sameInts_sameB _ _ _ _ _ _ HGO.out fs_10).mono ?_
            rintro e w11 ⟨rfl, hb11⟩
            have hw11 : Below wz.heap.size wz w11 := hb11
            have hs11 : wz.heap.size ≤ w11.heap.size := hw11.size
            have hB11 : Below w.heap.size w w11 := hB10.trans (hw11.mono (by omega))
            have H0_11 : RdU w11 w.heap.size (.slice A0 xs0.length c0) xs0 := H0_10.below hw11 (by omega)
            clear H0_10
            have H1_11 : RdU w11 w.heap.size (.slice A1 xs1.length c1) xs1 := H1_10.below hw11 (by omega)
            clear H1_10
            have fb_11 : RdB w11 w1.heap.size (.agg #[.slice A2 ps.length c2]) ps := fb_10.below hw11 (by omega)
            clear fb_10
            have fs_11 : RdI w11 w1.heap.size (.slice A3 sg.length c3) sg := fs_10.below hw11 (by omega)
            clear fs_10
            have fx_11 : RdI w11 w3.heap.size (.slice Ax (readN ps sg).length cx) (waysI (readN ps sg)) := fx_10.below hw11 (by omega)
            clear fx_10
            have fy_11 : RdI w11 w4.heap.size (.slice Ay (readN ps sg).length cy) (waysI (readN ps sg)) := fy_10.below hw11 (by omega)
            clear fy_10
            have qb0_11 := (hw11.cell (p := ⟨w1.heap.size, 0, Option.none⟩) (by show w1.heap.size < _; omega)).trans qb0_10
            clear qb0_10
            clear HGO fy_11
            have k80 := (by have h := IsReadOneWay_any ps _ _ w11 fb_11 (by omega); rw [HBK.out, HON.out, show rowV true false = .tuple #[.bool false, .bool true] from rfl] at h; exact h : Calls Try.prog 39 #[.agg #[.slice A2 ps.length c2]] w11 fun e w' => e = .returned (.tuple #[.bool false, .bool true]) ∧ Below w11.heap.size w11 w')
            have K8 := Lib.hid k80
            clear k80
            go_wp2_with fail
            refine (K8.out).mono ?_
            rintro e w12 ⟨rfl, hb12⟩
            have hw12 : Below w11.heap.size w11 w12 := hb12
            have hs12 : w11.heap.size ≤ w12.heap.size := hw12.size
            have hB12 : Below w.heap.size w w12 := hB11.trans (hw12.mono (by omega))
            have H0_12 : RdU w12 w.heap.size (.slice A0 xs0.length c0) xs0 := H0_11.below hw12 (by omega)
            clear H0_11
            have H1_12 : RdU w12 w.heap.size (.slice A1 xs1.length c1) xs1 := H1_11.below hw12 (by omega)
            clear H1_11
            have fb_12 : RdB w12 w1.heap.size (.agg #[.slice A2 ps.length c2]) ps := fb_11.below hw12 (by omega)
            clear fb_11
            have fs_12 : RdI w12 w1.heap.size (.slice A3 sg.length c3) sg := fs_11.below hw12 (by omega)
            clear fs_11
            have fx_12 : RdI w12 w3.heap.size (.slice Ax (readN ps sg).length cx) (waysI (readN ps sg)) := fx_11.below hw12 (by omega)
            clear fx_11
            have qb0_12 := (hw12.cell (p := ⟨w1.heap.size, 0, Option.none⟩) (by show w1.heap.size < _; omega)).trans qb0_11
            clear qb0_11
            clear K8
            have k90 := (by have h := sIsReadOneWay_any ps _ _ w12 fb_12 (by omega); rw [HBK.out, HON.out, show rowV true false = .tuple #[.bool false, .bool true] from rfl] at h; exact h : Calls Try.prog 37 #[.agg #[.slice A2 ps.length c2]] w12 fun e w' => e = .returned (.tuple #[.bool false, .bool true]) ∧ Below w12.heap.size w12 w')
            have K9 := Lib.hid k90
            clear k90
            go_wp2_with fail
            refine (K9.out).mono ?_
            rintro e w13 ⟨rfl, hb13⟩
            have hw13 : Below w12.heap.size w12 w13 := hb13
            have hs13 : w12.heap.size ≤ w13.heap.size := hw13.size
            have hB13 : Below w.heap.size w w13 := hB12.trans (hw13.mono (by omega))
            have H0_13 : RdU w13 w.heap.size (.slice A0 xs0.length c0) xs0 := H0_12.below hw13 (by omega)
            clear H0_12
            have H1_13 : RdU w13 w.heap.size (.slice A1 xs1.length c1) xs1 := H1_12.below hw13 (by omega)
            clear H1_12
            have fb_13 : RdB w13 w1.heap.size (.agg #[.slice A2 ps.length c2]) ps := fb_12.below hw13 (by omega)
            clear fb_12
            have fs_13 : RdI w13 w1.heap.size (.slice A3 sg.length c3) sg := fs_12.below hw13 (by omega)
            clear fs_12
            have fx_13 : RdI w13 w3.heap.size (.slice Ax (readN ps sg).length cx) (waysI (readN ps sg)) := fx_12.below hw13 (by omega)
            clear fx_12
            have qb0_13 := (hw13.cell (p := ⟨w1.heap.size, 0, Option.none⟩) (by show w1.heap.size < _; omega)).trans qb0_12
            clear qb0_12
            clear K9
            clear fb_13 fs_13 fx_13
            clear qb0_13
            go_wp2_with fail
            refine (DrawTextOfPhrases_any xs1 _ w.heap.size w13 H1_13 (by omega)).mono ?_
            rintro e w14 ⟨u5, n5, u6, sh, rfl, hn5, hsl6, hr5, ho6, hb14⟩
            obtain ⟨A5, c5, rfl⟩ := hr5.form
            obtain ⟨qs, hpl5, fc⟩ := hr5.rdb
            subst hpl5
            obtain ⟨A6, c6, rfl, _⟩ := ho6.form
            have ft := ho6.rd
            clear hr5 ho6
            have hw14 : Below w13.heap.size w13 w14 := hb14
            have hs14 : w13.heap.size ≤ w14.heap.size := hw14.size
            have hB14 : Below w.heap.size w w14 := hB13.trans (hw14.mono (by omega))
            have H0_14 : RdU w14 w.heap.size (.slice A0 xs0.length c0) xs0 := H0_13.below hw14 (by omega)
            clear H0_13
            have H1_14 : RdU w14 w.heap.size (.slice A1 xs1.length c1) xs1 := H1_13.below hw14 (by omega)
            clear H1_13
            have hb15 : Below w14.heap.size w14 (w14.alloc (.cells #[.slice A5 qs.length c5] 48)) := (Below.refl _ _).alloc (Nat.le_refl _) _
            have hz15 : (w14.alloc (.cells #[.slice A5 qs.length c5] 48)).heap.size = w14.heap.size + 1 := by simp
            have qc0_15 : (w14.alloc (.cells #[.slice A5 qs.length c5] 48)).cell? ⟨w14.heap.size, 0, Option.none⟩ = some (.slice A5 qs.length c5) := (Blk.new w14 48 #[.slice A5 qs.length c5]).cell 0
            go_wp2_with fail
            generalize w14.alloc (.cells #[.slice A5 qs.length c5] 48) = w15 at hb15 hz15 qc0_15 ⊢
            have hy15 : w14.heap.size + 1 ≤ w15.heap.size := by omega
            clear hz15
            have hw15 : Below w14.heap.size w14 w15 := hb15
            have hs15 : w14.heap.size ≤ w15.heap.size := hw15.size
            have hB15 : Below w.heap.size w w15 := hB14.trans (hw15.mono (by omega))
            have H0_15 : RdU w15 w.heap.size (.slice A0 xs0.length c0) xs0 := H0_14.below hw15 (by omega)
            clear H0_14
            have H1_15 : RdU w15 w.heap.size (.slice A1 xs1.length c1) xs1 := H1_14.below hw15 (by omega)
            clear H1_14
            have fc_15 : RdB w15 w14.heap.size (.agg #[.slice A5 qs.length c5]) qs := fc.below hw15 (by omega)
            clear fc
            have ft_15 : RdI w15 w14.heap.size (.slice A6 sh.length c6) sh := ft.below hw15 (by omega)
            clear ft
            obtain ⟨p9, q9, hT9⟩ := txtsV_form qs sh
            have HT9 := Lib.hid hT9
            clear hT9
            have ka0 := (by have h := TextOfPhrases_any qs sh _ _ _ _ w15 fc_15 ft_15 (by omega) (by omega); rw [HT9.out] at h; exact h : Calls Try.prog 79 #[.agg #[.slice A5 qs.length c5], .slice A6 sh.length c6] w15 fun e w' => e = .returned (.tuple #[.string p9, .bool q9]) ∧ Below w15.heap.size w15 w')
            have KA := Lib.hid ka0
            clear ka0
            go_wp2_with fail
            refine (KA.out).mono ?_
            rintro e w16 ⟨rfl, hb16⟩
            have hw16 : Below w15.heap.size w15 w16 := hb16
            have hs16 : w15.heap.size ≤ w16.heap.size := hw16.size
            have hB16 : Below w.heap.size w w16 := hB15.trans (hw16.mono (by omega))
            have H0_16 : RdU w16 w.heap.size (.slice A0 xs0.length c0) xs0 := H0_15.below hw16 (by omega)
            clear H0_15
            have H1_16 : RdU w16 w.heap.size (.slice A1 xs1.length c1) xs1 := H1_15.below hw16 (by omega)
            clear H1_15
            have fc_16 : RdB w16 w14.heap.size (.agg #[.slice A5 qs.length c5]) qs := fc_15.below hw16 (by omega)
            clear fc_15
            have ft_16 : RdI w16 w14.heap.size (.slice A6 sh.length c6) sh := ft_15.below hw16 (by omega)
            clear ft_15
            have qc0_16 := (hw16.cell (p := ⟨w14.heap.size, 0, Option.none⟩) (by show w14.heap.size < _; omega)).trans qc0_15
            clear qc0_15
            clear KA
            have kb0 := (by have h := sTextOfPhrases_any qs sh _ _ _ _ w16 fc_16 ft_16 (by omega) (by omega); rw [HT9.out] at h; exact h : Calls Try.prog 81 #[.agg #[.slice A5 qs.length c5], .slice A6 sh.length c6] w16 fun e w' => e = .returned (.tuple #[.string p9, .bool q9]) ∧ Below w16.heap.size w16 w')
            have KB := Lib.hid kb0
            clear kb0
            go_wp2_with fail
            refine (KB.out).mono ?_
            rintro e w17 ⟨rfl, hb17⟩
            have hw17 : Below w16.heap.size w16 w17 := hb17
            have hs17 : w16.heap.size ≤ w17.heap.size := hw17.size
            have hB17 : Below w.heap.size w w17 := hB16.trans (hw17.mono (by omega))
            have H0_17 : RdU w17 w.heap.size (.slice A0 xs0.length c0) xs0 := H0_16.below hw17 (by omega)
            clear H0_16
            have H1_17 : RdU w17 w.heap.size (.slice A1 xs1.length c1) xs1 := H1_16.below hw17 (by omega)
            clear H1_16
            have fc_17 : RdB w17 w14.heap.size (.agg #[.slice A5 qs.length c5]) qs := fc_16.below hw17 (by omega)
            clear fc_16
            have ft_17 : RdI w17 w14.heap.size (.slice A6 sh.length c6) sh := ft_16.below hw17 (by omega)
            clear ft_16
            have qc0_17 := (hw17.cell (p := ⟨w14.heap.size, 0, Option.none⟩) (by show w14.heap.size < _; omega)).trans qc0_16
            clear qc0_16
            clear KB
            go_wp2_with fail
            go_ret
            exact ⟨ret_bool (by simp), hB17⟩
  · rw [hbig] at cb
    have CB := Lib.hid cb
    clear cb hbig
    go_enter Try.func11, Try.ntmps11
    go_wp2_with fail
    refine CB.out.mono ?_
    rintro e _ ⟨rfl, rfl⟩
    go_wp2_with fail
    go_ret
    exact ⟨rfl, Below.refl _ _⟩
end Go.Proofs.Ytabiobjcfopakaa.fnReadings
