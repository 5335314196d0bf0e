/- Texts of one claim, joined: VBooksB. -/
import Derived.Deep.DeepCutAuto
import Derived.Deep.CutBlock
import Derived.Test.YtjnkdjokbamibaaGreatDoorP19Books
/- The walk of the law FnBooks. -/
namespace Go.Proofs.YtjnkdjokbamibaaGreatDoor.fnBooks
open Go.ChangeShapes Go.WideShapes Go.ChangeAt Go.RowKit
open Go.ChangeMaps (open_string)
set_option linter.unusedVariables false
set_option maxHeartbeats 20000000 in
set_option maxRecDepth 100000 in
theorem restB : halfA.1 := by
  intro xs0 xs1 w A0 c0 hc0 hm0 A1 c1 hc1 hm1 HLW H0 H1 zi1 w1 hb1 A2 c2 ps hn2 hw1 hs1 hB1 w2 hb2 hy2 hw2 hs2 hB2 ok HOK st HST w3 hb3 hw3 hs3 hB3 w4 hb4 hw4 hs4 hB4 w5 t3 ys ht3 hys hb5 A3 c3 px hn3 A4 c4 zi2 hw5 hs5 hB5 w6 hb6 hy6 hw6 hs6 hB6 w7 hb7 hy7 hw7 hs7 hB7 one HONE qa HQA w8 hb8 Aa ca zi3 zi4 hw8 hs8 hB8 w9 hb9 hy9 hw9 hs9 hB9 w10 hb10 Abb cbb zi5 zi6 hw10 hs10 hB10 w11 hb11 qbb0_11 hy11 hw11 hs11 hB11 fb_11 fx_11 fy_11 fa_11 fbb_11 qb0_11 qx0_11 qy0_11 qy1_11 qa0_11 w12 s5 hs5s hb12 A5 c5 pu hn5 hw12 hs12 hB12 w13 hb13 hy13 hw13 hs13 hB13 three HTHR qd HQD w14 hb14 Ad cd zi7 zi8 hw14 hs14 hB14 w15 hb15 hy15 hw15 hs15 hB15 w16 hb16 Ae ce zi9 zi10 hw16 hs16 hB16 w17 hb17 hy17 hw17 hs17 hB17 w18 s6 hs6s hb18 A6 c6 pv hn6 hw18 hs18 hB18 w19 hb19 hy19 hw19 hs19 hB19 iv five HFV w20 hb20 hw20 hs20 hB20 w21 hb21 hw21 hs21 hB21 fv_21 q60_21 w22 zs hzs hb22 A7 c7 pw hn7 A8 c8 zi11 hw22 hs22 hB22 w23 hb23 hy23 hw23 hs23 hB23 iw seven HFW w24 hb24 hw24 hs24 hB24 w25 hb25 hw25 hs25 hB25 fw_25 fz_25 q70_25 w26 s9 hs9s hb26 A9 c9 pm hn9 hw26 hs26 hB26 w27 hb27 hy27 hw27 hs27 hB27 nine HNI nl hl40 HNL w28 hb28 Al cl zi12 hw28 hs28 hB28 w29 hb29 Ak ck zi13 fk_29 hw29 hs29 hB29 fm_29 q90_29 w30 tp htp hb30 hw30 hs30 hB30 elv HEL qp HQP w31 hb31 Ap cp zi14 zi15 hw31 hs31 hB31 w32 hb32 hy32 hw32 hs32 hB32 w33 hb33 Ar cr zi16 zi17 hw33 hs33 hB33 w34 hb34 hy34 hw34 hs34 hB34 w35 tn htn hb35 hw35 hs35 hB35 w36 hb36 hw36 hs36 hB36 w37 hb37 hw37 hs37 hB37 hg2_37 w38 hb38 hw38 hs38 hB38 w39 hb39 hw39 hs39 hB39 pn HPN w40 hb40 hw40 hs40 hB40 hg1_40 hg3_40 hg4_40 hg5_40 zi18 zi19 zi20 zi21 zi22 zi23
  cases one
  · go_wp2_with fail
    go_meet
    exact Below.refl _ _
  · clear fv_21
    clear fw_25
    clear fz_25
    clear fm_29
    clear fk_29
    clear fb_11
    clear fy_11
    clear q60_21
    clear q70_25
    clear q90_29
    clear qb0_11
    clear qy1_11
    obtain ⟨ia, hqb, hix, hqi, hdr⟩ := add_told HONE.out
    rw [HQA.out] at hqb hix hqi hdr
    have HDR : Hid (dropO qa t3 = some px) := hdr
    have hil := txtIx_lt hix
    have hq40 := bookB_len hqb
    have HFA : Hid (findV (bookB qa) (txtIx qa t3) = .tuple #[.int .i64 (ia : Int), .bool true]) := by show _ = _; rw [hqb, show txtIx qa t3 = some ia from hix]; rfl
    have HQI := Lib.hid hqi
    clear hqb hix hqi hdr
    have qa0_L := ((hg1_40.cell (p := ⟨w8.heap.size, 0, Option.none⟩) (by show w8.heap.size < _; omega)).trans qa0_11)
    have qy0_L := ((hg1_40.cell (p := ⟨w6.heap.size, 0, Option.none⟩) (by show w6.heap.size < _; omega)).trans qy0_11)
    have kj0 := (by have h := dropB_any qa t3 _ _ w40 (by unfold maxLen; omega) (fa_11.below hg1_40 (by omega)).rd (by omega); rw [HDR.out] at h; exact h : Calls Tryz.prog 28 #[.agg #[.slice Aa qa.length ca], .string t3] w40 (RetB px true w40))
    have KJ := Lib.hid kj0
    clear kj0
    go_wp2_with fail
    refine (KJ.out).mono ?_
    rintro e w41 ⟨h, rfl, fh, hb41⟩
    obtain ⟨_, rfl, hgh⟩ := fh
    obtain ⟨Ah, ch, rfl, _, _⟩ := hgh.rd.form
    have fh_41 : OwB w41 w40.heap.size w41.heap.size (.agg #[.slice Ah (px).length ch]) px := ⟨_, rfl, hgh⟩
    clear hgh
    have hw41 : Below w40.heap.size w40 w41 := hb41
    have hs41 : w40.heap.size ≤ w41.heap.size := hw41.size
    have hB41 : Below w.heap.size w w41 := hB40.trans (hw41.mono (by omega))
    have hg1_41 : Below w11.heap.size w11 w41 := hg1_40.trans (hw41.mono (by omega))
    clear hg1_40
    clear KJ
    have hb42 : Below w41.heap.size w41 (w41.alloc (.cells #[.slice Ah (px).length ch] 41)) := (Below.refl _ _).alloc (Nat.le_refl _) _
    have hz42 : (w41.alloc (.cells #[.slice Ah (px).length ch] 41)).heap.size = w41.heap.size + 1 := by simp
    have qh0_42 : (w41.alloc (.cells #[.slice Ah (px).length ch] 41)).cell? ⟨w41.heap.size, 0, Option.none⟩ = some (.slice Ah (px).length ch) := (Blk.new w41 41 #[.slice Ah (px).length ch]).cell 0
    have qa0_N := (hb42.cell (p := ⟨w8.heap.size, 0, Option.none⟩) (by show w8.heap.size < _; omega)).trans ((hg1_41.cell (p := ⟨w8.heap.size, 0, Option.none⟩) (by show w8.heap.size < _; omega)).trans qa0_11)
    have qy0_N := (hb42.cell (p := ⟨w6.heap.size, 0, Option.none⟩) (by show w6.heap.size < _; omega)).trans ((hg1_41.cell (p := ⟨w6.heap.size, 0, Option.none⟩) (by show w6.heap.size < _; omega)).trans qy0_11)
    go_wp2_with fail
    generalize w41.alloc (.cells #[.slice Ah (px).length ch] 41) = w42 at hb42 hz42 qh0_42 qa0_N qy0_N ⊢
    have hy42 : w41.heap.size + 1 ≤ w42.heap.size := by omega
    clear hz42
    clear qa0_N
    clear qy0_N
    have hw42 : Below w41.heap.size w41 w42 := hb42
    have hs42 : w41.heap.size ≤ w42.heap.size := hw42.size
    have hB42 : Below w.heap.size w w42 := hB41.trans (hw42.mono (by omega))
    have fh_42 : OwB w42 w40.heap.size w41.heap.size (.agg #[.slice Ah (px).length ch]) px := fh_41.below hw42 (by omega)
    clear fh_41
    have hg1_42 : Below w11.heap.size w11 w42 := hg1_41.trans (hw42.mono (by omega))
    clear hg1_41
    clear qa0_L
    clear qy0_L
    have kl0 := (by have h := FindPhrase_any qa t3 _ _ w42 (by unfold maxLen; omega) (fa_11.below hg1_42 (by omega)).rd (by omega); rw [HFA.out] at h; exact h : Calls Tryz.prog 31 #[.agg #[.slice Aa qa.length ca], .string t3] w42 fun e w' => e = .returned (.tuple #[.int .i64 (ia : Int), .bool true]) ∧ Below w42.heap.size w42 w')
    have KL := Lib.hid kl0
    clear kl0
    go_wp2_with fail
    refine (KL.out).mono ?_
    rintro e w43 ⟨rfl, hb43⟩
    have hw43 : Below w42.heap.size w42 w43 := hb43
    have hs43 : w42.heap.size ≤ w43.heap.size := hw43.size
    have hB43 : Below w.heap.size w w43 := hB42.trans (hw43.mono (by omega))
    have fh_43 : OwB w43 w40.heap.size w41.heap.size (.agg #[.slice Ah (px).length ch]) px := fh_42.below hw43 (by omega)
    clear fh_42
    have qh0_43 := (hw43.cell (p := ⟨w41.heap.size, 0, Option.none⟩) (by show w41.heap.size < _; omega)).trans qh0_42
    clear qh0_42
    have hg1_43 : Below w11.heap.size w11 w43 := hg1_42.trans (hw43.mono (by omega))
    clear hg1_42
    clear KL
    go_wp2_with fail
    obtain ⟨bq, oq, dq, aq, tqx, yqx, hv, hblq, hxq, hceq, hcsq, hrsq, _⟩ := (by obtain ⟨_, hh, hq⟩ := (fbb_11.below hg1_43 (by omega)).rd; cases hh; exact hq : RdPS w43 w10.heap.size (.slice Abb qa.length cbb) qa).at_ hil
    injection hv with hv1 hv2 hv3; subst hv1; clear hv2 hv3
    rw [HQI.out] at hxq; cases hxq
    have hd1 : decide ((ia : Int) < 0) = false := decide_eq_false (by omega)
    have hd2 : decide (qa.length ≤ ia) = false := decide_eq_false (by omega)
    have l1 := later_cell (B := w43.heap.size) qh0_43 (by show w41.heap.size < _; omega)
    have l2 := later_cell (B := w43.heap.size) ((hg1_43.cell (p := ⟨w5.heap.size, 0, Option.none⟩) (by show w5.heap.size < _; omega)).trans qx0_11) (by show w5.heap.size < _; omega)
    have l3 := later_cell (B := w43.heap.size) ((hg1_43.cell (p := ⟨w10.heap.size, 0, Option.none⟩) (by show w10.heap.size < _; omega)).trans qbb0_11) (by show w10.heap.size < _; omega)
    have l4 := later_cell (B := w43.heap.size) ((hg1_43.cell (p := ⟨w6.heap.size, 0, Option.none⟩) (by show w6.heap.size < _; omega)).trans qy0_11) (by show w6.heap.size < _; omega)
    have l5 := later_cell (B := w43.heap.size) hceq (by show bq < _; omega)
    have CT : Hid (∀ x : LaterW w43.heap.size w43, Calls Tryz.prog 43 #[.agg #[.slice Ah px.length ch], .agg #[.slice A3 px.length c3]] x.val fun e w' => e = .returned (.bool true) ∧ Below x.val.heap.size x.val w') := fun x => qBook_sameB px _ _ _ _ x.val ((fh_43.rd).below x.bel (by omega)) (((fx_11.below hg1_43 (by omega))).below x.bel (by omega)) (by have := x.bel.size; omega) (by have := x.bel.size; omega)
    clear hceq hcsq hrsq
    refine wp_region_later (w43.heap.size) (by kernel_rfl) (by kernel_rfl) ?_; (repeat (go_big_quiet_step ((go_at_call 43; exact later_of (Nat.le_refl _) (CT.out _))))); refine later_nil ?_; intro w2 hb2
    rename World => wl1
    have hb44 := hb2
    clear l1 l2 l3 l4 l5
    clear fa_11
    clear fh_43
    clear fx_11
    clear fbb_11
    clear qh0_43
    clear qx0_11
    clear qbb0_11
    clear qy0_11
    clear qa0_11
    have hw44 : Below w43.heap.size w43 wl1 := hb44
    have hs44 : w43.heap.size ≤ wl1.heap.size := hw44.size
    have hB44 : Below w.heap.size w wl1 := hB43.trans (hw44.mono (by omega))
    go_wp2_with fail
    go_meet
    exact (((hw41).trans (hw42.mono (by omega))).trans (hw43.mono (by omega))).trans (hw44.mono (by omega))
end Go.Proofs.YtjnkdjokbamibaaGreatDoor.fnBooks
