/- Texts of one claim, joined: VBooksE. -/
import Derived.Deep.DeepCutAuto
import Derived.Deep.CutBlock
import Derived.Test.YtjnkdjokbamibaaGreatDoorP21Books
/- The walk of the law FnBooks. -/
namespace Go.Proofs.YtjnkdjokbamibaaGreatDoor.fnBooks
open Go.ChangeShapes Go.WideShapes Go.ChangeAt Go.RowKit
open Go.ChangeMaps (open_string)
set_option linter.unusedVariables false
set_option maxHeartbeats 20000000 in
set_option maxRecDepth 100000 in
theorem restE : halfC.2.1 := by
  intro xs0 xs1 w A0 c0 hc0 hm0 A1 c1 hc1 hm1 HLW H0 H1 zi1 w1 hb1 A2 c2 ps hn2 hw1 hs1 hB1 w2 hb2 hy2 hw2 hs2 hB2 ok HOK st HST w3 hb3 hw3 hs3 hB3 w4 hb4 hw4 hs4 hB4 w5 t3 ys ht3 hys hb5 A3 c3 px hn3 A4 c4 zi2 hw5 hs5 hB5 w6 hb6 hy6 hw6 hs6 hB6 w7 hb7 hy7 hw7 hs7 hB7 one qa w8 hb8 Aa ca zi3 zi4 hw8 hs8 hB8 w9 hb9 hy9 hw9 hs9 hB9 w10 hb10 Abb cbb zi5 zi6 hw10 hs10 hB10 w11 hb11 hy11 hw11 hs11 hB11 fb_11 qb0_11 w12 s5 hs5s hb12 A5 c5 pu hn5 hw12 hs12 hB12 w13 hb13 hy13 hw13 hs13 hB13 three HTHR qd HQD w14 hb14 Ad cd zi7 zi8 hw14 hs14 hB14 w15 hb15 hy15 hw15 hs15 hB15 w16 hb16 Ae ce zi9 zi10 hw16 hs16 hB16 w17 hb17 hy17 hw17 hs17 hB17 w18 s6 hs6s hb18 A6 c6 pv hn6 hw18 hs18 hB18 w19 hb19 hy19 hw19 hs19 hB19 iv five HFV w20 hb20 hw20 hs20 hB20 w21 hb21 hw21 hs21 hB21 fv_21 q60_21 w22 zs hzs hb22 A7 c7 pw hn7 A8 c8 zi11 hw22 hs22 hB22 w23 hb23 hy23 hw23 hs23 hB23 iw seven HFW w24 hb24 hw24 hs24 hB24 w25 hb25 hw25 hs25 hB25 fw_25 fz_25 q70_25 w26 s9 hs9s hb26 A9 c9 pm hn9 hw26 hs26 hB26 w27 hb27 hy27 hw27 hs27 hB27 nine HNI nl hl40 HNL w28 hb28 Al cl zi12 hw28 hs28 hB28 w29 hb29 Ak ck zi13 fk_29 hw29 hs29 hB29 fm_29 q90_29 w30 tp htp hb30 hw30 hs30 hB30 elv HEL qp HQP w31 hb31 Ap cp zi14 zi15 hw31 hs31 hB31 w32 hb32 hy32 hw32 hs32 hB32 w33 hb33 Ar cr zi16 zi17 hw33 hs33 hB33 w34 hb34 hy34 hw34 hs34 hB34 w35 tn htn hb35 hw35 hs35 hB35 w36 hb36 hw36 hs36 hB36 w37 hb37 hw37 hs37 hB37 hg2_37 w38 hb38 hw38 hs38 hB38 w39 hb39 hw39 hs39 hB39 pn HPN w40 hb40 hw40 hs40 hB40 wc41 u4 u46 u47 u48 u49 zj1 zj2 zj3 zj4 zj5 zj6 zj7 zj8 zj9 zj10 zj11 zj12 zj13 zj14 zj15 zj16 zj17 zj18 zj19 zj20 zj21 zj22 zj23 zj24 zj25 zj26 zj27 zj28 zj29 zj30 zj31 zj32 zj33 zj34 zj35 zj36 zj37 zj38 zj39 zj40 zj41 zj42 zj43 zj44 zj45 zj46 zj47 zj48 zj49 zj50 zj51 zj52 zj53 zj54 zj55 zj56 zj57 zj58 zj59 zj60 zj61 zj62 zj63 zj64 zj65 zj66 zj67 zj68 zj69 zj70 zj71 zj72 zj73 zj74 zj75 zj76 zj77 zj78 zj79 zj80 zj81 zj82 zj83 zj84 zj85 zj86 zj87 zj88 zj89 zj90 zj91 zj92 zj93 zj94 zj95 zj96 zj97 zj98 zj99 zj100 zj101 zj102 zj103 zj104 zj105 zj106 zj107 zj108 zj109 zj110 zj111 zj112 zj113 zj114 zj115 zj116 zj117 zj118 zj119 zj120 zj121 zj122 zj123 zj124 zj125 zj126 zj127 zj128 zj129 zj130 zj131 zj132 zj133 zj134 zj135 zj136 zj137 zj138 zj139 zj140 zj141 zj142 zj143 zj144 zj145 zj146 zj147 zj148 zj149 zj150 zj151 zj152 zj153 zj154 zj155 zj156 zj157 zj158 zj159 zj160 zj161 zj162 zj163 zj164 zj165 zj166 zj167 zj168 zj169 zj170 zj171 zj172 zj173 zj174 zj175 zj176 zj177 zj178 zj179 zj180 zj181 zj182 zj183 zj184 zj185 zj186 zj187 zj188 zj189 zj190 zj191 zj192 zj193 zj194 zj195 zj196 zj197 zj198 zj199 zj200 zj201 zj202 zj203 zj204 zj205 zj206 zj207 zj208 zj209 zj210 zj211 zj212 zj213 zj214 zj215 zj216 zj217 zj218 zj219 zj220 zj221 zj222 zj223 zj224 zj225 zj226 zj227 zj228 zj229 zj230 zj231 zj232 zj233 zj234 zj235 zj236 zj237 zj238 zj239 zj240 zj241 zj242 zj243 zj244 zj245 zj246 zj247 zj248 zj249 zj250 zj251 zj252 zj253 zj254 zj255 zj256 zj257 zj258 zj259 zj260 zj261 zj262 zj263 zj264 zj265 zj266 zj267 zj268 zj269 zj270 zj271 zj272 zj273 zj274 zj275 u329 zj276 zj277 zj278 zj279 zj280 zj281 zj282 zj283 zj284 zj285 zj286 zj287 zj288 zj289 zj290 zj291 zj292 zj293 zj294 zj295 zj296 zj297 zj298 zj299 zj300 zj301 zj302 zj303 zj304 zj305 zj306 zj307 zj308 zj309 zj310 zj311 zj312 zj313 zj314 hcut hb41 hw41 hs41 hB41 zj315 zj316 zj317 zj318 wcb u54 u55 u56 u57 u58 u59 u60 u61 u62 u63 u64 u65 u66 u67 u68 u69 u70 u71 u72 u73 u74 u75 u76 u77 u78 u79 u80 u81 u82 u83 u84 u85 u86 u87 u88 u89 u90 u91 u92 u93 u94 u95 u96 u97 u98 u99 u100 u101 u102 u103 u104 u105 u106 u107 u108 u109 u110 u111 u112 u113 u114 u115 u116 u117 u118 u119 u120 u121 u122 u123 u124 u125 u126 u127 u128 u129 u130 u131 u132 u133 u134 u135 u136 u137 u138 u139 u140 u141 u142 u143 u144 u145 u146 u147 u148 u149 u150 u151 u152 u153 u154 u155 u156 u157 u158 u159 u160 u161 u162 u163 u164 u165 u166 u167 u168 u169 u170 u171 u172 u173 u174 u175 u176 u177 u178 u179 u180 u181 u182 u183 u184 u185 u186 u187 u188 u189 u190 u191 u192 u193 u194 u195 u196 u197 u198 u199 u200 u201 u202 u203 u204 u205 u206 u207 u208 u209 u210 u211 u212 u213 u214 u215 u216 u217 u218 u219 u220 u221 u222 u223 u224 u225 u226 u227 u228 u229 u230 u231 u232 u233 u234 u235 u236 u237 u238 u239 u240 u241 u242 u243 u244 u245 u246 u247 u248 u249 u250 u251 u252 u253 u254 u255 u256 u257 u258 u259 u260 u261 u262 u263 u264 u265 u266 u267 u268 u269 u270 u271 u272 u273 u274 u275 u276 u277 u278 u279 u280 u281 u282 u283 u284 u285 u286 u287 u288 u289 u290 u291 u292 u293 u294 u295 u296 u297 u298 u299 u300 u301 u302 u303 u304 u305 u306 u307 u308 u309 u310 u311 u312 u313 u314 u315 u316 u317 u318 u319 u320 u321 u322 u323 u324 u325 u326 u327 u328 u330 u331 u335 u336 u337 u338 u339 u340 u341 u342 u343 u344 u345 u346 u347 u348 u349 u350 u351 u352 u353 u354 u355 u356 u357 u358 u359 u360 u361 u362 u363 u364 u365 u366 u367 u368 u369 u370 u371 hb42 hw42 hs42 hB42 hg1_42 hg3_42 hg4_42 hg5_42
  clear fv_21
  clear fw_25
  clear fz_25
  clear q60_21
  clear q70_25
  clear HFV HFW
  go_upto_if 330 with fail
  go_cut [50] (fun s wx => Hid (Below wcb.heap.size wcb wx))
  case first => as_aux_lemma =>
    clear fb_11
    clear qb0_11
    cases nine
    · go_wp2_with fail
      go_meet
      exact Below.refl _ _
    · have q90_L := ((hg5_42.cell (p := ⟨w26.heap.size, 0, Option.none⟩) (by show w26.heap.size < _; omega)).trans q90_29)
      go_wp2_with fail
      go_loopw [334] (fun i wr => ∃ k : Nat, k ≤ pm.length ∧ i = .int .i64 (k : Int) ∧ Hid (Below wcb.heap.size wcb wr)) (fun i _ => pm.length - (intOf i).toNat)
      case atStart => exact ⟨0, Nat.zero_le _, rfl, Below.refl _ _⟩
      case round =>
        obtain ⟨k, hk, rfl, HBL⟩ := hrel
        have hb43 : Below wcb.heap.size wcb wr := HBL.out
        clear HBL
        have hw43 : Below wcb.heap.size wcb wr := hb43
        have hs43 : wcb.heap.size ≤ wr.heap.size := hw43.size
        have hB43 : Below w.heap.size w wr := hB42.trans (hw43.mono (by omega))
        have hg5_43 : Below w29.heap.size w29 wr := hg5_42.trans (hw43.mono (by omega))
        clear hg5_42
        by_cases hlt : k < pm.length
        · obtain ⟨bm, om, dm, am, tmx, ymx, hv, hblm, hxm, hcem, hcsm, hrsm, _⟩ := (by obtain ⟨_, hh, hq⟩ := (fm_29.below hg5_43 (by omega)); cases hh; exact hq : RdPS wr w26.heap.size (.slice A9 pm.length c9) pm).at_ hlt
          injection hv with hv1 hv2 hv3; subst hv1; clear hv2 hv3
          obtain ⟨Am2, cm2, rfl, _, _⟩ := Rd.form hrsm
          have hbt := beg_told (s := s9) HNI.out hxm
          rw [HNL.out] at hbt
          clear hxm hrsm
          have hbx : Below wr.heap.size wr (wr.alloc (.cells #[.string tmx, .slice Am2 ymx.length cm2] 45)) := (Below.refl _ _).alloc (Nat.le_refl _) _
          have hxc := (Blk.new wr 45 #[.string tmx, .slice Am2 ymx.length cm2]).cell 0
          have HL := Lib.hid (RdI.below (fk_29.below hg5_43 (by omega)) hbx (by omega))
          have HBX := Lib.hid (hw43.trans (hbx.mono (by omega)))
          clear hbx
          by_cases hle : s9.size ≤ tmx.size
          · have hled : decide (s9.size ≤ tmx.size) = true := decide_eq_true hle
            cases hcmp : ((tmx.extract 0 s9.size).toList == s9.toList)
            · rw [pre_eq (b := false) hle hcmp] at hbt
              have CH : Hid (∀ wx, RdI wx w29.heap.size (.slice Ak nl.length ck) nl → Calls Tryz.prog 48 #[.slice Ak nl.length ck, .int .i64 (k : Int)] wx fun e w' => e = .returned (.bool false) ∧ ∃ j, w' = wx.drewN j) := fun wx h => by have h2 := qHas_quiet nl (k : Int) _ _ wx h; rw [hbt] at h2; exact h2
              clear hbt
              go_wp2_with fail
              go_quiet ((go_at_call 48; exact Calls.quiet_of (CH.out _ (by exact HL.out))))
              go_wp2_with fail
              go_roundw
              case rel => exact ⟨k + 1, by omega, by go_num, HBX.out.trans (bel_drewN _ _ _)⟩
              case measure => (simp [intOf]; try omega)
            · rw [pre_eq (b := true) hle hcmp] at hbt
              have CH : Hid (∀ wx, RdI wx w29.heap.size (.slice Ak nl.length ck) nl → Calls Tryz.prog 48 #[.slice Ak nl.length ck, .int .i64 (k : Int)] wx fun e w' => e = .returned (.bool true) ∧ ∃ j, w' = wx.drewN j) := fun wx h => by have h2 := qHas_quiet nl (k : Int) _ _ wx h; rw [hbt] at h2; exact h2
              clear hbt
              go_wp2_with fail
              go_quiet ((go_at_call 48; exact Calls.quiet_of (CH.out _ (by exact HL.out))))
              go_wp2_with fail
              go_roundw
              case rel => exact ⟨k + 1, by omega, by go_num, HBX.out.trans (bel_drewN _ _ _)⟩
              case measure => (simp [intOf]; try omega)
          · have hled : decide (s9.size ≤ tmx.size) = false := decide_eq_false hle
            rw [pre_no hle] at hbt
            have CH : Hid (∀ wx, RdI wx w29.heap.size (.slice Ak nl.length ck) nl → Calls Tryz.prog 48 #[.slice Ak nl.length ck, .int .i64 (k : Int)] wx fun e w' => e = .returned (.bool false) ∧ ∃ j, w' = wx.drewN j) := fun wx h => by have h2 := qHas_quiet nl (k : Int) _ _ wx h; rw [hbt] at h2; exact h2
            clear hbt
            go_wp2_with fail
            go_quiet ((go_at_call 48; exact Calls.quiet_of (CH.out _ (by exact HL.out))))
            go_wp2_with fail
            go_roundw
            case rel => exact ⟨k + 1, by omega, by go_num, HBX.out.trans (bel_drewN _ _ _)⟩
            case measure => (simp [intOf]; try omega)
        · go_wp2_with fail
          go_meet
          exact hw43
  case rest => as_aux_lemma =>
    have HBC := hcut
    rename World => wc1
    have hb43 := HBC.out
    clear HBC
    have hw43 : Below wcb.heap.size wcb wc1 := hb43
    have hs43 : wcb.heap.size ≤ wc1.heap.size := hw43.size
    have hB43 : Below w.heap.size w wc1 := hB42.trans (hw43.mono (by omega))
    have hg1_43 : Below w11.heap.size w11 wc1 := hg1_42.trans (hw43.mono (by omega))
    clear hg1_42
    have hg5_43 : Below w29.heap.size w29 wc1 := hg5_42.trans (hw43.mono (by omega))
    clear hg5_42
    clear fm_29
    clear fk_29
    clear q90_29
    clear HNI HNL
    cases ok
    · go_wp2_with fail
      go_ret
      exact ⟨rfl, hB43⟩
    · have hbo := book_told HOK.out (HST.out.2 rfl)
      have HBO := Lib.hid hbo.1
      have hss := hbo.2
      clear hbo
      have km0 := (by have h := (show Calls Tryz.prog 40 #[.string st] wc1 (RetB ((bookO st.data.toList).getD []) (bookO st.data.toList).isSome wc1) from (ParseBook_any st hss wc1 (HLW.out.below hB43)).mono (fun _ _ h => owB_of h)); rw [HBO.out] at h; exact h : Calls Tryz.prog 40 #[.string st] wc1 (RetB ps true wc1))
      have KM := Lib.hid km0
      clear km0
      go_wp2_with fail
      refine (KM.out).mono ?_
      rintro e w44 ⟨j, rfl, fj, hb44⟩
      obtain ⟨_, rfl, hgj⟩ := fj
      obtain ⟨Aj, cj, rfl, _, _⟩ := hgj.rd.form
      have fj_44 : OwB w44 wc1.heap.size w44.heap.size (.agg #[.slice Aj (ps).length cj]) ps := ⟨_, rfl, hgj⟩
      clear hgj
      have hw44 : Below wc1.heap.size wc1 w44 := hb44
      have hs44 : wc1.heap.size ≤ w44.heap.size := hw44.size
      have hB44 : Below w.heap.size w w44 := hB43.trans (hw44.mono (by omega))
      have hg1_44 : Below w11.heap.size w11 w44 := hg1_43.trans (hw44.mono (by omega))
      clear hg1_43
      clear KM
      have hb45 : Below w44.heap.size w44 (w44.alloc (.cells #[.slice Aj (ps).length cj] 41)) := (Below.refl _ _).alloc (Nat.le_refl _) _
      have hz45 : (w44.alloc (.cells #[.slice Aj (ps).length cj] 41)).heap.size = w44.heap.size + 1 := by simp
      have qj0_45 : (w44.alloc (.cells #[.slice Aj (ps).length cj] 41)).cell? ⟨w44.heap.size, 0, Option.none⟩ = some (.slice Aj (ps).length cj) := (Blk.new w44 41 #[.slice Aj (ps).length cj]).cell 0
      have qb0_N := (hb45.cell (p := ⟨w1.heap.size, 0, Option.none⟩) (by show w1.heap.size < _; omega)).trans ((hg1_44.cell (p := ⟨w1.heap.size, 0, Option.none⟩) (by show w1.heap.size < _; omega)).trans qb0_11)
      go_wp2_with fail
      generalize w44.alloc (.cells #[.slice Aj (ps).length cj] 41) = w45 at hb45 hz45 qj0_45 qb0_N ⊢
      have hy45 : w44.heap.size + 1 ≤ w45.heap.size := by omega
      clear hz45
      clear qb0_N
      have hw45 : Below w44.heap.size w44 w45 := hb45
      have hs45 : w44.heap.size ≤ w45.heap.size := hw45.size
      have hB45 : Below w.heap.size w w45 := hB44.trans (hw45.mono (by omega))
      have fj_45 : OwB w45 wc1.heap.size w44.heap.size (.agg #[.slice Aj (ps).length cj]) ps := fj_44.below hw45 (by omega)
      clear fj_44
      have hg1_45 : Below w11.heap.size w11 w45 := hg1_44.trans (hw45.mono (by omega))
      clear hg1_44
      go_wp2_with fail
      refine (qBook_sameB _ _ _ _ _ _ fj_45.rd (fb_11.below hg1_45 (by omega)) (by omega) (by omega)).mono ?_
      rintro e w46 ⟨rfl, hb46⟩
      have hw46 : Below w45.heap.size w45 w46 := hb46
      have hs46 : w45.heap.size ≤ w46.heap.size := hw46.size
      have hB46 : Below w.heap.size w w46 := hB45.trans (hw46.mono (by omega))
      have fj_46 : OwB w46 wc1.heap.size w44.heap.size (.agg #[.slice Aj (ps).length cj]) ps := fj_45.below hw46 (by omega)
      clear fj_45
      have qj0_46 := (hw46.cell (p := ⟨w44.heap.size, 0, Option.none⟩) (by show w44.heap.size < _; omega)).trans qj0_45
      clear qj0_45
      have hg1_46 : Below w11.heap.size w11 w46 := hg1_45.trans (hw46.mono (by omega))
      clear hg1_45
      go_wp2_with fail
      go_ret
      exact ⟨ret_bool (by simp), hB46⟩
end Go.Proofs.YtjnkdjokbamibaaGreatDoor.fnBooks
