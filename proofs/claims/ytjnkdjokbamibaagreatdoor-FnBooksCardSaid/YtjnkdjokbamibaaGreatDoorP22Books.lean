/- Texts of one claim, joined: VBooksD. -/
import Derived.Deep.DeepCutAuto
import Derived.Deep.CutBlock
import Derived.Test.YtjnkdjokbamibaaGreatDoorP21Books
/- The walk of the law FnBooks. -/
namespace Go.Proofs.YtjnkdjokbamibaaGreatDoor.fnBooks
open Go.ChangeShapes Go.WideShapes Go.ChangeAt Go.RowKit
open Go.ChangeMaps (open_string)
set_option linter.unusedVariables false
set_option maxHeartbeats 20000000 in
set_option maxRecDepth 100000 in
theorem restD : halfC.1 := by
  intro xs0 xs1 w A0 c0 hc0 hm0 A1 c1 hc1 hm1 HLW H0 H1 zi1 w1 hb1 A2 c2 ps hn2 hw1 hs1 hB1 w2 hb2 hy2 hw2 hs2 hB2 ok HOK st HST w3 hb3 hw3 hs3 hB3 w4 hb4 hw4 hs4 hB4 w5 t3 ys ht3 hys hb5 A3 c3 px hn3 A4 c4 zi2 hw5 hs5 hB5 w6 hb6 hy6 hw6 hs6 hB6 w7 hb7 hy7 hw7 hs7 hB7 one qa w8 hb8 Aa ca zi3 zi4 hw8 hs8 hB8 w9 hb9 hy9 hw9 hs9 hB9 w10 hb10 Abb cbb zi5 zi6 hw10 hs10 hB10 w11 hb11 hy11 hw11 hs11 hB11 fb_11 qb0_11 w12 s5 hs5s hb12 A5 c5 pu hn5 hw12 hs12 hB12 w13 hb13 hy13 hw13 hs13 hB13 three HTHR qd HQD w14 hb14 Ad cd zi7 zi8 hw14 hs14 hB14 w15 hb15 hy15 hw15 hs15 hB15 w16 hb16 Ae ce zi9 zi10 hw16 hs16 hB16 w17 hb17 hy17 hw17 hs17 hB17 w18 s6 hs6s hb18 A6 c6 pv hn6 hw18 hs18 hB18 w19 hb19 hy19 hw19 hs19 hB19 iv five HFV w20 hb20 hw20 hs20 hB20 w21 hb21 hw21 hs21 hB21 fv_21 q60_21 w22 zs hzs hb22 A7 c7 pw hn7 A8 c8 zi11 hw22 hs22 hB22 w23 hb23 hy23 hw23 hs23 hB23 iw seven HFW w24 hb24 hw24 hs24 hB24 w25 hb25 hw25 hs25 hB25 fw_25 fz_25 q70_25 w26 s9 hs9s hb26 A9 c9 pm hn9 hw26 hs26 hB26 w27 hb27 hy27 hw27 hs27 hB27 nine HNI nl hl40 HNL w28 hb28 Al cl zi12 hw28 hs28 hB28 w29 hb29 Ak ck zi13 fk_29 hw29 hs29 hB29 fm_29 q90_29 w30 tp htp hb30 hw30 hs30 hB30 elv HEL qp HQP w31 hb31 Ap cp zi14 zi15 hw31 hs31 hB31 w32 hb32 hy32 hw32 hs32 hB32 w33 hb33 Ar cr zi16 zi17 hw33 hs33 hB33 w34 hb34 hy34 hw34 hs34 hB34 w35 tn htn hb35 hw35 hs35 hB35 w36 hb36 hw36 hs36 hB36 w37 hb37 hw37 hs37 hB37 hg2_37 w38 hb38 hw38 hs38 hB38 w39 hb39 hw39 hs39 hB39 pn HPN w40 hb40 hw40 hs40 hB40 wc41 u4 u46 u47 u48 u49 u54 u55 u56 u57 u58 u59 u60 u61 u62 u63 u64 u65 u66 u67 u68 u69 u70 u71 u72 u73 u74 u75 u76 u77 u78 u79 u80 u81 u82 u83 u84 u85 u86 u87 u88 u89 u90 u91 u92 u93 u94 u95 u96 u97 u98 u99 u100 u101 u102 u103 u104 u105 u106 u107 u108 u109 u110 u111 u112 u113 u114 u115 u116 u117 u118 u119 u120 u121 u122 u123 u124 u125 u126 u127 u128 u129 u130 u131 u132 u133 u134 u135 u136 u137 u138 u139 u140 u141 u142 u143 u144 u145 u146 u147 u148 u149 u150 u151 u152 u153 u154 u155 u156 u157 u158 u159 u160 u161 u162 u163 u164 u165 u166 u167 u168 u169 u170 u171 u172 u173 u174 u175 u176 u177 u178 u179 u180 u181 u182 u183 u184 u185 u186 u187 u188 u189 u190 u191 u192 u193 u194 u195 u196 u197 u198 u199 u200 u201 u202 u203 u204 u205 u206 u207 u208 u209 u210 u211 u212 u213 u214 u215 u216 u217 u218 u219 u220 u221 u222 u223 u224 u225 u226 u227 u228 u229 u230 u231 u232 u233 u234 u235 u236 u237 u238 u239 u240 u241 u242 u243 u244 u245 u246 u247 u248 u249 u250 u251 u252 u253 u254 u255 u256 u257 u258 u259 u260 u261 u262 u263 u264 u265 u266 u267 u268 u269 u270 u271 u272 u273 u274 u275 u276 u277 u278 u279 u280 u281 u282 u283 u284 u285 u286 u287 u288 u289 u290 u291 u292 u293 u294 u295 u296 u297 u298 u299 u300 u301 u302 u303 u304 u305 u306 u307 u308 u309 u310 u311 u312 u313 u314 u315 u316 u317 u318 u319 u320 u321 u322 u323 u324 u325 u326 u327 u328 u329 u330 u331 u335 u336 u337 u338 u339 u340 u341 u342 u343 u344 u345 u346 u347 u348 u349 u350 u351 u352 u353 u354 u355 u356 u357 u358 u359 u360 u361 u362 u363 u364 u365 u366 u367 u368 u369 u370 u371 hcut hb41 hw41 hs41 hB41 hg1_41 hg3_41 hg4_41 hg5_41 zj1 zj2 zj3 zj4 zj5 zj6 zj7 zj8
  clear fm_29
  clear fk_29
  clear fb_11
  clear q90_29
  clear qb0_11
  have q60_L := ((hg3_41.cell (p := ⟨w18.heap.size, 0, Option.none⟩) (by show w18.heap.size < _; omega)).trans q60_21)
  have q70_L := ((hg4_41.cell (p := ⟨w22.heap.size, 0, Option.none⟩) (by show w22.heap.size < _; omega)).trans q70_25)
  cases five
  · cases seven
    · go_wp2_with fail
      go_meet
      exact ⟨rfl, Below.refl _ _⟩
    · obtain ⟨k7, p7, h7, hp7, he7⟩ := HFW.out.2 rfl
      subst h7
      have hk7 := (List.getElem?_eq_some_iff.1 hp7).1
      obtain ⟨bw, ow, dw, aw, twx, ywx, hv, hblw, hxw, hcew, hcsw, hrsw, _⟩ := (by obtain ⟨_, hh, hq⟩ := (fw_25.below hg4_41 (by omega)); cases hh; exact hq : RdPS wc41 w22.heap.size (.slice A7 pw.length c7) pw).at_ hk7
      injection hv with hv1 hv2 hv3; subst hv1; clear hv2 hv3
      rw [hp7] at hxw; cases hxw
      have he7b : zs = ywx := he7.symm
      clear he7
      subst he7b
      obtain ⟨Aw2, cw2, rfl, _, _⟩ := Rd.form hrsw
      have HRSW := Lib.hid hrsw
      clear hp7 hcew hrsw
      go_wp2_with fail
      refine (qInts_sameB _ _ _ _ _ _ HRSW.out (fz_25.below hg4_41 (by omega))).mono ?_
      rintro e w42 ⟨rfl, hb42⟩
      have hw42 : Below wc41.heap.size wc41 w42 := hb42
      have hs42 : wc41.heap.size ≤ w42.heap.size := hw42.size
      have hB42 : Below w.heap.size w w42 := hB41.trans (hw42.mono (by omega))
      have hg3_42 : Below w21.heap.size w21 w42 := hg3_41.trans (hw42.mono (by omega))
      clear hg3_41
      have hg4_42 : Below w25.heap.size w25 w42 := hg4_41.trans (hw42.mono (by omega))
      clear hg4_41
      go_wp2_with fail
      go_meet
      exact ⟨rfl, hw42⟩
  · obtain ⟨k5, p5, h5, hp5, he5⟩ := HFV.out.2 rfl
    subst h5
    have hk5 := (List.getElem?_eq_some_iff.1 hp5).1
    obtain ⟨bv, ov, dv, av, tvx, yvx, hv, hblv, hxv, hcev, hcsv, hrsv, _⟩ := (by obtain ⟨_, hh, hq⟩ := (fv_21.below hg3_41 (by omega)); cases hh; exact hq : RdPS wc41 w18.heap.size (.slice A6 pv.length c6) pv).at_ hk5
    injection hv with hv1 hv2 hv3; subst hv1; clear hv2 hv3
    rw [hp5] at hxv; cases hxv
    have he5b : s6 = tvx := he5.symm
    clear he5
    subst he5b
    clear hp5 hcsv hrsv
    cases seven
    · go_wp2_with fail
      go_meet
      exact ⟨rfl, Below.refl _ _⟩
    · obtain ⟨k7, p7, h7, hp7, he7⟩ := HFW.out.2 rfl
      subst h7
      have hk7 := (List.getElem?_eq_some_iff.1 hp7).1
      obtain ⟨bw, ow, dw, aw, twx, ywx, hv, hblw, hxw, hcew, hcsw, hrsw, _⟩ := (by obtain ⟨_, hh, hq⟩ := (fw_25.below hg4_41 (by omega)); cases hh; exact hq : RdPS wc41 w22.heap.size (.slice A7 pw.length c7) pw).at_ hk7
      injection hv with hv1 hv2 hv3; subst hv1; clear hv2 hv3
      rw [hp7] at hxw; cases hxw
      have he7b : zs = ywx := he7.symm
      clear he7
      subst he7b
      obtain ⟨Aw2, cw2, rfl, _, _⟩ := Rd.form hrsw
      have HRSW := Lib.hid hrsw
      clear hp7 hcew hrsw
      go_wp2_with fail
      refine (qInts_sameB _ _ _ _ _ _ HRSW.out (fz_25.below hg4_41 (by omega))).mono ?_
      rintro e w42 ⟨rfl, hb42⟩
      have hw42 : Below wc41.heap.size wc41 w42 := hb42
      have hs42 : wc41.heap.size ≤ w42.heap.size := hw42.size
      have hB42 : Below w.heap.size w w42 := hB41.trans (hw42.mono (by omega))
      have hg3_42 : Below w21.heap.size w21 w42 := hg3_41.trans (hw42.mono (by omega))
      clear hg3_41
      have hg4_42 : Below w25.heap.size w25 w42 := hg4_41.trans (hw42.mono (by omega))
      clear hg4_41
      go_wp2_with fail
      go_meet
      exact ⟨rfl, hw42⟩
end Go.Proofs.YtjnkdjokbamibaaGreatDoor.fnBooks
