/- Texts of one claim, joined: W9, W10, W2E. -/
import Derived.BigRegion
import Derived.Deep.CutBlock
import Derived.Test.YtjnkdjokbamibaaGreatDoorP15Books
/- Contracts: AddPhrase, DropPhrase of the program. -/
namespace Go.Proofs.YtjnkdjokbamibaaGreatDoor
open Go.RowKit
theorem RowsO.pick {w : World} {lo hi : Nat} {us us' : List Value} {xss xss' : List (List Int)} (h : RowsO w lo hi us xss) (hl : us'.length = xss'.length) (f : Nat → Nat) (hf : ∀ i j, i < us'.length → j < us'.length → f i = f j → i = j)
    (h1 : ∀ i u, us'[i]? = some u → us[f i]? = some u) (h2 : ∀ i x, xss'[i]? = some x → xss[f i]? = some x) : RowsO w lo hi us' xss' := by
  refine ⟨hl, fun i u xs hu hx => h.2.1 (f i) u xs (h1 i u hu) (h2 i xs hx), fun i j u u' hij hu hu' g hg => ?_⟩
  have hi := (List.getElem?_eq_some_iff.1 hu).1
  have hj := (List.getElem?_eq_some_iff.1 hu').1
  rcases Nat.lt_trichotomy (f i) (f j) with h3 | h3 | h3
  · exact h.2.2 (f i) (f j) u u' h3 (h1 i u hu) (h1 j u' hu') g hg
  · have := hf i j hi hj h3; omega
  · exact fun hg' => h.2.2 (f j) (f i) u' u h3 (h1 j u' hu') (h1 i u hu) g hg' hg
theorem get_cutAt {α : Type} {l : List α} {i k : Nat} (hi : i < l.length) : (l.take i ++ l.drop (i + 1))[k]? = l[if k < i then k else k + 1]? := by
  rcases Nat.lt_or_ge k i with h | h
  · rw [if_pos h, List.getElem?_append_left (by rw [List.length_take]; omega), List.getElem?_take, if_pos h]
  · rw [if_neg (by omega), List.getElem?_append_right (by rw [List.length_take]; omega), List.length_take, List.getElem?_drop]
    congr 1; omega
theorem get_putAt {α : Type} {l : List α} {x : α} {i k : Nat} (hi : i ≤ l.length) : (l.take i ++ [x] ++ l.drop i)[k]? = (l ++ [x])[if k < i then k else if k = i then l.length else if k ≤ l.length then k - 1 else k]? := by
  have hT : (l.take i).length = i := by rw [List.length_take]; omega
  rcases Nat.lt_trichotomy k i with h | h | h
  · rw [if_pos h, List.append_assoc, List.getElem?_append_left (by omega), List.getElem?_take, if_pos h, List.getElem?_append_left (by omega)]
  · subst h
    rw [if_neg (by omega), if_pos rfl, List.append_assoc, List.getElem?_append_right (by omega), hT, Nat.sub_self, List.getElem?_append_right (Nat.le_refl _), Nat.sub_self]; rfl
  · rw [if_neg (by omega), if_neg (by omega), List.getElem?_append_right (by rw [List.length_append, hT]; simp; omega), List.length_append, hT, List.getElem?_drop]
    rcases Nat.lt_or_ge l.length k with h2 | h2
    · rw [if_neg (by omega), List.getElem?_eq_none (by simp; omega), List.getElem?_eq_none (by simp; omega)]
    · rw [if_pos h2, List.getElem?_append_left (by omega)]
      congr 1; simp; omega
theorem rows_cut {w : World} {lo hi : Nat} {us : List Value} {ps : List Phr} {i : Nat} (h : RowsO w lo hi us (sigs ps)) (hil : i < ps.length) : RowsO w lo hi (us.take i ++ us.drop (i + 1)) (sigs (ps.take i ++ ps.drop (i + 1))) := by
  have hul : us.length = ps.length := by simpa [sigs] using h.1
  have hs : sigs (ps.take i ++ ps.drop (i + 1)) = (sigs ps).take i ++ (sigs ps).drop (i + 1) := by simp [sigs]
  rw [hs]
  refine h.pick (by simp [sigs, hul]) (fun k => if k < i then k else k + 1) (fun a b _ _ hab => by (try simp only [] at hab); split at hab <;> split at hab <;> omega) (fun k u hu => ?_) (fun k x hx => ?_)
  · rw [get_cutAt (by omega)] at hu; exact hu
  · rw [get_cutAt (by simp [sigs]; omega)] at hx; exact hx
theorem rows_put {w : World} {lo mid hi : Nat} {us : List Value} {ps : List Phr} {i : Nat} {u : Value} {x : Phr} (h : RowsO w lo mid us (sigs ps)) (hu : OwI w mid hi u x.2) (h1 : lo ≤ mid) (h2 : mid ≤ hi) (hil : i ≤ ps.length) : RowsO w lo hi (us.take i ++ [u] ++ us.drop i) (sigs (ps.take i ++ x :: ps.drop i)) := by
  have hul : us.length = ps.length := by simpa [sigs] using h.1
  have hs : sigs (ps.take i ++ x :: ps.drop i) = (sigs ps).take i ++ [x.2] ++ (sigs ps).drop i := by simp [sigs]
  rw [hs]
  have hsl : (sigs ps).length = ps.length := by simp [sigs]
  refine (h.snoc hu h1 h2).pick (by simp [sigs, hul]) (fun k => if k < i then k else if k = i then us.length else if k ≤ us.length then k - 1 else k) (fun a b ha hb hab => by (try simp only [] at hab); simp at ha hb; split at hab <;> split at hab <;> (try split at hab) <;> (try split at hab) <;> (try split at hab) <;> (try split at hab) <;> omega) (fun k y hy => ?_) (fun k y hy => ?_)
  · rw [get_putAt (by omega)] at hy; exact hy
  · rw [get_putAt (by omega), hsl, ← hul] at hy; exact hy
theorem zip_cut {ps : List Phr} {us : List Value} {i : Nat} (hul : us.length = ps.length) : (zipC (txts ps) us).take (i * 2) ++ (zipC (txts ps) us).drop ((i + 1) * 2) = zipC (txts (ps.take i ++ ps.drop (i + 1))) (us.take i ++ us.drop (i + 1)) := by
  rw [zipC_take, zipC_drop _ _ _ (by simp [txts, hul]), ← zipC_app _ _ _ _ (by simp [txts, hul])]
  simp [txts]
theorem zip_put {ps : List Phr} {us : List Value} {i : Nat} {x : Phr} {u : Value} (hul : us.length = ps.length) : (zipC (txts ps) us).take (i * 2) ++ [.string x.1, u] ++ (zipC (txts ps) us).drop (i * 2) = zipC (txts (ps.take i ++ x :: ps.drop i)) (us.take i ++ [u] ++ us.drop i) := by
  have e : txts (ps.take i ++ x :: ps.drop i) = ((txts ps).take i ++ [x.1]) ++ (txts ps).drop i := by simp [txts]
  rw [e, zipC_take, zipC_drop _ _ _ (by simp [txts, hul]), zipC_app _ _ _ _ (by simp [txts, hul]), zipC_append _ _ _ _ (by simp [txts, hul])]
theorem rowsO_one {w : World} {lo hi : Nat} {us : List Value} {xss : List (List Int)} (h : RowsO w lo hi us xss) : ∀ u ∈ us, u.oneCell' = true := rows_one h.rd
theorem findV_no {ps : List Phr} {s : ByteArray} (h : bookB ps = false ∨ txtIx ps s = Option.none) : findV (bookB ps) (txtIx ps s) = .tuple #[.int .i64 0, .bool false] := by
  rcases h with h | h
  · rw [h]; rfl
  · rw [h]; cases bookB ps <;> rfl
theorem RdB.txt {w : World} {hi : Nat} {v : Value} {ps : List Phr} (h : RdB w hi v ps) : TxtOk ps := by obtain ⟨_, _, _, _, _, h3⟩ := h; exact h3
set_option maxRecDepth 100000 in
set_option maxHeartbeats 4000000 in
theorem DropPhrase_any (ps : List Phr) (s : ByteArray) (v : Value) (hi : Nat) (w : World) (hs0 : s.size ≤ maxLen) (h : RdB w hi v ps) (hh : hi ≤ w.heap.size) :
    Calls Tryz.prog 28 #[v, .string s] w (RetOwBT ((dropO ps s).getD []) (dropO ps s).isSome w) := by
  have HTX := Lib.hid h.txt
  obtain ⟨a, rfl, ha⟩ := h
  obtain ⟨A, c, rfl, hc, hm⟩ := ha.form
  have hba : Below w.heap.size w ((w.alloc (.cells #[.slice A ps.length c] 41)).alloc (.cells #[.slice Option.none 0 0] 41)) := ((Below.refl _ _).alloc (Nat.le_refl _) _).alloc (by simp) _
  have hX : Blk ((w.alloc (.cells #[.slice A ps.length c] 41)).alloc (.cells #[.slice Option.none 0 0] 41)) w.heap.size 41 [.slice A ps.length c] := (Blk.new w 41 #[.slice A ps.length c]).alloc _
  have hR : Blk ((w.alloc (.cells #[.slice A ps.length c] 41)).alloc (.cells #[.slice Option.none 0 0] 41)) (w.heap.size + 1) 41 [.slice Option.none 0 0] := by
    have := Blk.new (w.alloc (.cells #[.slice A ps.length c] 41)) 41 #[.slice Option.none 0 0]
    simpa using this
  have hz : (((w.alloc (.cells #[.slice A ps.length c] 41)).alloc (.cells #[.slice Option.none 0 0] 41))).heap.size = w.heap.size + 2 := by simp
  have HA := Lib.hid (ha.below hba hh)
  have hxc := hX.cell 0
  clear ha
  go_enter Tryz.func28, Tryz.ntmps28
  go_wp2_with fail
  generalize ((w.alloc (.cells #[.slice A ps.length c] 41)).alloc (.cells #[.slice Option.none 0 0] 41)) = wa at hba hX hR hz HA hxc ⊢
  have cF := FindPhrase_any ps s (.agg #[.slice A ps.length c]) hi wa hs0 ⟨_, rfl, HA.out⟩ (by omega)
  have HA0 := Lib.hid hba
  have HX0 := Lib.hid hX
  have HR0 := Lib.hid hR
  clear hba hX hR
  by_cases hno : bookB ps = false ∨ txtIx ps s = Option.none
  · rw [findV_no hno] at cF
    have CF := Lib.hid cF
    have HNO := Lib.hid hno
    clear cF hno
    refine CF.out.mono ?_
    rintro e w1 ⟨rfl, hb1⟩
    have HR1 := Lib.hid (HR0.out.below hb1 (by omega))
    have HB1 := Lib.hid (HA0.out.trans (hb1.mono (by omega)))
    have HDN : Hid (dropO ps s = Option.none) := by
      rcases HNO.out with h | h
      · exact dropO_no s h
      · exact dropO_none h
    clear hb1 hxc HX0 HR0 HA0 CF HNO
    have hr3 := HR1.out
    have hrc := hr3.cell 0
    have hrf := hr3.frozen 0
    have c10 := (hr3.set_ 0 (.slice Option.none 0 0)).cell 0
    have HL := Lib.hid (HB1.out.setCell (p := ⟨w.heap.size + 1, 0, Option.none⟩) (by show w.heap.size ≤ w.heap.size + 1; omega) (.slice Option.none 0 0))
    clear hr3
    go_wp2_with fail
    refine bodyPost_ret (v := .tuple #[.agg #[.slice Option.none 0 0], .bool false]) (by simp [results, Tryz.results28, go_sem, c10]) rfl ?_
    exact ⟨_, by rw [HDN.out]; rfl, by rw [HDN.out]; exact owPS_nil _ _ _, HL.out⟩
  · have hbk : bookB ps = true := by cases h : bookB ps; exact absurd (.inl h) hno; rfl
    obtain ⟨i, hix⟩ : ∃ i, txtIx ps s = some i := by cases h : txtIx ps s with
      | none => exact absurd (.inr h) hno
      | some i => exact ⟨i, rfl⟩
    rw [hbk, hix] at cF
    have cF2 : Calls Tryz.prog 31 #[.agg #[.slice A ps.length c], .string s] wa fun e w' => e = .returned (.tuple #[.int .i64 (i : Int), .bool true]) ∧ Below wa.heap.size wa w' := cF
    have CF := Lib.hid cF2
    have hil := txtIx_lt hix
    have hbl := bookB_len hbk
    have HBK := Lib.hid hbk
    have HIX := Lib.hid hix
    clear cF cF2 hno hbk hix
    refine CF.out.mono ?_
    rintro e w1 ⟨rfl, hb1⟩
    have hs1 := hb1.size
    have HR1 := Lib.hid (HR0.out.below hb1 (by omega))
    have HB1 := Lib.hid (HA0.out.trans (hb1.mono (by omega)))
    have HX1 := Lib.hid (HX0.out.below hb1 (by omega))
    have HA1 := Lib.hid (HA.out.below hb1 (by omega))
    have hxc1 := HX1.out.cell 0
    clear hb1 hxc HX0 HR0 HA0 HA CF
    by_cases hn1 : ps.length = 1
    · have HDN : Hid (dropO ps s = Option.none) := dropO_one hn1
      have hg1 : ((ps.length : Int) == 1) = true := by rw [beq_iff_eq]; omega
      clear hn1
      have hr3 := HR1.out
      have hrc := hr3.cell 0
      have hrf := hr3.frozen 0
      have c10 := (hr3.set_ 0 (.slice Option.none 0 0)).cell 0
      have HL := Lib.hid (HB1.out.setCell (p := ⟨w.heap.size + 1, 0, Option.none⟩) (by show w.heap.size ≤ w.heap.size + 1; omega) (.slice Option.none 0 0))
      clear hr3
      go_wp2_with fail
      refine bodyPost_ret (v := .tuple #[.agg #[.slice Option.none 0 0], .bool false]) (by simp [results, Tryz.results28, go_sem, c10]) rfl ?_
      exact ⟨_, by rw [HDN.out]; rfl, by rw [HDN.out]; exact owPS_nil _ _ _, HL.out⟩
    · have hg1 : ((ps.length : Int) == 1) = false := by rw [beq_eq_false_iff_ne]; omega
      have CC := Lib.hid (cloneBook_any ps (.agg #[.slice A ps.length c]) hi w1 ⟨_, rfl, HA1.out⟩ (by omega) HBK.out)
      go_wp2_with fail
      refine CC.out.mono ?_
      rintro e w2 ⟨g, us, rfl, hbg, hrw, hgl, hb2⟩
      have hs2 := hb2.size
      have hul : us.length = ps.length := by simpa [sigs] using hrw.1
      have h1c := rowsO_one hrw
      obtain ⟨wb, hwb⟩ : ∃ wb, wb = w2.alloc (.cells #[.slice (some ⟨g, 0, Option.none⟩) ps.length ps.length] 41) := ⟨_, rfl⟩
      have hb3 : Below w2.heap.size w2 wb := by rw [hwb]; exact (Below.refl _ _).alloc (Nat.le_refl _) _
      have hO3 : Blk wb w2.heap.size 41 [.slice (some ⟨g, 0, Option.none⟩) ps.length ps.length] := by rw [hwb]; exact Blk.new w2 _ _
      have hzb : wb.heap.size = w2.heap.size + 1 := by rw [hwb]; simp
      have hgl2 := hbg.lt
      have HG3 := Lib.hid (hbg.below hb3 (by omega))
      have HRW3 := Lib.hid (hrw.below hb3 (Nat.le_refl _))
      have HR3 := Lib.hid ((HR1.out.below hb2 (by omega)).below hb3 (by omega))
      have HB3 := Lib.hid ((HB1.out.trans (hb2.mono (by omega))).trans (hb3.mono (by omega)))
      have HO3 := Lib.hid hO3
      have HUL := Lib.hid hul
      have H1C := Lib.hid h1c
      have HWB := Lib.hid hwb
      have hoc := hO3.cell 0
      have hgl3 : w.heap.size + 2 ≤ g := by omega
      clear hbg hrw hb2 hb3 hO3 hul h1c hxc1 CC HR1 HB1 HX1 HA1
      have hzl : Hid ((zipC (txts ps) us).length = ps.length * 2) := by show _ = _; rw [zipC_len _ _ (by simp [txts, HUL.out])]; simp [txts]
      have CD := Lib.hid (deleteP_any g ps.length i (i + 1) ((i : Int) + 1) (zipC (txts ps) us) wb HG3.out hzl.out rfl (by omega) (by omega) (zip_one H1C.out) (by omega))
      go_wp2_with fail
      rw [← HWB.out]
      clear hwb HWB
      go_wp2_with fail
      refine CD.out.mono ?_
      rintro e w4 ⟨rfl, hb4, hon⟩
      rw [zip_cut HUL.out] at hb4
      have hk4 : Keep g (g + 1) wb w4 := hon.keep (fun q hq => by cases hq; omega)
      have HROW := Lib.hid hb4
      have hs4 := hk4.size
      have hO4 : Blk w4 w2.heap.size 41 [.slice (some ⟨g, 0, Option.none⟩) ps.length ps.length] := (hk4.block _ (.inr (by omega))).trans HO3.out
      have hR4 : Blk w4 (w.heap.size + 1) 41 [.slice Option.none 0 0] := (hk4.block _ (.inl (by omega))).trans HR3.out
      have HRW4 := Lib.hid ((rows_cut HRW3.out hil).keep hk4 (.inr (Nat.le_refl _)))
      have HB4 := Lib.hid (HB3.out.trans (hk4.bel.mono (by omega)))
      have hoc4 := hO4.cell 0
      have hof4 := hO4.frozen 0
      have hrc4 := hR4.cell 0
      have hrf4 := hR4.frozen 0
      obtain ⟨w5, hw5⟩ : ∃ w5, w5 = w4.setCell ⟨w2.heap.size, 0, Option.none⟩ (.slice (some ⟨g, 0, Option.none⟩) (ps.length - 1) ps.length) := ⟨_, rfl⟩
      have hO5 : Blk w5 w2.heap.size 41 [.slice (some ⟨g, 0, Option.none⟩) (ps.length - 1) ps.length] := by rw [hw5]; exact hO4.set_ 0 _
      have hk5 : Keep w2.heap.size (w2.heap.size + 1) w4 w5 := by rw [hw5]; exact (Keep.refl _ _ _).setCell (p := ⟨w2.heap.size, 0, Option.none⟩) (Nat.le_refl _) (by show w2.heap.size < _; omega) _
      have hR5 : Blk w5 (w.heap.size + 1) 41 [.slice Option.none 0 0] := (hk5.block _ (.inl (by omega))).trans hR4
      have hoc5 := hO5.cell 0
      have hrc5 := hR5.cell 0
      have hrf5 := hR5.frozen 0
      have c10 := (hR5.set_ 0 (.slice (some ⟨g, 0, Option.none⟩) (ps.length - 1) ps.length)).cell 0
      have HW5 := Lib.hid hw5
      have HK5 := Lib.hid hk5
      have hs5 := hk5.size
      clear hb4 hon hk4 hO4 hR4 hO5 hR5 hk5 hw5 hoc CD HG3 HRW3 HR3 HB3 HO3 H1C
      go_wp2_with fail
      rw [← HW5.out]
      refine bodyPost_ret (v := .tuple #[.agg #[.slice (some ⟨g, 0, Option.none⟩) (ps.length - 1) ps.length], .bool true]) (by simp [results, Tryz.results28, go_sem, c10]) rfl ?_
      have hk6 : Keep (w.heap.size + 1) (w.heap.size + 2) w5 (w5.setCell ⟨w.heap.size + 1, 0, Option.none⟩ (.slice (some ⟨g, 0, Option.none⟩) (ps.length - 1) ps.length)) := (Keep.refl _ _ _).setCell (p := ⟨w.heap.size + 1, 0, Option.none⟩) (Nat.le_refl _) (by show w.heap.size + 1 < _; omega) _
      have hd : dropO ps s = some (ps.take i ++ ps.drop (i + 1)) := by rw [dropO_yes HBK.out HIX.out hn1, List.eraseIdx_eq_take_drop_succ]
      have hll : (ps.take i ++ ps.drop (i + 1)).length = ps.length - 1 := by rw [List.length_append, List.length_take, List.length_drop]; omega
      have hlu : (us.take i ++ us.drop (i + 1)).length = ps.length - 1 := by rw [List.length_append, List.length_take, List.length_drop, HUL.out]; omega
      have hb6 := (hk6.block g (.inr (by omega))).trans ((HK5.out.block g (.inl (by omega))).trans HROW.out)
      have hzz : (zipC (txts (ps.take i ++ ps.drop (i + 1))) (us.take i ++ us.drop (i + 1))).length = (ps.length - 1) * 2 := by rw [zipC_len _ _ (by rw [hlu]; simp only [txts, List.length_map]; exact hll.symm)]; simp only [txts, List.length_map]; rw [hll]
      refine ⟨_, by rw [hd]; rfl, ?_, (HB4.out.trans (HK5.out.bel.mono (by omega))).trans (hk6.bel.mono (by omega))⟩
      rw [hd]
      show OwPS _ _ _ _ (ps.take i ++ ps.drop (i + 1))
      refine ⟨_, ((HRW4.out.below HK5.out.bel (by omega)).keep hk6 (.inr (by omega))).mono (show w.heap.size ≤ g + 1 by omega) (by rw [hk6.size]; omega), ⟨by rw [hll]; exact hzz, .inr ⟨g, ps.length, _, by rw [hll], by omega, hb6, by rw [hll]; omega, by unfold maxLen; omega, by rw [List.size_toArray, List.length_append, hzz]; simp; omega, by rw [hll, ← hzz]; simp⟩⟩, fun p hp => HTX.out p (by rcases List.mem_append.1 hp with hp | hp; exact List.mem_of_mem_take hp; exact List.mem_of_mem_drop hp), fun q hq => by cases hq; show g < _; rw [hk6.size]; omega⟩
theorem owns_lo {w : World} {lo lo' size n : Nat} {e : TypeId} {v : Value} {xs : List Value} (h : w.ownsRow lo e size v n xs) (h1 : lo' ≤ lo) : w.ownsRow lo' e size v n xs := by
  refine ⟨h.1, ?_⟩
  rcases h.2 with hn | ⟨g, cap, cur, e1, hl, rest⟩
  · exact .inl hn
  · exact .inr ⟨g, cap, cur, e1, by omega, rest⟩
set_option maxRecDepth 100000 in
set_option maxHeartbeats 8000000 in
theorem AddPhrase_any (ps : List Phr) (x : Phr) (v u : Value) (hi : Nat) (w : World) (h : RdB w hi v ps) (g : RdP w hi u x) (hh : hi ≤ w.heap.size) :
    Calls Tryz.prog 25 #[v, u] w (RetOwBT ((addO ps x).getD []) (addO ps x).isSome w) := by
  have HTX := Lib.hid h.txt
  obtain ⟨a, rfl, ha⟩ := h
  obtain ⟨A, c, rfl, hc, hm⟩ := ha.form
  obtain ⟨a2, rfl, ha2, hts⟩ := g
  obtain ⟨A2, c2, rfl, hc2, hm2⟩ := Rd.form ha2
  have hba : Below w.heap.size w (((w.alloc (.cells #[.slice A ps.length c] 41)).alloc (.cells #[.string x.1, .slice A2 x.2.length c2] 45)).alloc (.cells #[.slice Option.none 0 0] 41)) := (((Below.refl _ _).alloc (Nat.le_refl _) _).alloc (by simp) _).alloc (by simp; omega) _
  have hX : Blk (((w.alloc (.cells #[.slice A ps.length c] 41)).alloc (.cells #[.string x.1, .slice A2 x.2.length c2] 45)).alloc (.cells #[.slice Option.none 0 0] 41)) w.heap.size 41 [.slice A ps.length c] := ((Blk.new w 41 #[.slice A ps.length c]).alloc _).alloc _
  have hY : Blk (((w.alloc (.cells #[.slice A ps.length c] 41)).alloc (.cells #[.string x.1, .slice A2 x.2.length c2] 45)).alloc (.cells #[.slice Option.none 0 0] 41)) (w.heap.size + 1) 45 [.string x.1, .slice A2 x.2.length c2] := by
    have := (Blk.new (w.alloc (.cells #[.slice A ps.length c] 41)) 45 #[.string x.1, .slice A2 x.2.length c2]).alloc (.cells #[.slice Option.none 0 0] 41)
    simpa using this
  have hR : Blk (((w.alloc (.cells #[.slice A ps.length c] 41)).alloc (.cells #[.string x.1, .slice A2 x.2.length c2] 45)).alloc (.cells #[.slice Option.none 0 0] 41)) (w.heap.size + 2) 41 [.slice Option.none 0 0] := by
    have := Blk.new ((w.alloc (.cells #[.slice A ps.length c] 41)).alloc (.cells #[.string x.1, .slice A2 x.2.length c2] 45)) 41 #[.slice Option.none 0 0]
    simpa using this
  have hz : ((((w.alloc (.cells #[.slice A ps.length c] 41)).alloc (.cells #[.string x.1, .slice A2 x.2.length c2] 45)).alloc (.cells #[.slice Option.none 0 0] 41))).heap.size = w.heap.size + 3 := by simp
  have HA := Lib.hid (ha.below hba hh)
  have HRX := Lib.hid (RdI.below ha2 hba hh)
  have hxc := hX.cell 0
  clear ha ha2
  go_enter Tryz.func25, Tryz.ntmps25
  go_wp2_with fail
  generalize (((w.alloc (.cells #[.slice A ps.length c] 41)).alloc (.cells #[.string x.1, .slice A2 x.2.length c2] 45)).alloc (.cells #[.slice Option.none 0 0] 41)) = wa at hba hX hY hR hz HA HRX hxc ⊢
  have c0 := IsBook_any ps (.agg #[.slice A ps.length c]) hi wa ⟨_, rfl, HA.out⟩ (by omega)
  have HX0 := Lib.hid hX
  have HY0 := Lib.hid hY
  have HR0 := Lib.hid hR
  have HB0 := Lib.hid hba
  clear hX hY hR hba
  cases hbk : bookB ps
  · rw [hbk] at c0
    have C0 := Lib.hid c0
    have HDN : Hid (addO ps x = Option.none) := addO_no x hbk
    clear c0 hbk
    refine C0.out.mono ?_
    rintro e w1 ⟨rfl, hb1⟩
    have HR1 := Lib.hid (HR0.out.below hb1 (by omega))
    have HB1 := Lib.hid (HB0.out.trans (hb1.mono (by omega)))
    clear hb1 hxc HX0 HY0 HR0 HB0 C0 HA HRX
    have hr3 := HR1.out
    have hrc := hr3.cell 0
    have hrf := hr3.frozen 0
    have c10 := (hr3.set_ 0 (.slice Option.none 0 0)).cell 0
    have HL := Lib.hid (HB1.out.setCell (p := ⟨w.heap.size + 2, 0, Option.none⟩) (by show w.heap.size ≤ w.heap.size + 2; omega) (.slice Option.none 0 0))
    clear hr3
    go_wp2_with fail
    refine bodyPost_ret (v := .tuple #[.agg #[.slice Option.none 0 0], .bool false]) (by simp [results, Tryz.results25, go_sem, c10]) rfl ?_
    exact ⟨_, by rw [HDN.out]; rfl, by rw [HDN.out]; exact owPS_nil _ _ _, HL.out⟩
  · rw [hbk] at c0
    have C0 := Lib.hid c0
    have HBK := Lib.hid hbk
    clear c0 hbk
    refine C0.out.mono ?_
    rintro e w1 ⟨rfl, hb1⟩
    have hs1 := hb1.size
    have HR1 := Lib.hid (HR0.out.below hb1 (by omega))
    have HX1 := Lib.hid (HX0.out.below hb1 (by omega))
    have HY1 := Lib.hid (HY0.out.below hb1 (by omega))
    have HA1 := Lib.hid (HA.out.below hb1 (by omega))
    have HRX1 := Lib.hid (RdI.below HRX.out hb1 (by omega))
    have HB1 := Lib.hid (HB0.out.trans (hb1.mono (by omega)))
    clear hb1 hxc HX0 HY0 HR0 HB0 C0 HA HRX
    have hyc := HY1.out.cell 0
    have hyc1 := HY1.out.cell 1
    have c1 := isPhrase_any x (.agg #[.string x.1, .slice A2 x.2.length c2]) hi w1 ⟨_, rfl, HRX1.out, hts⟩ (by omega)
    cases hpo : phrOk x
    · rw [hpo] at c1
      have C1 := Lib.hid c1
      have HDN : Hid (addO ps x = Option.none) := addO_phr hpo
      clear c1 hpo
      go_wp2_with fail
      refine C1.out.mono ?_
      rintro e w2 ⟨rfl, hb2⟩
      have HR2 := Lib.hid (HR1.out.below hb2 (by omega))
      have HB2 := Lib.hid (HB1.out.trans (hb2.mono (by omega)))
      clear hb2 hyc hyc1 HX1 HY1 HR1 HB1 C1 HA1 HRX1
      have hr3 := HR2.out
      have hrc := hr3.cell 0
      have hrf := hr3.frozen 0
      have c10 := (hr3.set_ 0 (.slice Option.none 0 0)).cell 0
      have HL := Lib.hid (HB2.out.setCell (p := ⟨w.heap.size + 2, 0, Option.none⟩) (by show w.heap.size ≤ w.heap.size + 2; omega) (.slice Option.none 0 0))
      clear hr3
      go_wp2_with fail
      refine bodyPost_ret (v := .tuple #[.agg #[.slice Option.none 0 0], .bool false]) (by simp [results, Tryz.results25, go_sem, c10]) rfl ?_
      exact ⟨_, by rw [HDN.out]; rfl, by rw [HDN.out]; exact owPS_nil _ _ _, HL.out⟩
    · rw [hpo] at c1
      have C1 := Lib.hid c1
      have hxl := phrOk_sig hpo
      have hxl1 : 0 < x.2.length := hxl.1
      have hxl2 : x.2.length ≤ 3 := hxl.2.1
      clear c1 hpo hxl
      go_wp2_with fail
      refine C1.out.mono ?_
      rintro e w2 ⟨rfl, hb2⟩
      have hs2 := hb2.size
      have HR2 := Lib.hid (HR1.out.below hb2 (by omega))
      have HX2 := Lib.hid (HX1.out.below hb2 (by omega))
      have HY2 := Lib.hid (HY1.out.below hb2 (by omega))
      have HA2 := Lib.hid (HA1.out.below hb2 (by omega))
      have HRX2 := Lib.hid (RdI.below HRX1.out hb2 (by omega))
      have HB2 := Lib.hid (HB1.out.trans (hb2.mono (by omega)))
      clear hb2 hyc hyc1 HX1 HY1 HR1 HB1 C1 HA1 HRX1
      have hxc2 := HX2.out.cell 0
      have hbl := bookB_len HBK.out
      have CC := Lib.hid (cloneBook_any ps (.agg #[.slice A ps.length c]) hi w2 ⟨_, rfl, HA2.out⟩ (by omega) HBK.out)
      go_wp2_with fail
      refine CC.out.mono ?_
      rintro e w3 ⟨g, us, rfl, hbg, hrw, hgl, hb3⟩
      have hs3 := hb3.size
      have hgl2 := hbg.lt
      have hul : us.length = ps.length := by simpa [sigs] using hrw.1
      have h1c := rowsO_one hrw
      obtain ⟨wb, hwb⟩ : ∃ wb, wb = w3.alloc (.cells #[.slice (some ⟨g, 0, Option.none⟩) ps.length ps.length] 41) := ⟨_, rfl⟩
      have hb4 : Below w3.heap.size w3 wb := by rw [hwb]; exact (Below.refl _ _).alloc (Nat.le_refl _) _
      have hO4 : Blk wb w3.heap.size 41 [.slice (some ⟨g, 0, Option.none⟩) ps.length ps.length] := by rw [hwb]; exact Blk.new w3 _ _
      have hzb : wb.heap.size = w3.heap.size + 1 := by rw [hwb]; simp
      have HG4 := Lib.hid (hbg.below hb4 (by omega))
      have HRW4 := Lib.hid (hrw.below hb4 (Nat.le_refl _))
      have HR4 := Lib.hid ((HR2.out.below hb3 (by omega)).below hb4 (by omega))
      have HY4 := Lib.hid ((HY2.out.below hb3 (by omega)).below hb4 (by omega))
      have HRX4 := Lib.hid (RdI.below (RdI.below HRX2.out hb3 (by omega)) hb4 (by omega))
      have HB4 := Lib.hid ((HB2.out.trans (hb3.mono (by omega))).trans (hb4.mono (by omega)))
      have HO4 := Lib.hid hO4
      have HUL := Lib.hid hul
      have H1C := Lib.hid h1c
      have HWB := Lib.hid hwb
      have hgl3 : w.heap.size + 3 ≤ g := by omega
      clear hbg hrw hb3 hb4 hO4 hul h1c hxc2 CC HR2 HB2 HX2 HY2 HA2 HRX2 hwb
      have HZL : Hid ((zipC (txts ps) us).length = ps.length * 2) := by show _ = _; rw [zipC_len _ _ (by simp [txts, HUL.out])]; simp [txts]
      go_upto_block 0 with fail
      rw [← HWB.out]
      clear HWB
      go_cut [7] (fun i wx => ∃ k : Nat, i = .int .i64 (k : Int) ∧ k ≤ ps.length ∧ Hid (posA ps x.1 = k) ∧ ∃ n, Hid (wx = wb.drewN n))
      case first =>
        have hoc := HO4.out.cell 0
        have hyc := HY4.out.cell 0
        go_wp2_with fail
        go_loopw [7] (fun i wr => ∃ k : Nat, k ≤ ps.length ∧ i = .int .i64 (k : Int) ∧ Hid (∀ j, j < k → ∀ p, ps[j]? = some p → ltT p.1 x.1 = true) ∧ ∃ n, wr = wb.drewN n) (fun i _ => ps.length - (intOf i).toNat)
        case atStart => exact ⟨0, Nat.zero_le _, rfl, fun j hj => by omega, 0, rfl⟩
        case round =>
          obtain ⟨k, hk, rfl, hlo, nd, hwq⟩ := hrel
          rename World => wq
          have hocN : wq.cell? ⟨w3.heap.size, 0, Option.none⟩ = some (.slice (some ⟨g, 0, Option.none⟩) ps.length ps.length) := by rw [hwq]; exact hoc
          have hycN : wq.cell? ⟨w.heap.size + 1, 0, Option.none⟩ = some (.string x.1) := by rw [hwq]; exact hyc
          have HGq : Hid (Blk wq g 45 (zipC (txts ps) us)) := by show Blk _ _ _ _; rw [hwq]; exact HG4.out
          have HWQ := Lib.hid hwq
          clear hoc hyc hwq HG4 HRW4 HR4 HY4 HRX4 HB4 HO4
          have hocD : wq.drew.cell? ⟨w3.heap.size, 0, Option.none⟩ = some (.slice (some ⟨g, 0, Option.none⟩) ps.length ps.length) := hocN
          have hycD : wq.drew.cell? ⟨w.heap.size + 1, 0, Option.none⟩ = some (.string x.1) := hycN
          by_cases hlt : k < ps.length
          · have hx : ps[k]? = some ps[k] := List.getElem?_eq_getElem hlt
            obtain ⟨p, hp⟩ : ∃ p, p = ps[k] := ⟨_, rfl⟩
            rw [← hp] at hx
            have hku : k < us.length := by rw [HUL.out]; exact hlt
            have hcell1 : wq.cell? ⟨g, k * 2, Option.none⟩ = some (.string p.1) := (HGq.out.cell _).trans (zipC_at (txts ps) us k p.1 us[k] (by simp [txts, hx]) (List.getElem?_eq_getElem (by rw [HUL.out]; exact hlt))).1
            have hcellD : wq.drew.cell? ⟨g, k * 2, Option.none⟩ = some (.string p.1) := hcell1
            have HX := Lib.hid hx
            clear hx hp
            cases hlx : ltT p.1 x.1
            · have hl1 : Op.bytesLess p.1.toList x.1.toList = false := hlx
              have HPO : Hid (posA ps x.1 = k) := posA_is hk hlo.out (fun q hq => by rw [HX.out] at hq; cases hq; exact hlx)
              clear hlx
              go_wp2_with fail
              go_region
              go_wp2_with fail
              go_meet
              exact ⟨k, rfl, hk, HPO, nd + 1, by show _ = _; rw [HWQ.out]; rfl⟩
            · have hl1 : Op.bytesLess p.1.toList x.1.toList = true := hlx
              have HL1 := Lib.hid hlx
              clear hlx
              go_wp2_with fail
              go_region
              go_wp2_with fail
              go_roundw
              case rel => exact ⟨k + 1, by omega, by go_num, fun j hj q hq => by
                rcases Nat.lt_or_ge j k with h1 | h1
                · exact hlo.out j h1 q hq
                · obtain rfl : j = k := by omega
                  rw [HX.out] at hq; cases hq; exact HL1.out, nd + 1, by rw [HWQ.out]; rfl⟩
              case measure => (simp [intOf]; try omega)
          · obtain rfl : k = ps.length := by omega
            have HPO : Hid (posA ps x.1 = ps.length) := posA_is hk hlo.out (fun p hp => by rw [List.getElem?_eq_none (Nat.le_refl _)] at hp; cases hp)
            go_wp2_with fail
            go_region
            go_wp2_with fail
            go_meet
            exact ⟨ps.length, rfl, Nat.le_refl _, HPO, nd + 1, by show _ = _; rw [HWQ.out]; rfl⟩
      case rest =>
        obtain ⟨k, rfl, hk, HPO, nd, HWQ⟩ := hcut
        rename World => wz
        have hszz : wz.heap.size = wb.heap.size := by rw [HWQ.out]; rfl
        have HGz : Hid (Blk wz g 45 (zipC (txts ps) us)) := by show Blk _ _ _ _; rw [HWQ.out]; exact HG4.out
        have HRWz : Hid (RowsO wz (g + 1) w3.heap.size us (sigs ps)) := by show RowsO _ _ _ _ _; rw [HWQ.out]; exact HRW4.out.below (bel_drewN w3.heap.size wb nd) (Nat.le_refl _)
        have HRz : Hid (Blk wz (w.heap.size + 2) 41 [.slice Option.none 0 0]) := by show Blk _ _ _ _; rw [HWQ.out]; exact HR4.out
        have HYz : Hid (Blk wz (w.heap.size + 1) 45 [.string x.1, .slice A2 x.2.length c2]) := by show Blk _ _ _ _; rw [HWQ.out]; exact HY4.out
        have HOz : Hid (Blk wz w3.heap.size 41 [.slice (some ⟨g, 0, Option.none⟩) ps.length ps.length]) := by show Blk _ _ _ _; rw [HWQ.out]; exact HO4.out
        have HRXz : Hid (RdI wz hi (.slice A2 x.2.length c2) x.2) := by show RdI _ _ _ _; rw [HWQ.out]; exact HRX4.out.below (bel_drewN hi wb nd) (Nat.le_refl _)
        have HBz : Hid (Below w.heap.size w wz) := by show Below _ _ _; rw [HWQ.out]; exact HB4.out.trans (bel_drewN _ _ _)
        have hsz3 : w3.heap.size + 1 ≤ wz.heap.size := by omega
        clear hszz HWQ HG4 HRW4 HR4 HY4 HO4 HRX4 HB4
        have hyc1 := HYz.out.cell 1
        have CX := Lib.hid (cloneI_any x.2 (.slice A2 x.2.length c2) hi wz HRXz.out hxl1 (by omega))
        go_wp2_with fail
        refine CX.out.mono ?_
        rintro e w5 ⟨u5, rfl, hu5, hb5⟩
        obtain ⟨A5, c5, rfl, _⟩ := hu5.form
        have hs5 := hb5.size
        have hY5 := HYz.out.below hb5 (by omega)
        have hyf5 := hY5.frozen 1
        have hyd5 := hY5.cell 1
        have HRW5 := Lib.hid (rows_put (i := k) ((HRWz.out.below hb5 (by omega)).mono (Nat.le_refl _) (show w3.heap.size ≤ wz.heap.size by omega)) hu5 (by omega) hs5 hk)
        have HG5 := Lib.hid (HGz.out.below hb5 (by omega))
        have HR5 := Lib.hid (HRz.out.below hb5 (by omega))
        have HO5 := Lib.hid (HOz.out.below hb5 (by omega))
        have HB5 := Lib.hid (HBz.out.trans (hb5.mono (by omega)))
        obtain ⟨w6, hw6⟩ : ∃ w6, w6 = w5.setCell ⟨w.heap.size + 1, 1, Option.none⟩ (.slice A5 x.2.length c5) := ⟨_, rfl⟩
        have hk6 : Keep (w.heap.size + 1) (w.heap.size + 2) w5 w6 := by rw [hw6]; exact (Keep.refl _ _ _).setCell (p := ⟨w.heap.size + 1, 1, Option.none⟩) (Nat.le_refl _) (by show w.heap.size + 1 < _; omega) _
        have hY6 : Blk w6 (w.heap.size + 1) 45 [.string x.1, .slice A5 x.2.length c5] := by rw [hw6]; exact hY5.set_ 1 _
        have HRW6 : Hid (RowsO w6 (g + 1) w5.heap.size (us.take k ++ [.slice A5 x.2.length c5] ++ us.drop k) (sigs (ps.take k ++ x :: ps.drop k))) := by show RowsO _ _ _ _ _; rw [hw6]; exact rows_far HRW5.out hY5 (by decide) 1 _
        have HG6 : Hid (Blk w6 g 45 (zipC (txts ps) us)) := (hk6.block g (.inr (by omega))).trans HG5.out
        have HR6 : Hid (Blk w6 (w.heap.size + 2) 41 [.slice Option.none 0 0]) := (hk6.block _ (.inr (by omega))).trans HR5.out
        have HO6 : Hid (Blk w6 w3.heap.size 41 [.slice (some ⟨g, 0, Option.none⟩) ps.length ps.length]) := (hk6.block _ (.inr (by omega))).trans HO5.out
        have HB6 := Lib.hid (HB5.out.trans (hk6.bel.mono (by omega)))
        have hs6 := hk6.size
        have hoc6 := HO6.out.cell 0
        have hyc60 := hY6.cell 0
        have hyc61 := hY6.cell 1
        have hoc6r := hoc6
        have hyc60r := hyc60
        have hyc61r := hyc61
        rw [hw6] at hoc6r hyc60r hyc61r
        have HW6 := Lib.hid hw6
        have HY6 := Lib.hid hY6
        obtain ⟨w7, hw7⟩ : ∃ w7, w7 = w6.alloc (.cells #[.string x.1, .slice A5 x.2.length c5] 45) := ⟨_, rfl⟩
        have hb7 : Below w6.heap.size w6 w7 := by rw [hw7]; exact (Below.refl _ _).alloc (Nat.le_refl _) _
        have hV7 : Blk w7 w5.heap.size 45 [.string x.1, .slice A5 x.2.length c5] := by rw [hw7, ← hs6]; exact Blk.new w6 _ _
        have hz7 : w7.heap.size = w6.heap.size + 1 := by rw [hw7]; simp
        have HG7 := Lib.hid (HG6.out.below hb7 (by omega))
        have HR7 := Lib.hid (HR6.out.below hb7 (by omega))
        have HO7 := Lib.hid (HO6.out.below hb7 (by omega))
        have HRW7 := Lib.hid (HRW6.out.below hb7 (by omega))
        have HB7 := Lib.hid (HB6.out.trans (hb7.mono (by omega)))
        have HW7 := Lib.hid hw7
        have HCI : Hid (Calls Tryz.prog 78 #[.slice (some ⟨g, 0, Option.none⟩) ps.length ps.length, .int .i64 (k : Int), .slice (some ⟨w5.heap.size, 0, Option.none⟩) 1 1] w7 (Inserted (zipC (txts ps) us) [.string x.1, .slice A5 x.2.length c5] ps.length k w7)) := by
          have h1v : ∀ u ∈ ([.string x.1, .slice A5 x.2.length c5] : List Value), u.oneCell' = true := by intro u hu; simp at hu; rcases hu with rfl | rfl <;> rfl
          rcases Nat.lt_or_ge k ps.length with hlt | hge
          · exact insertP_mid g ps.length k w5.heap.size _ _ w7 HG7.out HZL.out hlt (by omega) hV7 rfl (zip_one H1C.out) h1v
          · obtain rfl : k = ps.length := by omega
            exact insertP_end g ps.length w5.heap.size _ _ w7 HG7.out HZL.out (by omega) hV7 rfl h1v
        have hle7 : w5.heap.size + 1 ≤ w7.heap.size := by omega
        clear hz7 hs6 hY5 hY6 hw6 hw7 hk6 hb7 hV7 hu5 hb5 HGz HRWz HRz HYz HOz HRXz HBz HRW5 HG5 HR5 HO5 HB5 HRW6 HG6 HR6 HO6 HB6 CX hyc1
        clear hoc6 hyc60 hyc61
        go_wp2_with fail
        rw [← HW6.out, ← HW7.out]
        clear HW6 HW7 hyf5 hyd5 hoc6r hyc60r hyc61r
        refine HCI.out.mono ?_
        rintro e w8 ⟨cap, rfl, how, hlt8, hb8⟩
        have hs8 := hb8.size
        have hO8 := HO7.out.below hb8 (by omega)
        have hR8 := HR7.out.below hb8 (by omega)
        have hoc8 := hO8.cell 0
        have hof8 := hO8.frozen 0
        rw [zip_put HUL.out] at how
        obtain ⟨w9, hw9⟩ : ∃ w9, w9 = w8.setCell ⟨w3.heap.size, 0, Option.none⟩ (.slice (some ⟨w7.heap.size, 0, Option.none⟩) (ps.length + 1) cap) := ⟨_, rfl⟩
        have hk9 : Keep w3.heap.size (w3.heap.size + 1) w8 w9 := by rw [hw9]; exact (Keep.refl _ _ _).setCell (p := ⟨w3.heap.size, 0, Option.none⟩) (Nat.le_refl _) (by show w3.heap.size < _; omega) _
        have hs9 := hk9.size
        have hLn : (addL ps x).length = ps.length + 1 := addL_len ps x
        have hLL : ps.take k ++ x :: ps.drop k = addL ps x := by unfold addL; rw [HPO.out]
        have hrw9 : RowsO w9 (g + 1) w9.heap.size (us.take k ++ [.slice A5 x.2.length c5] ++ us.drop k) (sigs (addL ps x)) := by
          rw [← hLL, hw9]
          exact (rows_far (HRW7.out.below hb8 (by omega)) hO8 (by decide) 0 _).mono (Nat.le_refl _) (by rw [← hw9]; omega)
        have how9 : w9.ownsRow (g + 1) 45 2 (.slice (some ⟨w7.heap.size, 0, Option.none⟩) (ps.length + 1) cap) (addL ps x).length (zipC (txts (addL ps x)) (us.take k ++ [.slice A5 x.2.length c5] ++ us.drop k)) := by
          rw [hLn, ← hLL]
          exact owns_lo (owns_keep how (hi := w7.heap.size + 1) (fun q hq => by cases hq; show w7.heap.size < _; omega) hk9 (.inr (by omega))) (by omega)
        have htx9 : TxtOk (addL ps x) := fun p hp => by
          rw [← hLL] at hp
          simp only [List.mem_append, List.mem_cons] at hp
          rcases hp with hp | hp | hp
          · exact HTX.out p (List.mem_of_mem_take hp)
          · subst hp; exact hts
          · exact HTX.out p (List.mem_of_mem_drop hp)
        have HOW9 : Hid (OwPS w9 (g + 1) w9.heap.size (.slice (some ⟨w7.heap.size, 0, Option.none⟩) (ps.length + 1) cap) (addL ps x)) := ⟨_, hrw9, how9, htx9, fun q hq => by cases hq; show w7.heap.size < _; omega⟩
        have hO9 : Blk w9 w3.heap.size 41 [.slice (some ⟨w7.heap.size, 0, Option.none⟩) (ps.length + 1) cap] := by rw [hw9]; exact hO8.set_ 0 _
        have hR9 : Blk w9 (w.heap.size + 2) 41 [.slice Option.none 0 0] := (hk9.block _ (.inl (by omega))).trans hR8
        have hoc9 := hO9.cell 0
        have HO9 := Lib.hid hO9
        have HR9 := Lib.hid hR9
        have HB9 := Lib.hid ((HB7.out.trans (hb8.mono (by omega))).trans (hk9.bel.mono (by omega)))
        have HW9 := Lib.hid hw9
        clear hO8 hR8 hw9 hk9 hrw9 how9 htx9 hO9 hR9 how hb8 HG7 HR7 HO7 HRW7 HB7 HCI
        go_wp2_with fail
        rw [← HW9.out]
        clear HW9 hoc8 hof8
        go_wp2_with fail
        have cA := IsBook_any (addL ps x) (.agg #[.slice (some ⟨w7.heap.size, 0, Option.none⟩) (ps.length + 1) cap]) w9.heap.size w9 ⟨_, rfl, HOW9.out.rd⟩ (Nat.le_refl _)
        cases hba : bookB (addL ps x)
        · rw [hba] at cA
          have CA := Lib.hid cA
          have HDN : Hid (addO ps x = Option.none) := addO_bad hba
          clear cA hba
          refine CA.out.mono ?_
          rintro e w10 ⟨rfl, hb10⟩
          have HR10 := Lib.hid (HR9.out.below hb10 (by omega))
          have HB10 := Lib.hid (HB9.out.trans (hb10.mono (by omega)))
          clear hb10 hoc9
          have hr3 := HR10.out
          have hrc := hr3.cell 0
          have hrf := hr3.frozen 0
          have c10 := (hr3.set_ 0 (.slice Option.none 0 0)).cell 0
          have HL := Lib.hid (HB10.out.setCell (p := ⟨w.heap.size + 2, 0, Option.none⟩) (by show w.heap.size ≤ w.heap.size + 2; omega) (.slice Option.none 0 0))
          clear hr3
          go_wp2_with fail
          refine bodyPost_ret (v := .tuple #[.agg #[.slice Option.none 0 0], .bool false]) (by simp [results, Tryz.results25, go_sem, c10]) rfl ?_
          exact ⟨_, by rw [HDN.out]; rfl, by rw [HDN.out]; exact owPS_nil _ _ _, HL.out⟩
        · rw [hba] at cA
          have CA := Lib.hid cA
          have HAO : Hid (addO ps x = some (addL ps x)) := addO_yes HBK.out hba
          clear cA hba
          refine CA.out.mono ?_
          rintro e w10 ⟨rfl, hb10⟩
          have hs10 := hb10.size
          have hR10 := HR9.out.below hb10 (by omega)
          have hO10 := HO9.out.below hb10 (by omega)
          have HOW10 := Lib.hid (HOW9.out.below hb10 (Nat.le_refl _))
          have HB10 := Lib.hid (HB9.out.trans (hb10.mono (by omega)))
          have hoc10 := hO10.cell 0
          have hrc10 := hR10.cell 0
          have hrf10 := hR10.frozen 0
          have c10 := (hR10.set_ 0 (.slice (some ⟨w7.heap.size, 0, Option.none⟩) (ps.length + 1) cap)).cell 0
          clear hb10 hoc9 hR10 hO10
          go_wp2_with fail
          refine bodyPost_ret (v := .tuple #[.agg #[.slice (some ⟨w7.heap.size, 0, Option.none⟩) (ps.length + 1) cap], .bool true]) (by simp [results, Tryz.results25, go_sem, c10]) rfl ?_
          have hk11 : Keep (w.heap.size + 2) (w.heap.size + 3) w10 (w10.setCell ⟨w.heap.size + 2, 0, Option.none⟩ (.slice (some ⟨w7.heap.size, 0, Option.none⟩) (ps.length + 1) cap)) := (Keep.refl _ _ _).setCell (p := ⟨w.heap.size + 2, 0, Option.none⟩) (Nat.le_refl _) (by show w.heap.size + 2 < _; omega) _
          refine ⟨_, by rw [HAO.out]; rfl, ?_, HB10.out.trans (hk11.bel.mono (by omega))⟩
          rw [HAO.out]
          exact (HOW10.out.keep hk11 (.inr (by omega))).mono (show w.heap.size ≤ g + 1 by omega) (by rw [hk11.size]; omega)
end Go.Proofs.YtjnkdjokbamibaaGreatDoor
/- For the laws: contracts of AddPhrase and DropPhrase in one form; few marks on what they give. -/
namespace Go.Proofs.YtjnkdjokbamibaaGreatDoor
open Go.RowKit
theorem RdPS.mono {w : World} {hi hi' : Nat} {v : Value} {ps : List Phr} (h : RdPS w hi v ps) (hB : hi ≤ hi') : RdPS w hi' v ps := by
  obtain ⟨us, h1, h2, h3⟩ := h; exact ⟨us, h1.mono hB, h2.mono hB, h3⟩
theorem RdB.mono {w : World} {hi hi' : Nat} {v : Value} {ps : List Phr} (h : RdB w hi v ps) (hB : hi ≤ hi') : RdB w hi' v ps := by
  obtain ⟨u, h1, h2⟩ := h; exact ⟨u, h1, h2.mono hB⟩
theorem RdP.mono {w : World} {hi hi' : Nat} {v : Value} {p : Phr} (h : RdP w hi v p) (hB : hi ≤ hi') : RdP w hi' v p := by
  obtain ⟨u, h1, h2, h3⟩ := h; exact ⟨u, h1, RdI.mono h2 hB, h3⟩
theorem OwPS.far {w : World} {lo hi B : Nat} {v x : Value} {ps : List Phr} (h : OwPS w lo hi v ps) (hX : Blk w B 41 [x]) (u : Value) : OwPS (w.setCell ⟨B, 0, Option.none⟩ u) lo hi v ps := by
  obtain ⟨us, h1, h2, h3, h4⟩ := h
  refine ⟨us, rows_far h1 hX (by decide) 0 u, ⟨h2.1, ?_⟩, h3, h4⟩
  rcases h2.2 with hn | ⟨g, cap, cur, e1, hl, hg, rest⟩
  · exact .inl hn
  · refine .inr ⟨g, cap, cur, e1, hl, ?_, rest⟩
    rw [Below.heap_setCell _ _ _ _ (by show g ≠ B; rintro rfl; rw [hX] at hg; simp at hg)]
    exact hg
def RetB (ps : List Phr) (b : Bool) (w : World) (e : Ending) (w' : World) : Prop := ∃ v, e = .returned (.tuple #[v, .bool b]) ∧ OwB w' w.heap.size w'.heap.size v ps ∧ Below w.heap.size w w'
theorem sDropB_any (ps : List Phr) (s : ByteArray) (v : Value) (hi : Nat) (w : World) (_ : s.size ≤ maxLen) (h : RdB w hi v ps) (hh : hi ≤ w.heap.size) : Calls Tryz.prog 29 #[v, .string s] w (RetB ((dropO ps s).getD []) (dropO ps s).isSome w) :=
  (sDropPhrase_any ps s v hi w h hh).mono fun _ _ h => owB_of h
theorem dropB_any (ps : List Phr) (s : ByteArray) (v : Value) (hi : Nat) (w : World) (hs0 : s.size ≤ maxLen) (h : RdB w hi v ps) (hh : hi ≤ w.heap.size) : Calls Tryz.prog 28 #[v, .string s] w (RetB ((dropO ps s).getD []) (dropO ps s).isSome w) :=
  (DropPhrase_any ps s v hi w hs0 h hh).mono fun _ _ h => owB_of h
theorem sAddB_any (ps : List Phr) (x : Phr) (v u : Value) (hi hj : Nat) (w : World) (hxs : x.2.length ≤ 1048576) (h : RdB w hi v ps) (g : RdP w hj u x) (hh : hi ≤ w.heap.size) (hg : hj ≤ w.heap.size) : Calls Tryz.prog 26 #[v, u] w (RetB ((addO ps x).getD []) (addO ps x).isSome w) :=
  (sAddPhrase_any ps x v u w.heap.size w (h.mono hh) (g.mono hg) (Nat.le_refl _) hxs).mono fun _ _ h => owB_of h
theorem addB_any (ps : List Phr) (x : Phr) (v u : Value) (hi hj : Nat) (w : World) (_ : x.2.length ≤ 1048576) (h : RdB w hi v ps) (g : RdP w hj u x) (hh : hi ≤ w.heap.size) (hg : hj ≤ w.heap.size) : Calls Tryz.prog 25 #[v, u] w (RetB ((addO ps x).getD []) (addO ps x).isSome w) :=
  (AddPhrase_any ps x v u w.heap.size w (h.mono hh) (g.mono hg) (Nat.le_refl _)).mono fun _ _ h => owB_of h
end Go.Proofs.YtjnkdjokbamibaaGreatDoor
/- Rows of phrases appended: what the door's texts ask besides. -/
namespace Go.Proofs.YtjnkdjokbamibaaGreatDoor
open Go.RowKit
theorem growO_of {w wr : World} {B : Nat} {v : Value} {ps : List Phr} (h : OwPS wr B wr.heap.size v ps) (hb : Below B w wr) (hB : B ≤ wr.heap.size) : GrowO w B wr v ps := by
  obtain ⟨us, h1, h2, h3, _⟩ := h
  exact ⟨⟨us, h1, h2⟩, h3, hb, hB⟩
theorem GrowO.belowR {w wr wr' : World} {B : Nat} {v : Value} {ps : List Phr} (h : GrowO w B wr v ps) (hb : Below wr.heap.size wr wr') : GrowO w B wr' v ps :=
  growO_of ((h.own.below hb (Nat.le_refl _)).mono (Nat.le_refl _) hb.size) (h.2.2.1.trans (hb.mono h.2.2.2)) (Nat.le_trans h.2.2.2 hb.size)
theorem GrowO.far {w wr : World} {B L : Nat} {v x : Value} {ps : List Phr} (h : GrowO w B wr v ps) (hX : Blk wr L 41 [x]) (hL : B ≤ L) (u : Value) : GrowO w B (wr.setCell ⟨L, 0, Option.none⟩ u) v ps := by
  have h1 := h.own.far hX u
  have hs : (wr.setCell ⟨L, 0, Option.none⟩ u).heap.size = wr.heap.size := by simp [World.setCell]
  exact growO_of (by rw [hs]; exact h1) (h.2.2.1.setCell hL u) (by rw [hs]; exact h.2.2.2)
end Go.Proofs.YtjnkdjokbamibaaGreatDoor
