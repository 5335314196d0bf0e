/- Texts of one claim, joined: Y12, W6, Y13. -/
import Derived.Deep.RegionLaw
import Derived.Test.YtjnkdjokbamibaaDoorP6ParseBook
/- Contracts: ParseBook of the reference. -/
namespace Go.Proofs.YtjnkdjokbamibaaDoor
open Go.RowKit
theorem run_appR2 {w : World} {B hi : Nat} {v u : Value} {xs ys : List Int} (ty : TypeId) (hown : w.ownsRow B 3 1 v xs.length (ints xs)) (hB : B ≤ w.heap.size) (hR : RdI w hi u ys) (hlen : xs.length + ys.length ≤ 1099511627776) :
    ∃ v' w', (Builtin.append_ #[30, 30] ty #[v, u]).run Tryd.prog w = .ok v' w' ∧ w'.ownsRow B 3 1 v' (xs ++ ys).length (ints (xs ++ ys)) ∧ w.grownBy w' v.ownBlock := by
  obtain ⟨i, hi0, hz0, hz1, hz2⟩ := info_parts info_int
  obtain ⟨hl, A, c, rfl, hc1, hc2, hcell⟩ := hR
  rcases A with _ | ad
  · have h0 : ys = [] := by
      rcases Nat.eq_zero_or_pos ys.length with h | h
      · exact List.eq_nil_of_length_eq_zero h
      · obtain ⟨b, off, e, _⟩ := hcell h; cases e
    subst h0
    exact ⟨v, w, run_append_nil B 30 ty 3 i 1 Tryd.underlying30 hi0 v xs.length (ints xs) hown c, by simpa using hown, World.grownBy.refl _ _⟩
  · have hnews : ∀ j u, (ints ys)[j]? = some u → w.cell? (ad.add j) = some u := by
      intro j u hj
      rcases Nat.eq_zero_or_pos ys.length with h | h
      · rw [List.eq_nil_of_length_eq_zero h] at hj; simp at hj
      · obtain ⟨b, off, e, _, hcc⟩ := hcell h
        cases e
        rw [Go.WideShapes.add_plain]; exact hcc j u hj
    obtain ⟨v', w', hr, ho, hg, _⟩ := run_append_own (P := Tryd.prog) w B 30 ty 3 i (.int .i64 0) 1 8 Tryd.underlying30 hi0 hz0 hz1 hz2 rfl (by decide) v xs.length (ints xs) hown ad ys.length c (ints ys) (by simp) hnews
      (by intro u hu; simp at hu; obtain ⟨z, _, rfl⟩ := hu; rfl) (by unfold maxLen; omega) (by omega) hB
    exact ⟨v', w', hr, by simpa [ints] using ho, hg⟩
/-- A slice of numbers is appended at a step of a region that draws its order. -/
theorem step_appR2 {w0 w : World} {B hi : Nat} {v u : Value} {xs ys : List Int} {ops : Array Oper} {o : Oper} {a : Act} {K : Act → World → Prop} {Q : Exit → Act → World → Prop} {E : Prop} (hgd : o.guard = Option.none) (s x : Operand)
    (ho : o.op = .call { callee := .builtin .append, args := #[s, x], argTypes := #[30, 30] }) (hG : GrowI w0 B w v xs) (hR : RdI w hi u ys) (hlen : xs.length + ys.length ≤ 1099511627776) (hs : a.eval s = v) (hx : a.eval x = u)
    (h : ∀ v' w', GrowI w0 B w' v' (xs ++ ys) → K (a.put o.dst v') w') : if Region.wanted o (yielded ops a.tmps) = true then Oper.wp Tryd.prog o a w K Q else E := by
  have hw : Region.wanted o (yielded ops a.tmps) = true := by simp [Region.wanted, hgd]
  rw [if_pos hw]
  obtain ⟨v', w', hr, h1, h2⟩ := run_appR2 o.type hG.1 hG.2.2 hR hlen
  unfold Oper.wp execOp
  simp only [ho, resolve, invoke, builtin, Sem.run_bind, Sem.run_pure, Result.andThen_ok, List.map_toArray, List.map_cons, List.map_nil, hs, hx, hr]
  exact h v' w' ⟨h1, hG.2.1.grown h2 hG.2.2 (fun k hk => (hG.1.lt k hk).1), Nat.le_trans hG.2.2 h2.size⟩
theorem one_rd2 (w : World) (x : Int) : RdI (w.alloc (.cells #[.int .i64 x] 3)) (w.heap.size + 1) (.slice (some ⟨w.heap.size, 0, Option.none⟩) 1 1) [x] := by
  refine ⟨rfl, _, 1, rfl, Nat.le_refl _, by decide, fun _ => ⟨w.heap.size, 0, rfl, by omega, fun j u hj => ?_⟩⟩
  match j, hj with
  | 0, hj =>
    simp at hj; subst hj
    exact (Blk.new w 3 #[.int .i64 x]).cell 0
theorem owns_kg {w w' : World} {lo C size n : Nat} {e : TypeId} {v : Value} {xs : List Value} (h : w.ownsRow lo e size v n xs) (hk : KeepG C (C + 1) w w') (hC : C < lo) : w'.ownsRow lo e size v n xs := by
  refine ⟨h.1, ?_⟩
  rcases h.2 with hn | ⟨g, cap, cur, rfl, hl, hg, rest⟩
  · exact .inl hn
  · exact .inr ⟨g, cap, cur, rfl, hl, (hk.block g (Array.getElem?_eq_some_iff.1 hg).1 (by omega)).trans hg, rest⟩
theorem kg_below {w w' : World} {C B : Nat} (hk : KeepG C (C + 1) w w') (hB : B ≤ C) (hC : C ≤ w.heap.size) : Below B w w' := ⟨hk.os, hk.tape, hk.output, hk.size, fun k h => hk.block k (by omega) (by omega)⟩
theorem kg_set {w0 w : World} {C : Nat} (hk : KeepG C (C + 1) w0 w) (i : Nat) (u : Value) : KeepG C (C + 1) w0 (w.setCell ⟨C, i, Option.none⟩ u) :=
  hk.trans ((Keep.refl C (C + 1) w).setCell (p := ⟨C, i, Option.none⟩) (Nat.le_refl _) (Nat.lt_succ_self _) u).g
theorem kg_fresh {C D : Nat} {w0 w w' : World} (h : KeepG C D w0 w) (hb : Below w0.heap.size w w') : KeepG C D w0 w' :=
  ⟨hb.os.trans h.os, hb.tape.trans h.tape, hb.output.trans h.output, Nat.le_trans h.size hb.size, fun k hk hn => (hb.block k hk).trans (h.block k hk hn)⟩
theorem take_last {α : Type} (l : List α) : l.dropLast = l.take (l.length - 1) := List.dropLast_eq_take
theorem refLine_not {y : List UInt8} (h : ¬ (splitC 32 y).length = 2) : refLine y = Option.none := by
  unfold refLine
  split
  · rename_i a r e; rw [e] at h; exact absurd rfl h
  · rfl
theorem refLine_two {y a r : List UInt8} (h : splitC 32 y = [a, r]) : refLine y = some (⟨a.toArray⟩, (splitC 45 r).map readR) := by unfold refLine; rw [h]
theorem refB_long {s : List UInt8} (h : 41 < (splitC 10 s).length) : refB s = Option.none := by unfold refB; rw [if_pos h]
theorem refB_bad {s : List UInt8} (h : allO refLine (splitC 10 s).dropLast = Option.none) : refB s = Option.none := by unfold refB; rw [h]; split <;> rfl
theorem refB_end {s : List UInt8} {b : List Phr} (h : ¬ 41 < (splitC 10 s).length) (g : allO refLine (splitC 10 s).dropLast = some b) : refB s = if bookB b && decide (bookT b = s) then some b else Option.none := by unfold refB; rw [if_neg h, g]
theorem len_two {l : List (List UInt8)} (h : l.length = 2) : ∃ a r, l = [a, r] := by
  match l, h with
  | [a, r], _ => exact ⟨a, r, rfl⟩
theorem take_snocR {α β : Type} (f : α → β) {p : List α} {k : Nat} {a : α} (h : p[k]? = some a) : (p.take (k + 1)).map f = (p.take k).map f ++ [f a] := by rw [List.take_add_one, h, List.map_append]; rfl
set_option maxRecDepth 100000 in
set_option maxHeartbeats 4000000 in
theorem sParseBook_any (s : ByteArray) (hs : s.size ≤ 1048576) (w : World) : Calls Tryd.prog 7 #[.string s] w (RetOwBT ((bookO s.data.toList).getD []) (bookO s.data.toList).isSome w) := by
  rw [← refB_eq]
  have hs2 : s.data.toList.length = s.size := by simp
  obtain ⟨wa, hwa⟩ : ∃ x, x = w.alloc (.cells #[.slice Option.none 0 0] 24) := ⟨_, rfl⟩
  have hb0 : Below w.heap.size w wa := by rw [hwa]; exact (Below.refl _ _).alloc (Nat.le_refl _) _
  have hR0 : Blk wa w.heap.size 24 [.slice Option.none 0 0] := by rw [hwa]; exact Blk.new w 24 #[.slice Option.none 0 0]
  have hPl := splitC_len 10 s.data.toList
  have hml : ∀ a ∈ splitC 10 s.data.toList, a.length ≤ s.data.toList.length := fun a h => splitC_le h
  have cS := l1Split_own s 10 (by omega) wa
  obtain ⟨P, hP⟩ : ∃ P, P = splitC 10 s.data.toList := ⟨_, rfl⟩
  rw [← hP] at hPl cS hml
  have HP := Lib.hid hP
  have HM := Lib.hid hml
  have CS : Hid (Calls Tryd.prog 24 #[.string s, .int .u8 10] wa (RetGrS P wa)) := cS
  have HB0 := Lib.hid hb0
  have HR0 := Lib.hid hR0
  have hsa : w.heap.size < wa.heap.size := hR0.lt
  clear hP hml cS hb0 hR0
  by_cases h41 : 41 < P.length
  · have HE : Hid (refB s.data.toList = Option.none) := refB_long (by rw [← HP.out]; exact h41)
    go_enter Tryd.func7, Tryd.ntmps7
    go_wp2_with fail
    rw [← hwa]
    refine CS.out.mono ?_
    rintro e w1 ⟨v, rfl, hG⟩
    obtain ⟨A, c, rfl, hc, hm⟩ := Rd.form hG.rd
    have hr1 := HR0.out.below hG.2.1 hsa
    have hrc := hr1.cell 0
    have hrf := hr1.frozen 0
    have c10 := (hr1.set_ 0 (.slice Option.none 0 0)).cell 0
    have HLX := Lib.hid ((HB0.out.trans (hG.2.1.mono (by omega))).setCell (p := ⟨w.heap.size, 0, Option.none⟩) (Nat.le_refl _) (.slice Option.none 0 0))
    clear hG hr1
    go_wp2_with fail
    refine bodyPost_ret (v := .tuple #[.agg #[.slice Option.none 0 0], .bool false]) (by simp [results, Tryd.results7, go_sem, c10]) rfl ?_
    exact ⟨_, by rw [HE.out]; rfl, by rw [HE.out]; exact owPS_nil _ _ _, HLX.out⟩
  · obtain ⟨n, hn⟩ : ∃ n, P.length = n + 1 := ⟨P.length - 1, by omega⟩
    obtain ⟨Q, hQ⟩ : ∃ Q, Q = P.take n := ⟨_, rfl⟩
    have hQl : Q.length = n := by rw [hQ, List.length_take]; omega
    have HDL : Hid ((splitC 10 s.data.toList).dropLast = Q) := by show _ = _; rw [← HP.out, take_last, hn, hQ]; rfl
    have HM2 : Hid (∀ a ∈ Q, a.length ≤ s.data.toList.length) := fun a h => HM.out a (by rw [hQ] at h; exact List.mem_of_mem_take h)
    have hn40 : n ≤ 40 := by omega
    have H41 : Hid (¬ 41 < (splitC 10 s.data.toList).length) := by show ¬ _; rw [← HP.out]; exact h41
    go_enter Tryd.func7, Tryd.ntmps7
    go_wp2_with fail
    rw [← hwa]
    clear hwa
    refine CS.out.mono ?_
    rintro e w1 ⟨v, rfl, hG⟩
    have hrd := hG.rd
    have hb1 := hG.2.1
    obtain ⟨b0, o0, c, y0, rfl, _, _, _⟩ := Rd.atS hrd (show 0 < P.length by omega)
    have hcp : P.length ≤ c := by obtain ⟨A', c', hv, hc', _⟩ := Rd.form hrd; cases hv; exact hc'
    have hcut : Rd w1 w1.heap.size 1 (.slice (some ⟨b0, o0, Option.none⟩) n c) n (strsT Q) := by
      have h := hrd.cut (k := n) (by omega)
      rw [show (strsT P).take n = strsT Q by rw [hQ]; unfold strsT; rw [List.map_take]] at h
      exact h
    have hs1 : wa.heap.size ≤ w1.heap.size := hb1.size
    obtain ⟨w2, hw2⟩ : ∃ x, x = w1.alloc (.cells #[.slice Option.none 0 0] 24) := ⟨_, rfl⟩
    have hb2 : Below w1.heap.size w1 w2 := by rw [hw2]; exact (Below.refl _ _).alloc (Nat.le_refl _) _
    have hX2 : Blk w2 w1.heap.size 24 [.slice Option.none 0 0] := by rw [hw2]; exact Blk.new w1 _ _
    have hz2 : w2.heap.size = w1.heap.size + 1 := by rw [hw2]; simp
    have HX2 := Lib.hid hX2
    have HR2 := Lib.hid ((HR0.out.below hb1 hsa).below hb2 (by omega))
    have HRD := Lib.hid (hcut.below hb2 (Nat.le_refl _))
    have HB2 := Lib.hid ((HB0.out.trans (hb1.mono (by omega))).trans (hb2.mono (by omega)))
    have HW2 := Lib.hid hw2
    clear hrd hb1 hb2 hX2 hw2 HB0 HR0 CS hG hcut hQ
    rw [hn]
    rw [hn] at hcp
    clear hn h41 hPl HP HM
    go_wp2_with fail
    rw [← HW2.out]
    clear HW2
    go_loopw [25] (fun i wr => ∃ (k : Nat) (ps : List Phr) (A5 : Option Addr) (c5 : Nat), k ≤ n ∧ i = .int .i64 (k : Int) ∧ ps.length ≤ k ∧ Hid (allO refLine (Q.take k) = some ps) ∧ Hid (OwPS wr w2.heap.size wr.heap.size (.slice A5 ps.length c5) ps) ∧ Hid (Blk wr w1.heap.size 24 [.slice A5 ps.length c5]) ∧ Hid (Below w1.heap.size w2 wr)) (fun i _ => n - (intOf i).toNat)
    case atStart => exact ⟨0, [], Option.none, 0, Nat.zero_le _, rfl, Nat.le_refl _, rfl, owPS_nil _ _ _, HX2.out, Below.refl _ _⟩
    case round =>
      obtain ⟨k, ps, A5, c5, hk, rfl, hps, HA, HO, HX, HBq⟩ := hrel
      rename World => wo
      have hsq : w2.heap.size ≤ wo.heap.size := HBq.out.size
      have hbw : Below w.heap.size w wo := HB2.out.trans (HBq.out.mono (by omega))
      have HBW := Lib.hid hbw
      have HRQ := Lib.hid (HR2.out.below HBq.out (by omega))
      clear hbw HX2
      by_cases hlt : k < n
      · obtain ⟨b1, o1, c1, y, hv, _, hx, hcell1⟩ := Rd.atS (Rd.below HRD.out HBq.out (Nat.le_refl _)) hlt
        injection hv with hv1 hv2 hv3; cases hv1; clear hv2 hv3
        have hy := HM2.out y (List.mem_of_getElem? hx)
        have cY := l1Split_own ⟨y.toArray⟩ 32 (by show y.toArray.size ≤ _; simp; omega) wo
        have e0 : (⟨y.toArray⟩ : ByteArray).data.toList = y := rfl
        rw [e0] at cY
        have hyl : ∀ a ∈ splitC 32 y, a.length ≤ y.length := fun a h => splitC_le h
        have hr2 : (splitC 32 y).length = 2 → ∃ a r, splitC 32 y = [a, r] := len_two
        have hrn : ¬ (splitC 32 y).length = 2 → refLine y = Option.none := refLine_not
        have hry : ∀ a r, splitC 32 y = [a, r] → refLine y = some (⟨a.toArray⟩, (splitC 45 r).map readR) := fun a r h => refLine_two h
        have hyn := (splitC_len 32 y).2
        obtain ⟨Y, hY⟩ : ∃ Y, Y = splitC 32 y := ⟨_, rfl⟩
        rw [← hY] at cY hyl hr2 hrn hry hyn
        have CY : Hid (Calls Tryd.prog 24 #[.string ⟨y.toArray⟩, .int .u8 32] wo (RetGrS Y wo)) := cY
        have HHX := Lib.hid hx
        clear cY e0 hY hx
        by_cases h2 : Y.length = 2
        · obtain ⟨a, r, hYe⟩ := hr2 h2
          have HRY := Lib.hid (hry a r hYe)
          have hal := hyl a (by rw [hYe]; simp)
          have hrl := hyl r (by rw [hYe]; simp)
          subst hYe
          clear hr2 hrn hry hyl h2 hyn
          go_wp2_with fail
          refine CY.out.mono ?_
          rintro e w3 ⟨v3, rfl, hG3⟩
          have hrd3 := hG3.rd
          obtain ⟨b3, o3, c3, y3, rfl, hb3l, hy3, hc30⟩ := Rd.atS hrd3 (k := 0) (by simp)
          obtain ⟨b3', o3', c3', y3', hv, _, hy3', hc31⟩ := Rd.atS hrd3 (k := 1) (by simp)
          cases hv
          cases hy3
          cases hy3'
          rw [show o3 + 0 = o3 from rfl] at hc30
          have hb3 := hG3.2.1
          have hs3 : wo.heap.size ≤ w3.heap.size := hb3.size
          clear hG3 hrd3 CY
          obtain ⟨w4, hw4⟩ : ∃ x, x = w3.alloc (.cells #[.string ⟨a.toArray⟩, .slice Option.none 0 0] 49) := ⟨_, rfl⟩
          have hb4 : Below w3.heap.size w3 w4 := by rw [hw4]; exact (Below.refl _ _).alloc (Nat.le_refl _) _
          have hX4 : Blk w4 w3.heap.size 49 [.string ⟨a.toArray⟩, .slice Option.none 0 0] := by rw [hw4]; exact Blk.new w3 _ _
          have hz4 : w4.heap.size = w3.heap.size + 1 := by rw [hw4]; simp
          have hc41 : (w3.alloc (.cells #[.string ⟨a.toArray⟩, .slice Option.none 0 0] 49)).cell? ⟨b3, o3 + 1, Option.none⟩ = some (.string ⟨r.toArray⟩) := by rw [← hw4]; exact (hb4.cell (p := ⟨b3, o3 + 1, Option.none⟩) hb3l).trans hc31
          have HX4 := Lib.hid hX4
          have HB4 := Lib.hid (hb3.trans (hb4.mono (by omega)))
          have HW4 := Lib.hid hw4
          have cZ := l1Split_own ⟨r.toArray⟩ 45 (by show r.toArray.size ≤ _; simp; omega) w4
          have e0 : (⟨r.toArray⟩ : ByteArray).data.toList = r := rfl
          rw [e0] at cZ
          have hzl : ∀ a ∈ splitC 45 r, a.length ≤ r.length := fun a h => splitC_le h
          have hzn := (splitC_len 45 r).2
          obtain ⟨Z, hZ⟩ : ∃ Z, Z = splitC 45 r := ⟨_, rfl⟩
          rw [← hZ] at cZ hzl hzn HRY
          have CZ : Hid (Calls Tryd.prog 24 #[.string ⟨r.toArray⟩, .int .u8 45] w4 (RetGrS Z w4)) := cZ
          have HZL := Lib.hid hzl
          clear hb4 hX4 hw4 cZ e0 hZ hzl hb3 hc31
          go_wp2_with fail
          rw [← HW4.out]
          clear HW4 hc41
          refine CZ.out.mono ?_
          rintro e w5 ⟨v5, rfl, hG5⟩
          have HG5 := Lib.hid hG5
          obtain ⟨A6, c6, rfl, _, _⟩ := Rd.form hG5.rd
          have hs5 : w4.heap.size ≤ w5.heap.size := hG5.2.1.size
          have HX5 := Lib.hid (HX4.out.below hG5.2.1 (by omega))
          clear hG5 CZ HX4 hc30
          go_wp2_with fail
          go_loopw [44] (fun i wr => ∃ (j : Nat) (xs : List Int) (A7 : Option Addr) (c7 : Nat), j ≤ Z.length ∧ i = .int .i64 (j : Int) ∧ xs.length ≤ j ∧ Hid (xs.length = j) ∧ Hid (xs = (Z.take j).map readR) ∧ Hid (wr.ownsRow w5.heap.size 3 1 (.slice A7 xs.length c7) xs.length (ints xs)) ∧ Hid (Blk wr w3.heap.size 49 [.string ⟨a.toArray⟩, .slice A7 xs.length c7]) ∧ Hid (KeepG w3.heap.size (w3.heap.size + 1) w5 wr)) (fun i _ => Z.length - (intOf i).toNat)
          case atStart => exact ⟨0, [], Option.none, 0, Nat.zero_le _, rfl, Nat.le_refl _, rfl, rfl, World.ownsRow_nil _ _ _ _, HX5.out, KeepG.refl _ _ _⟩
          case round =>
            obtain ⟨j, xs, A7, c7, hj, rfl, hxj, HXL, HXS, HOW, HXB, HKG⟩ := hrel
            have hs6 : w5.heap.size ≤ wr.heap.size := HKG.out.size
            clear HX5
            by_cases hjl : j < Z.length
            · have hzo := owns_kg HG5.out.1 HKG.out (show w3.heap.size < w4.heap.size by omega)
              obtain ⟨b7, o7, c7', z, hv, _, hz, hcell7⟩ := Rd.atS (rd_of_owns (hi := wr.heap.size) hzo (fun k hk => (hzo.lt k hk).2)) hjl
              injection hv with hv1 hv2 hv3; cases hv1; clear hv2 hv3
              have hzl := HZL.out z (List.mem_of_getElem? hz)
              have HXS2 : Hid (xs ++ [readR z] = (Z.take (j + 1)).map readR) := by show _ = _; rw [take_snocR readR hz, HXS.out]
              have CR : Hid (∀ wx, Calls Tryd.prog 25 #[.string ⟨z.toArray⟩] wx fun e w' => e = .returned (.int .i64 (readR z)) ∧ wx = w') := fun wx => l1Read_any ⟨z.toArray⟩ (by show z.toArray.size ≤ _; simp; omega) wx
              have hgD : GrowI wr.drew w5.heap.size wr.drew (.slice A7 xs.length c7) xs := ⟨HOW.out, Below.refl _ _, hs6⟩
              have HGD := Lib.hid hgD
              have hxD : Blk wr.drew w3.heap.size 49 [.string ⟨a.toArray⟩, .slice A7 xs.length c7] := HXB.out
              have HXD := Lib.hid hxD
              have HKD : Hid (KeepG w3.heap.size (w3.heap.size + 1) w5 wr.drew) := HKG.out.trans (below_g (Below.refl _ _).drew)
              have hx1 : wr.cell? ⟨w3.heap.size, 1, Option.none⟩ = some (.slice A7 xs.length c7) := HXB.out.cell 1
              have hx1b : ∀ x, (wr.alloc (.cells #[.int .i64 x] 3)).cell? ⟨w3.heap.size, 1, Option.none⟩ = some (.slice A7 xs.length c7) := fun x => (HXB.out.alloc _).cell 1
              have hx1a : ∀ x, (wr.drew.alloc (.cells #[.int .i64 x] 3)).cell? ⟨w3.heap.size, 1, Option.none⟩ = some (.slice A7 xs.length c7) := fun x => (hxD.alloc _).cell 1
              clear hzo hz hgD hxD HKG HOW HXB HXS
              go_wp2_with fail
              go_region_law (first
                | ((go_simp; go_at_call 25; (with_reducible refine (CR.out _).mono ?_); rintro e w8 ⟨rfl, rfl⟩))
                | ((refine step_appR2 (by rfl) (.tmp 49) (.tmp 52) (by rfl) (HGD.out.belowR ((Below.refl _ _).alloc (Nat.le_refl _) _)) (one_rd2 wr.drew (readR z)) (by simp; omega) (by rfl) (by rfl) ?_; intro v8 w8 hg8; obtain ⟨A8, c8, hv8, _, _⟩ := Rd.form hg8.own.rd; subst hv8; have hb8 := HXD.out.below hg8.2.1 (show w3.heap.size < w5.heap.size by omega); have hx8 := hb8.cell 1; have hf8 := hb8.frozen 1)))
              all_goals
                have hl8 : (xs ++ [readR z]).length = xs.length + 1 := by simp
                have HOW8 : Hid ((w8.setCell ⟨w3.heap.size, 1, Option.none⟩ (.slice A8 (xs.length + 1) c8)).ownsRow w5.heap.size 3 1 (.slice A8 (xs ++ [readR z]).length c8) (xs ++ [readR z]).length (ints (xs ++ [readR z]))) := by
                  have h := ownsRow_setCell_below (a := ⟨w3.heap.size, 1, Option.none⟩) hg8.1 (show w3.heap.size < w5.heap.size by omega) (.slice A8 (xs.length + 1) c8)
                  show World.ownsRow _ _ _ _ _ _ _
                  rw [hl8] at h ⊢; exact h
                have HXB8 : Hid (Blk (w8.setCell ⟨w3.heap.size, 1, Option.none⟩ (.slice A8 (xs.length + 1) c8)) w3.heap.size 49 [.string ⟨a.toArray⟩, .slice A8 (xs ++ [readR z]).length c8]) := by
                  show Blk _ _ _ _
                  rw [hl8]; exact hb8.set_ 1 _
                have HKG8 := Lib.hid (kg_set (kg_fresh HKD.out hg8.2.1) 1 (.slice A8 (xs.length + 1) c8))
                clear hg8 hb8
                go_wp2_with fail
                go_roundw
                case rel => exact ⟨j + 1, xs ++ [readR z], A8, c8, by omega, by go_num, by rw [hl8]; omega, by show _ = _; rw [hl8, HXL.out], HXS2, HOW8, HXB8, HKG8⟩
                case measure => (simp [intOf]; try omega)
            · have hzj : (Z.take j) = Z := List.take_of_length_le (by omega)
              have HB5 : Hid (Below wo.heap.size wo wr) := (HB4.out.trans (HG5.out.2.1.mono (by omega))).trans (kg_below HKG.out (by omega) (by omega))
              have hs6w : wo.heap.size ≤ wr.heap.size := HB5.out.size
              have hX6 := HX.out.below HB5.out (by omega)
              have hxc := hX6.cell 0
              have hxp0 := HXB.out.cell 0
              have hxp1 := HXB.out.cell 1
              have hxs : xs = Z.map readR := by rw [HXS.out, hzj]
              have HA2 : Hid (allO refLine (Q.take (k + 1)) = some (ps ++ [((⟨a.toArray⟩ : ByteArray), xs)])) := by
                show _ = _
                rw [List.take_add_one, HHX.out, hxs]; exact allO_snoc HA.out HRY.out
              have HU : Hid (OwI wr wo.heap.size wr.heap.size (.slice A7 xs.length c7) xs) := OwI.mono ⟨HOW.out, fun q hq => (HOW.out.lt q hq).2⟩ (show wo.heap.size ≤ w5.heap.size by omega) (Nat.le_refl _)
              have HG := Lib.hid (growO_of HO.out (Below.refl _ _) hsq)
              have HTS : Hid ((⟨a.toArray⟩ : ByteArray).size ≤ 9223372036854775807) := by show a.toArray.size ≤ _; simp; omega
              clear hX6 hxs hzj HXS HXL HOW HXB HKG
              go_wp2_with (at_builtin; refine GrowO.app rfl (.tmp 57) (.tmp 59) rfl HG.out HB5.out HU.out HTS.out (by omega) rfl rfl rfl ?_; intro v' w6 hG' hfr hsz6; obtain ⟨A8, c8, hv8, _⟩ := hG'.form; subst hv8; have hX6 := HX.out.below hG'.2.2.1 (show w1.heap.size < w2.heap.size by omega); have hxc6 := hX6.cell 0; have hxf6 := hX6.frozen 0; have HX6 := Lib.hid hX6; have HG6 := Lib.hid hG'; clear hG' hfr hX6)
              have hl1 : (ps ++ [((⟨a.toArray⟩ : ByteArray), xs)]).length = ps.length + 1 := by simp
              have HO7 : Hid (OwPS (w6.setCell ⟨w1.heap.size, 0, Option.none⟩ (.slice A8 (ps.length + 1) c8)) w2.heap.size (w6.setCell ⟨w1.heap.size, 0, Option.none⟩ (.slice A8 (ps.length + 1) c8)).heap.size (.slice A8 (ps ++ [((⟨a.toArray⟩ : ByteArray), xs)]).length c8) (ps ++ [((⟨a.toArray⟩ : ByteArray), xs)])) :=
                (HG6.out.own.far HX6.out (.slice A8 (ps.length + 1) c8)).mono (Nat.le_refl _) (by rw [World.size_setCell]; exact Nat.le_refl _)
              have HX7 : Hid (Blk (w6.setCell ⟨w1.heap.size, 0, Option.none⟩ (.slice A8 (ps.length + 1) c8)) w1.heap.size 24 [.slice A8 (ps ++ [((⟨a.toArray⟩ : ByteArray), xs)]).length c8]) := by
                show Blk _ _ _ _
                rw [hl1]; exact HX6.out.set_ 0 _
              have HB7 : Hid (Below w1.heap.size w2 (w6.setCell ⟨w1.heap.size, 0, Option.none⟩ (.slice A8 (ps.length + 1) c8))) := (HBq.out.trans (HG6.out.2.2.1.mono (by omega))).setCell (p := ⟨w1.heap.size, 0, Option.none⟩) (Nat.le_refl _) _
              go_roundw
              case rel => exact ⟨k + 1, ps ++ [((⟨a.toArray⟩ : ByteArray), xs)], A8, c8, by omega, by go_num, by rw [hl1]; omega, HA2, HO7, HX7, HB7⟩
              case measure => (simp [intOf]; try omega)
        · have HE : Hid (refB s.data.toList = Option.none) := refB_bad (by rw [HDL.out]; exact allO_no HHX.out (hrn h2))
          have hne : ((Y.length : Int) == 2) = false := by rw [beq_eq_false_iff_ne]; omega
          clear hr2 hrn hry hyl h2
          go_wp2_with fail
          refine CY.out.mono ?_
          rintro e w3 ⟨v3, rfl, hG3⟩
          obtain ⟨A3, c3, rfl, _, _⟩ := Rd.form hG3.rd
          have hr4 := HRQ.out.below hG3.2.1 (by omega)
          have hrc := hr4.cell 0
          have hrf := hr4.frozen 0
          have c10 := (hr4.set_ 0 (.slice Option.none 0 0)).cell 0
          have HLX := Lib.hid ((HBW.out.trans (hG3.2.1.mono (by omega))).setCell (p := ⟨w.heap.size, 0, Option.none⟩) (Nat.le_refl _) (.slice Option.none 0 0))
          clear hG3 hr4
          go_wp2_with fail
          refine bodyPost_ret (v := .tuple #[.agg #[.slice Option.none 0 0], .bool false]) (by simp [results, Tryd.results7, go_sem, c10]) rfl ?_
          exact ⟨_, by rw [HE.out]; rfl, by rw [HE.out]; exact owPS_nil _ _ _, HLX.out⟩
      · have ha := HA.out
        rw [List.take_of_length_le (by omega)] at ha
        have HE := Lib.hid (refB_end H41.out (by rw [HDL.out]; exact ha))
        have hxc := HX.out.cell 0
        have hRB : RdB wo wo.heap.size (.agg #[.slice A5 ps.length c5]) ps := ⟨_, rfl, HO.out.rd⟩
        have HRB := Lib.hid hRB
        have cB := bkGood_any ps (.agg #[.slice A5 ps.length c5]) wo.heap.size wo hRB (Nat.le_refl _)
        clear ha hRB
        cases hbk : bookB ps
        · rw [hbk] at cB
          have HE2 : Hid (refB s.data.toList = Option.none) := by
            show _ = _
            rw [HE.out, hbk]; rfl
          have CB := Lib.hid cB
          clear cB hbk HE
          go_wp2_with fail
          refine CB.out.mono ?_
          rintro e w3 ⟨rfl, hb3⟩
          have hr4 := HRQ.out.below hb3 (by omega)
          have hrc := hr4.cell 0
          have hrf := hr4.frozen 0
          have c10 := (hr4.set_ 0 (.slice Option.none 0 0)).cell 0
          have HLX := Lib.hid ((HBW.out.trans (hb3.mono (by omega))).setCell (p := ⟨w.heap.size, 0, Option.none⟩) (Nat.le_refl _) (.slice Option.none 0 0))
          clear hb3 hr4
          go_wp2_with fail
          refine bodyPost_ret (v := .tuple #[.agg #[.slice Option.none 0 0], .bool false]) (by simp [results, Tryd.results7, go_sem, c10]) rfl ?_
          exact ⟨_, by rw [HE2.out]; rfl, by rw [HE2.out]; exact owPS_nil _ _ _, HLX.out⟩
        · rw [hbk] at cB
          have CB := Lib.hid cB
          have HBK := Lib.hid hbk
          clear cB
          cases ht : (bookT ps == s.toList)
          all_goals
            have hd := ht
            rw [ByteArray.toList_eq] at hd
            have hd := dec_of_beq hd
            have he := HE.out
            rw [HBK.out, hd] at he
            have HE2 := Lib.hid he
            clear hd he HE hbk
            go_wp2_with fail
            refine CB.out.mono ?_
            rintro e w3 ⟨rfl, hb3⟩
            have hs3 := hb3.size
            have hx3 := HX.out.below hb3 (by omega)
            have hxc3 := hx3.cell 0
            have HX3 := Lib.hid hx3
            have HR3 := Lib.hid (HRQ.out.below hb3 (by omega))
            have HB3 := Lib.hid hb3
            have CT := Lib.hid (bkText_any ps (.agg #[.slice A5 ps.length c5]) wo.heap.size w3 (HRB.out.below hb3 (Nat.le_refl _)) (by omega) HBK.out)
            clear hb3 hx3 CB hxc
            go_wp2_with fail
            refine CT.out.mono ?_
            rintro e w4 ⟨rfl, hb4⟩
            have hr4 := HR3.out.below hb4 (by omega)
            have hx4 := HX3.out.below hb4 (by omega)
            have hxc4 := hx4.cell 0
            have hrc := hr4.cell 0
            have hrf := hr4.frozen 0
            have hb5 : Below wo.heap.size wo w4 := HB3.out.trans (hb4.mono (by omega))
            have hs4 := hb5.size
            first
              | (have hgo : (bookT ps == s.toList) = false := ht
                 have c10 := (hr4.set_ 0 (.slice Option.none 0 0)).cell 0
                 have HLX := Lib.hid ((HBW.out.trans (hb5.mono (by omega))).setCell (p := ⟨w.heap.size, 0, Option.none⟩) (Nat.le_refl _) (.slice Option.none 0 0))
                 clear hb4 hb5 hr4 hx4 hgo
                 go_wp2_with fail
                 refine bodyPost_ret (v := .tuple #[.agg #[.slice Option.none 0 0], .bool false]) (by simp [results, Tryd.results7, go_sem, c10]) rfl ?_
                 exact ⟨_, by rw [HE2.out]; rfl, by rw [HE2.out]; exact owPS_nil _ _ _, HLX.out⟩)
              | (have c10 := (hr4.set_ 0 (.slice A5 ps.length c5)).cell 0
                 have HLX := Lib.hid ((HBW.out.trans (hb5.mono (by omega))).setCell (p := ⟨w.heap.size, 0, Option.none⟩) (Nat.le_refl _) (.slice A5 ps.length c5))
                 have HOX := Lib.hid (((HO.out.below hb5 (Nat.le_refl _)).far hr4 (.slice A5 ps.length c5)).mono (show w.heap.size ≤ w2.heap.size by omega) (show wo.heap.size ≤ (w4.setCell ⟨w.heap.size, 0, Option.none⟩ (.slice A5 ps.length c5)).heap.size by rw [World.size_setCell]; exact hs4))
                 clear hb4 hb5 hr4 hx4
                 go_wp2_with fail
                 refine bodyPost_ret (v := .tuple #[.agg #[.slice A5 ps.length c5], .bool true]) (by simp [results, Tryd.results7, go_sem, c10]) rfl ?_
                 exact ⟨_, by rw [HE2.out]; rfl, by rw [HE2.out]; exact HOX.out, HLX.out⟩)
end Go.Proofs.YtjnkdjokbamibaaDoor
/- Marks on a phrase; what is held of marks on phrases and books. -/
namespace Go.Proofs.YtjnkdjokbamibaaDoor
open Go.RowKit
set_option maxRecDepth 100000 in
set_option maxHeartbeats 1600000 in
theorem heldPhraseS_any (ps : List Phr) (v : Value) (hi k : Nat) (w : World) (h : RdPS w hi v (marksB k ps)) (hh : hi ≤ w.heap.size) (hk1 : 1 ≤ k) (hk : k ≤ 4194304) (hsz : cntB ps ≤ 4194304) :
    Calls Tryd.prog 34 #[v, .int .i64 (k : Int)] w fun e w' => e = .returned (.int .i64 ((k + cntB ps : Nat) : Int)) ∧ Below w.heap.size w w' := by
  obtain ⟨A, c, hv, hc, hm⟩ := h.form
  rw [marksB_len] at hv hc hm
  subst hv
  have H := Lib.hid h
  clear h
  go_enter Tryd.func34, Tryd.ntmps34
  go_wp2
  go_loopw [1, 5] (fun q i wr => ∃ (j : Nat), j ≤ ps.length ∧ i = .int .i64 j ∧ q = .int .i64 ((k + cntB (ps.take j) : Nat) : Int) ∧ Below w.heap.size w wr) (fun _ i _ => ps.length - (intOf i).toNat)
  case atStart => exact ⟨0, Nat.zero_le _, rfl, rfl, Below.refl _ _⟩
  case round =>
    obtain ⟨j, hj, rfl, rfl, hbr⟩ := hrel
    by_cases hlt : j < ps.length
    · have hx : ps[j]? = some ps[j] := by simp [hlt]
      obtain ⟨p, hp⟩ : ∃ p, p = ps[j] := ⟨_, rfl⟩
      rw [← hp] at hx
      have hcj := cntB_at hx
      have hc1 := hcj.1
      have hc2 := hcj.2
      have hs1 := hbr.size
      have HC := Lib.hid hc1
      have hb1 : k + cntB (ps.take j) + 1 + p.2.length ≤ 8388608 := by omega
      have hm0 := marksB_at (k := k) hx
      clear hx hp hcj hc1
      obtain ⟨K0, hK0⟩ : ∃ K0, K0 = k + cntB (ps.take j) := ⟨_, rfl⟩
      obtain ⟨b1, o1, c1, a, t, xs, hv, hbl, hy, hcell1, hcell2, hra, hts⟩ := (H.out.below hbr hh).at_ (k := j) (by rw [marksB_len]; exact hlt)
      rw [marksB_len] at hv
      cases hv
      rw [hm0] at hy
      cases hy
      have HK0 := Lib.hid hK0
      rw [← hK0] at hcell1 hra hb1 ⊢
      have HRA := Lib.hid hra
      have H2 := Lib.hid hcell2
      have l1 := later_cell (B := wr.heap.size) hcell1 (by omega)
      have cT := fun x : LaterW wr.heap.size wr => markText_any K0 (by have := HK0.out; omega) (by omega) x.val
      have CT := Lib.hid cT
      clear hm0 hts hra hK0 hcell1 hcell2 cT
      go_wp2_with fail
      refine wp_region_later (wr.heap.size) (by kernel_rfl) (by kernel_rfl) ?_; (repeat (go_big_quiet_step ((go_at_call 56; exact later_of (Nat.le_refl _) (CT.out _))))); refine later_nil ?_; intro w2 hb2
      have hbt := hbr.trans (hb2.mono hs1)
      have HRA1 := Lib.hid (RdI.below HRA.out hb2 (by omega))
      have hd2 := (hb2.cell (p := ⟨b1, o1 + j * 2 + 1, Option.none⟩) (by show b1 < _; omega)).trans H2.out
      clear l1 hb2 hbr
      go_wp2_with fail
      refine (heldIntS_any p.2.length a hi (K0 + 1) _ HRA1.out (by omega) (by omega)).mono ?_
      rintro e w2 ⟨rfl, rfl⟩
      clear hd2
      go_wp2_with fail
      go_roundw
      case rel => exact ⟨j + 1, by omega, by go_num, int_val (by have := HC.out; have := HK0.out; omega), hbt⟩
      case measure => simp [intOf]; omega
    · obtain rfl : j = ps.length := by omega
      go_wp2
      go_ret
      exact ⟨ret_int (by rw [List.take_of_length_le (Nat.le_refl _)]), hbr⟩
theorem heldBook_any (ps : List Phr) (v : Value) (hi k : Nat) (w : World) (h : RdB w hi v (marksB k ps)) (hh : hi ≤ w.heap.size) (hk1 : 1 ≤ k) (hk : k ≤ 4194304) (hsz : cntB ps ≤ 4194304) :
    Calls Tryd.prog 11 #[v, .int .i64 (k : Int)] w fun e w' => e = .returned (.int .i64 ((k + cntB ps : Nat) : Int)) ∧ Below w.heap.size w w' := by
  obtain ⟨u, rfl, hu⟩ := h
  obtain ⟨A, c, rfl, hc, hm⟩ := hu.form
  have hba : Below w.heap.size w (w.alloc (.cells #[.slice A (marksB k ps).length c] 24)) := (Below.refl _ _).alloc (Nat.le_refl _) _
  have H := Lib.hid (hu.below hba hh)
  have HB := Lib.hid hba
  clear hu hba
  go_enter Tryd.func11, Tryd.ntmps11
  go_wp2_with fail
  refine (heldPhraseS_any ps _ hi k _ H.out (by simp; omega) hk1 hk hsz).mono ?_
  rintro e w2 ⟨rfl, hb2⟩
  have HK := Lib.hid (HB.out.trans (hb2.mono (by simp)))
  clear hb2
  go_wp2_with fail
  go_ret
  exact ⟨rfl, HK.out⟩
end Go.Proofs.YtjnkdjokbamibaaDoor
/- For the law: contracts of ParseBook in one form; what the library's variables hold in the worlds of its card. -/
namespace Go.Proofs.YtjnkdjokbamibaaDoor
open Go.RowKit
theorem cntB_bookY {ps : List Phr} (h : ∀ p ∈ ps, p.2.length ≤ 3) : cntB ps ≤ 4 * ps.length := by
  induction ps with
  | nil => simp [cntB]
  | cons p r ih =>
    have h1 := h p (by simp)
    have h2 := ih fun q hq => h q (by simp [hq])
    simp only [cntB, List.length_cons]; omega
theorem parse_cnt (s : List UInt8) : cntB ((bookO s).getD []) ≤ 160 := by
  rcases h : bookO s with _ | b
  · exact Nat.zero_le _
  · have hb := (bookO_iff.1 h).1
    have h1 := cntB_bookY (ps := b) fun p hp => (phr_sigs (bookB_phr hb hp)).2.1
    have h2 := bookB_len hb
    show cntB b ≤ 160
    omega
def RetPB (ps : List Phr) (b : Bool) (w : World) (e : Ending) (w' : World) : Prop := ∃ v, e = .returned (.tuple #[v, .bool b]) ∧ OwB w' w.heap.size w'.heap.size v ps ∧ Below w.heap.size w w'
theorem retPB_of {w w' : World} {e : Ending} {ps : List Phr} {b : Bool} (h : RetOwBT ps b w e w') : RetPB ps b w e w' := by
  obtain ⟨u, h1, h2, h3⟩ := h
  exact ⟨_, h1, ⟨u, rfl, h2⟩, h3⟩
theorem sParseB_any (s : ByteArray) (hs : s.size ≤ 1048576) (w : World) : Calls Tryd.prog 7 #[.string s] w (RetPB ((bookO s.data.toList).getD []) (bookO s.data.toList).isSome w) :=
  (sParseBook_any s hs w).mono fun _ _ h => retPB_of h
theorem parseB_any (s : ByteArray) (hs : s.size ≤ 1048576) (w : World) (hL : LW w) : Calls Tryd.prog 8 #[.string s] w (RetPB ((bookO s.data.toList).getD []) (bookO s.data.toList).isSome w) :=
  (ParseBook_any s hs w hL).mono fun _ _ h => retPB_of h
end Go.Proofs.YtjnkdjokbamibaaDoor
