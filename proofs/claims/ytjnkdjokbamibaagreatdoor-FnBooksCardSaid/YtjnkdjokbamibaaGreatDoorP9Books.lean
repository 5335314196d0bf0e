/- Texts of one claim, joined: Z6, Z7. -/
import Derived.BigRegion
import Derived.Test.YtjnkdjokbamibaaGreatDoorP8Books
/- Contracts: drawn books that lie in a box: what is dropped, what is looked for by signals. -/
namespace Go.Proofs.YtjnkdjokbamibaaGreatDoor
open Go.RowKit
/-- A drawn book in a box L: the result's box, the row of phrases, the cursor C. -/
structure DbS (w : World) (C m L : Nat) (wr : World) (v : Value) (n : Nat) : Prop where
  res : Blk wr w.heap.size 41 [.slice Option.none 0 0]
  box : Blk wr L 41 [v]
  row : BookR wr (C + 1) 0 v n
  cur : Cur wr C m
  bel : Below w.heap.size w wr
  far : w.heap.size < C ∧ C < L
theorem DbS.step {w wr w' : World} {C m m' L n : Nat} {v : Value} (h : DbS w C m L wr v n) (hc : Cur w' C m') (hk : KeepG C (C + 1) wr w') : DbS w C m' L w' v n := by
  have hf := h.far
  exact ⟨h.res.keepG hk (by omega), h.box.keepG hk (by omega), h.row.step hk (by omega), hc, keepG_bel h.bel hk (by omega), hf⟩
theorem DbS.fresh {w wr w' : World} {C m L n : Nat} {v : Value} (h : DbS w C m L wr v n) (hb : Below wr.heap.size wr w') : DbS w C m L w' v n := h.step (h.cur.fresh hb h.cur.lt) (below_g hb)
theorem DbS.alloc {w wr : World} {C m L n : Nat} {v : Value} (h : DbS w C m L wr v n) (o : Obj) : DbS w C m L (wr.alloc o) v n := h.fresh ((Below.refl _ _).alloc (Nat.le_refl _) _)
theorem DbS.mono {w wr : World} {C m m' L n : Nat} {v : Value} (h : DbS w C m L wr v n) (hm : m ≤ m') : DbS w C m' L wr v n := ⟨h.res, h.box, h.row, h.cur.mono hm, h.bel, h.far⟩
/-- The book is stored into the result's box. -/
theorem DbS.done {w wr : World} {C m L n : Nat} {v : Value} (h : DbS w C m L wr v n) : BookR (wr.setCell ⟨w.heap.size, 0, Option.none⟩ v) w.heap.size 0 v n ∧ Below w.heap.size w (wr.setCell ⟨w.heap.size, 0, Option.none⟩ v) := by
  have hf := h.far
  exact ⟨(h.row.lo (show w.heap.size ≤ C + 1 by omega)).ownBox h.res, h.bel.setCell (p := ⟨w.heap.size, 0, Option.none⟩) (Nat.le_refl _) _⟩
theorem BookR.head1 {w : World} {lo p g n c : Nat} (h : BookR w lo p (.slice (some ⟨g, 0, Option.none⟩) n c) n) (hn : 1 ≤ n) : BookR w lo p (.slice (some ⟨g, 0, Option.none⟩) 1 c) 1 := by
  obtain ⟨ts, us, h1, h2, h3, h4, h5⟩ := h
  match ts, us, h1, h2 with
  | t :: ts, u :: us, h1, h2 =>
    refine ⟨[t], [u], rfl, rfl, ⟨rfl, ?_⟩, fun t' ht => h4 t' (by simp at ht; simp [ht]), fun u' hu => h5 u' (by simp at hu; simp [hu])⟩
    rcases h3.2 with ⟨e, _⟩ | ⟨g', cap, cur, e, hl, hg, hnc, hcm, hcs, ht⟩
    · cases e
    · cases e
      refine .inr ⟨g, c, cur, rfl, hl, hg, by omega, hcm, hcs, ?_⟩
      have hL : 2 ≤ (zipC (t :: ts) (u :: us)).length := by simp [zipC]
      have h6 := congrArg (List.take 2) ht
      rw [List.take_take, Nat.min_eq_left (by omega)] at h6
      simpa [zipC] using h6
  | [], _, h1, _ => simp at h1; omega
  | _ :: _, [], h1, h2 => simp at h1 h2; omega
theorem TxtR.alloc {w : World} {b : Nat} (h : TxtR w b) (o : Obj) : TxtR (w.alloc o) b := by
  obtain ⟨cs, h1, h2⟩ := h
  exact ⟨cs, h1.alloc o, h2⟩
theorem step_txt2 {wr : World} {b g m : Nat} {ls : List Value} {ops : Array Oper} {o : Oper} {a : Act} {K : Act → World → Prop} {Q : Exit → Act → World → Prop} {E : Prop} (hgd : o.guard = Option.none) (s x : Operand)
    (ho : o.op = .call { callee := .builtin .append, args := #[s, x], argTypes := #[81, 81] }) (hT : TxtR wr b) (hL : Blk wr g 9 ls) (hm : ls.length = m) (hm2 : m ≤ 10) (hu : ∀ u ∈ ls, ∃ t : ByteArray, u = .string t ∧ t.size ≤ 1000)
    (hs : a.eval s = .slice (some ⟨b, 0, Option.none⟩) 26 26) (hx : a.eval x = .slice (some ⟨g, 0, Option.none⟩) m m)
    (h : ∀ v' w', (∀ C, C < b → LstS w' C v' (26 + m)) → Below b wr w' → K (a.put o.dst v') w') : if Region.wanted o (yielded ops a.tmps) = true then Oper.wp Tryz.prog o a wr K Q else E := by
  have hw : Region.wanted o (yielded ops a.tmps) = true := by simp [Region.wanted, hgd]
  rw [if_pos hw]
  obtain ⟨i, hi, hz0, hz1, hz2⟩ := info_parts info_str
  obtain ⟨cs, h1, h2, h3⟩ := hT.own
  have hbl : b < wr.heap.size := by obtain ⟨_, hb, _⟩ := hT; exact hb.lt
  have hone : ∀ u ∈ ls, u.oneCell' = true := fun u hu' => by obtain ⟨t, rfl, _⟩ := hu u hu'; rfl
  refine wp_append_own _ s x 81 ho b 9 i (.string { data := #[] }) 1 16 Tryz.underlying81 hi hz0 hz1 hz2 rfl (by decide) (.slice (some ⟨b, 0, Option.none⟩) 26 26) 26 cs hs h1 ⟨g, 0, Option.none⟩ m m ls hx (by simpa using hm)
    (fun j u hj => by rw [Go.WideShapes.add_plain, show (0 : Nat) + j = j by omega, hL.cell j]; exact hj) hone (by unfold maxLen; omega) (by omega) (by omega) ?_
  intro v' w' hown hgr _
  refine h v' w' (fun C hC => lstS_own hown (by omega) (by omega) hC (fun u hu' => ?_)) ((Below.refl _ _).grown hgr (by omega) (fun k hk => by cases hk; exact Nat.le_refl _))
  rcases List.mem_append.1 hu' with hu' | hu'
  · exact h3 u hu'
  · exact hu u hu'
set_option maxRecDepth 100000 in
set_option maxHeartbeats 8000000 in
theorem DrawDropPhrase_any (zs : List UInt8) (v : Value) (hi : Nat) (w : World) (h : RdU w hi v zs) (hh : hi ≤ w.heap.size) :
    Calls Tryz.prog 27 #[v] w (DrewBT w) := by
  obtain ⟨A, c, rfl, hc, hm⟩ := Rd.form h
  have hR : Blk (w.alloc (.cells #[.slice Option.none 0 0] 41)) w.heap.size 41 [.slice Option.none 0 0] := Blk.new w _ _
  have hb0 : Below w.heap.size w (w.alloc (.cells #[.slice Option.none 0 0] 41)) := (Below.refl _ _).alloc (Nat.le_refl _) _
  have hsz : (w.alloc (.cells #[.slice Option.none 0 0] 41)).heap.size = w.heap.size + 1 := by simp
  have hu : RdU (w.alloc (.cells #[.slice Option.none 0 0] 41)) hi (.slice A zs.length c) zs := h.below hb0 hh
  clear h
  go_enter Tryz.func27, Tryz.ntmps27
  go_wp2_with fail
  generalize (w.alloc (.cells #[.slice Option.none 0 0] 41)) = wa at hR hb0 hsz hu ⊢
  have hcu := cur_new hu (by omega)
  have hR2 := hR.alloc (.cells #[.slice A zs.length c, .int .i64 0, .int .u64 0] 71)
  have hb1 : Below w.heap.size w (wa.alloc (.cells #[.slice A zs.length c, .int .i64 0, .int .u64 0] 71)) := hb0.alloc (by omega) _
  have hsz2 : (wa.alloc (.cells #[.slice A zs.length c, .int .i64 0, .int .u64 0] 71)).heap.size = w.heap.size + 2 := by simp; omega
  rw [hsz] at hcu
  generalize (wa.alloc (.cells #[.slice A zs.length c, .int .i64 0, .int .u64 0] 71)) = wb at hcu hR2 hb1 hsz2 ⊢
  try rw [hsz]
  have CB := Lib.hid (anyBook_any (w.heap.size + 1) 0 wb hcu (by omega))
  have hs2 : w.heap.size + 2 ≤ wb.heap.size := by omega
  clear hR hb0 hu hcu hsz hsz2
  refine CB.out.mono ?_
  rintro e w1 ⟨v1, n, rfl, hn, hr, hcur, hk⟩
  obtain ⟨A1, c1, rfl⟩ := hr.form
  have hs1 : w.heap.size + 2 ≤ w1.heap.size := by have := hk.size; omega
  have D1 : Hid (DbS w (w.heap.size + 1) 21000 w1.heap.size (w1.alloc (.cells #[.slice A1 n c1] 41)) (.slice A1 n c1) n) :=
    ⟨(hR2.keepG hk (by omega)).alloc _, Blk.new w1 _ _, (hr.lo (show w.heap.size + 1 + 1 ≤ wb.heap.size + 1 by omega)).alloc _, (hcur.mono (by omega)).alloc _, (keepG_bel hb1 hk (by omega)).alloc (by omega) _, by omega⟩
  clear CB hR2 hb1 hr hcur hk hs2
  have HU : ∀ u ∈ ([.string ⟨#[]⟩, .string ⟨#[120, 120]⟩] : List Value), ∃ t : ByteArray, u = .string t ∧ t.size ≤ 1000 := by
    repeat (refine str_mem ⟨_, rfl, by decide⟩ ?_)
    intro u hu
    cases hu
  have HUH := Lib.hid HU
  clear HU
  have c2 := Lib.hid (one_any 8 (w.heap.size + 1) 21000 _ D1.out.cur (by omega) (by omega) (by omega))
  go_wp2_with fail
  refine c2.out.mono ?_
  rintro e w2 ⟨ob, rfl, hc2, hk2⟩
  have D2 := Lib.hid (D1.out.step hc2 hk2)
  clear hc2 hk2 c2 D1
  have hbx0 := D2.out.box.cell 0
  cases ob
  · clear hbx0
    have hbx := D2.out.box.cell 0
    have XD : DbS w (w.heap.size + 1) (21000 + 2) w1.heap.size w2.drew (.slice A1 n c1) n := D2.out.step D2.out.cur (KeepG.drawN w2 1)
    have XA : DbS w (w.heap.size + 1) (21000 + 2) w1.heap.size (w2.drew.alloc (.cells #[.string ⟨#[]⟩, .string ⟨#[120, 120]⟩] 9)) (.slice A1 n c1) n := XD.alloc _
    have hbxa := (D2.out.box.alloc (.cells #[.string ⟨#[]⟩, .string ⟨#[120, 120]⟩] 9)).cell 0
    have hL0 : Blk (w2.drew.alloc (.cells #[.string ⟨#[]⟩, .string ⟨#[120, 120]⟩] 9)) w2.heap.size 9 [.string ⟨#[]⟩, .string ⟨#[120, 120]⟩] := Blk.new w2.drew _ _
    have hsd : w.heap.size + 2 ≤ w2.drew.heap.size := by have := D2.out.box.lt; show _ ≤ w2.heap.size; omega
    have HBA : Hid (Below w2.drew.heap.size w2.drew (w2.drew.alloc (.cells #[.string ⟨#[]⟩, .string ⟨#[120, 120]⟩] 9))) := (Below.refl _ _).alloc (Nat.le_refl _) _
    have HXD := Lib.hid XD
    have HXA := Lib.hid XA
    have HL0 := Lib.hid hL0
    clear XD XA hL0
    go_wp2_with fail
    go_region_law (first
      | ((go_simp; go_at_call 81; (with_reducible refine (phraseTexts_any _).mono ?_); rintro e wT ⟨rfl, htx, hbT⟩; (first | (have XT := HXA.out.fresh hbT; have hLT := HL0.out.below hbT HL0.out.lt; have hbW := HBA.out.trans (hbT.mono HBA.out.size); have htx2 : TxtR wT (w2.heap.size + 1) := (by simpa using htx)) | (have XT := HXD.out.fresh hbT; have hbW := hbT)); have hxT := XT.box.cell 0; have hxTA := (XT.box.alloc (.cells #[.string ⟨#[]⟩, .string ⟨#[120, 120]⟩] 9)).cell 0; have hsT := hbW.size))
      | ((refine step_txt2 (by rfl) (.tmp 31) (.tmp 32) (by rfl) htx2 hLT rfl (by decide) HUH.out (by rfl) (by rfl) ?_; intro v3 w3 hl3 hb3; have hbX := hbW.trans (hb3.mono (by show w2.heap.size ≤ w2.heap.size + 1; omega)); have X3 := HXD.out.fresh hbX; have hx3 := X3.box.cell 0; have hlw := hl3 (w.heap.size + 1) (by have : w2.drew.heap.size = w2.heap.size := rfl; omega); have hlw2 := hlw; obtain ⟨_, _, b3, c3, rfl, _⟩ := hlw2))
      | ((refine step_txt2 (by rfl) (.tmp 31) (.tmp 32) (by rfl) (TxtR.alloc htx _) (Blk.new wT _ _) rfl (by decide) HUH.out (by rfl) (by rfl) ?_; intro v3 w3 hl3 hb3; have hbX := (hbW.alloc hsT _).trans (hb3.mono (Nat.le_refl _)); have X3 := HXD.out.fresh hbX; have hx3 := X3.box.cell 0; have hlw := hl3 (w.heap.size + 1) (by omega); have hlw2 := hlw; obtain ⟨_, _, b3, c3, rfl, _⟩ := hlw2))
      | ((go_simp; go_at_call 73; (with_reducible refine (of_any 28 _ (w.heap.size + 1) (21000 + 2) w3 X3.cur (by omega) hlw).mono ?_); rintro e w4 ⟨t, rfl, ht, hc4, hk4⟩; have X4 := X3.step hc4 hk4; have hx4 := X4.box.cell 0; have hrc := X4.res.cell 0; have hrf := X4.res.frozen 0)))
    all_goals
      have c10 := (X4.res.set_ 0 (.slice A1 n c1)).cell 0
      have HD := Lib.hid X4.done
      clear hbx hbxa htx hbT XT hbW hxT hxTA hl3 hb3 hbX X3 hx3 hlw X4 hx4 hrc hrf hc4 hk4
      go_wp2_with fail
      refine bodyPost_ret (v := .tuple #[.agg #[.slice A1 n c1], .string t]) (by simp [results, Tryz.results27, go_sem, c10]) rfl ?_
      exact ⟨_, n, t, rfl, hn, ht, HD.out.1, HD.out.2⟩
  · rcases Nat.eq_zero_or_pos n with h0 | h0
    · have hg0 : decide (0 < n) = false := decide_eq_false (by omega)
      clear h0
      have hbx := D2.out.box.cell 0
      have XD : DbS w (w.heap.size + 1) (21000 + 2) w1.heap.size w2.drew (.slice A1 n c1) n := D2.out.step D2.out.cur (KeepG.drawN w2 1)
      have XA : DbS w (w.heap.size + 1) (21000 + 2) w1.heap.size (w2.drew.alloc (.cells #[.string ⟨#[]⟩, .string ⟨#[120, 120]⟩] 9)) (.slice A1 n c1) n := XD.alloc _
      have hbxa := (D2.out.box.alloc (.cells #[.string ⟨#[]⟩, .string ⟨#[120, 120]⟩] 9)).cell 0
      have hL0 : Blk (w2.drew.alloc (.cells #[.string ⟨#[]⟩, .string ⟨#[120, 120]⟩] 9)) w2.heap.size 9 [.string ⟨#[]⟩, .string ⟨#[120, 120]⟩] := Blk.new w2.drew _ _
      have hsd : w.heap.size + 2 ≤ w2.drew.heap.size := by have := D2.out.box.lt; show _ ≤ w2.heap.size; omega
      have HBA : Hid (Below w2.drew.heap.size w2.drew (w2.drew.alloc (.cells #[.string ⟨#[]⟩, .string ⟨#[120, 120]⟩] 9))) := (Below.refl _ _).alloc (Nat.le_refl _) _
      have HXD := Lib.hid XD
      have HXA := Lib.hid XA
      have HL0 := Lib.hid hL0
      clear XD XA hL0
      go_wp2_with fail
      go_region_law (first
        | ((go_simp; go_at_call 81; (with_reducible refine (phraseTexts_any _).mono ?_); rintro e wT ⟨rfl, htx, hbT⟩; (first | (have XT := HXA.out.fresh hbT; have hLT := HL0.out.below hbT HL0.out.lt; have hbW := HBA.out.trans (hbT.mono HBA.out.size); have htx2 : TxtR wT (w2.heap.size + 1) := (by simpa using htx)) | (have XT := HXD.out.fresh hbT; have hbW := hbT)); have hxT := XT.box.cell 0; have hxTA := (XT.box.alloc (.cells #[.string ⟨#[]⟩, .string ⟨#[120, 120]⟩] 9)).cell 0; have hsT := hbW.size))
        | ((refine step_txt2 (by rfl) (.tmp 31) (.tmp 32) (by rfl) htx2 hLT rfl (by decide) HUH.out (by rfl) (by rfl) ?_; intro v3 w3 hl3 hb3; have hbX := hbW.trans (hb3.mono (by show w2.heap.size ≤ w2.heap.size + 1; omega)); have X3 := HXD.out.fresh hbX; have hx3 := X3.box.cell 0; have hlw := hl3 (w.heap.size + 1) (by have : w2.drew.heap.size = w2.heap.size := rfl; omega); have hlw2 := hlw; obtain ⟨_, _, b3, c3, rfl, _⟩ := hlw2))
        | ((refine step_txt2 (by rfl) (.tmp 31) (.tmp 32) (by rfl) (TxtR.alloc htx _) (Blk.new wT _ _) rfl (by decide) HUH.out (by rfl) (by rfl) ?_; intro v3 w3 hl3 hb3; have hbX := (hbW.alloc hsT _).trans (hb3.mono (Nat.le_refl _)); have X3 := HXD.out.fresh hbX; have hx3 := X3.box.cell 0; have hlw := hl3 (w.heap.size + 1) (by omega); have hlw2 := hlw; obtain ⟨_, _, b3, c3, rfl, _⟩ := hlw2))
        | ((go_simp; go_at_call 73; (with_reducible refine (of_any 28 _ (w.heap.size + 1) (21000 + 2) w3 X3.cur (by omega) hlw).mono ?_); rintro e w4 ⟨t, rfl, ht, hc4, hk4⟩; have X4 := X3.step hc4 hk4; have hx4 := X4.box.cell 0; have hrc := X4.res.cell 0; have hrf := X4.res.frozen 0)))
      all_goals
        have c10 := (X4.res.set_ 0 (.slice A1 n c1)).cell 0
        have HD := Lib.hid X4.done
        clear hbx hbxa htx hbT XT hbW hxT hxTA hl3 hb3 hbX X3 hx3 hlw X4 hx4 hrc hrf hc4 hk4
        go_wp2_with fail
        refine bodyPost_ret (v := .tuple #[.agg #[.slice A1 n c1], .string t]) (by simp [results, Tryz.results27, go_sem, c10]) rfl ?_
        exact ⟨_, n, t, rfl, hn, ht, HD.out.1, HD.out.2⟩
    · have hg0 : decide (0 < n) = true := decide_eq_true h0
      obtain ⟨g, c', hv, hlg, cur, hgc⟩ := D2.out.row.pos h0
      cases hv
      have hR1 := D2.out.row.head1 h0
      have hf2 := D2.out.box.frozen 0
      obtain ⟨t, u, q1, q2, _, ht, _, _⟩ := D2.out.row.at_ h0
      rw [show (0 : Nat) * 2 = 0 from rfl] at q1
      have hcn : n ≤ c1 := by
        obtain ⟨ps, hpl, hps⟩ := D2.out.row.rd
        obtain ⟨_, _, hv, hc', _⟩ := hps.form
        injection hv with _ e1 e2
        omega
      have h1c : 1 ≤ c1 := by omega
      have D3 : Hid (DbS w (w.heap.size + 1) (21000 + 2) w1.heap.size (w2.setCell ⟨w1.heap.size, 0, Option.none⟩ (.slice (some ⟨g, 0, Option.none⟩) 1 c1)) (.slice (some ⟨g, 0, Option.none⟩) 1 c1) 1) := by
        have hf := D2.out.far
        refine ⟨D2.out.res.far (p := ⟨w1.heap.size, 0, Option.none⟩) (by show w.heap.size ≠ w1.heap.size; omega) _, D2.out.box.set_ 0 _, hR1.ownBox D2.out.box, ?_, D2.out.bel.setCell (p := ⟨w1.heap.size, 0, Option.none⟩) (show w.heap.size ≤ w1.heap.size by omega) _, hf⟩
        exact D2.out.cur.fresh ((Below.refl w1.heap.size w2).setCell (p := ⟨w1.heap.size, 0, Option.none⟩) (Nat.le_refl _) _) (by omega)
      have q3 : (w2.setCell ⟨w1.heap.size, 0, Option.none⟩ (.slice (some ⟨g, 0, Option.none⟩) 1 c1)).cell? ⟨g, 0, Option.none⟩ = some (.string t) := by
        obtain ⟨t', _, q4, _⟩ := D3.out.row.at_ (show 0 < 1 by omega)
        rw [show (0 : Nat) * 2 = 0 from rfl] at q4
        have hne : g ≠ w1.heap.size := by
          rintro rfl
          have h1 := D2.out.box
          unfold Blk at h1
          rw [hgc] at h1
          cases h1
        rw [show (w2.setCell ⟨w1.heap.size, 0, Option.none⟩ (.slice (some ⟨g, 0, Option.none⟩) 1 c1)).cell? ⟨g, 0, Option.none⟩ = w2.cell? ⟨g, 0, Option.none⟩ by unfold World.cell?; rw [Below.heap_setCell _ _ _ _ hne]]
        exact q1
      clear hR1 q1 q2 hgc
      go_wp2_with fail
      obtain ⟨w5, hw5⟩ : ∃ w5, w5 = w2.setCell ⟨w1.heap.size, 0, Option.none⟩ (.slice (some ⟨g, 0, Option.none⟩) 1 c1) := ⟨_, rfl⟩
      rw [← hw5] at D3 q3 ⊢
      clear hw5 hbx0 hf2 D2
      have hrc := D3.out.res.cell 0
      have hbx := D3.out.box.cell 0
      have hrf := D3.out.res.frozen 0
      have hgr : g ≠ w.heap.size := by omega
      have hlr : w1.heap.size ≠ w.heap.size := by omega
      have q3s : ∀ x, (w5.setCell ⟨w.heap.size, 0, Option.none⟩ x).cell? ⟨g, 0, Option.none⟩ = some (.string t) := fun x => by
        rw [show (w5.setCell ⟨w.heap.size, 0, Option.none⟩ x).cell? ⟨g, 0, Option.none⟩ = w5.cell? ⟨g, 0, Option.none⟩ by unfold World.cell?; rw [Below.heap_setCell _ _ _ _ (by exact hgr)]]
        exact q3
      have hbxs : ∀ x, (w5.setCell ⟨w.heap.size, 0, Option.none⟩ x).cell? ⟨w1.heap.size, 0, Option.none⟩ = some (.slice (some ⟨g, 0, Option.none⟩) 1 c1) := fun x => (D3.out.box.far (p := ⟨w.heap.size, 0, Option.none⟩) (by exact hlr) x).cell 0
      have HD : Hid (BookR (w5.setCell ⟨w.heap.size, 0, Option.none⟩ (.slice (some ⟨g, 0, Option.none⟩) 1 c1)).drew w.heap.size 0 (.slice (some ⟨g, 0, Option.none⟩) 1 c1) 1 ∧ Below w.heap.size w (w5.setCell ⟨w.heap.size, 0, Option.none⟩ (.slice (some ⟨g, 0, Option.none⟩) 1 c1)).drew) := ⟨D3.out.done.1, D3.out.done.2.drew⟩
      have c10 := (D3.out.res.set_ 0 (.slice (some ⟨g, 0, Option.none⟩) 1 c1)).cell 0
      clear D3 hgr hlr
      go_region
      all_goals
        clear q3 q3s hbx hbxs hrf hrc
        go_wp2_with fail
        refine bodyPost_ret (v := .tuple #[.agg #[.slice (some ⟨g, 0, Option.none⟩) 1 c1], .string t]) (by simp [results, Tryz.results27, go_sem, c10]) rfl ?_
        exact ⟨_, 1, t, rfl, by omega, ht, HD.out.1, HD.out.2⟩
end Go.Proofs.YtjnkdjokbamibaaGreatDoor
/- Contracts: drawn books that lie in a box, and signals. -/
namespace Go.Proofs.YtjnkdjokbamibaaGreatDoor
open Go.RowKit
theorem OwI.setBelowZ {w : World} {lo X : Nat} {v u : Value} {xs : List Int} (h : OwI w lo w.heap.size v xs) (hX : X < lo) : OwI (w.setCell ⟨X, 0, Option.none⟩ u) lo (w.setCell ⟨X, 0, Option.none⟩ u).heap.size v xs := by
  have h1 := ownsRow_setCell_below (a := ⟨X, 0, Option.none⟩) h.1 hX u
  exact ⟨h1, fun k hk => (h1.lt k hk).2⟩
theorem Lst.keepG {w w' : World} {C : Nat} {v : Value} {xs : List Int} (h : Lst w C v xs) (hk : KeepG C (C + 1) w w') : Lst w' C v xs := by
  obtain ⟨h1, h2, b, off, c, rfl, h3, h4, h5⟩ := h
  exact ⟨h1, h2, b, off, c, rfl, h3, Nat.lt_of_lt_of_le h4 hk.size, fun j x hj => (hk.cell (o := off + j) h4 (by omega)).trans (h5 j x hj)⟩
theorem LstS.keepG {w w' : World} {C n : Nat} {v : Value} (h : LstS w C v n) (hk : KeepG C (C + 1) w w') : LstS w' C v n := by
  obtain ⟨h1, h2, b, c, rfl, h3, h4, h5⟩ := h
  exact ⟨h1, h2, b, c, rfl, h3, Nat.lt_of_lt_of_le h4 hk.size, fun j hj => by obtain ⟨t, ht, hs⟩ := h5 j hj; exact ⟨t, (hk.cell (o := j) h4 (by omega)).trans ht, hs⟩⟩
theorem own_two (w : World) (a b : Int) : OwI (w.alloc (.cells #[.int .i64 a, .int .i64 b] 3)) w.heap.size (w.alloc (.cells #[.int .i64 a, .int .i64 b] 3)).heap.size (.slice (some ⟨w.heap.size, 0, Option.none⟩) 2 2) [a, b] := by
  have h := World.ownsRow_lit (base := w.heap.size) (e := 3) (size := 1) w #[.int .i64 a, .int .i64 b] 2 (Nat.le_refl _) (by decide) rfl
  exact ⟨h, fun k hk => (h.lt k hk).2⟩
/-- A drawn book and drawn signals. -/
def DrewBL (w : World) (e : Ending) (w' : World) : Prop := ∃ v n u xs, e = .returned (.tuple #[.agg #[v], u]) ∧ n ≤ 41 ∧ xs.length ≤ 1000 ∧ BookR w' w.heap.size 0 v n ∧ OwI w' w.heap.size w'.heap.size u xs ∧ Below w.heap.size w w'
set_option maxRecDepth 100000 in
set_option maxHeartbeats 8000000 in
theorem DrawPhraseOf_any (zs : List UInt8) (v : Value) (hi : Nat) (w : World) (h : RdU w hi v zs) (hh : hi ≤ w.heap.size) :
    Calls Tryz.prog 33 #[v] w (DrewBL w) := by
  obtain ⟨A, c, rfl, hc, hm⟩ := Rd.form h
  have hR : Blk (w.alloc (.cells #[.slice Option.none 0 0] 41)) w.heap.size 41 [.slice Option.none 0 0] := Blk.new w _ _
  have hb0 : Below w.heap.size w (w.alloc (.cells #[.slice Option.none 0 0] 41)) := (Below.refl _ _).alloc (Nat.le_refl _) _
  have hsz : (w.alloc (.cells #[.slice Option.none 0 0] 41)).heap.size = w.heap.size + 1 := by simp
  have hu : RdU (w.alloc (.cells #[.slice Option.none 0 0] 41)) hi (.slice A zs.length c) zs := h.below hb0 hh
  clear h
  go_enter Tryz.func33, Tryz.ntmps33
  go_wp2_with fail
  generalize (w.alloc (.cells #[.slice Option.none 0 0] 41)) = wa at hR hb0 hsz hu ⊢
  have hcu := cur_new hu (by omega)
  have hR2 := hR.alloc (.cells #[.slice A zs.length c, .int .i64 0, .int .u64 0] 71)
  have hb1 : Below w.heap.size w (wa.alloc (.cells #[.slice A zs.length c, .int .i64 0, .int .u64 0] 71)) := hb0.alloc (by omega) _
  have hsz2 : (wa.alloc (.cells #[.slice A zs.length c, .int .i64 0, .int .u64 0] 71)).heap.size = w.heap.size + 2 := by simp; omega
  rw [hsz] at hcu
  generalize (wa.alloc (.cells #[.slice A zs.length c, .int .i64 0, .int .u64 0] 71)) = wb at hcu hR2 hb1 hsz2 ⊢
  try rw [hsz]
  have CB := Lib.hid (anyBook_any (w.heap.size + 1) 0 wb hcu (by omega))
  have hs2 : w.heap.size + 2 ≤ wb.heap.size := by omega
  clear hR hb0 hu hcu hsz hsz2
  refine CB.out.mono ?_
  rintro e w1 ⟨v1, n, rfl, hn, hr, hcur, hk⟩
  obtain ⟨A1, c1, rfl⟩ := hr.form
  have hs1 : w.heap.size + 2 ≤ w1.heap.size := by have := hk.size; omega
  have D1 : Hid (DbS w (w.heap.size + 1) 21000 w1.heap.size (w1.alloc (.cells #[.slice A1 n c1] 41)) (.slice A1 n c1) n) :=
    ⟨(hR2.keepG hk (by omega)).alloc _, Blk.new w1 _ _, (hr.lo (show w.heap.size + 1 + 1 ≤ wb.heap.size + 1 by omega)).alloc _, (hcur.mono (by omega)).alloc _, (keepG_bel hb1 hk (by omega)).alloc (by omega) _, by omega⟩
  clear CB hR2 hb1 hr hcur hk hs2
  have hbx0 := D1.out.box.cell 0
  rcases Nat.eq_zero_or_pos n with h0 | h0
  · have hg0 : decide (0 < n) = false := decide_eq_false (by omega)
    clear h0
    go_wp2_with fail
    obtain ⟨w3, hw3⟩ : ∃ w3, w3 = w1.alloc (.cells #[.slice A1 n c1] 41) := ⟨_, rfl⟩
    rw [← hw3] at D1 ⊢
    clear hw3 hbx0
    have XD : DbS w (w.heap.size + 1) 21000 w1.heap.size w3.drew (.slice A1 n c1) n := D1.out.step D1.out.cur (KeepG.drawN w3 1)
    have XA : DbS w (w.heap.size + 1) 21000 w1.heap.size (w3.alloc (.cells #[.int .i64 0, .int .i64 1, .int .i64 2, .int .i64 60, .int .i64 61] 3)).drew (.slice A1 n c1) n := (D1.out.alloc _).step (D1.out.alloc _).cur (KeepG.drawN _ 1)
    have hbx := D1.out.box.cell 0
    have hbxa := (D1.out.box.alloc (.cells #[.int .i64 0, .int .i64 1, .int .i64 2, .int .i64 60, .int .i64 61] 3)).cell 0
    have hl0 : Lst (w3.alloc (.cells #[.int .i64 0, .int .i64 1, .int .i64 2, .int .i64 60, .int .i64 61] 3)).drew (w.heap.size + 1) (.slice (some ⟨w3.heap.size, 0, Option.none⟩) 5 5) [0, 1, 2, 60, 61] := lst_new w3 (w.heap.size + 1) [0, 1, 2, 60, 61] D1.out.cur.lt (by simp) (by simp)
    have HXD := Lib.hid XD
    have HXA := Lib.hid XA
    have HL0 := Lib.hid hl0
    clear XD XA hl0
    go_wp2_with fail
    go_region_law (first
      | ((go_simp; go_at_call 63; (with_reducible refine (pick_any 4 (w.heap.size + 1) 21000 _ (by first | exact HXD.out.cur | exact HXA.out.cur) (by omega) (by omega) (by omega)).mono ?_); rintro e w5 ⟨z5, rfl, ⟨hz5, hy5⟩, hc5, hk5⟩; (first | (have X5 := HXD.out.step hc5 hk5) | (have X5 := HXA.out.step hc5 hk5; have hl5 := HL0.out.keepG hk5)); have hx5 := X5.box.cell 0; have hx5a := (X5.box.alloc (.cells #[.int .i64 0, .int .i64 1, .int .i64 2, .int .i64 60, .int .i64 61] 3)).cell 0; have hl5n : Lst (w5.alloc (.cells #[.int .i64 0, .int .i64 1, .int .i64 2, .int .i64 60, .int .i64 61] 3)) (w.heap.size + 1) (.slice (some ⟨w5.heap.size, 0, Option.none⟩) 5 5) [0, 1, 2, 60, 61] := lst_new w5 (w.heap.size + 1) [0, 1, 2, 60, 61] X5.cur.lt (by simp) (by simp)))
      | ((go_simp; go_at_call 74; (with_reducible refine (among_any [0, 1, 2, 60, 61] _ (w.heap.size + 1) (21000 + 2) _ (by first | exact X5.cur | exact X5.cur.alloc _) (by omega) (by first | exact hl5 | exact hl5n)).mono ?_); rintro e w6 ⟨z6, rfl, _, hc6, hk6⟩; (first | (have X6 := X5.step hc6 hk6) | (have X6 := (X5.alloc _).step hc6 hk6)); have hx6 := X6.box.cell 0; have hx6a := fun (a b : Int) => (X6.box.alloc (.cells #[.int .i64 a, .int .i64 b] 3)).cell 0; have hrc := fun (a b : Int) => (X6.res.alloc (.cells #[.int .i64 a, .int .i64 b] 3)).cell 0; have hrf := fun (a b : Int) => (X6.res.alloc (.cells #[.int .i64 a, .int .i64 b] 3)).frozen 0; have hrc0 := X6.res.cell 0; have hrf0 := X6.res.frozen 0)))
    all_goals
      have HD := Lib.hid (fun (a b : Int) => (X6.alloc (.cells #[.int .i64 a, .int .i64 b] 3)).done)
      have HO := Lib.hid (fun (a b : Int) => ((own_two w6 a b).mono (show w.heap.size + 1 ≤ w6.heap.size by have := X6.far; have := X6.box.lt; omega) (Nat.le_refl _)).setBelowZ (u := .slice A1 n c1) (show w.heap.size < w.heap.size + 1 by omega))
      have c10 := fun (a b : Int) => ((X6.res.alloc (.cells #[.int .i64 a, .int .i64 b] 3)).set_ 0 (.slice A1 n c1)).cell 0
      have c11 := fun (a b : Int) => ((X6.res.set_ 0 (.slice A1 n c1)).alloc (.cells #[.int .i64 a, .int .i64 b] 3)).cell 0
      have HD2 := Lib.hid (fun (a b : Int) => And.intro (X6.done.1.alloc (.cells #[.int .i64 a, .int .i64 b] 3)) (X6.done.2.alloc (show w.heap.size ≤ (w6.setCell ⟨w.heap.size, 0, Option.none⟩ (.slice A1 n c1)).heap.size by rw [World.size_setCell]; have := X6.far; have := X6.box.lt; omega) (.cells #[.int .i64 a, .int .i64 b] 3)))
      have HO2 : Hid (∀ a b : Int, OwI ((w6.setCell ⟨w.heap.size, 0, Option.none⟩ (.slice A1 n c1)).alloc (.cells #[.int .i64 a, .int .i64 b] 3)) w.heap.size ((w6.setCell ⟨w.heap.size, 0, Option.none⟩ (.slice A1 n c1)).alloc (.cells #[.int .i64 a, .int .i64 b] 3)).heap.size (.slice (some ⟨w6.heap.size, 0, Option.none⟩) 2 2) [a, b]) := fun a b => by
        have h := own_two (w6.setCell ⟨w.heap.size, 0, Option.none⟩ (.slice A1 n c1)) a b
        rw [World.size_setCell] at h
        exact h.mono (by have := X6.far; have := X6.box.lt; omega) (Nat.le_refl _)
      clear hbx hbxa hc5 hk5 X5 hx5 hx5a hl5n hc6 hk6 X6 hx6 hx6a hrc hrf hrc0 hrf0
      go_wp2_with fail
      refine bodyPost_ret (v := .tuple #[.agg #[.slice A1 n c1], .slice (some ⟨w6.heap.size, 0, Option.none⟩) 2 2]) (by simp [results, Tryz.results33, go_sem, c10, c11]) rfl ?_
      first
        | exact ⟨_, n, _, [_, _], rfl, hn, by simp, (HD2.out _ _).1, HO2.out _ _, (HD2.out _ _).2⟩
        | exact ⟨_, n, _, [_, _], rfl, hn, by simp, (HD.out _ _).1, (HO.out _ _).mono (show w.heap.size ≤ w.heap.size + 1 by omega) (Nat.le_refl _), (HD.out _ _).2⟩
  · have hg0 : decide (0 < n) = true := decide_eq_true h0
    have c2 := Lib.hid (one_any 2 (w.heap.size + 1) 21000 _ D1.out.cur (by omega) (by omega) (by omega))
    go_wp2_with fail
    refine c2.out.mono ?_
    rintro e w3 ⟨ob, rfl, hc3, hk3⟩
    have D3 := Lib.hid (D1.out.step hc3 hk3)
    clear hc3 hk3 c2 D1 hbx0
    cases ob
    · skip
      have XD : DbS w (w.heap.size + 1) (21000 + 2) w1.heap.size w3.drew (.slice A1 n c1) n := D3.out.step D3.out.cur (KeepG.drawN w3 1)
      have XA : DbS w (w.heap.size + 1) (21000 + 2) w1.heap.size (w3.alloc (.cells #[.int .i64 0, .int .i64 1, .int .i64 2, .int .i64 60, .int .i64 61] 3)).drew (.slice A1 n c1) n := (D3.out.alloc _).step (D3.out.alloc _).cur (KeepG.drawN _ 1)
      have hbx := D3.out.box.cell 0
      have hbxa := (D3.out.box.alloc (.cells #[.int .i64 0, .int .i64 1, .int .i64 2, .int .i64 60, .int .i64 61] 3)).cell 0
      have hl0 : Lst (w3.alloc (.cells #[.int .i64 0, .int .i64 1, .int .i64 2, .int .i64 60, .int .i64 61] 3)).drew (w.heap.size + 1) (.slice (some ⟨w3.heap.size, 0, Option.none⟩) 5 5) [0, 1, 2, 60, 61] := lst_new w3 (w.heap.size + 1) [0, 1, 2, 60, 61] D3.out.cur.lt (by simp) (by simp)
      have HXD := Lib.hid XD
      have HXA := Lib.hid XA
      have HL0 := Lib.hid hl0
      clear XD XA hl0
      go_wp2_with fail
      go_region_law (first
        | ((go_simp; go_at_call 63; (with_reducible refine (pick_any 4 (w.heap.size + 1) (21000 + 2) _ (by first | exact HXD.out.cur | exact HXA.out.cur) (by omega) (by omega) (by omega)).mono ?_); rintro e w5 ⟨z5, rfl, ⟨hz5, hy5⟩, hc5, hk5⟩; (first | (have X5 := HXD.out.step hc5 hk5) | (have X5 := HXA.out.step hc5 hk5; have hl5 := HL0.out.keepG hk5)); have hx5 := X5.box.cell 0; have hx5a := (X5.box.alloc (.cells #[.int .i64 0, .int .i64 1, .int .i64 2, .int .i64 60, .int .i64 61] 3)).cell 0; have hl5n : Lst (w5.alloc (.cells #[.int .i64 0, .int .i64 1, .int .i64 2, .int .i64 60, .int .i64 61] 3)) (w.heap.size + 1) (.slice (some ⟨w5.heap.size, 0, Option.none⟩) 5 5) [0, 1, 2, 60, 61] := lst_new w5 (w.heap.size + 1) [0, 1, 2, 60, 61] X5.cur.lt (by simp) (by simp)))
        | ((go_simp; go_at_call 74; (with_reducible refine (among_any [0, 1, 2, 60, 61] _ (w.heap.size + 1) ((21000 + 2) + 2) _ (by first | exact X5.cur | exact X5.cur.alloc _) (by omega) (by first | exact hl5 | exact hl5n)).mono ?_); rintro e w6 ⟨z6, rfl, _, hc6, hk6⟩; (first | (have X6 := X5.step hc6 hk6) | (have X6 := (X5.alloc _).step hc6 hk6)); have hx6 := X6.box.cell 0; have hx6a := fun (a b : Int) => (X6.box.alloc (.cells #[.int .i64 a, .int .i64 b] 3)).cell 0; have hrc := fun (a b : Int) => (X6.res.alloc (.cells #[.int .i64 a, .int .i64 b] 3)).cell 0; have hrf := fun (a b : Int) => (X6.res.alloc (.cells #[.int .i64 a, .int .i64 b] 3)).frozen 0; have hrc0 := X6.res.cell 0; have hrf0 := X6.res.frozen 0)))
      all_goals
        have HD := Lib.hid (fun (a b : Int) => (X6.alloc (.cells #[.int .i64 a, .int .i64 b] 3)).done)
        have HO := Lib.hid (fun (a b : Int) => ((own_two w6 a b).mono (show w.heap.size + 1 ≤ w6.heap.size by have := X6.far; have := X6.box.lt; omega) (Nat.le_refl _)).setBelowZ (u := .slice A1 n c1) (show w.heap.size < w.heap.size + 1 by omega))
        have c10 := fun (a b : Int) => ((X6.res.alloc (.cells #[.int .i64 a, .int .i64 b] 3)).set_ 0 (.slice A1 n c1)).cell 0
        have c11 := fun (a b : Int) => ((X6.res.set_ 0 (.slice A1 n c1)).alloc (.cells #[.int .i64 a, .int .i64 b] 3)).cell 0
        have HD2 := Lib.hid (fun (a b : Int) => And.intro (X6.done.1.alloc (.cells #[.int .i64 a, .int .i64 b] 3)) (X6.done.2.alloc (show w.heap.size ≤ (w6.setCell ⟨w.heap.size, 0, Option.none⟩ (.slice A1 n c1)).heap.size by rw [World.size_setCell]; have := X6.far; have := X6.box.lt; omega) (.cells #[.int .i64 a, .int .i64 b] 3)))
        have HO2 : Hid (∀ a b : Int, OwI ((w6.setCell ⟨w.heap.size, 0, Option.none⟩ (.slice A1 n c1)).alloc (.cells #[.int .i64 a, .int .i64 b] 3)) w.heap.size ((w6.setCell ⟨w.heap.size, 0, Option.none⟩ (.slice A1 n c1)).alloc (.cells #[.int .i64 a, .int .i64 b] 3)).heap.size (.slice (some ⟨w6.heap.size, 0, Option.none⟩) 2 2) [a, b]) := fun a b => by
          have h := own_two (w6.setCell ⟨w.heap.size, 0, Option.none⟩ (.slice A1 n c1)) a b
          rw [World.size_setCell] at h
          exact h.mono (by have := X6.far; have := X6.box.lt; omega) (Nat.le_refl _)
        clear hbx hbxa hc5 hk5 X5 hx5 hx5a hl5n hc6 hk6 X6 hx6 hx6a hrc hrf hrc0 hrf0
        go_wp2_with fail
        refine bodyPost_ret (v := .tuple #[.agg #[.slice A1 n c1], .slice (some ⟨w6.heap.size, 0, Option.none⟩) 2 2]) (by simp [results, Tryz.results33, go_sem, c10, c11]) rfl ?_
        first
          | exact ⟨_, n, _, [_, _], rfl, hn, by simp, (HD2.out _ _).1, HO2.out _ _, (HD2.out _ _).2⟩
          | exact ⟨_, n, _, [_, _], rfl, hn, by simp, (HD.out _ _).1, (HO.out _ _).mono (show w.heap.size ≤ w.heap.size + 1 by omega) (Nat.le_refl _), (HD.out _ _).2⟩
    · skip
      obtain ⟨g, c', hv, hlg, cur, hgc⟩ := D3.out.row.pos h0
      cases hv
      have XD : DbS w (w.heap.size + 1) (21000 + 2) w1.heap.size w3.drew (.slice (some ⟨g, 0, Option.none⟩) n c1) n := D3.out.step D3.out.cur (KeepG.drawN w3 1)
      have hbx := D3.out.box.cell 0
      have HXD := Lib.hid XD
      clear XD hgc
      go_wp2_with fail
      go_region_law (first
        | ((go_simp; go_at_call 63; (with_reducible refine (pick_any (n : Int) (w.heap.size + 1) (21000 + 2) _ HXD.out.cur (by omega) (by omega) (by omega)).mono ?_); rintro e w5 ⟨z5, rfl, ⟨hz5, hy5⟩, hc5, hk5⟩; have X5 := HXD.out.step hc5 hk5; have hx5 := X5.box.cell 0; obtain ⟨k, h5e⟩ : ∃ k : Nat, z5 = (k : Int) := ⟨z5.toNat, by omega⟩; subst h5e; have hkn : k < n := (by omega); obtain ⟨tt, uu, _, q2, hI, _, _, _⟩ := X5.row.at_ hkn; obtain ⟨xs, hxs, hxl⟩ := hI.rd2; obtain ⟨A7, c7, hv7, _, _⟩ := Rd.form hxs; subst hv7; clear hI))
        | ((go_simp; go_at_call 86; (with_reducible refine (l1Own_any xs _ _ w5 hxs (Nat.le_refl _) (by omega)).mono ?_); rintro e w6 ⟨v6, rfl, ho6, hb6⟩; obtain ⟨A6, c6, hv6, _⟩ := ho6.form; subst hv6; have X6 := X5.fresh hb6; have hx6 := X6.box.cell 0; have hrc := X6.res.cell 0; have hrf := X6.res.frozen 0)))
      all_goals
        have HD := Lib.hid X6.done
        have HO := Lib.hid ((ho6.mono (show w.heap.size + 1 ≤ w5.heap.size by have := X5.far; have := X5.box.lt; omega) (Nat.le_refl _)).setBelowZ (u := .slice (some ⟨g, 0, Option.none⟩) n c1) (show w.heap.size < w.heap.size + 1 by omega))
        have c10 := (X6.res.set_ 0 (.slice (some ⟨g, 0, Option.none⟩) n c1)).cell 0
        clear hbx hc5 hk5 X5 hx5 q2 hxs ho6 hb6 X6 hx6 hrc hrf
        go_wp2_with fail
        refine bodyPost_ret (v := .tuple #[.agg #[.slice (some ⟨g, 0, Option.none⟩) n c1], .slice A6 xs.length c6]) (by simp [results, Tryz.results33, go_sem, c10]) rfl ?_
        exact ⟨_, n, _, xs, rfl, hn, hxl, HD.out.1, HO.out.mono (show w.heap.size ≤ w.heap.size + 1 by omega) (Nat.le_refl _), HD.out.2⟩
end Go.Proofs.YtjnkdjokbamibaaGreatDoor
