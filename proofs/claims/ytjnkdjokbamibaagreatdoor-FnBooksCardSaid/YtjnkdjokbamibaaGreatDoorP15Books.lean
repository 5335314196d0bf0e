/- Texts of one claim, joined: W3, W5. -/
import Derived.Deep.DeepCutAuto
import Derived.BigRegion
import Derived.Deep.CutBlock
import Derived.Test.YtjnkdjokbamibaaGreatDoorP14Books
/- Contracts: phrases with no memory shared; a book of phrases, if it is valid; of the reference. -/
namespace Go.Proofs.YtjnkdjokbamibaaGreatDoor
open Go.RowKit
set_option maxRecDepth 100000 in
set_option maxHeartbeats 4000000 in
theorem bkOwn_any (ps : List Phr) (v : Value) (hi : Nat) (w : World) (h : RdPS w hi v ps) (hh : hi ≤ w.heap.size) (hn : ps.length ≤ 1048576) (hsz : ∀ p ∈ ps, p.2.length ≤ 1048576) :
    Calls Tryz.prog 80 #[v] w (RetOwPS ps w) := by
  obtain ⟨A, c, rfl, hc, hm⟩ := h.form
  have H := Lib.hid h
  have HSZ := Lib.hid hsz
  clear h hsz
  go_enter Tryz.func80, Tryz.ntmps80
  go_wp2_with fail
  go_loopw [3, 8] (fun o i wr => ∃ (k : Nat) (A2 : Option Addr) (c2 : Nat), k ≤ ps.length ∧ o = .slice A2 k c2 ∧ i = .int .i64 (k : Int) ∧ Hid (GrowO w w.heap.size wr (.slice A2 k c2) (ps.take k))) (fun _ i _ => ps.length - (intOf i).toNat)
  case atStart => exact ⟨0, Option.none, 0, Nat.zero_le _, rfl, rfl, GrowO.start w rfl⟩
  case round =>
    obtain ⟨k, A2, c2, hk, rfl, rfl, hg⟩ := hrel
    by_cases hlt : k < ps.length
    · have hbr := hg.out.2.2.1
      have hs := hg.out.2.2.2
      obtain ⟨b1, o1, c1, a, t, xs, hv, _, hx, hcell1, hcell2, hra, hts⟩ := (H.out.below hbr hh).at_ hlt
      cases hv
      have hxl := HSZ.out (t, xs) (List.mem_of_getElem? hx)
      have HX := Lib.hid hx
      obtain ⟨A3, c3, rfl, hc3, hm3⟩ := Rd.form hra
      have hbx : Below wr.heap.size wr (wr.alloc (.cells #[.string t, .slice A3 xs.length c3] 45)) := (Below.refl _ _).alloc (Nat.le_refl _) _
      have HRA := Lib.hid hra
      have q0 : (wr.alloc (.cells #[.string t, .slice A3 xs.length c3] 45)).cell? ⟨wr.heap.size, 0, Option.none⟩ = some (.string t) := (Blk.new wr 45 #[.string t, .slice A3 xs.length c3]).cell 0
      have q1 : (wr.alloc (.cells #[.string t, .slice A3 xs.length c3] 45)).cell? ⟨wr.heap.size, 1, Option.none⟩ = some (.slice A3 xs.length c3) := (Blk.new wr 45 #[.string t, .slice A3 xs.length c3]).cell 1
      have hzx : (wr.alloc (.cells #[.string t, .slice A3 xs.length c3] 45)).heap.size = wr.heap.size + 1 := by simp
      clear hx hra hbr
      go_wp2_with fail
      generalize wr.alloc (.cells #[.string t, .slice A3 xs.length c3] 45) = wx at hbx q0 q1 hzx ⊢
      have hbd : Below wr.heap.size wr wx.drew := hbx.drew
      have hzd : wx.drew.heap.size = wr.heap.size + 1 := hzx
      have hra2 : RdI wx.drew hi (.slice A3 xs.length c3) xs := HRA.out.below hbd (by omega)
      go_region_law (first
        | ((refine step_GrowO (by rfl) (.tmp 12) (.tmp 19) (by rfl) hg.out hb6 hu6 hts (by rw [List.length_take]; omega) (by rfl) (by rfl) (by rfl) ?_; intro v8 w8 hg8 hf8 hs8; obtain ⟨A8, c8, hv8, _⟩ := hg8.form; have HG8 := Lib.hid hg8))
        | ((go_simp; go_at_call 86; refine (l1Own_any xs _ hi _ hra2 (by omega) (by omega)).mono ?_; rintro e w5 ⟨v5, rfl, hu5, hb5⟩; obtain ⟨A5, c5, hv5, _⟩ := hu5.form; subst hv5; have hb6 : Below wr.heap.size wr w5 := hbd.trans (hb5.mono (by omega)); have hu6 := hu5.mono (show wr.heap.size ≤ wx.drew.heap.size by omega) (Nat.le_refl _); have r0 := (hb5.cell (p := ⟨wr.heap.size, 0, Option.none⟩) (by show wr.heap.size < _; omega)).trans q0; have r1 := (hb5.cell (p := ⟨wr.heap.size, 1, Option.none⟩) (by show wr.heap.size < _; omega)).trans q1)))
      all_goals
        subst hv8
        clear hg8 hg
        have hlen : (ps.take k ++ [(t, xs)]).length = k + 1 := by rw [List.length_append, List.length_take]; simp; omega
        rw [hlen] at HG8
        try rw [hlen]
        go_wp2_with fail
        go_roundw
        case rel => exact ⟨k + 1, A8, c8, by omega, rfl, by go_num, by show GrowO _ _ _ _ _; rw [take_snocN HX.out]; exact HG8.out⟩
        case measure => (simp [intOf]; try omega)
    · obtain rfl : k = ps.length := by omega
      have hg2 := hg.out
      rw [List.take_of_length_le (Nat.le_refl _)] at hg2
      go_wp2_with fail
      go_ret
      exact ⟨_, rfl, hg2.own, hg2.2.2.1⟩
/-- A book of the call's own, and a bool. -/
def RetOwBT (ps : List Phr) (b : Bool) (w : World) (e : Ending) (w' : World) : Prop := ∃ u, e = .returned (.tuple #[.agg #[u], .bool b]) ∧ OwPS w' w.heap.size w'.heap.size u ps ∧ Below w.heap.size w w'
theorem owPS_nil (w : World) (lo hi : Nat) : OwPS w lo hi (.slice Option.none 0 0) [] := ⟨[], RowsO.nil _ _ _, World.ownsRow_nil _ _ _ _, TxtOk.nil, fun k hk => by cases hk⟩
def ifO (ps : List Phr) : Option (List Phr) := if bookB ps then some ps else Option.none
theorem OwPS.mono {w : World} {lo hi lo' hi' : Nat} {v : Value} {ps : List Phr} (h : OwPS w lo hi v ps) (h1 : lo' ≤ lo) (h2 : hi ≤ hi') : OwPS w lo' hi' v ps := by
  obtain ⟨us, g1, g2, g3, g4⟩ := h
  refine ⟨us, g1.mono h1 h2, ⟨g2.1, ?_⟩, g3, fun k hk => by have := g4 k hk; omega⟩
  rcases g2.2 with hn | ⟨g, cap, cur, e1, hl, rest⟩
  · exact .inl hn
  · exact .inr ⟨g, cap, cur, e1, by omega, rest⟩
set_option maxRecDepth 100000 in
set_option maxHeartbeats 2000000 in
theorem bkIf_any (ps : List Phr) (v : Value) (hi : Nat) (w : World) (h : RdPS w hi v ps) (hh : hi ≤ w.heap.size) (hn : ps.length ≤ 1048576) (hsz : ∀ p ∈ ps, p.2.length ≤ 1048576) :
    Calls Tryz.prog 79 #[v] w (RetOwBT ((ifO ps).getD []) (bookB ps) w) := by
  obtain ⟨A, c, rfl, hc, hm⟩ := h.form
  have hR0 : Blk (w.alloc (.cells #[.slice Option.none 0 0] 41)) w.heap.size 41 [.slice Option.none 0 0] := Blk.new w _ _
  have hb0 : Below w.heap.size w (w.alloc (.cells #[.slice Option.none 0 0] 41)) := (Below.refl _ _).alloc (Nat.le_refl _) _
  have hz0 : (w.alloc (.cells #[.slice Option.none 0 0] 41)).heap.size = w.heap.size + 1 := by simp
  have H := Lib.hid (h.below hb0 hh)
  have HSZ := Lib.hid hsz
  clear h hsz
  go_enter Tryz.func79, Tryz.ntmps79
  go_wp2_with fail
  generalize w.alloc (.cells #[.slice Option.none 0 0] 41) = wa at hR0 hb0 hz0 H ⊢
  refine (bkOwn_any ps _ hi wa H.out (by omega) hn HSZ.out).mono ?_
  rintro e w1 ⟨u, rfl, hu, hb1⟩
  obtain ⟨A1, c1, rfl, _, _⟩ := hu.rd.form
  have hs1 := hb1.size
  have hR1 := hR0.below hb1 (by omega)
  have hb2 : Below w1.heap.size w1 (w1.alloc (.cells #[.slice A1 ps.length c1] 41)) := (Below.refl _ _).alloc (Nat.le_refl _) _
  have hX2 : Blk (w1.alloc (.cells #[.slice A1 ps.length c1] 41)) w1.heap.size 41 [.slice A1 ps.length c1] := Blk.new w1 _ _
  have hz2 : (w1.alloc (.cells #[.slice A1 ps.length c1] 41)).heap.size = w1.heap.size + 1 := by simp
  have HR2 := Lib.hid (hR1.below hb2 (by omega))
  have HU2 := Lib.hid (hu.below hb2 (Nat.le_refl _))
  have HB2 := Lib.hid ((hb0.trans (hb1.mono (by omega))).trans (hb2.mono (by omega)))
  have hxc := hX2.cell 0
  clear hu hb1 hR1 hR0 hb0 H
  go_wp2_with fail
  generalize w1.alloc (.cells #[.slice A1 ps.length c1] 41) = wb at hb2 hX2 hz2 HR2 HU2 HB2 hxc ⊢
  have cB := bkGood_any ps (.agg #[.slice A1 ps.length c1]) w1.heap.size wb ⟨_, rfl, HU2.out.rd⟩ (by omega)
  have HX2 := Lib.hid hX2
  clear hX2 hb2
  cases hbk : bookB ps
  · rw [hbk] at cB
    have CB := Lib.hid cB
    have HBK := Lib.hid hbk
    clear cB hbk
    refine CB.out.mono ?_
    rintro e w3 ⟨rfl, hb3⟩
    have hr3 := HR2.out.below hb3 (by omega)
    have hrc := hr3.cell 0
    have hrf := hr3.frozen 0
    have c10 := (hr3.set_ 0 (.slice Option.none 0 0)).cell 0
    have HL := Lib.hid ((HB2.out.trans (hb3.mono (by omega))).setCell (p := ⟨w.heap.size, 0, Option.none⟩) (Nat.le_refl _) (.slice Option.none 0 0))
    clear hb3 hr3
    go_wp2_with fail
    refine bodyPost_ret (v := .tuple #[.agg #[.slice Option.none 0 0], .bool false]) (by simp [results, Tryz.results79, go_sem, c10]) rfl ?_
    exact ⟨_, by rw [HBK.out], by unfold ifO; rw [HBK.out]; exact owPS_nil _ _ _, HL.out⟩
  · rw [hbk] at cB
    have CB := Lib.hid cB
    have HBK := Lib.hid hbk
    clear cB hbk
    refine CB.out.mono ?_
    rintro e w3 ⟨rfl, hb3⟩
    have hr3 := HR2.out.below hb3 (by omega)
    have hx3 := (HX2.out.below hb3 (by omega)).cell 0
    have hu3 := HU2.out.below hb3 (by omega)
    have hs3 := hb3.size
    have hrc := hr3.cell 0
    have hrf := hr3.frozen 0
    have c10 := (hr3.set_ 0 (.slice A1 ps.length c1)).cell 0
    have HL := Lib.hid ((HB2.out.trans (hb3.mono (by omega))).setCell (p := ⟨w.heap.size, 0, Option.none⟩) (Nat.le_refl _) (.slice A1 ps.length c1))
    have hk : Keep w.heap.size (w.heap.size + 1) w3 (w3.setCell ⟨w.heap.size, 0, Option.none⟩ (.slice A1 ps.length c1)) := (Keep.refl _ _ _).setCell (p := ⟨w.heap.size, 0, Option.none⟩) (Nat.le_refl _) (by show w.heap.size < _; omega) _
    have HU := Lib.hid ((hu3.keep hk (.inr (by omega))).mono (show w.heap.size ≤ wa.heap.size by omega) (show w1.heap.size ≤ (w3.setCell ⟨w.heap.size, 0, Option.none⟩ (.slice A1 ps.length c1)).heap.size by rw [hk.size]; omega))
    clear hb3 hr3 hu3 hk
    go_wp2_with fail
    refine bodyPost_ret (v := .tuple #[.agg #[.slice A1 ps.length c1], .bool true]) (by simp [results, Tryz.results79, go_sem, c10]) rfl ?_
    exact ⟨_, by rw [HBK.out], by unfold ifO; rw [HBK.out]; exact HU.out, HL.out⟩
end Go.Proofs.YtjnkdjokbamibaaGreatDoor
/- Contracts: AddPhrase, DropPhrase of the reference. -/
namespace Go.Proofs.YtjnkdjokbamibaaGreatDoor
open Go.RowKit
theorem owB_of {w w' : World} {e : Ending} {ps : List Phr} {b : Bool} (h : RetOwBT ps b w e w') : ∃ v, e = .returned (.tuple #[v, .bool b]) ∧ OwB w' w.heap.size w'.heap.size v ps ∧ Below w.heap.size w w' := by
  obtain ⟨u, h1, h2, h3⟩ := h
  exact ⟨_, h1, ⟨u, rfl, h2⟩, h3⟩
theorem book_len2 {ps : List Phr} (h : bookB ps = true) : ∀ p ∈ ps, p.2.length ≤ 1048576 := fun p hp => by have := (phrOk_sig (bookB_phr h hp)).2.1; omega
theorem src_oneB {w w' : World} {B g : Nat} {t : ByteArray} {xs : List Int} {A : Option Addr} {n c : Nat} (h : El w B (.slice A n c) xs) (hs : B ≤ w.heap.size) (hg : g = w.heap.size) (ht : t.size ≤ 9223372036854775807)
    (hb : Below (w.heap.size + 1) (w.alloc (.cells #[.string t, .slice A n c] 45)) w') : SrcP w' B (.slice (some ⟨g, 0, Option.none⟩) 1 1) [(t, xs)] := by
  subst hg
  have hbw : Below w.heap.size w w' := ((Below.refl _ _).alloc (Nat.le_refl _) _).trans (hb.mono (by omega))
  have hblk := (Blk.new w 45 #[.string t, .slice A n c]).below hb (by omega)
  refine ⟨[.slice A n c], w.heap.size + 1, Els.one (h.below hs hbw), ⟨rfl, _, 1, rfl, Nat.le_refl _, by decide, fun _ => ⟨w.heap.size, 0, rfl, by omega, fun j u hj => ?_⟩⟩, fun p hp => by simp at hp; subst hp; exact ht, fun x hx => by simp at hx; subst hx; rfl⟩
  rw [show (0 : Nat) + j = j by omega, hblk.cell j]
  exact hj
theorem drop_is {ps : List Phr} {s : ByteArray} {i : Nat} (h : bookB ps = true) (hi : txtIx ps s = some i) : dropO ps s = ifO (ps.take i ++ ps.drop (i + 1)) ∧ (dropO ps s).isSome = bookB (ps.take i ++ ps.drop (i + 1)) := by
  have hl := txtIx_lt hi
  have he := book_erase h hl
  rw [List.eraseIdx_eq_take_drop_succ] at he
  have h1 : dropO ps s = ifO (ps.take i ++ ps.drop (i + 1)) := by
    unfold ifO
    rw [he]
    by_cases h1 : ps.length = 1
    · rw [dropO_one h1, decide_eq_false (by omega)]; rfl
    · rw [dropO_yes h hi h1, decide_eq_true h1, List.eraseIdx_eq_take_drop_succ]; rfl
  refine ⟨h1, ?_⟩
  rw [h1]; unfold ifO; cases bookB (ps.take i ++ ps.drop (i + 1)) <;> rfl
theorem add_is {ps : List Phr} {x : Phr} (h : bookB ps = true) : addO ps x = ifO (addL ps x) ∧ (addO ps x).isSome = bookB (addL ps x) := by
  have h1 : addO ps x = ifO (addL ps x) := by unfold addO ifO; rw [h, Bool.true_and]
  refine ⟨h1, ?_⟩
  rw [h1]; unfold ifO; cases bookB (addL ps x) <;> rfl
set_option maxRecDepth 100000 in
set_option maxHeartbeats 4000000 in
theorem sDropPhrase_any (ps : List Phr) (s : ByteArray) (v : Value) (hi : Nat) (w : World) (h : RdB w hi v ps) (hh : hi ≤ w.heap.size) :
    Calls Tryz.prog 29 #[v, .string s] w (RetOwBT ((dropO ps s).getD []) (dropO ps s).isSome w) := by
  obtain ⟨a, rfl, ha⟩ := h
  obtain ⟨A, c, rfl, hc, hm⟩ := ha.form
  have hba : Below w.heap.size w ((w.alloc (.cells #[.slice A ps.length c] 41)).alloc (.cells #[.slice Option.none 0 0] 41)) := ((Below.refl _ _).alloc (Nat.le_refl _) _).alloc (by simp) _
  have hX : Blk ((w.alloc (.cells #[.slice A ps.length c] 41)).alloc (.cells #[.slice Option.none 0 0] 41)) w.heap.size 41 [.slice A ps.length c] := (Blk.new w 41 #[.slice A ps.length c]).alloc _
  have hR : Blk ((w.alloc (.cells #[.slice A ps.length c] 41)).alloc (.cells #[.slice Option.none 0 0] 41)) (w.heap.size + 1) 41 [.slice Option.none 0 0] := by
    have := Blk.new (w.alloc (.cells #[.slice A ps.length c] 41)) 41 #[.slice Option.none 0 0]
    simpa using this
  have hz : (((w.alloc (.cells #[.slice A ps.length c] 41)).alloc (.cells #[.slice Option.none 0 0] 41))).heap.size = w.heap.size + 2 := by simp
  have HA := Lib.hid (ha.below hba hh)
  have hxc := hX.cell 0
  clear ha
  go_enter Tryz.func29, Tryz.ntmps29
  go_wp2_with fail
  generalize ((w.alloc (.cells #[.slice A ps.length c] 41)).alloc (.cells #[.slice Option.none 0 0] 41)) = wa at hba hX hR hz HA hxc ⊢
  have HF := Lib.hid (bkFind_any ps s (.agg #[.slice A ps.length c]) hi wa ⟨_, rfl, HA.out⟩ (by omega))
  refine HF.out.mono ?_
  rintro e w1 ⟨rfl, hb1⟩
  have hs1 := hb1.size
  have HA1 := Lib.hid (HA.out.below hb1 (by omega))
  have hX1 := hX.below hb1 (by omega)
  have HR1 := Lib.hid (hR.below hb1 (by omega))
  have HB1 := Lib.hid (hba.trans (hb1.mono (by omega)))
  have hxc1 := hX1.cell 0
  have HX1 := Lib.hid hX1
  clear hba hX hR HA HF hb1 hX1 hxc
  have c2 := bkGood_any ps (.agg #[.slice A ps.length c]) hi w1 ⟨_, rfl, HA1.out⟩ (by omega)
  cases hbk : bookB ps
  · rw [hbk] at c2
    have C2 := Lib.hid c2
    have HBK := Lib.hid hbk
    clear c2 hbk
    go_wp2_with fail
    refine C2.out.mono ?_
    rintro e w3 ⟨rfl, hb3⟩
    have HR3 := Lib.hid (HR1.out.below hb3 (by omega))
    have HB3 := Lib.hid (HB1.out.trans (hb3.mono (by omega)))
    clear hb3 hxc1 HX1 HR1 HA1 HB1 C2
    have hr3 := HR3.out
    have hrc := hr3.cell 0
    have hrf := hr3.frozen 0
    have c10 := (hr3.set_ 0 (.slice Option.none 0 0)).cell 0
    have HL := Lib.hid (HB3.out.setCell (p := ⟨w.heap.size + 1, 0, Option.none⟩) (by show w.heap.size ≤ w.heap.size + 1; omega) (.slice Option.none 0 0))
    clear hr3
    go_wp2_with fail
    refine bodyPost_ret (v := .tuple #[.agg #[.slice Option.none 0 0], .bool false]) (by simp [results, Tryz.results29, go_sem, c10]) rfl ?_
    exact ⟨_, by rw [dropO_no s HBK.out]; rfl, by rw [dropO_no s HBK.out]; exact owPS_nil _ _ _, HL.out⟩
  · rw [hbk] at c2
    have C2 := Lib.hid c2
    have HBK := Lib.hid hbk
    clear c2 hbk
    go_wp2_with fail
    refine C2.out.mono ?_
    rintro e w3 ⟨rfl, hb3⟩
    have hs3 := hb3.size
    have HX3 := Lib.hid (HX1.out.below hb3 (by omega))
    have HR3 := Lib.hid (HR1.out.below hb3 (by omega))
    have HA3 := Lib.hid (HA1.out.below hb3 (by omega))
    have HB3 := Lib.hid (HB1.out.trans (hb3.mono (by omega)))
    have hs3h : hi ≤ w3.heap.size := by omega
    clear hb3 hxc1 HX1 HR1 HA1 HB1 C2
    cases hix : txtIx ps s with
    | none =>
      have HIX := Lib.hid hix
      clear hix
      rw [show ixI (Option.none : Option Nat) = -1 from rfl]
      have hr3 := HR3.out
      have hrc := hr3.cell 0
      have hrf := hr3.frozen 0
      have c10 := (hr3.set_ 0 (.slice Option.none 0 0)).cell 0
      have HL := Lib.hid (HB3.out.setCell (p := ⟨w.heap.size + 1, 0, Option.none⟩) (by show w.heap.size ≤ w.heap.size + 1; omega) (.slice Option.none 0 0))
      clear hr3
      go_wp2_with fail
      refine bodyPost_ret (v := .tuple #[.agg #[.slice Option.none 0 0], .bool false]) (by simp [results, Tryz.results29, go_sem, c10]) rfl ?_
      exact ⟨_, by rw [dropO_none HIX.out]; rfl, by rw [dropO_none HIX.out]; exact owPS_nil _ _ _, HL.out⟩
    | some i =>
      have hil := txtIx_lt hix
      have HIX := Lib.hid hix
      clear hix
      rw [show ixI (some i) = (i : Int) from rfl]
      have hbl := bookB_len HBK.out
      obtain ⟨b, off, rfl⟩ : ∃ b off, A = some ⟨b, off, Option.none⟩ := by
        obtain ⟨b, off, c1, _, _, _, hv, _⟩ := HA3.out.at_ hil
        cases hv
        exact ⟨b, off, rfl⟩
      have hgi : decide ((i : Int) < 0) = false := decide_eq_false (by omega)
      have hxc3 := HX3.out.cell 0
      by_cases hck : c = i + 1
      · subst hck
        have hSr : ∀ w', Below w3.heap.size w3 w' → SrcP w' w3.heap.size (.slice (some ⟨b, off, Option.none⟩) 0 0) (ps.drop (i + 1)) := fun w' hb => by
          have h := (HA3.out.drop (k := i + 1) (by omega)).below hb hs3h
          rw [if_pos rfl, show ps.length - (i + 1) = 0 by omega, show i + 1 - (i + 1) = 0 by omega] at h
          exact src_old h hs3h hb.size
        have HSR := Lib.hid hSr
        clear hSr
        have hcut : RdPS w3.drew hi (.slice (some ⟨b, off, Option.none⟩) i (i + 1)) (ps.take i) := (HA3.out.below ((Below.refl _ _).drew : Below w3.heap.size w3 w3.drew) hs3h).cut (by omega)
        have hln : (ps.take i).length ≤ 1048576 := by rw [List.length_take]; omega
        have hl1 : (ps.take i).length + (ps.drop (i + 1)).length ≤ 1048576 := by rw [List.length_take, List.length_drop]; omega
        have hsl : ∀ p ∈ ps.take i, p.2.length ≤ 1048576 := fun p hp => book_len2 HBK.out p (List.mem_of_mem_take hp)
        have hsl2 : ∀ p ∈ ps.take i ++ ps.drop (i + 1), p.2.length ≤ 1048576 := fun p hp => by
          rcases List.mem_append.1 hp with hp | hp
          · exact book_len2 HBK.out p (List.mem_of_mem_take hp)
          · exact book_len2 HBK.out p (List.mem_of_mem_drop hp)
        have hxD : Blk w3.drew w.heap.size 41 [.slice (some ⟨b, off, Option.none⟩) ps.length (i + 1)] := HX3.out
        have hrD : Blk w3.drew (w.heap.size + 1) 41 [.slice Option.none 0 0] := HR3.out
        have hxc := hxD.cell 0
        have hbD : Below w3.heap.size w3 w3.drew := (Below.refl _ _).drew
        have HK := Lib.hid hsl
        have HK2 := Lib.hid hsl2
        have hHC := hcut
        have hic : i ≤ i + 1 := by omega
        have hic2 : (i : Int) ≤ (i : Int) + 1 := by omega
        have hwr : IntKind.i64.wrap ((i : Int) + 1) = (i : Int) + 1 := by rw [IntKind.wrap_i64]; omega
        have hz1 : (0 : Int) ≤ (i : Int) + 1 := by omega
        have hz2 : (i : Int) + 1 ≤ (ps.length : Int) := by omega
        have hz3 : ((i : Int) + 1).toNat = i + 1 := by omega
        have HCUT := Lib.hid hcut
        have hs3d : hi ≤ w3.drew.heap.size := hs3h
        have HXD := Lib.hid hxD
        have HRD := Lib.hid hrD
        have HBD := Lib.hid hbD
        clear hsl hsl2 hHC hcut hxD hrD hbD
        go_wp2_with fail
        go_region_law (first
          | ((refine step_GrowP (by rfl) (.tmp 22) (.tmp 27) (by rfl) HG4.out HS4.out (by omega) (by rfl) (by rfl) ?_; intro v5 w5 hG5 hs5))
          | ((go_simp; go_at_call 80; (with_reducible refine (bkOwn_any (ps.take i) _ hi _ HCUT.out hs3d hln HK.out).mono ?_); rintro e w4 ⟨u4, rfl, hu4, hb4⟩; have hx4c := (HXD.out.below hb4 (show w.heap.size < w3.heap.size by omega)).cell 0; have HG4 := Lib.hid (growP_own hu4 (Nat.le_refl _) hb4 hb4.size); have HS4 := Lib.hid (HSR.out w4 (HBD.out.trans hb4)); clear hu4 hb4))
          | ((go_simp; go_at_call 79; (with_reducible refine (bkIf_any (ps.take i ++ ps.drop (i + 1)) v5 w5.heap.size w5 hG5.rd (Nat.le_refl _) (by rw [List.length_append]; omega) HK2.out).mono ?_); rintro e w6 ⟨u6, rfl, hu6, hb6⟩; obtain ⟨A6, c6, hv6, _, _⟩ := hu6.rd.form; subst hv6; have hr6 := ((HRD.out.below hG5.2.2.1 (show w.heap.size + 1 < w3.heap.size by omega)).below hb6 (by have := hG5.2.2.2; have h2 : w3.drew.heap.size = w3.heap.size := rfl; omega)); have hr6c := hr6.cell 0; have hr6f := hr6.frozen 0)))
        all_goals
          have HU6 := Lib.hid hu6
          have HB6 := Lib.hid hb6
          have HR6 := Lib.hid hr6
          have hs6 := hb6.size
          have c10 := (hr6.set_ 0 (.slice A6 ((ifO (ps.take i ++ ps.drop (i + 1))).getD []).length c6)).cell 0
          have hs45 := hG5.2.2.2
          have hzD : w3.drew.heap.size = w3.heap.size := rfl
          have HG5 := Lib.hid hG5.2.2.1
          clear hu6 hb6 hr6 hG5
          go_wp2_with fail
          refine bodyPost_ret (v := .tuple #[.agg #[.slice A6 ((ifO (ps.take i ++ ps.drop (i + 1))).getD []).length c6], .bool (bookB (ps.take i ++ ps.drop (i + 1)))]) (by simp [results, Tryz.results29, go_sem, c10]) rfl ?_
          have hk : Keep (w.heap.size + 1) (w.heap.size + 1 + 1) w6 (w6.setCell ⟨w.heap.size + 1, 0, Option.none⟩ (.slice A6 ((ifO (ps.take i ++ ps.drop (i + 1))).getD []).length c6)) := (Keep.refl _ _ _).setCell (p := ⟨w.heap.size + 1, 0, Option.none⟩) (Nat.le_refl _) (by show w.heap.size + 1 < _; omega) _
          refine ⟨_, by rw [(drop_is HBK.out HIX.out).2], ?_, ((HB3.out.trans ((show Below w3.heap.size w3 w5 from HBD.out.trans HG5.out).mono (by omega))).trans (HB6.out.mono (by omega))).trans (hk.bel.mono (by omega))⟩
          rw [(drop_is HBK.out HIX.out).1]
          exact (HU6.out.keep hk (.inr (by omega))).mono (show w.heap.size ≤ w5.heap.size by omega) (show w6.heap.size ≤ (w6.setCell ⟨w.heap.size + 1, 0, Option.none⟩ (.slice A6 ((ifO (ps.take i ++ ps.drop (i + 1))).getD []).length c6)).heap.size by rw [hk.size]; omega)
      · skip
        have hSr : ∀ w', Below w3.heap.size w3 w' → SrcP w' w3.heap.size (.slice (some ⟨b, off + (i + 1) * 2, Option.none⟩) (ps.length - (i + 1)) (c - (i + 1))) (ps.drop (i + 1)) := fun w' hb => by
          have h := (HA3.out.drop (k := i + 1) (by omega)).below hb hs3h
          rw [if_neg hck] at h
          exact src_old h hs3h hb.size
        have HSR := Lib.hid hSr
        clear hSr
        have hcut : RdPS w3.drew hi (.slice (some ⟨b, off, Option.none⟩) i (c)) (ps.take i) := (HA3.out.below ((Below.refl _ _).drew : Below w3.heap.size w3 w3.drew) hs3h).cut (by omega)
        have hln : (ps.take i).length ≤ 1048576 := by rw [List.length_take]; omega
        have hl1 : (ps.take i).length + (ps.drop (i + 1)).length ≤ 1048576 := by rw [List.length_take, List.length_drop]; omega
        have hsl : ∀ p ∈ ps.take i, p.2.length ≤ 1048576 := fun p hp => book_len2 HBK.out p (List.mem_of_mem_take hp)
        have hsl2 : ∀ p ∈ ps.take i ++ ps.drop (i + 1), p.2.length ≤ 1048576 := fun p hp => by
          rcases List.mem_append.1 hp with hp | hp
          · exact book_len2 HBK.out p (List.mem_of_mem_take hp)
          · exact book_len2 HBK.out p (List.mem_of_mem_drop hp)
        have hxD : Blk w3.drew w.heap.size 41 [.slice (some ⟨b, off, Option.none⟩) ps.length (c)] := HX3.out
        have hrD : Blk w3.drew (w.heap.size + 1) 41 [.slice Option.none 0 0] := HR3.out
        have hxc := hxD.cell 0
        have hbD : Below w3.heap.size w3 w3.drew := (Below.refl _ _).drew
        have HK := Lib.hid hsl
        have HK2 := Lib.hid hsl2
        have hHC := hcut
        have hic : i ≤ c := by omega
        have hic2 : (i : Int) ≤ (i : Int) + 1 := by omega
        have hwr : IntKind.i64.wrap ((i : Int) + 1) = (i : Int) + 1 := by rw [IntKind.wrap_i64]; omega
        have hz1 : (0 : Int) ≤ (i : Int) + 1 := by omega
        have hz2 : (i : Int) + 1 ≤ (ps.length : Int) := by omega
        have hz3 : ((i : Int) + 1).toNat = i + 1 := by omega
        have HCUT := Lib.hid hcut
        have hs3d : hi ≤ w3.drew.heap.size := hs3h
        have HXD := Lib.hid hxD
        have HRD := Lib.hid hrD
        have HBD := Lib.hid hbD
        clear hsl hsl2 hHC hcut hxD hrD hbD
        go_wp2_with fail
        go_region_law (first
          | ((refine step_GrowP (by rfl) (.tmp 22) (.tmp 27) (by rfl) HG4.out HS4.out (by omega) (by rfl) (by rfl) ?_; intro v5 w5 hG5 hs5))
          | ((go_simp; go_at_call 80; (with_reducible refine (bkOwn_any (ps.take i) _ hi _ HCUT.out hs3d hln HK.out).mono ?_); rintro e w4 ⟨u4, rfl, hu4, hb4⟩; have hx4c := (HXD.out.below hb4 (show w.heap.size < w3.heap.size by omega)).cell 0; have HG4 := Lib.hid (growP_own hu4 (Nat.le_refl _) hb4 hb4.size); have HS4 := Lib.hid (HSR.out w4 (HBD.out.trans hb4)); clear hu4 hb4))
          | ((go_simp; go_at_call 79; (with_reducible refine (bkIf_any (ps.take i ++ ps.drop (i + 1)) v5 w5.heap.size w5 hG5.rd (Nat.le_refl _) (by rw [List.length_append]; omega) HK2.out).mono ?_); rintro e w6 ⟨u6, rfl, hu6, hb6⟩; obtain ⟨A6, c6, hv6, _, _⟩ := hu6.rd.form; subst hv6; have hr6 := ((HRD.out.below hG5.2.2.1 (show w.heap.size + 1 < w3.heap.size by omega)).below hb6 (by have := hG5.2.2.2; have h2 : w3.drew.heap.size = w3.heap.size := rfl; omega)); have hr6c := hr6.cell 0; have hr6f := hr6.frozen 0)))
        all_goals
          have HU6 := Lib.hid hu6
          have HB6 := Lib.hid hb6
          have HR6 := Lib.hid hr6
          have hs6 := hb6.size
          have c10 := (hr6.set_ 0 (.slice A6 ((ifO (ps.take i ++ ps.drop (i + 1))).getD []).length c6)).cell 0
          have hs45 := hG5.2.2.2
          have hzD : w3.drew.heap.size = w3.heap.size := rfl
          have HG5 := Lib.hid hG5.2.2.1
          clear hu6 hb6 hr6 hG5
          go_wp2_with fail
          refine bodyPost_ret (v := .tuple #[.agg #[.slice A6 ((ifO (ps.take i ++ ps.drop (i + 1))).getD []).length c6], .bool (bookB (ps.take i ++ ps.drop (i + 1)))]) (by simp [results, Tryz.results29, go_sem, c10]) rfl ?_
          have hk : Keep (w.heap.size + 1) (w.heap.size + 1 + 1) w6 (w6.setCell ⟨w.heap.size + 1, 0, Option.none⟩ (.slice A6 ((ifO (ps.take i ++ ps.drop (i + 1))).getD []).length c6)) := (Keep.refl _ _ _).setCell (p := ⟨w.heap.size + 1, 0, Option.none⟩) (Nat.le_refl _) (by show w.heap.size + 1 < _; omega) _
          refine ⟨_, by rw [(drop_is HBK.out HIX.out).2], ?_, ((HB3.out.trans ((show Below w3.heap.size w3 w5 from HBD.out.trans HG5.out).mono (by omega))).trans (HB6.out.mono (by omega))).trans (hk.bel.mono (by omega))⟩
          rw [(drop_is HBK.out HIX.out).1]
          exact (HU6.out.keep hk (.inr (by omega))).mono (show w.heap.size ≤ w5.heap.size by omega) (show w6.heap.size ≤ (w6.setCell ⟨w.heap.size + 1, 0, Option.none⟩ (.slice A6 ((ifO (ps.take i ++ ps.drop (i + 1))).getD []).length c6)).heap.size by rw [hk.size]; omega)
set_option maxRecDepth 100000 in
set_option maxHeartbeats 8000000 in
theorem sAddPhrase_any (ps : List Phr) (x : Phr) (v u : Value) (hi : Nat) (w : World) (h : RdB w hi v ps) (g : RdP w hi u x) (hh : hi ≤ w.heap.size) (hxs : x.2.length ≤ 1048576) :
    Calls Tryz.prog 26 #[v, u] w (RetOwBT ((addO ps x).getD []) (addO ps x).isSome w) := by
  obtain ⟨a, rfl, ha⟩ := h
  obtain ⟨A, c, rfl, hc, hm⟩ := ha.form
  obtain ⟨a2, rfl, ha2, hts⟩ := g
  obtain ⟨A2, c2, rfl, hc2, hm2⟩ := Rd.form ha2
  have HXS : Hid (x.2.length ≤ 1048576) := hxs
  have hba : Below w.heap.size w (((w.alloc (.cells #[.slice A ps.length c] 41)).alloc (.cells #[.string x.1, .slice A2 x.2.length c2] 45)).alloc (.cells #[.slice Option.none 0 0] 41)) := (((Below.refl _ _).alloc (Nat.le_refl _) _).alloc (by simp) _).alloc (by simp; omega) _
  have hX : Blk (((w.alloc (.cells #[.slice A ps.length c] 41)).alloc (.cells #[.string x.1, .slice A2 x.2.length c2] 45)).alloc (.cells #[.slice Option.none 0 0] 41)) w.heap.size 41 [.slice A ps.length c] := ((Blk.new w 41 #[.slice A ps.length c]).alloc _).alloc _
  have hY : Blk (((w.alloc (.cells #[.slice A ps.length c] 41)).alloc (.cells #[.string x.1, .slice A2 x.2.length c2] 45)).alloc (.cells #[.slice Option.none 0 0] 41)) (w.heap.size + 1) 45 [.string x.1, .slice A2 x.2.length c2] := by
    have := (Blk.new (w.alloc (.cells #[.slice A ps.length c] 41)) 45 #[.string x.1, .slice A2 x.2.length c2]).alloc (.cells #[.slice Option.none 0 0] 41)
    simpa using this
  have hR : Blk (((w.alloc (.cells #[.slice A ps.length c] 41)).alloc (.cells #[.string x.1, .slice A2 x.2.length c2] 45)).alloc (.cells #[.slice Option.none 0 0] 41)) (w.heap.size + 2) 41 [.slice Option.none 0 0] := by
    have := Blk.new ((w.alloc (.cells #[.slice A ps.length c] 41)).alloc (.cells #[.string x.1, .slice A2 x.2.length c2] 45)) 41 #[.slice Option.none 0 0]
    simpa using this
  have hz : ((((w.alloc (.cells #[.slice A ps.length c] 41)).alloc (.cells #[.string x.1, .slice A2 x.2.length c2] 45)).alloc (.cells #[.slice Option.none 0 0] 41))).heap.size = w.heap.size + 3 := by simp
  have HA := Lib.hid (ha.below hba hh)
  have HRX := Lib.hid (ha2.below hba hh)
  have hxc := hX.cell 0
  clear ha ha2
  go_enter Tryz.func26, Tryz.ntmps26
  go_wp2_with fail
  generalize (((w.alloc (.cells #[.slice A ps.length c] 41)).alloc (.cells #[.string x.1, .slice A2 x.2.length c2] 45)).alloc (.cells #[.slice Option.none 0 0] 41)) = wa at hba hX hY hR hz HA HRX hxc ⊢
  have c2' := bkGood_any ps (.agg #[.slice A ps.length c]) hi wa ⟨_, rfl, HA.out⟩ (by omega)
  cases hbk : bookB ps
  · rw [hbk] at c2'
    have C2 := Lib.hid c2'
    have HBK := Lib.hid hbk
    have HR1 := Lib.hid hR
    have HB1 := Lib.hid hba
    clear c2' hbk hX hY hR hba
    refine C2.out.mono ?_
    rintro e w3 ⟨rfl, hb3⟩
    have HR3 := Lib.hid (HR1.out.below hb3 (by omega))
    have HB3 := Lib.hid (HB1.out.trans (hb3.mono (by omega)))
    clear hb3 hxc HR1 HB1 C2
    have hr3 := HR3.out
    have hrc := hr3.cell 0
    have hrf := hr3.frozen 0
    have c10 := (hr3.set_ 0 (.slice Option.none 0 0)).cell 0
    have HL := Lib.hid (HB3.out.setCell (p := ⟨w.heap.size + 2, 0, Option.none⟩) (by show w.heap.size ≤ w.heap.size + 2; omega) (.slice Option.none 0 0))
    clear hr3
    go_wp2_with fail
    refine bodyPost_ret (v := .tuple #[.agg #[.slice Option.none 0 0], .bool false]) (by simp [results, Tryz.results26, go_sem, c10]) rfl ?_
    exact ⟨_, by rw [addO_no x HBK.out]; rfl, by rw [addO_no x HBK.out]; exact owPS_nil _ _ _, HL.out⟩
  · rw [hbk] at c2'
    have C2 := Lib.hid c2'
    have HBK := Lib.hid hbk
    have HR1 := Lib.hid hR
    have HX1 := Lib.hid hX
    have HY1 := Lib.hid hY
    have HB1 := Lib.hid hba
    clear c2' hbk hX hY hR hba hxc
    refine C2.out.mono ?_
    rintro e w3 ⟨rfl, hb3⟩
    have hs3 := hb3.size
    have HX3 := Lib.hid (HX1.out.below hb3 (by omega))
    have HY3 := Lib.hid (HY1.out.below hb3 (by omega))
    have HR3 := Lib.hid (HR1.out.below hb3 (by omega))
    have HA3 := Lib.hid (HA.out.below hb3 (by omega))
    have HRX3 := Lib.hid (RdI.below HRX.out hb3 (by omega))
    have HB3 := Lib.hid (HB1.out.trans (hb3.mono (by omega)))
    have hs3h : hi ≤ w3.heap.size := by omega
    clear hb3 HX1 HR1 HY1 HA HRX HB1 C2
    have hbl := bookB_len HBK.out
    obtain ⟨b, off, rfl⟩ : ∃ b off, A = some ⟨b, off, Option.none⟩ := by
      obtain ⟨b, off, c1, _, _, _, hv, _⟩ := HA3.out.at_ (show 0 < ps.length by omega)
      cases hv
      exact ⟨b, off, rfl⟩
    have hxc3 := HX3.out.cell 0
    have hyc3 := HY3.out.cell 0
    go_upto_block 0 with fail
    go_cut [6] (fun i wx => ∃ k : Nat, i = .int .i64 (k : Int) ∧ k ≤ ps.length ∧ Hid (posA ps x.1 = k) ∧ ∃ n, Hid (wx = w3.drewN n))
    case first =>
      go_wp2_with fail
      go_loopw [6] (fun i wr => ∃ k : Nat, k ≤ ps.length ∧ i = .int .i64 (k : Int) ∧ Hid (∀ j, j < k → ∀ p, ps[j]? = some p → ltT p.1 x.1 = true) ∧ ∃ n, wr = w3.drewN n) (fun i _ => ps.length - (intOf i).toNat)
      case atStart => exact ⟨0, Nat.zero_le _, rfl, fun j hj => by omega, 0, rfl⟩
      case round =>
        obtain ⟨k, hk, rfl, hlo, nd, hwq⟩ := hrel
        rename World => wq
        have hxcN : wq.cell? ⟨w.heap.size, 0, Option.none⟩ = some (.slice (some ⟨b, off, Option.none⟩) ps.length c) := by rw [hwq]; exact hxc3
        have hycN : wq.cell? ⟨w.heap.size + 1, 0, Option.none⟩ = some (.string x.1) := by rw [hwq]; exact hyc3
        have HAq : Hid (RdPS wq hi (.slice (some ⟨b, off, Option.none⟩) ps.length c) ps) := by show RdPS _ _ _ _; rw [hwq]; exact HA3.out
        have HWQ := Lib.hid hwq
        clear hxc3 hyc3 hwq HX3 HY3 HR3 HA3 HRX3 HB3
        have hxcD : wq.drew.cell? ⟨w.heap.size, 0, Option.none⟩ = some (.slice (some ⟨b, off, Option.none⟩) ps.length c) := hxcN
        have hycD : wq.drew.cell? ⟨w.heap.size + 1, 0, Option.none⟩ = some (.string x.1) := hycN
        by_cases hlt : k < ps.length
        · obtain ⟨b1, o1, c1, a, t, xs, hv, _, hx, hcell1, _, _, _⟩ := HAq.out.at_ hlt
          cases hv
          have HX := Lib.hid hx
          have hcellD : wq.drew.cell? ⟨b, off + k * 2, Option.none⟩ = some (.string t) := hcell1
          clear hx
          cases hlx : ltT t x.1
          · have hl1 : Op.bytesLess t.toList x.1.toList = false := hlx
            have HPO : Hid (posA ps x.1 = k) := posA_is hk hlo.out (fun p hp => by rw [HX.out] at hp; cases hp; exact hlx)
            have HL1 := Lib.hid hlx
            clear hlx
            go_wp2_with fail
            go_region
            go_wp2_with fail
            go_meet
            exact ⟨k, rfl, hk, HPO, nd + 1, by show _ = _; rw [HWQ.out]; rfl⟩
          · have hl1 : Op.bytesLess t.toList x.1.toList = true := hlx
            have HL1 := Lib.hid hlx
            clear hlx
            go_wp2_with fail
            go_region
            go_wp2_with fail
            go_roundw
            case rel => exact ⟨k + 1, by omega, by go_num, fun j hj p hp => by
              rcases Nat.lt_or_ge j k with h1 | h1
              · exact hlo.out j h1 p hp
              · obtain rfl : j = k := by omega
                rw [HX.out] at hp; cases hp; exact HL1.out, nd + 1, by rw [HWQ.out]; rfl⟩
            case measure => (simp [intOf]; try omega)
        · obtain rfl : k = ps.length := by omega
          have HPO : Hid (posA ps x.1 = ps.length) := posA_is hk hlo.out (fun p hp => by rw [List.getElem?_eq_none (Nat.le_refl _)] at hp; cases hp)
          go_wp2_with fail
          go_region
          go_wp2_with fail
          go_meet
          exact ⟨ps.length, rfl, Nat.le_refl _, HPO, nd + 1, by show _ = _; rw [HWQ.out]; rfl⟩
    case rest =>
      clear hxc3 hyc3
      obtain ⟨k, rfl, hk, HPO, nd, HWQ⟩ := hcut
      rename World => wz
      have HXz : Hid (Blk wz w.heap.size 41 [.slice (some ⟨b, off, Option.none⟩) ps.length c]) := by show Blk _ _ _ _; rw [HWQ.out]; exact HX3.out
      have HYz : Hid (Blk wz (w.heap.size + 1) 45 [.string x.1, .slice A2 x.2.length c2]) := by show Blk _ _ _ _; rw [HWQ.out]; exact HY3.out
      have HRz : Hid (Blk wz (w.heap.size + 2) 41 [.slice Option.none 0 0]) := by show Blk _ _ _ _; rw [HWQ.out]; exact HR3.out
      have HAz : Hid (RdPS wz hi (.slice (some ⟨b, off, Option.none⟩) ps.length c) ps) := by show RdPS _ _ _ _; rw [HWQ.out]; exact HA3.out
      have HRXz : Hid (RdI wz hi (.slice A2 x.2.length c2) x.2) := by show RdI _ _ _ _; rw [HWQ.out]; exact HRX3.out
      have HBz : Hid (Below w.heap.size w wz) := by show Below _ _ _; rw [HWQ.out]; exact HB3.out.trans (bel_drewN _ _ _)
      have hszz : wz.heap.size = w3.heap.size := by rw [HWQ.out]; rfl
      have hszh : hi ≤ wz.heap.size := by omega
      have hsw : w.heap.size + 3 ≤ wz.heap.size := by omega
      clear hszz HWQ HX3 HY3 HR3 HA3 HRX3 HB3
      have hSr : ∀ w', Below wz.heap.size wz w' → SrcP w' wz.heap.size (.slice (if c = k then some ⟨b, off, Option.none⟩ else some ⟨b, off + k * 2, Option.none⟩) (ps.length - k) (c - k)) (ps.drop k) := fun w' hb => by
        have h := (HAz.out.drop (k := k) (by omega)).below hb hszh
        rw [show k = k from rfl] at h
        exact src_old h hszh hb.size
      have HSR := Lib.hid hSr
      clear hSr
      have hcut : RdPS wz.drew hi (.slice (some ⟨b, off, Option.none⟩) k (c)) (ps.take k) := (HAz.out.below ((Below.refl _ _).drew : Below wz.heap.size wz wz.drew) hszh).cut (by omega)
      have hln : (ps.take k).length ≤ 1048576 := by rw [List.length_take]; omega
      have hl0 : (ps.take k).length ≤ 40 := by rw [List.length_take]; omega
      have hl1 : (ps.take k ++ [(x.1, x.2)]).length + (ps.drop k).length ≤ 1048576 := by rw [List.length_append, List.length_take, List.length_drop]; simp; omega
      have hsl : ∀ p ∈ ps.take k, p.2.length ≤ 1048576 := fun p hp => book_len2 HBK.out p (List.mem_of_mem_take hp)
      have hLL : ps.take k ++ [(x.1, x.2)] ++ ps.drop k = addL ps x := by unfold addL; rw [HPO.out]; simp
      have HLL := Lib.hid hLL
      have hLn : (addL ps x).length ≤ 1048576 := by rw [addL_len]; omega
      have hsl2 : ∀ p ∈ addL ps x, p.2.length ≤ 1048576 := fun p hp => by
        rw [← HLL.out] at hp
        simp only [List.mem_append, List.mem_singleton] at hp
        rcases hp with (hp | hp) | hp
        · exact book_len2 HBK.out p (List.mem_of_mem_take hp)
        · subst hp; exact HXS.out
        · exact book_len2 HBK.out p (List.mem_of_mem_drop hp)
      have hxD : Blk wz.drew w.heap.size 41 [.slice (some ⟨b, off, Option.none⟩) ps.length (c)] := HXz.out
      have hyD : Blk wz.drew (w.heap.size + 1) 45 [.string x.1, .slice A2 x.2.length c2] := HYz.out
      have hrD : Blk wz.drew (w.heap.size + 2) 41 [.slice Option.none 0 0] := HRz.out
      have hxc := hxD.cell 0
      have hyc0 := hyD.cell 0
      have hyc1 := hyD.cell 1
      have hbD : Below wz.heap.size wz wz.drew := (Below.refl _ _).drew
      have HK := Lib.hid hsl
      have HK2 := Lib.hid hsl2
      have hic : k ≤ c := by omega
      have HCUT := Lib.hid hcut
      have hszd : hi ≤ wz.drew.heap.size := hszh
      have HXD := Lib.hid hxD
      have HYD := Lib.hid hyD
      have HRD := Lib.hid hrD
      have HBD := Lib.hid hbD
      have HXR := Lib.hid (RdI.below HRXz.out hbD hszh)
      have hbb : Below wz.heap.size wz.drew (wz.alloc (.cells #[.string x.1, .slice A2 x.2.length c2] 45)).drew := by
        have hb0 : Below wz.heap.size wz (wz.alloc (.cells #[.string x.1, .slice A2 x.2.length c2] 45)).drew := ((Below.refl _ _).alloc (Nat.le_refl _) _).drew
        exact ⟨hb0.os, hb0.tape, hb0.output, hb0.size, hb0.block⟩
      have HBB : Hid (Below wz.drew.heap.size wz.drew (wz.alloc (.cells #[.string x.1, .slice A2 x.2.length c2] 45)).drew) := hbb
      have hsbb : wz.drew.heap.size ≤ (wz.alloc (.cells #[.string x.1, .slice A2 x.2.length c2] 45)).drew.heap.size := HBB.out.size
      have hs3b : hi ≤ (wz.alloc (.cells #[.string x.1, .slice A2 x.2.length c2] 45)).drew.heap.size := Nat.le_trans hszh hsbb
      have HCUTB : Hid (RdPS (wz.alloc (.cells #[.string x.1, .slice A2 x.2.length c2] 45)).drew hi (.slice (some ⟨b, off, Option.none⟩) k (c)) (ps.take k)) := hcut.below hbb hszh
      have HEB : Hid (El wz wz.heap.size (.slice A2 x.2.length c2) x.2) := el_old (B := wz.heap.size) (HRXz.out.mono hszh) (Nat.le_refl _)
      have HBC : Hid (Below (wz.heap.size + 1) (wz.alloc (.cells #[.string x.1, .slice A2 x.2.length c2] 45)) (wz.alloc (.cells #[.string x.1, .slice A2 x.2.length c2] 45)).drew) := (Below.refl _ _).drew
      have hxA : (wz.alloc (.cells #[.string x.1, .slice A2 x.2.length c2] 45)).drew.cell? ⟨w.heap.size, 0, Option.none⟩ = some (.slice (some ⟨b, off, Option.none⟩) ps.length (c)) := (hxD.below hbb (by omega)).cell 0
      have hsbc : wz.heap.size + 1 ≤ (wz.alloc (.cells #[.string x.1, .slice A2 x.2.length c2] 45)).drew.heap.size := by simp
      clear hbb
      clear hsl hsl2 hcut hxD hrD hyD hbD hLL
      go_wp2_with fail
      go_region_law (first
        | ((refine step_GrowP (by rfl) (.tmp 33) (.tmp 35) (by rfl) HG4.out HS1.out (by rw [List.length_singleton]; omega) (by rfl) (by rfl) ?_; intro v5 w5 hG5 hs5; have hz3 : wz.drew.heap.size = wz.heap.size := rfl; have hx5 := (HXD.out.below hG5.2.2.1 (by omega)).cell 0; have HS5 := Lib.hid (HSR.out w5 (HBD.out.trans hG5.2.2.1))))
        | ((refine step_GrowP (by rfl) (.tmp 36) (.tmp 40) (by rfl) hG5 HS5.out (by omega) (by rfl) (by rfl) ?_; intro v7 w7 hG7 hs7; rw [HLL.out] at hG7))
        | ((go_simp; go_at_call 80; (with_reducible refine (bkOwn_any (ps.take k) _ hi _ HCUT.out hszd hln HK.out).mono ?_); rintro e w4 ⟨u4, rfl, hu4, hb4⟩; have hz3 : wz.drew.heap.size = wz.heap.size := rfl; have hx4c := (HXD.out.below hb4 (by omega)).cell 0; have hx4a := ((HXD.out.below hb4 (by omega)).alloc (.cells #[.string x.1, .slice A2 x.2.length c2] 45)).cell 0; have hy4c := (HYD.out.below hb4 (by omega)).cell 0; have hy4d := (HYD.out.below hb4 (by omega)).cell 1; have HEL := Lib.hid (el_old (B := wz.drew.heap.size) ((RdI.below HXR.out hb4 hszd).mono hszd) hb4.size); have HG4 := Lib.hid ((growP_own hu4 (Nat.le_refl _) hb4 hb4.size).alloc (.cells #[.string x.1, .slice A2 x.2.length c2] 45)); have HS1 := Lib.hid (src_one (t := x.1) HEL.out hb4.size rfl hts)))
        | ((go_simp; go_at_call 80; (with_reducible refine (bkOwn_any (ps.take k) _ hi _ HCUTB.out hs3b hln HK.out).mono ?_); rintro e w4 ⟨u4, rfl, hu4, hb4⟩; have hz3 : wz.drew.heap.size = wz.heap.size := rfl; have hb4b := HBB.out.trans (hb4.mono hsbb); have hx4c := (HXD.out.below hb4b (by omega)).cell 0; have hx4a := hx4c; have HG4 := Lib.hid (growP_own hu4 hsbb hb4b hb4b.size); have HS1 := Lib.hid (src_oneB (t := x.1) HEB.out (Nat.le_refl _) rfl hts (HBC.out.trans (hb4.mono hsbc)))))
        | ((go_simp; go_at_call 79; (with_reducible refine (bkIf_any (addL ps x) v7 w7.heap.size w7 hG7.rd (Nat.le_refl _) hLn HK2.out).mono ?_); rintro e w6 ⟨u6, rfl, hu6, hb6⟩; obtain ⟨A6, c6, hv6, _, _⟩ := hu6.rd.form; subst hv6; have hz3 : wz.drew.heap.size = wz.heap.size := rfl; have hr6 := ((HRD.out.below hG7.2.2.1 (by omega)).below hb6 (by have := hG7.2.2.2; omega)); have hr6c := hr6.cell 0; have hr6f := hr6.frozen 0)))
      all_goals
        generalize (if c = k then some (⟨b, off, Option.none⟩ : Addr) else some ⟨b, off + k * 2, Option.none⟩) = SA
        have HU6 := Lib.hid hu6
        have HB6 := Lib.hid hb6
        have HR6 := Lib.hid hr6
        have hs6 := hb6.size
        have c10 := (hr6.set_ 0 (.slice A6 ((ifO (addL ps x)).getD []).length c6)).cell 0
        have hs45 := hG7.2.2.2
        have hzD : wz.drew.heap.size = wz.heap.size := rfl
        have HG7 := Lib.hid hG7.2.2.1
        clear hu6 hb6 hr6 hG7
        go_wp2_with fail
        refine bodyPost_ret (v := .tuple #[.agg #[.slice A6 ((ifO (addL ps x)).getD []).length c6], .bool (bookB (addL ps x))]) (by simp [results, Tryz.results26, go_sem, c10]) rfl ?_
        have hk : Keep (w.heap.size + 2) (w.heap.size + 2 + 1) w6 (w6.setCell ⟨w.heap.size + 2, 0, Option.none⟩ (.slice A6 ((ifO (addL ps x)).getD []).length c6)) := (Keep.refl _ _ _).setCell (p := ⟨w.heap.size + 2, 0, Option.none⟩) (Nat.le_refl _) (by show w.heap.size + 2 < _; omega) _
        refine ⟨_, by rw [(add_is HBK.out).2], ?_, ((HBz.out.trans ((show Below wz.heap.size wz w7 from HBD.out.trans HG7.out).mono (by omega))).trans (HB6.out.mono (by omega))).trans (hk.bel.mono (by omega))⟩
        rw [(add_is HBK.out).1]
        exact (HU6.out.keep hk (.inr (by omega))).mono (show w.heap.size ≤ w7.heap.size by omega) (show w6.heap.size ≤ (w6.setCell ⟨w.heap.size + 2, 0, Option.none⟩ (.slice A6 ((ifO (addL ps x)).getD []).length c6)).heap.size by rw [hk.size]; omega)
end Go.Proofs.YtjnkdjokbamibaaGreatDoor
