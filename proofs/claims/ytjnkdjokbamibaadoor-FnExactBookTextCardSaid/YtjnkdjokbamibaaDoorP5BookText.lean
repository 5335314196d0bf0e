/- Texts of one claim, joined: Y4. -/
import Derived.Deep.RegionLaw
import Derived.Test.YtjnkdjokbamibaaDoorP4BookText
/- Contracts: the texts of books; of the reference and of the program. -/
namespace Go.Proofs.YtjnkdjokbamibaaDoor
open Go.RowKit
theorem bookT_snoc {ps : List Phr} {k : Nat} {p : Phr} (h : ps[k]? = some p) : bookT (ps.take (k + 1)) = bookT (ps.take k) ++ (p.1.data.toList ++ 32 :: numsT 45 p.2 ++ [10]) := by
  unfold bookT
  rw [take_snocN h, List.map_append, List.flatten_append]
  simp [lineT]
theorem bldAt_below {B b : Nat} {p : Value} {l : List Value} {w w' : World} (h : Lib.BuilderAt 81 5 B b p l w) (hb : Below w.heap.size w w') : Lib.BuilderAt 81 5 B b p l w' := by
  obtain ⟨h1, v, h2, h3, h4⟩ := h
  exact ⟨h1, v, (hb.block b (Array.getElem?_eq_some_iff.1 h2).1).trans h2, owns_below h3 (fun k hk => (h3.lt k hk).2) hb (Nat.le_refl _), h4⟩
theorem Bld.below {B b : Nat} {l : List UInt8} {w w' : World} (h : Bld B b l w) (hb : Below w.heap.size w w') : Bld B b l w' := by
  rcases h with h | h
  · exact .inl (bldAt_below h hb)
  · exact .inr (bldAt_below h hb)
theorem bookT_le : ∀ {q : List Phr}, (∀ p ∈ q, phrOk p = true) → (bookT q).length ≤ 23 * q.length := by
  intro q
  induction q with
  | nil => intro _; simp [bookT]
  | cons p r ih =>
    intro hq
    have h1 := phr_text (hq p (by simp))
    have h2 := phr_sigs (hq p (by simp))
    have h3 := numsT_len (c := 45) (phr_63 (hq p (by simp)))
    have ih := ih (fun x hx => hq x (by simp [hx]))
    unfold bookT at ih ⊢
    rw [List.map_cons, List.flatten_cons, List.length_append]
    unfold lineT at ih ⊢
    simp only [List.length_append, List.length_cons, List.length_nil] at ih ⊢
    omega
theorem take_sub {ps : List Phr} (h : bookB ps = true) (k : Nat) : (bookT (ps.take k)).length ≤ 1000 := by
  have h1 := bookB_len h
  have h2 : ∀ p ∈ ps.take k, phrOk p = true := fun p hp => bookB_phr h (List.mem_of_mem_take hp)
  have h3 := bookT_le h2
  rw [List.length_take] at h3
  omega
set_option maxRecDepth 100000 in
set_option maxHeartbeats 4000000 in
theorem bookText_any (ps : List Phr) (v : Value) (hi : Nat) (w : World) (h : RdB w hi v ps) (hh : hi ≤ w.heap.size) (hbk : bookB ps = true) :
    Calls Tryd.prog 41 #[v] w fun e w' => e = .returned (.string ⟨(bookT ps).toArray⟩) ∧ Below w.heap.size w w' := by
  obtain ⟨a, rfl, ha⟩ := h
  obtain ⟨A, c, rfl, hc, hm⟩ := ha.form
  have hba : Below w.heap.size w (w.alloc (.cells #[.slice A ps.length c] 24)) := (Below.refl _ _).alloc (Nat.le_refl _) _
  have HB := Lib.hid hba
  have HA := Lib.hid (ha.below hba hh)
  have hsz1 : hi ≤ (w.alloc (.cells #[.slice A ps.length c] 24)).heap.size := by simp; omega
  clear ha hba
  have HBK := Lib.hid hbk
  clear hbk
  have hfr : Bld (w.heap.size + 1) (w.heap.size + 1) [] ((w.alloc (.cells #[.slice A ps.length c] 24)).alloc (.cells #[.pointer Option.none, .slice Option.none 0 0] 81)) := by
    have := Lib.fresh_isBuilder 81 5 (w.alloc (.cells #[.slice A ps.length c] 24))
    simp only [World.size_alloc] at this
    exact this
  have HFR := Lib.hid hfr
  clear hfr
  have HB1 : Hid (Below (w.heap.size + 1) (w.alloc (.cells #[.slice A ps.length c] 24)) ((w.alloc (.cells #[.slice A ps.length c] 24)).alloc (.cells #[.pointer Option.none, .slice Option.none 0 0] 81))) := (Below.refl _ _).alloc (by simp) _
  go_enter Tryd.func41, Tryd.ntmps41
  go_wp2_with fail
  go_loopw [9] (fun i wr => ∃ k : Nat, k ≤ ps.length ∧ i = .int .i64 (k : Int) ∧ Hid (Bld (w.heap.size + 1) (w.heap.size + 1) (bookT (ps.take k)) wr) ∧ Hid (Below (w.heap.size + 1) (w.alloc (.cells #[.slice A ps.length c] 24)) wr) ∧ w.heap.size + 1 ≤ wr.heap.size) (fun i _ => ps.length - (intOf i).toNat)
  case atStart => exact ⟨0, Nat.zero_le _, rfl, HFR.out, HB1.out, by simp⟩
  case round =>
    obtain ⟨k, hk, rfl, hbld, hbr, hs⟩ := hrel
    clear HFR HB1
    by_cases hlt : k < ps.length
    · obtain ⟨b2, o2, c2, a2, t, xs, hv, hb2, hx, hcell2, hcell3, hra, hta⟩ := (HA.out.below hbr.out (by omega)).at_ hlt
      cases hv
      obtain ⟨A2, cc2, rfl, hcc2, hmm2⟩ := Rd.form hra
      have hok := bookB_phr HBK.out (List.mem_of_getElem? hx)
      have htl : t.size ≤ 12 := (phr_text hok).2.1
      have hxl : xs.length ≤ 3 := (phr_sigs hok).2.1
      have h63 : ∀ n ∈ xs, 0 ≤ n ∧ n ≤ 63 := phr_63 hok
      have H63 := Lib.hid h63
      have hnl : (numsT 45 xs).length ≤ 3 * xs.length := numsT_len (c := 45) h63
      have hnl2 : (numsT 45 xs).length ≤ 9 := by omega
      have hbl := take_sub HBK.out k
      have HX := Lib.hid hx
      have HRA := Lib.hid hra
      have hbx : Below wr.heap.size wr (wr.alloc (.cells #[.string t, .slice A2 xs.length cc2] 49)) := (Below.refl _ _).alloc (Nat.le_refl _) _
      have q0 : (wr.alloc (.cells #[.string t, .slice A2 xs.length cc2] 49)).cell? ⟨wr.heap.size, 0, Option.none⟩ = some (.string t) := (Blk.new wr 49 #[.string t, .slice A2 xs.length cc2]).cell 0
      have q1 : (wr.alloc (.cells #[.string t, .slice A2 xs.length cc2] 49)).cell? ⟨wr.heap.size, 1, Option.none⟩ = some (.slice A2 xs.length cc2) := (Blk.new wr 49 #[.string t, .slice A2 xs.length cc2]).cell 1
      have hzx : (wr.alloc (.cells #[.string t, .slice A2 xs.length cc2] 49)).heap.size = wr.heap.size + 1 := by simp
      clear hx hra hok hnl h63
      go_wp2_with fail
      generalize wr.alloc (.cells #[.string t, .slice A2 xs.length cc2] 49) = wx at hbx q0 q1 hzx ⊢
      have hbd : Below wr.heap.size wr wx.drew := hbx.drew
      have HBD := Lib.hid hbd
      have HRX := Lib.hid (RdI.below HRA.out hbd (by omega))
      have HBL := Lib.hid (hbld.out.below hbd)
      have hzd : wx.drew.heap.size = wr.heap.size + 1 := hzx
      have HZD := Lib.hid hzd
      have hle : hi ≤ wx.drew.heap.size := by omega
      have hs1 : ¬ (9223372036854775807 < t.size + 1) := by omega
      have hs2 : ¬ (9223372036854775807 < t.size + 1 + (numsT 45 xs).length) := by omega
      have hs3 : ¬ (9223372036854775807 < t.size + 1 + (numsT 45 xs).length + 1) := by omega
      have hsz : (t ++ { data := #[32] } ++ { data := (numsT 45 xs).toArray } ++ { data := #[10] } : ByteArray).size ≤ 30 := by
        simp only [ByteArray.size_append]
        have e1 : (⟨#[32]⟩ : ByteArray).size = 1 := rfl
        have e2 : (⟨#[10]⟩ : ByteArray).size = 1 := rfl
        have e3 : (⟨(numsT 45 xs).toArray⟩ : ByteArray).size = (numsT 45 xs).length := by simp [ByteArray.size]
        rw [e1, e2, e3]; omega
      have HSZ := Lib.hid hsz
      have hw1 : w.heap.size + 1 ≤ wx.drew.heap.size := by omega
      clear hbx hbd hzx hzd hsz
      go_region_law (first
        | ((go_simp; go_at_call 38; (with_reducible refine (joinNumbers_any xs 45 _ hi _ HRX.out hle (by omega) H63.out).mono ?_); rintro e w2 ⟨rfl, hb2⟩; have HBL2 := Lib.hid ((HBL.out.below hb2)); have r0 := (hb2.cell (p := ⟨wr.heap.size, 0, Option.none⟩) (by have := HZD.out; show wr.heap.size < _; omega)).trans q0; have hs2w := hb2.size; have HB2 := Lib.hid (HBD.out.trans (hb2.mono (by have := HZD.out; omega))); clear hb2))
        | ((go_simp; go_at_call 63; (refine (writeString_any (w.heap.size + 1) (w.heap.size + 1) (bookT (ps.take k)) _ _ HBL2.out (by have := HSZ.out; omega) (by omega)).mono ?_); rintro e w3 ⟨rfl, hb3, hbe3⟩)))
      all_goals
        have HB3 := Lib.hid hb3
        have HBE := Lib.hid ((hbr.out.trans (HB2.out.mono (by omega))).trans hbe3)
        have hsz3 := hbe3.size
        clear hb3 hbe3
        go_wp2_with fail
        go_roundw
        case rel => exact ⟨k + 1, by omega, by go_num, by show Bld _ _ _ _; rw [bookT_snoc HX.out]; have h := HB3.out; simpa using h, HBE.out, by omega⟩
        case measure => (simp [intOf]; try omega)
    · obtain rfl : k = ps.length := by omega
      go_wp2_with fail
      refine (Tryd.Builder_String_any (w.heap.size + 1) (w.heap.size + 1) (bookT (ps.take ps.length)) _ hbld.out (by omega)).mono ?_
      rintro e w2 ⟨rfl, hb2⟩
      have HB2 := Lib.hid hb2
      clear hb2
      go_wp2_with fail
      go_ret
      exact ⟨ret_val (by first | rfl | (rw [List.take_of_length_le (Nat.le_refl _)]; rfl)), HB.out.trans ((hbr.out.mono (by omega)).trans (HB2.out.mono (by omega)))⟩
set_option maxRecDepth 100000 in
set_option maxHeartbeats 4000000 in
theorem bkText_any (ps : List Phr) (v : Value) (hi : Nat) (w : World) (h : RdB w hi v ps) (hh : hi ≤ w.heap.size) (hbk : bookB ps = true) :
    Calls Tryd.prog 27 #[v] w fun e w' => e = .returned (.string ⟨(bookT ps).toArray⟩) ∧ Below w.heap.size w w' := by
  obtain ⟨a, rfl, ha⟩ := h
  obtain ⟨A, c, rfl, hc, hm⟩ := ha.form
  have hba : Below w.heap.size w (w.alloc (.cells #[.slice A ps.length c] 24)) := (Below.refl _ _).alloc (Nat.le_refl _) _
  have HB := Lib.hid hba
  have HA := Lib.hid (ha.below hba hh)
  have hsz1 : hi ≤ (w.alloc (.cells #[.slice A ps.length c] 24)).heap.size := by simp; omega
  clear ha hba
  have HBK := Lib.hid hbk
  clear hbk
  go_enter Tryd.func27, Tryd.ntmps27
  go_wp2_with fail
  go_loopw [3, 11] (fun s i wr => ∃ k : Nat, k ≤ ps.length ∧ i = .int .i64 (k : Int) ∧ s = .string ⟨(bookT (ps.take k)).toArray⟩ ∧ Hid (Below (w.heap.size + 1) (w.alloc (.cells #[.slice A ps.length c] 24)) wr) ∧ w.heap.size + 1 ≤ wr.heap.size) (fun _ i _ => ps.length - (intOf i).toNat)
  case atStart => exact ⟨0, Nat.zero_le _, rfl, rfl, Below.refl _ _, by simp⟩
  case round =>
    obtain ⟨k, hk, rfl, rfl, hbr, hs⟩ := hrel
    by_cases hlt : k < ps.length
    · obtain ⟨b2, o2, c2, a2, t, xs, hv, hb2, hx, hcell2, hcell3, hra, hta⟩ := (HA.out.below hbr.out (by omega)).at_ hlt
      cases hv
      obtain ⟨A2, cc2, rfl, hcc2, hmm2⟩ := Rd.form hra
      have hok := bookB_phr HBK.out (List.mem_of_getElem? hx)
      have htl : t.size ≤ 12 := (phr_text hok).2.1
      have hxl : xs.length ≤ 3 := (phr_sigs hok).2.1
      have h63 : ∀ n ∈ xs, 0 ≤ n ∧ n ≤ 63 := phr_63 hok
      have H63 := Lib.hid h63
      have hbl := take_sub HBK.out k
      have HX := Lib.hid hx
      have HRA := Lib.hid hra
      have hbx : Below wr.heap.size wr (wr.alloc (.cells #[.string t, .slice A2 xs.length cc2] 49)) := (Below.refl _ _).alloc (Nat.le_refl _) _
      have q0 : (wr.alloc (.cells #[.string t, .slice A2 xs.length cc2] 49)).cell? ⟨wr.heap.size, 0, Option.none⟩ = some (.string t) := (Blk.new wr 49 #[.string t, .slice A2 xs.length cc2]).cell 0
      have q1 : (wr.alloc (.cells #[.string t, .slice A2 xs.length cc2] 49)).cell? ⟨wr.heap.size, 1, Option.none⟩ = some (.slice A2 xs.length cc2) := (Blk.new wr 49 #[.string t, .slice A2 xs.length cc2]).cell 1
      obtain ⟨wx, hwx⟩ : ∃ wx, wx = wr.alloc (.cells #[.string t, .slice A2 xs.length cc2] 49) := ⟨_, rfl⟩
      rw [← hwx] at hbx q0 q1
      have HWX := Lib.hid hwx
      obtain ⟨PRE, hPRE⟩ : ∃ PRE, PRE = bookT (ps.take k) ++ (t.data.toList ++ [32]) := ⟨_, rfl⟩
      have hpl : PRE.length ≤ 1100 := by rw [hPRE, List.length_append, List.length_append]; have : t.data.toList.length = t.size := by rw [Array.length_toList]; rfl
                                         rw [this]; simp; omega
      have HPRE := Lib.hid hPRE
      have HSTR : Hid ((⟨(bookT (ps.take k)).toArray⟩ : ByteArray) ++ (t ++ ⟨#[32]⟩) = ⟨PRE.toArray⟩) := by
        show _ = _
        rw [hPRE]; simp [ByteArray.ext_iff]
      have HXS := Lib.hid (RdI.below HRA.out hbx (by omega))
      have HBX := Lib.hid (hbr.out.trans (hbx.mono hs))
      have hsx := hbx.size
      clear hx hra hok h63 hwx hPRE hbx
      go_wp2_with fail
      rw [← HWX.out, HSTR.out]
      clear HWX q0 q1
      go_loopw [3, 23] (fun s i wq => ∃ j : Nat, j ≤ xs.length ∧ i = .int .i64 (j : Int) ∧ s = .string ⟨(PRE ++ numsT 45 (xs.take j)).toArray⟩ ∧ Hid (Below wx.heap.size wx wq)) (fun _ i _ => xs.length - (intOf i).toNat)
      case atStart => exact ⟨0, Nat.zero_le _, rfl, by rw [List.take_zero, show numsT 45 [] = [] from rfl, List.append_nil], Below.refl _ _⟩
      case round =>
        obtain ⟨j, hj, rfl, rfl, hbr2⟩ := hrel
        by_cases hltj : j < xs.length
        · obtain ⟨b1, o1, c1, y, hv, _, hy, hcell1⟩ := Rd.at_ (RdI.below HXS.out hbr2.out (by omega)) hltj
          cases hv
          have hyb := H63.out y (List.mem_of_getElem? hy)
          obtain ⟨m, rfl⟩ : ∃ m : Nat, y = (m : Int) := ⟨y.toNat, by omega⟩
          have HY := Lib.hid hy
          have hnl := numsT_len (c := 45) (l := xs.take j) (fun n hn => H63.out n (List.mem_of_mem_take hn))
          rw [List.length_take] at hnl
          have hil := itoa_len hyb.1 hyb.2
          rw [Lib.itoa_nonneg] at hil
          have CN := Lib.hid (l1Num_any m (by omega) wr)
          obtain ⟨T, hT⟩ : ∃ T, T = PRE ++ numsT 45 (xs.take j) := ⟨_, rfl⟩
          obtain ⟨D, hD⟩ : ∃ D, D = Lib.decDigits m := ⟨_, rfl⟩
          have hT1 : T.length ≤ 3000 := by rw [hT, List.length_append]; omega
          rw [← hT]
          rw [← hD] at CN hil
          have HT := Lib.hid hT
          have HD := Lib.hid hD
          have hD1 : D.length ≤ 2 := hil.2
          clear hy hT hD hnl hil
          rcases Nat.eq_zero_or_pos j with h0 | h0
          · have hg : decide (0 < j) = false := decide_eq_false (by omega)
            have H0 := Lib.hid h0
            clear h0
            go_wp2_with fail
            refine CN.out.mono ?_
            rintro e w2 ⟨rfl, hb2⟩
            have HB := Lib.hid (hbr2.out.trans (hb2.mono hbr2.out.size))
            clear hb2
            go_wp2_with fail
            go_roundw
            case rel =>
              refine ⟨j + 1, by omega, by go_num, ?_, HB.out⟩
              have e1 : xs.take j = [] := by rw [H0.out]; rfl
              rw [take_snocI HY.out, numsT_snoc, if_pos e1, Lib.itoa_nonneg, ← HD.out, HT.out, e1, show numsT 45 [] = [] from rfl, List.append_nil]
              simp [ByteArray.ext_iff]
            case measure => (simp [intOf]; try omega)
          · have hg : decide (0 < j) = true := decide_eq_true (by omega)
            go_wp2_with fail
            refine CN.out.mono ?_
            rintro e w2 ⟨rfl, hb2⟩
            have HB := Lib.hid (hbr2.out.trans (hb2.mono hbr2.out.size))
            clear hb2
            go_wp2_with fail
            go_roundw
            case rel =>
              refine ⟨j + 1, by omega, by go_num, ?_, HB.out⟩
              have e1 : xs.take j ≠ [] := by intro e; have := congrArg List.length e; rw [List.length_take, List.length_nil] at this; omega
              rw [take_snocI HY.out, numsT_snoc, if_neg e1, Lib.itoa_nonneg, ← HD.out, HT.out]
              simp [ByteArray.ext_iff]
            case measure => (simp [intOf]; try omega)
        · obtain rfl : j = xs.length := by omega
          have hfn := numsT_len (c := 45) (l := xs.take xs.length) (fun n hn => H63.out n (List.mem_of_mem_take hn))
          rw [List.length_take] at hfn
          obtain ⟨T, hT⟩ : ∃ T, T = PRE ++ numsT 45 (xs.take xs.length) := ⟨_, rfl⟩
          have hT1 : T.length ≤ 3000 := by rw [hT, List.length_append]; omega
          rw [← hT]
          have HT := Lib.hid hT
          have HBF := Lib.hid (HBX.out.trans (hbr2.out.mono (by omega)))
          have hsf := hbr2.out.size
          clear hT hfn
          go_wp2_with fail
          go_roundw
          case rel =>
            refine ⟨k + 1, by omega, by go_num, ?_, HBF.out, by omega⟩
            rw [bookT_snoc HX.out, HT.out, HPRE.out, List.take_of_length_le (Nat.le_refl _)]
            simp [ByteArray.ext_iff]
          case measure => (simp [intOf]; try omega)
    · obtain rfl : k = ps.length := by omega
      have HBR := Lib.hid (HB.out.trans (hbr.out.mono (by omega)))
      go_wp2_with fail
      go_ret
      exact ⟨ret_val (by first | rfl | (rw [List.take_of_length_le (Nat.le_refl _)]; rfl)), HBR.out⟩
/-- The text of a book, if it is one. -/
def bookV (ps : List Phr) : Value := if bookB ps then .tuple #[.string ⟨(bookT ps).toArray⟩, .bool true] else .tuple #[.string ⟨#[]⟩, .bool false]
theorem bookV_form (ps : List Phr) : ∃ p q, bookV ps = .tuple #[.string p, .bool q] := by unfold bookV; split <;> exact ⟨_, _, rfl⟩
theorem bookV_yes {ps : List Phr} (h : bookB ps = true) : bookV ps = .tuple #[.string ⟨(bookT ps).toArray⟩, .bool true] := by unfold bookV; rw [if_pos h]
theorem bookV_no {ps : List Phr} (h : bookB ps = false) : bookV ps = .tuple #[.string ⟨#[]⟩, .bool false] := by unfold bookV; rw [h]; rfl
set_option maxRecDepth 100000 in
set_option maxHeartbeats 1000000 in
theorem BookText_any (ps : List Phr) (v : Value) (hi : Nat) (w : World) (h : RdB w hi v ps) (hh : hi ≤ w.heap.size) : Calls Tryd.prog 19 #[v] w fun e w' => e = .returned (bookV ps) ∧ Below w.heap.size w w' := by
  obtain ⟨a, rfl, ha⟩ := h
  obtain ⟨A, c, rfl, hc, hm⟩ := ha.form
  obtain ⟨wa, hwa⟩ : ∃ wa, wa = w.alloc (.cells #[.slice A ps.length c] 24) := ⟨_, rfl⟩
  have hba : Below w.heap.size w wa := by rw [hwa]; exact (Below.refl _ _).alloc (Nat.le_refl _) _
  have hX : Blk wa w.heap.size 24 [.slice A ps.length c] := by rw [hwa]; exact Blk.new w _ _
  have hz : wa.heap.size = w.heap.size + 1 := by rw [hwa]; simp
  have HG : Hid (RdB wa hi (.agg #[.slice A ps.length c]) ps) := ⟨_, rfl, ha.below hba hh⟩
  have HBA := Lib.hid hba
  have HX := Lib.hid hX
  have HWA := Lib.hid hwa
  have hle : hi ≤ wa.heap.size := by omega
  clear ha hba hwa hX hz
  have cB := IsBook_any ps (.agg #[.slice A ps.length c]) hi wa HG.out hle
  cases hbk : bookB ps
  · rw [hbk] at cB
    have CB := Lib.hid cB
    have HV := Lib.hid (bookV_no hbk)
    clear cB hbk
    go_enter Tryd.func19, Tryd.ntmps19
    go_wp2_with fail
    rw [← HWA.out]
    refine CB.out.mono ?_
    rintro e w1 ⟨rfl, hb1⟩
    have HB := Lib.hid (HBA.out.trans (hb1.mono HBA.out.size))
    clear hb1
    go_wp2_with fail
    go_ret2
    exact ⟨ret_val HV.out.symm, HB.out⟩
  · rw [hbk] at cB
    have CB := Lib.hid cB
    have HV := Lib.hid (bookV_yes hbk)
    have HBK := Lib.hid hbk
    clear cB hbk
    go_enter Tryd.func19, Tryd.ntmps19
    go_wp2_with fail
    rw [← HWA.out]
    refine CB.out.mono ?_
    rintro e w1 ⟨rfl, hb1⟩
    have hs1 := hb1.size
    have hxc := (HX.out.below hb1 HX.out.lt).cell 0
    have HB := Lib.hid (HBA.out.trans (hb1.mono HBA.out.size))
    have CT := Lib.hid (bookText_any ps (.agg #[.slice A ps.length c]) hi w1 (HG.out.below hb1 hle) (by omega) HBK.out)
    clear hb1
    go_wp2_with fail
    refine CT.out.mono ?_
    rintro e w2 ⟨rfl, hb2⟩
    have HB2 := Lib.hid (HB.out.trans (hb2.mono HB.out.size))
    clear hb2
    go_wp2_with fail
    go_ret2
    exact ⟨ret_val HV.out.symm, HB2.out⟩
set_option maxRecDepth 100000 in
set_option maxHeartbeats 1000000 in
theorem sBookText_any (ps : List Phr) (v : Value) (hi : Nat) (w : World) (h : RdB w hi v ps) (hh : hi ≤ w.heap.size) : Calls Tryd.prog 17 #[v] w fun e w' => e = .returned (bookV ps) ∧ Below w.heap.size w w' := by
  obtain ⟨a, rfl, ha⟩ := h
  obtain ⟨A, c, rfl, hc, hm⟩ := ha.form
  obtain ⟨wa, hwa⟩ : ∃ wa, wa = w.alloc (.cells #[.slice A ps.length c] 24) := ⟨_, rfl⟩
  have hba : Below w.heap.size w wa := by rw [hwa]; exact (Below.refl _ _).alloc (Nat.le_refl _) _
  have hX : Blk wa w.heap.size 24 [.slice A ps.length c] := by rw [hwa]; exact Blk.new w _ _
  have hz : wa.heap.size = w.heap.size + 1 := by rw [hwa]; simp
  have HG : Hid (RdB wa hi (.agg #[.slice A ps.length c]) ps) := ⟨_, rfl, ha.below hba hh⟩
  have HBA := Lib.hid hba
  have HX := Lib.hid hX
  have HWA := Lib.hid hwa
  have hle : hi ≤ wa.heap.size := by omega
  clear ha hba hwa hX hz
  have cB := bkGood_any ps (.agg #[.slice A ps.length c]) hi wa HG.out hle
  cases hbk : bookB ps
  · rw [hbk] at cB
    have CB := Lib.hid cB
    have HV := Lib.hid (bookV_no hbk)
    clear cB hbk
    go_enter Tryd.func17, Tryd.ntmps17
    go_wp2_with fail
    rw [← HWA.out]
    refine CB.out.mono ?_
    rintro e w1 ⟨rfl, hb1⟩
    have HB := Lib.hid (HBA.out.trans (hb1.mono HBA.out.size))
    clear hb1
    go_wp2_with fail
    go_ret2
    exact ⟨ret_val HV.out.symm, HB.out⟩
  · rw [hbk] at cB
    have CB := Lib.hid cB
    have HV := Lib.hid (bookV_yes hbk)
    have HBK := Lib.hid hbk
    clear cB hbk
    go_enter Tryd.func17, Tryd.ntmps17
    go_wp2_with fail
    rw [← HWA.out]
    refine CB.out.mono ?_
    rintro e w1 ⟨rfl, hb1⟩
    have hs1 := hb1.size
    have hxc := (HX.out.below hb1 HX.out.lt).cell 0
    have HB := Lib.hid (HBA.out.trans (hb1.mono HBA.out.size))
    have CT := Lib.hid (bkText_any ps (.agg #[.slice A ps.length c]) hi w1 (HG.out.below hb1 hle) (by omega) HBK.out)
    clear hb1
    go_wp2_with fail
    refine CT.out.mono ?_
    rintro e w2 ⟨rfl, hb2⟩
    have HB2 := Lib.hid (HB.out.trans (hb2.mono HB.out.size))
    clear hb2
    go_wp2_with fail
    go_ret2
    exact ⟨ret_val HV.out.symm, HB2.out⟩
end Go.Proofs.YtjnkdjokbamibaaDoor
