/- Texts of one claim, joined: D7, W2D, C1, K. -/
import Derived.Laws.OwnMore
import Derived.Laws.IdiomStrings
import Derived.Deep.Onto
import Derived.Deep.RegionLaw
import Derived.Deep.QuietTactic
import Derived.BigQuiet
import Derived.Test.YtjnkdjokbamibaaDoorP3ParseBook
/- Marks on books: each text and each signal of a book that the call has copied is overwritten. -/
namespace Go.Proofs.YtjnkdjokbamibaaDoor
open Go.RowKit
/-- The digits of a number that is not 0. -/
def decT (n : Nat) : List UInt8 := if _h : n = 0 then [] else decT (n / 10) ++ [UInt8.ofNat (48 + n % 10)]
termination_by n
decreasing_by omega
theorem decT_zero : decT 0 = [] := by rw [decT]; rfl
theorem decT_pos {n : Nat} (h : 0 < n) : decT n = decT (n / 10) ++ [UInt8.ofNat (48 + n % 10)] := by rw [decT]; rw [dif_neg (by omega)]
def markT (k : Nat) : ByteArray := ⟨(109 :: decT k).toArray⟩
theorem conv_one (z : Int) (h0 : 0 ≤ z) (h1 : z < 256) (wr : World) :
    (convert 79 9 (.slice (some ⟨wr.heap.size, 0, Option.none⟩) 1 1)).run Tryd.prog (wr.alloc (.cells #[.int .u8 z] 5)) = .ok (.string ⟨#[UInt8.ofNat z.toNat]⟩) (wr.alloc (.cells #[.int .u8 z] 5)) := by
  have hl : [UInt8.ofNat z.toNat].length = 1 := rfl
  have := run_convert_bytes_back (P := Tryd.prog) (wr.alloc (.cells #[.int .u8 z] 5)) 79 9 5 ⟨wr.heap.size, 0, Option.none⟩ 1 [UInt8.ofNat z.toNat] Tryd.underlying79 Tryd.underlying5 Tryd.underlying9 (fun j hj => by
    obtain rfl : j = 0 := by simp at hj; omega
    rw [one_cell wr (.int .u8 z) 5 0 _ rfl]
    simp
    omega)
  exact this
theorem dec_step {k j : Nat} {l : List UInt8} (hj : 0 < j) (hd : decT k = decT j ++ l) : decT k = decT (j / 10) ++ (UInt8.ofNat (48 + j % 10) :: l) := by
  rw [hd, decT_pos hj]; simp
theorem dec_bd {j n : Nat} (hn : n < 24) (h : j < 2 ^ (24 - n)) : j / 10 < 2 ^ (24 - (n + 1)) := by
  rw [show 24 - n = (24 - (n + 1)) + 1 by omega, Nat.pow_succ] at h
  omega
set_option maxRecDepth 100000 in
set_option maxHeartbeats 400000 in
theorem markText_any (k : Nat) (h1 : 1 ≤ k) (h2 : k < 16777216) (w : World) : Calls Tryd.prog 56 #[.int .i64 (k : Int)] w fun e w' => e = .returned (.string (markT k)) ∧ Below w.heap.size w w' := by
  go_enter Tryd.func56, Tryd.ntmps56
  go_wp2
  go_loopw [0, 3] (fun m out wr => ∃ (j : Nat) (l : List UInt8), m = .int .i64 (j : Int) ∧ out = .string ⟨l.toArray⟩ ∧ Hid (decT k = decT j ++ l) ∧ Hid (j < 2 ^ (24 - l.length)) ∧ l.length ≤ 24 ∧ j ≤ k ∧ Below w.heap.size w wr) (fun m _ _ => (intOf m).toNat)
  case atStart => exact ⟨k, [], rfl, rfl, by show decT k = _; simp, by show k < _; simpa using h2, by simp, Nat.le_refl _, Below.refl _ _⟩
  case round =>
    obtain ⟨j, l, rfl, rfl, hd, hb, hl, hjk, hbr⟩ := hrel
    have hs := hbr.size
    by_cases hj : 0 < j
    · have hl2 : l.length < 24 := by
        rcases Nat.lt_or_ge l.length 24 with h | h
        · exact h
        · have := hb.out; rw [show 24 - l.length = 0 by omega] at this; omega
      have hcv := fun wr' => conv_one (48 + (j : Int) % 10) (by omega) (by omega) wr'
      go_wp2
      go_roundw
      case rel => exact ⟨j / 10, UInt8.ofNat (48 + j % 10) :: l, by go_num, by simp [ByteArray.ext_iff, UInt8.ofNat_add], dec_step hj hd.out, by rw [List.length_cons]; exact dec_bd hl2 hb.out, by rw [List.length_cons]; omega, by omega, hbr.alloc hs _⟩
      case measure => simp [intOf]; omega
    · obtain rfl : j = 0 := by omega
      have HD := hd
      go_wp2
      go_ret
      refine ⟨ret_val ?_, hbr⟩
      have := HD.out
      rw [decT_zero, List.nil_append] at this
      unfold markT
      rw [this]
      simp [ByteArray.ext_iff]
/-- How many marks books take. -/
def cntB : List Phr → Nat
  | [] => 0
  | p :: r => 1 + p.2.length + cntB r
theorem cntB_at {ps : List Phr} {j : Nat} {p : Phr} (h : ps[j]? = some p) : cntB (ps.take (j + 1)) = cntB (ps.take j) + 1 + p.2.length ∧ cntB (ps.take (j + 1)) ≤ cntB ps := by
  induction ps generalizing j with
  | nil => simp at h
  | cons y r ih =>
    cases j with
    | zero => simp at h; subst h; simp [cntB]
    | succ j =>
      have := ih (j := j) (by simpa using h)
      simp only [List.take_succ_cons, cntB]
      omega
def marksB : Nat → List Phr → List Phr
  | _, [] => []
  | k, p :: r => (markT k, marks (k + 1) p.2.length) :: marksB (k + 1 + p.2.length) r
theorem marksB_len (k : Nat) (ps : List Phr) : (marksB k ps).length = ps.length := by
  induction ps generalizing k with
  | nil => rfl
  | cons p r ih => simp [marksB, ih]
theorem marksB_at {k j : Nat} {ps : List Phr} {p : Phr} (h : ps[j]? = some p) : (marksB k ps)[j]? = some (markT (k + cntB (ps.take j)), marks (k + cntB (ps.take j) + 1) p.2.length) := by
  induction ps generalizing j k with
  | nil => simp at h
  | cons y r ih =>
    cases j with
    | zero => simp at h; subst h; simp [marksB, cntB]
    | succ j =>
      simp only [marksB, List.getElem?_cons_succ, List.take_succ_cons, cntB]
      rw [ih (by simpa using h)]
      simp only [Nat.add_assoc]
def mixB (k j : Nat) (ps : List Phr) : List Phr := (marksB k ps).take j ++ ps.drop j
theorem mixB_len (k j : Nat) (ps : List Phr) : (mixB k j ps).length = ps.length := by simp [mixB, marksB_len]; omega
theorem mixB_at {k j : Nat} {ps : List Phr} {p : Phr} (h : ps[j]? = some p) : (mixB k j ps)[j]? = some p := by
  have hj := (List.getElem?_eq_some_iff.1 h).1
  unfold mixB
  rw [List.getElem?_append_right (by simp [marksB_len]; omega)]
  simp [marksB_len, show min j ps.length = j by omega, h]
theorem mixB_step {k j : Nat} {ps : List Phr} {p : Phr} (h : ps[j]? = some p) : (mixB k j ps).set j (markT (k + cntB (ps.take j)), marks (k + cntB (ps.take j) + 1) p.2.length) = mixB k (j + 1) ps := by
  have hj := (List.getElem?_eq_some_iff.1 h).1
  have hm := marksB_at (k := k) h
  unfold mixB
  have hd : ps.drop j = ps[j] :: ps.drop (j + 1) := List.drop_eq_getElem_cons hj
  have hl : j - ((marksB k ps).take j).length = 0 := by simp [marksB_len]; omega
  rw [List.set_append_right _ _ (by simp [marksB_len]; omega), take_snocN hm, hd, hl, List.set_cons_zero, List.append_assoc]
  rfl
theorem mixB_full (k : Nat) (ps : List Phr) : mixB k ps.length ps = marksB k ps := by
  unfold mixB; rw [List.drop_length, List.append_nil, List.take_of_length_le (by rw [marksB_len]; exact Nat.le_refl _)]
/-- Of what was there only blocks from lo to below hi may have turned. -/
structure KeepG (lo hi : Nat) (w w' : World) : Prop where
  os : w'.os = w.os
  tape : w'.tape = w.tape
  output : w'.output = w.output
  size : w.heap.size ≤ w'.heap.size
  block : ∀ k, k < w.heap.size → (k < lo ∨ hi ≤ k) → w'.heap[k]? = w.heap[k]?
theorem KeepG.refl (lo hi : Nat) (w : World) : KeepG lo hi w w := ⟨rfl, rfl, rfl, Nat.le_refl _, fun _ _ _ => rfl⟩
theorem KeepG.trans {lo hi : Nat} {a b c : World} (h : KeepG lo hi a b) (k : KeepG lo hi b c) : KeepG lo hi a c :=
  ⟨k.os.trans h.os, k.tape.trans h.tape, k.output.trans h.output, Nat.le_trans h.size k.size, fun i h1 h2 => (k.block i (Nat.lt_of_lt_of_le h1 h.size) h2).trans (h.block i h1 h2)⟩
theorem Keep.g {lo hi : Nat} {w w' : World} (h : Keep lo hi w w') : KeepG lo hi w w' := ⟨h.os, h.tape, h.output, Nat.le_of_eq h.size.symm, fun k _ h2 => h.block k h2⟩
theorem below_g {lo hi : Nat} {w w' : World} (h : Below w.heap.size w w') : KeepG lo hi w w' := ⟨h.os, h.tape, h.output, h.size, fun k h1 _ => h.block k h1⟩
/-- In two steps: first the blocks turn, then new ones come. -/
theorem KeepG.split {lo hi : Nat} {w w' : World} (h : KeepG lo hi w w') : ∃ m, Keep lo hi w m ∧ Below m.heap.size m w' := by
  refine ⟨{ w' with heap := w'.heap.extract 0 w.heap.size }, ⟨h.os, h.tape, h.output, ?_, fun k hk => ?_⟩, ⟨rfl, rfl, rfl, ?_, fun k hk => ?_⟩⟩
  · have := h.size; simp; omega
  · by_cases hlt : k < w.heap.size
    · rw [← h.block k hlt hk]
      show (w'.heap.extract 0 w.heap.size)[k]? = _
      rw [Array.getElem?_extract]
      have := h.size
      rw [if_pos (by omega), Nat.zero_add]
    · rw [Array.getElem?_eq_none (xs := w.heap) (by omega)]
      show (w'.heap.extract 0 w.heap.size)[k]? = _
      rw [Array.getElem?_eq_none (by simp; omega)]
  · show (w'.heap.extract 0 w.heap.size).size ≤ w'.heap.size
    simp; omega
  · show w'.heap[k]? = (w'.heap.extract 0 w.heap.size)[k]?
    have hk' : k < w.heap.size := by have h1 := h.size; simp at hk; omega
    have := h.size
    rw [Array.getElem?_extract, if_pos (by omega), Nat.zero_add]
theorem rows_far {w : World} {lo hi g : Nat} {us : List Value} {xss : List (List Int)} {cur : Array Value} {e : TypeId} {q : Nat × Nat} (h : RowsO w lo hi us xss) (hg : w.heap[g]? = some (.cells cur e q)) (he : e ≠ 3) (i : Nat) (x : Value) : RowsO (w.setCell ⟨g, i, Option.none⟩ x) lo hi us xss := by
  refine ⟨h.1, fun j u xs hu hx => ?_, h.2.2⟩
  have h1 := h.2.1 j u xs hu hx
  refine h1.only (b := some g) ((Only.refl _ _).setCell (p := ⟨g, i, Option.none⟩) rfl _) (fun g2 hg2 e2 => ?_)
  cases e2
  rcases h1.1.2 with ⟨rfl, _⟩ | ⟨g3, cap, cur3, rfl, _, hg3, _⟩
  · cases hg2
  · cases hg2
    rw [hg] at hg3
    cases hg3
    exact he rfl
theorem outer_onlyP {w w' : World} {lo n : Nat} {v u : Value} {cs : List Value} {xs : List Int} {lo' hi' : Nat} (h : w.ownsRow lo 49 2 v n cs) (hu : OwI w lo' hi' u xs) (hk : Only u.ownBlock w w') : w'.ownsRow lo 49 2 v n cs := by
  refine ⟨h.1, ?_⟩
  rcases h.2 with hn | ⟨g, cap, cur, rfl, hl, hg, rest⟩
  · exact .inl hn
  · refine .inr ⟨g, cap, cur, rfl, hl, (hk.block g (fun e => ?_)).trans hg, rest⟩
    rcases hu.1.2 with ⟨rfl, _⟩ | ⟨g2, cap2, cur2, rfl, _, hg2, _⟩
    · cases e
    · cases e
      rw [hg] at hg2
      simp at hg2
theorem zipC_set : ∀ (ts : List ByteArray) (us : List Value) (j : Nat) (t : ByteArray), (zipC ts us).set (j * 2) (.string t) = zipC (ts.set j t) us
  | [], us, j, t => by simp [zipC]
  | a :: ts, [], j, t => by cases j <;> simp [zipC]
  | a :: ts, u :: us, 0, t => by simp [zipC]
  | a :: ts, u :: us, j + 1, t => by simp only [zipC, List.set_cons_succ, show (j + 1) * 2 = j * 2 + 1 + 1 by omega, zipC_set ts us j t]
theorem markT_size {k : Nat} (h : k < 16777216) : (markT k).size ≤ 9223372036854775807 := by
  have hb : ∀ f n, n < 2 ^ f → (decT n).length ≤ f := by
    intro f
    induction f with
    | zero => intro n hn; obtain rfl : n = 0 := by simpa using hn
              rw [decT_zero]; simp
    | succ f ih =>
      intro n hn
      rcases Nat.eq_zero_or_pos n with rfl | hp
      · rw [decT_zero]; simp
      · rw [decT_pos hp, List.length_append]
        have := ih (n / 10) (by rw [Nat.pow_succ] at hn; omega)
        simp; omega
  have := hb 24 k (by simpa using h)
  show (109 :: decT k).toArray.size ≤ _
  simp; omega
set_option maxRecDepth 100000 in
set_option maxHeartbeats 1600000 in
theorem markPhraseS_any (ps : List Phr) (v : Value) (lo hi k : Nat) (w : World) (h : OwPS w lo hi v ps) (hh : hi ≤ w.heap.size) (hk1 : 1 ≤ k) (hk : k ≤ 4194304) (hsz : cntB ps ≤ 4194304) :
    Calls Tryd.prog 33 #[v, .int .i64 (k : Int)] w fun e w' => e = .returned (.int .i64 ((k + cntB ps : Nat) : Int)) ∧ OwPS w' lo hi v (marksB k ps) ∧ KeepG lo hi w w' := by
  obtain ⟨A, c, rfl, hc, hm⟩ := h.rd.form
  have H := Lib.hid h
  clear h
  go_enter Tryd.func33, Tryd.ntmps33
  go_wp2
  go_loopw [1, 5] (fun q i wr => ∃ (j : Nat), j ≤ ps.length ∧ i = .int .i64 j ∧ q = .int .i64 ((k + cntB (ps.take j) : Nat) : Int) ∧ Hid (OwPS wr lo hi (.slice A ps.length c) (mixB k j ps)) ∧ KeepG lo hi w wr) (fun _ i _ => ps.length - (intOf i).toNat)
  case atStart => exact ⟨0, Nat.zero_le _, rfl, rfl, by show OwPS _ _ _ _ _; simpa [mixB] using H.out, KeepG.refl _ _ _⟩
  case round =>
    obtain ⟨j, hj, rfl, rfl, how, hkp⟩ := hrel
    by_cases hlt : j < ps.length
    · have hx : ps[j]? = some ps[j] := by simp [hlt]
      obtain ⟨p, hp⟩ : ∃ p, p = ps[j] := ⟨_, rfl⟩
      rw [← hp] at hx
      have hcj := cntB_at hx
      have hc1 := hcj.1
      have hc2 := hcj.2
      have hs1 := hkp.size
      have HX := Lib.hid hx
      have HC := Lib.hid hc1
      have HKP := Lib.hid hkp
      have hb1 : k + cntB (ps.take j) + 1 + p.2.length ≤ 8388608 := by omega
      clear hx hp hcj hc1 hkp
      have hhr : hi ≤ wr.heap.size := by omega
      obtain ⟨us, hrows, hown, htx, hbl⟩ := how.out
      rw [mixB_len] at hown
      rcases hown.2 with ⟨_, h0⟩ | ⟨g, cap, cur, hv, hg1, hg2, _⟩
      · omega
      cases hv
      have hul : us.length = ps.length := by rw [hrows.1]; simp [sigs, mixB_len]
      obtain ⟨u, hu⟩ : ∃ u, us[j]? = some u := ⟨_, List.getElem?_eq_getElem (by omega)⟩
      have hz := zipC_at (txts (mixB k j ps)) us j p.1 u (by simp [txts, mixB_at HX.out]) hu
      have hgi : g < hi := hbl g rfl
      have HROW := Lib.hid hrows
      have HOWN := Lib.hid hown
      have HTX := Lib.hid htx
      have HG2 := Lib.hid hg2
      have HU := Lib.hid hu
      have HZ := Lib.hid hz
      have HUL := Lib.hid hul
      have HBL := Lib.hid hbl
      clear hrows hown htx hg2 hu hz how hul hbl
      go_wp2_with fail
      refine (markText_any (k + cntB (ps.take j)) (by omega) (by omega) _).mono ?_
      rintro e w1 ⟨rfl, hb2⟩
      have hown1 := owns_below HOWN.out HBL.out hb2 hhr
      have hrow1 := HROW.out.below hb2 hhr
      have hg21 := (hb2.block g (by omega)).trans HG2.out
      have hc0 := hown1.cellAt (j * 2) (by omega)
      rw [HZ.out.1] at hc0
      have hf0 := hown1.frozenAt (j * 2)
      have hc01 := hown1.cellAt (j * 2 + 1) (by omega)
      rw [HZ.out.2] at hc01
      have hst := (hown1.stored (j * 2) (.string (markT (k + cntB (ps.take j))))).1
      rw [zipC_set] at hst
      have hrow2 := rows_far hrow1 hg21 (by decide) (j * 2) (.string (markT (k + cntB (ps.take j))))
      have hru := hrow2.2.1 j u p.2 HU.out (by simp [sigs, mixB_at HX.out])
      have hkp2 : KeepG lo hi w (w1.setCell ⟨g, j * 2, Option.none⟩ (.string (markT (k + cntB (ps.take j))))) :=
        HKP.out.trans ((below_g hb2).trans ((Keep.refl lo hi w1).setCell (p := ⟨g, j * 2, Option.none⟩) hg1 hgi _).g)
      obtain ⟨AU, cu, hue, _⟩ := hru.rd.form
      subst hue
      have HST := Lib.hid hst
      have HRW2 := Lib.hid hrow2
      have HRU := Lib.hid hru
      have HKP2 := Lib.hid hkp2
      clear hown1 hrow1 hg21 hst hrow2 hru hkp2 hb2
      go_wp2_with fail
      refine (markIntS_only p.2 _ lo hi (k + cntB (ps.take j) + 1) _ HRU.out (by omega) (by omega)).mono ?_
      rintro e w3 ⟨rfl, hm3, hk3⟩
      have h1 := HRW2.out.only HU.out hk3 hm3
      have h2 := outer_onlyP HST.out HRU.out hk3
      have h3 := HKP2.out.trans (hk3.keepI HRU.out).g
      have H4 : Hid (OwPS w3 lo hi (.slice (some ⟨g, 0, Option.none⟩) ps.length c) (mixB k (j + 1) ps)) := by
        refine ⟨us, ?_, ?_, ?_, HBL.out⟩
        · rw [← mixB_step HX.out]
          have : sigs ((mixB k j ps).set j (markT (k + cntB (ps.take j)), marks (k + cntB (ps.take j) + 1) p.2.length)) = (sigs (mixB k j ps)).set j (marks (k + cntB (ps.take j) + 1) p.2.length) := by simp [sigs, List.map_set]
          rw [this]; exact h1
        · rw [← mixB_step HX.out]
          have : txts ((mixB k j ps).set j (markT (k + cntB (ps.take j)), marks (k + cntB (ps.take j) + 1) p.2.length)) = (txts (mixB k j ps)).set j (markT (k + cntB (ps.take j))) := by simp [txts, List.map_set]
          rw [this]
          simpa [mixB_len] using h2
        · rw [← mixB_step HX.out]
          intro x hx
          rcases List.mem_or_eq_of_mem_set hx with hx | rfl
          · exact HTX.out x hx
          · exact markT_size (by omega)
      have H3 := Lib.hid h3
      clear h1 h2 h3 hk3 hm3 hc0 hf0 hc01
      go_wp2
      go_roundw
      case rel => exact ⟨j + 1, by omega, by go_num, int_val (by have := HC.out; omega), H4, H3.out⟩
      case measure => simp [intOf]; omega
    · obtain rfl : j = ps.length := by omega
      have HO := how
      go_wp2
      go_ret
      exact ⟨ret_int (by rw [List.take_of_length_le (Nat.le_refl _)]), by have := HO.out; rwa [mixB_full] at this, hkp⟩
theorem markBook_g (ps : List Phr) (v : Value) (lo hi k : Nat) (w : World) (h : OwB w lo hi v ps) (hh : hi ≤ w.heap.size) (hk1 : 1 ≤ k) (hk : k ≤ 4194304) (hsz : cntB ps ≤ 4194304) :
    Calls Tryd.prog 10 #[v, .int .i64 (k : Int)] w fun e w' => e = .returned (.int .i64 ((k + cntB ps : Nat) : Int)) ∧ OwB w' lo hi v (marksB k ps) ∧ KeepG lo hi w w' := by
  obtain ⟨u, rfl, hu⟩ := h
  obtain ⟨A, c, rfl, hc, hm⟩ := hu.rd.form
  have hba : Below w.heap.size w (w.alloc (.cells #[.slice A ps.length c] 24)) := (Below.refl _ _).alloc (Nat.le_refl _) _
  have H := Lib.hid (hu.below hba hh)
  have HB := Lib.hid (below_g (lo := lo) (hi := hi) hba)
  clear hu hba
  go_enter Tryd.func10, Tryd.ntmps10
  go_wp2_with fail
  refine (markPhraseS_any ps _ lo hi k _ H.out (by simp; omega) hk1 hk hsz).mono ?_
  rintro e w2 ⟨rfl, ho2, hk2⟩
  have HO : Hid (OwB w2 lo hi (.agg #[.slice A ps.length c]) (marksB k ps)) := ⟨_, rfl, ho2⟩
  have HK := Lib.hid (HB.out.trans hk2)
  clear ho2 hk2
  go_wp2_with fail
  go_ret
  exact ⟨rfl, HO.out, HK.out⟩
end Go.Proofs.YtjnkdjokbamibaaDoor
/- Rows of phrases appended: for the seats that lack the draws. -/
namespace Go.Proofs.YtjnkdjokbamibaaDoor
open Go.RowKit
/-- The slice value u reads as xs, in memory below B, or in a block of ints. -/
def El (w : World) (B : Nat) (u : Value) (xs : List Int) : Prop :=
  RdI w w.heap.size u xs ∧ ∀ (b off n c : Nat), u = .slice (some ⟨b, off, Option.none⟩) n c → 0 < n → b < B ∨ ∃ cur fz, w.heap[b]? = some (.cells cur 3 fz)
theorem El.rd {w : World} {B : Nat} {u : Value} {xs : List Int} (h : El w B u xs) (_ : B ≤ w.heap.size) : RdI w w.heap.size u xs := h.1
theorem El.below {w w' : World} {B : Nat} {u : Value} {xs : List Int} (h : El w B u xs) (_ : B ≤ w.heap.size) (hb : Below w.heap.size w w') : El w' B u xs := by
  refine ⟨(RdI.below h.1 hb (Nat.le_refl _)).mono hb.size, fun b off n c hu hn => ?_⟩
  rcases h.2 b off n c hu hn with h2 | ⟨cur, fz, h2⟩
  · exact .inl h2
  · exact .inr ⟨cur, fz, (hb.block b (Array.getElem?_eq_some_iff.1 h2).1).trans h2⟩
/-- Blocks that are no rows of phrases stand. -/
def FrP (w w' : World) : Prop := ∀ (k : Nat) (c : Array Value) (e : TypeId) (fz : Nat × Nat), w.heap[k]? = some (.cells c e fz) → e ≠ 49 → w'.heap[k]? = some (.cells c e fz)
theorem Blk.frP {w w' : World} {g : Nat} {t : TypeId} {cs : List Value} (h : Blk w g t cs) (hf : FrP w w') (h1 : t ≠ 49) : Blk w' g t cs := hf _ _ _ _ h h1
theorem two_cells (w : World) (u v : Value) (t : TypeId) (j : Nat) (x : Value) (h : [u, v][j]? = some x) : (w.alloc (.cells #[u, v] t)).cell? ((⟨w.heap.size, 0, Option.none⟩ : Addr).add j) = some x := by
  rw [Go.WideShapes.add_plain, show (0 : Nat) + j = j by omega, (Blk.new w t #[u, v]).cell j]
  exact h
theorem OwI.frP {w w' : World} {lo hi : Nat} {v : Value} {xs : List Int} (h : OwI w lo hi v xs) (hf : FrP w w') : OwI w' lo hi v xs := by
  refine ⟨⟨h.1.1, ?_⟩, h.2⟩
  rcases h.1.2 with hn | ⟨g, cap, cur, rfl, hl, hg, rest⟩
  · exact .inl hn
  · exact .inr ⟨g, cap, cur, rfl, hl, hf _ _ _ _ hg (by decide), rest⟩
theorem RowsO.frP {w w' : World} {lo hi : Nat} {us : List Value} {xss : List (List Int)} (h : RowsO w lo hi us xss) (hf : FrP w w') : RowsO w' lo hi us xss :=
  ⟨h.1, fun i u xs hu hx => (h.2.1 i u xs hu hx).frP hf, h.2.2⟩
theorem El.frP {a w w' : World} {B : Nat} {u : Value} {xs : List Int} (h : El w B u xs) (hb : Below B a w) (hb' : Below B a w') (hs : w.heap.size ≤ w'.heap.size) (hf : FrP w w') : El w' B u xs := by
  obtain ⟨⟨h0, A, c, h1, h2, h3, h4⟩, h5⟩ := h
  refine ⟨⟨h0, A, c, h1, h2, h3, fun hn => ?_⟩, fun b off n c hu hn => ?_⟩
  · obtain ⟨b, off, hA, hbl, hc⟩ := h4 hn
    refine ⟨b, off, hA, by omega, fun j u hu => ?_⟩
    rcases h5 b off _ _ (by rw [h1, hA]) hn with h6 | ⟨cur, fz, h6⟩
    · rw [hb'.cell (p := ⟨b, off + j, Option.none⟩) h6, ← hb.cell (p := ⟨b, off + j, Option.none⟩) h6]
      exact hc j u hu
    · have h7 := hf _ _ _ _ h6 (by decide)
      rw [← hc j u hu, cell_of_row w b (off + j) cur _ fz h6, cell_of_row w' b (off + j) cur _ fz h7]
  · rcases h5 b off n c hu hn with h6 | ⟨cur, fz, h6⟩
    · exact .inl h6
    · exact .inr ⟨cur, fz, hf _ _ _ _ h6 (by decide)⟩
/-- The slice values us read as the signals of ps. -/
def Els (w : World) (B : Nat) (us : List Value) (ps : List Phr) : Prop := us.length = ps.length ∧ ∀ (i : Nat) (u : Value) (p : Phr), us[i]? = some u → ps[i]? = some p → El w B u p.2
theorem Els.nil (w : World) (B : Nat) : Els w B [] [] := ⟨rfl, fun i u p hu _ => by simp at hu⟩
theorem Els.append {w : World} {B : Nat} {us vs : List Value} {ps qs : List Phr} (h : Els w B us ps) (g : Els w B vs qs) : Els w B (us ++ vs) (ps ++ qs) := by
  refine ⟨by simp [h.1, g.1], fun i u p hu hp => ?_⟩
  rcases Nat.lt_or_ge i us.length with hi | hi
  · rw [List.getElem?_append_left hi] at hu
    rw [List.getElem?_append_left (by have := h.1; omega)] at hp
    exact h.2 i u p hu hp
  · rw [List.getElem?_append_right hi] at hu
    rw [List.getElem?_append_right (by have := h.1; omega), ← h.1] at hp
    exact g.2 _ u p hu hp
theorem Els.one {w : World} {B : Nat} {u : Value} {p : Phr} (h : El w B u p.2) : Els w B [u] [p] := by
  refine ⟨rfl, fun i u' p' hu hp => ?_⟩
  cases i with
  | zero => simp at hu hp; subst hu hp; exact h
  | succ i => simp at hu
theorem Els.frP {a w w' : World} {B : Nat} {us : List Value} {ps : List Phr} (h : Els w B us ps) (hb : Below B a w) (hb' : Below B a w') (hs : w.heap.size ≤ w'.heap.size) (hf : FrP w w') : Els w' B us ps :=
  ⟨h.1, fun i u p hu hp => (h.2 i u p hu hp).frP hb hb' hs hf⟩
theorem Els.below {w w' : World} {B : Nat} {us : List Value} {ps : List Phr} (h : Els w B us ps) (hB : B ≤ w.heap.size) (hb : Below w.heap.size w w') : Els w' B us ps :=
  ⟨h.1, fun i u p hu hp => (h.2 i u p hu hp).below hB hb⟩
/-- v is a row of phrases, appended to since the world w; below block number B nothing has turned. -/
def GrowP (w : World) (B : Nat) (wr : World) (v : Value) (ps : List Phr) : Prop :=
  (∃ us : List Value, Els wr B us ps ∧ wr.ownsRow B 49 2 v ps.length (zipC (txts ps) us)) ∧ TxtOk ps ∧ Below B w wr ∧ B ≤ wr.heap.size
theorem TxtOk.nil : TxtOk [] := fun p hp => by cases hp
theorem TxtOk.append {ps qs : List Phr} (h : TxtOk ps) (g : TxtOk qs) : TxtOk (ps ++ qs) := fun p hp => by
  rcases List.mem_append.1 hp with hp | hp
  · exact h p hp
  · exact g p hp
theorem GrowP.start (w : World) {B : Nat} (hB : B = w.heap.size) : GrowP w B w (.slice Option.none 0 0) [] := by
  subst hB
  exact ⟨⟨[], Els.nil _ _, World.ownsRow_nil _ _ _ _⟩, TxtOk.nil, Below.refl _ _, Nat.le_refl _⟩
theorem GrowP.belowR {w wr wr' : World} {B : Nat} {v : Value} {ps : List Phr} (h : GrowP w B wr v ps) (hb : Below wr.heap.size wr wr') : GrowP w B wr' v ps := by
  obtain ⟨⟨us, h1, h3⟩, h4, h5, h6⟩ := h
  exact ⟨⟨us, h1.below h6 hb, owns_below h3 (fun k hk => (h3.lt k hk).2) hb (Nat.le_refl _)⟩, h4, h5.trans (hb.mono h6), Nat.le_trans h6 hb.size⟩
theorem GrowP.alloc {w wr : World} {B : Nat} {v : Value} {ps : List Phr} (h : GrowP w B wr v ps) (o : Obj) : GrowP w B (wr.alloc o) v ps := h.belowR ((Below.refl _ _).alloc (Nat.le_refl _) _)
theorem GrowP.rd {w wr : World} {B : Nat} {v : Value} {ps : List Phr} (h : GrowP w B wr v ps) : RdPS wr wr.heap.size v ps := by
  obtain ⟨⟨us, h1, h3⟩, h4, h5, h6⟩ := h
  refine ⟨us, ⟨by simp [sigs, h1.1], fun i u xs hu hx => ?_⟩, rd_of_owns h3 (fun k hk => (h3.lt k hk).2), h4⟩
  unfold sigs at hx
  rw [List.getElem?_map] at hx
  cases hp : ps[i]? with
  | none => rw [hp] at hx; cases hx
  | some p => rw [hp] at hx; cases hx; exact (h1.2 i u p hu hp).1
theorem GrowP.form {w wr : World} {B : Nat} {v : Value} {ps : List Phr} (h : GrowP w B wr v ps) : ∃ A c, v = .slice A ps.length c ∧ ps.length ≤ 9223372036854775807 := by
  obtain ⟨A, c, hv, _, hm⟩ := h.rd.form
  exact ⟨A, c, hv, hm⟩
theorem grow_frP {wr wr1 w' : World} {B n : Nat} {v : Value} {cs : List Value} (h3 : wr.ownsRow B 49 2 v n cs) (hb : Below wr.heap.size wr wr1) (hgr : World.grownBy wr1 w' v.ownBlock) : FrP wr w' := by
  intro k c e fz hk e1
  have hlt := (Array.getElem?_eq_some_iff.1 hk).1
  rw [hgr.block k (by have := hb.size; omega) (fun hv => ?_), hb.block k hlt]
  · exact hk
  · rcases h3.2 with ⟨rfl, _⟩ | ⟨g, cap, cur, rfl, _, hg, _⟩
    · cases hv
    · cases hv
      rw [hk] at hg
      cases hg
      exact e1 rfl
/-- One phrase more behind the row. -/
theorem GrowP.app {w wr : World} {B g : Nat} {v : Value} {ps : List Phr} {t : ByteArray} {xs : List Int} {ops : Array Oper} {rest : List Oper} {o : Oper} {a : Act} {Q : Exit → Act → World → Prop} {A : Option Addr} {n c : Nat} (hgd : o.guard = Option.none) (s x : Operand)
    (ho : o.op = .call { callee := .builtin .append, args := #[s, x], argTypes := #[22, 22] }) (hG : GrowP w B wr v ps) (hu : El wr B (.slice A n c) xs) (ht : t.size ≤ 9223372036854775807) (hlen : ps.length < 1048577)
    (hs : a.eval s = v) (hg : g = wr.heap.size) (hx : a.eval x = .slice (some ⟨g, 0, Option.none⟩) 1 1)
    (h : ∀ v' w', GrowP w B w' v' (ps ++ [(t, xs)]) → FrP wr w' → wr.heap.size ≤ w'.heap.size → wpList Tryd.prog ops Q rest (a.put o.dst v') w') : wpList Tryd.prog ops Q (o :: rest) a (wr.alloc (.cells #[.string t, .slice A n c] 49)) := by
  subst hg
  obtain ⟨i, hi, hz0, hz1, hz2⟩ := info_parts info_phr
  obtain ⟨⟨us, h1, h3⟩, h2, h4, h5⟩ := hG
  refine wpList_append_own _ hgd s x 22 ho B 49 i (.agg #[.string { data := #[] }, .slice Option.none 0 0]) 2 40 Tryd.underlying22 hi hz0 hz1 hz2 rfl (by decide) v ps.length (zipC (txts ps) us) hs (h3.alloc _) ⟨wr.heap.size, 0, Option.none⟩ 1 1 [.string t, .slice A n c] hx rfl
    (two_cells _ _ _ _) (by intro u hu; simp at hu; rcases hu with rfl | rfl <;> rfl) (by unfold maxLen; omega) (by omega) (by simp; omega) ?_
  intro v' w' hown hgr _
  have hsz := hgr.size
  have hsz2 : wr.heap.size + 1 ≤ w'.heap.size := by simpa using hsz
  have hfr : FrP wr w' := grow_frP h3 ((Below.refl _ _).alloc (Nat.le_refl _) _) hgr
  have hb' : Below B w w' := (h4.alloc h5 _).grown hgr (by simp; omega) (fun k hk => ((h3.alloc (.cells #[.string t, .slice A n c] 49)).lt k hk).1)
  refine h v' w' ⟨⟨us ++ [.slice A n c], (h1.frP h4 hb' (by omega) hfr).append (Els.one (hu.frP h4 hb' (by omega) hfr)), ?_⟩, h2.append (fun p hp => by simp at hp; subst hp; exact ht), hb', by omega⟩ hfr (by omega)
  unfold txts
  rw [List.map_append, List.map_cons, List.map_nil, zipC_append _ _ _ _ (by simp [h1.1])]
  simpa [txts] using hown
/-- A row of phrases of the call's own, each with signals of its own. -/
def GrowO (w : World) (B : Nat) (wr : World) (v : Value) (ps : List Phr) : Prop :=
  (∃ us : List Value, RowsO wr B wr.heap.size us (sigs ps) ∧ wr.ownsRow B 49 2 v ps.length (zipC (txts ps) us)) ∧ TxtOk ps ∧ Below B w wr ∧ B ≤ wr.heap.size
theorem GrowO.start (w : World) {B : Nat} (hB : B = w.heap.size) : GrowO w B w (.slice Option.none 0 0) [] := by
  subst hB
  exact ⟨⟨[], RowsO.nil _ _ _, World.ownsRow_nil _ _ _ _⟩, TxtOk.nil, Below.refl _ _, Nat.le_refl _⟩
theorem GrowO.own {w wr : World} {B : Nat} {v : Value} {ps : List Phr} (h : GrowO w B wr v ps) : OwPS wr B wr.heap.size v ps := by
  obtain ⟨⟨us, h1, h3⟩, h4, h5, h6⟩ := h
  exact ⟨us, h1, h3, h4, fun k hk => (h3.lt k hk).2⟩
theorem GrowO.form {w wr : World} {B : Nat} {v : Value} {ps : List Phr} (h : GrowO w B wr v ps) : ∃ A c, v = .slice A ps.length c ∧ ps.length ≤ 9223372036854775807 := by
  obtain ⟨A, c, hv, _, hm⟩ := h.own.rd.form
  exact ⟨A, c, hv, hm⟩
/-- One phrase more, its signals made since. -/
theorem GrowO.app {w w0 wr : World} {B g : Nat} {v : Value} {ps : List Phr} {t : ByteArray} {xs : List Int} {ops : Array Oper} {rest : List Oper} {o : Oper} {a : Act} {Q : Exit → Act → World → Prop} {A : Option Addr} {n c : Nat} (hgd : o.guard = Option.none) (s x : Operand)
    (ho : o.op = .call { callee := .builtin .append, args := #[s, x], argTypes := #[22, 22] }) (hG : GrowO w B w0 v ps) (hb0 : Below w0.heap.size w0 wr) (hu : OwI wr w0.heap.size wr.heap.size (.slice A n c) xs) (ht : t.size ≤ 9223372036854775807) (hlen : ps.length < 1048577)
    (hs : a.eval s = v) (hg : g = wr.heap.size) (hx : a.eval x = .slice (some ⟨g, 0, Option.none⟩) 1 1)
    (h : ∀ v' w', GrowO w B w' v' (ps ++ [(t, xs)]) → FrP wr w' → wr.heap.size ≤ w'.heap.size → wpList Tryd.prog ops Q rest (a.put o.dst v') w') : wpList Tryd.prog ops Q (o :: rest) a (wr.alloc (.cells #[.string t, .slice A n c] 49)) := by
  subst hg
  obtain ⟨i, hi, hz0, hz1, hz2⟩ := info_parts info_phr
  obtain ⟨⟨us, h1, h3⟩, h2, h4, h5⟩ := hG
  have hs0 := hb0.size
  have h3r := owns_below h3 (fun k hk => (h3.lt k hk).2) hb0 (Nat.le_refl _)
  refine wpList_append_own _ hgd s x 22 ho B 49 i (.agg #[.string { data := #[] }, .slice Option.none 0 0]) 2 40 Tryd.underlying22 hi hz0 hz1 hz2 rfl (by decide) v ps.length (zipC (txts ps) us) hs (h3r.alloc _) ⟨wr.heap.size, 0, Option.none⟩ 1 1 [.string t, .slice A n c] hx rfl
    (two_cells _ _ _ _) (by intro u hu; simp at hu; rcases hu with rfl | rfl <;> rfl) (by unfold maxLen; omega) (by omega) (by simp; omega) ?_
  intro v' w' hown hgr _
  have hsz := hgr.size
  have hsz2 : wr.heap.size + 1 ≤ w'.heap.size := by simpa using hsz
  have hfr : FrP wr w' := grow_frP h3r ((Below.refl _ _).alloc (Nat.le_refl _) _) hgr
  have hb' : Below B w w' := ((h4.trans (hb0.mono h5)).alloc (by omega) _).grown hgr (by simp; omega) (fun k hk => ((h3r.alloc (.cells #[.string t, .slice A n c] 49)).lt k hk).1)
  refine h v' w' ⟨⟨us ++ [.slice A n c], ?_, ?_⟩, h2.append (fun p hp => by simp at hp; subst hp; exact ht), hb', by omega⟩ hfr (by omega)
  · have h6 := ((h1.below hb0 (Nat.le_refl _)).snoc hu h5 hs0).frP hfr
    have h7 := h6.mono (lo' := B) (hi' := w'.heap.size) (Nat.le_refl _) (by omega)
    simpa [sigs] using h7
  · unfold txts
    have hul : us.length = ps.length := by simpa [sigs] using h1.1
    rw [List.map_append, List.map_cons, List.map_nil, zipC_append _ _ _ _ (by simp [hul])]
    simpa [txts] using hown
theorem OwPS.far {w : World} {lo hi B : Nat} {v x : Value} {ps : List Phr} (h : OwPS w lo hi v ps) (hX : Blk w B 24 [x]) (u : Value) : OwPS (w.setCell ⟨B, 0, Option.none⟩ u) lo hi v ps := by
  obtain ⟨us, h1, h2, h3, h4⟩ := h
  refine ⟨us, rows_far h1 hX (by decide) 0 u, ⟨h2.1, ?_⟩, h3, h4⟩
  rcases h2.2 with hn | ⟨g, cap, cur, e1, hl, hg, rest⟩
  · exact .inl hn
  · refine .inr ⟨g, cap, cur, e1, hl, ?_, rest⟩
    rw [Below.heap_setCell _ _ _ _ (by show g ≠ B; rintro rfl; rw [hX] at hg; simp at hg)]
    exact hg
/-- A book of the call's own, and a bool. -/
def RetOwBT (ps : List Phr) (b : Bool) (w : World) (e : Ending) (w' : World) : Prop := ∃ u, e = .returned (.tuple #[.agg #[u], .bool b]) ∧ OwPS w' w.heap.size w'.heap.size u ps ∧ Below w.heap.size w w'
theorem owPS_nil (w : World) (lo hi : Nat) : OwPS w lo hi (.slice Option.none 0 0) [] := ⟨[], RowsO.nil _ _ _, World.ownsRow_nil _ _ _ _, TxtOk.nil, fun k hk => by cases hk⟩
theorem OwPS.mono {w : World} {lo hi lo' hi' : Nat} {v : Value} {ps : List Phr} (h : OwPS w lo hi v ps) (h1 : lo' ≤ lo) (h2 : hi ≤ hi') : OwPS w lo' hi' v ps := by
  obtain ⟨us, g1, g2, g3, g4⟩ := h
  refine ⟨us, g1.mono h1 h2, ⟨g2.1, ?_⟩, g3, fun k hk => by have := g4 k hk; omega⟩
  rcases g2.2 with hn | ⟨g, cap, cur, e1, hl, rest⟩
  · exact .inl hn
  · exact .inr ⟨g, cap, cur, e1, by omega, rest⟩
theorem growO_of {w wr : World} {B : Nat} {v : Value} {ps : List Phr} (h : OwPS wr B wr.heap.size v ps) (hb : Below B w wr) (hB : B ≤ wr.heap.size) : GrowO w B wr v ps := by
  obtain ⟨us, h1, h2, h3, _⟩ := h
  exact ⟨⟨us, h1, h2⟩, h3, hb, hB⟩
theorem GrowO.belowR {w wr wr' : World} {B : Nat} {v : Value} {ps : List Phr} (h : GrowO w B wr v ps) (hb : Below wr.heap.size wr wr') : GrowO w B wr' v ps :=
  growO_of ((h.own.below hb (Nat.le_refl _)).mono (Nat.le_refl _) hb.size) (h.2.2.1.trans (hb.mono h.2.2.2)) (Nat.le_trans h.2.2.2 hb.size)
theorem GrowO.far {w wr : World} {B L : Nat} {v x : Value} {ps : List Phr} (h : GrowO w B wr v ps) (hX : Blk wr L 24 [x]) (hL : B ≤ L) (u : Value) : GrowO w B (wr.setCell ⟨L, 0, Option.none⟩ u) v ps := by
  have h1 := h.own.far hX u
  have hs : (wr.setCell ⟨L, 0, Option.none⟩ u).heap.size = wr.heap.size := by simp [World.setCell]
  exact growO_of (by rw [hs]; exact h1) (h.2.2.1.setCell hL u) (by rw [hs]; exact h.2.2.2)
end Go.Proofs.YtjnkdjokbamibaaDoor
/- Contracts of the comparisons of lists and of their beginnings, of the program and of the reference. -/
namespace Go.Proofs.YtjnkdjokbamibaaDoor
open Go.RowKit
/-- A slice cut off at its end. -/
theorem Rd.cut {w : World} {hi n c : Nat} {A : Option Addr} {xs : List Value} (h : Rd w hi 1 (.slice A n c) n xs) {k : Nat} (hk : k ≤ n) : Rd w hi 1 (.slice A k c) k (xs.take k) := by
  obtain ⟨h0, A', c', hv, h1, h2, h3⟩ := h
  cases hv
  refine ⟨by rw [List.length_take]; omega, A, c, rfl, by omega, h2, fun hp => ?_⟩
  obtain ⟨b, off, hA, hb, hc⟩ := h3 (by omega)
  refine ⟨b, off, hA, hb, fun j u hu => hc j u ?_⟩
  rw [List.getElem?_take] at hu
  split at hu
  · exact hu
  · cases hu
theorem RdI.cut {w : World} {hi c : Nat} {A : Option Addr} {xs : List Int} (h : RdI w hi (.slice A xs.length c) xs) {k : Nat} (hk : k ≤ xs.length) : RdI w hi (.slice A k c) (xs.take k) := by
  have h1 := Rd.cut h hk
  have hl : (xs.take k).length = k := by rw [List.length_take]; omega
  unfold RdI
  rw [hl]
  simpa [ints] using h1
set_option maxHeartbeats 400000 in
theorem l1Same_any (xs ys : List Int) (v u : Value) (hi hj : Nat) (w : World) (h : RdI w hi v xs) (g : RdI w hj u ys) : Calls Tryd.prog 66 #[v, u] w fun e w' => e = .returned (.bool (decide (xs = ys))) ∧ ∃ n, w' = w.drewN n := by
  obtain ⟨A, c, rfl, hc, hm⟩ := Rd.form h
  obtain ⟨A', c', rfl, hc', hm'⟩ := Rd.form g
  have H := Lib.hid h
  have G := Lib.hid g
  clear h g
  by_cases hl : xs.length = ys.length
  · have HL := Lib.hid hl
    rw [← hl]
    rw [← hl] at hc' hm'
    clear hl
    go_enter Tryd.func66, Tryd.ntmps66
    go_wp2
    go_loopw [13] (fun i wr => ∃ k : Nat, k ≤ xs.length ∧ i = .int .i64 k ∧ Hid (xs.take k = ys.take k) ∧ ∃ n, wr = w.drewN n) (fun i _ => xs.length - (intOf i).toNat)
    case atStart => exact ⟨0, Nat.zero_le _, rfl, rfl, 0, rfl⟩
    case round =>
      obtain ⟨k, hk, rfl, heq, n, rfl⟩ := hrel
      by_cases hlt : k < xs.length
      · obtain ⟨b1, o1, c1, x, hv, _, hx, hcell1⟩ := Rd.at_ H.out hlt
        cases hv
        obtain ⟨b2, o2, c2, y, hv, _, hy, hcell2⟩ := Rd.at_ G.out (by rw [← HL.out]; exact hlt)
        have HX := Lib.hid hx
        have HY := Lib.hid hy
        injection hv with hv1 hv2 hv3
        subst hv1
        clear hx hy hv2 hv3
        by_cases hxy : x = y
        · subst hxy
          go_wp2
          go_quiet (fail)
          go_wp2
          go_roundw
          case rel => exact ⟨k + 1, by omega, by go_num, eq_take HX.out HY.out heq.out, _, rfl⟩
          case measure => simp [intOf]; omega
        · have hbe : (x == y) = false := by simpa using hxy
          have hbn : (x != y) = true := by simpa using hxy
          go_wp2
          go_quiet (fail)
          go_wp2
          go_ret
          exact ⟨ret_bool (eq_no HX.out HY.out hxy).symm, _, World.drewN_drewN _ _ _⟩
      · go_wp2
        go_ret
        exact ⟨ret_bool (eq_full hlt HL.out heq.out).symm, _, rfl⟩
  · have hne : (((xs.length : Nat) : Int) != ((ys.length : Nat) : Int)) = true := by rw [bne_iff_ne]; omega
    go_enter Tryd.func66, Tryd.ntmps66
    go_wp2
    go_ret
    refine ⟨ret_bool ?_, 0, rfl⟩
    symm; rw [decide_eq_false_iff_not]; rintro rfl; exact hl rfl
set_option maxHeartbeats 400000 in
theorem slicesEqual_any (xs ys : List Int) (v u : Value) (hi hj : Nat) (w : World) (h : RdI w hi v xs) (g : RdI w hj u ys) : Calls Tryd.prog 74 #[v, u] w fun e w' => e = .returned (.bool (decide (xs = ys))) ∧ ∃ n, w' = w.drewN n := by
  obtain ⟨A, c, rfl, hc, hm⟩ := Rd.form h
  obtain ⟨A', c', rfl, hc', hm'⟩ := Rd.form g
  have H := Lib.hid h
  have G := Lib.hid g
  clear h g
  by_cases hl : xs.length = ys.length
  · have HL := Lib.hid hl
    rw [← hl]
    rw [← hl] at hc' hm'
    clear hl
    go_enter Tryd.func74, Tryd.ntmps74
    go_wp2
    go_loopw [13] (fun i wr => ∃ k : Nat, k ≤ xs.length ∧ i = .int .i64 k ∧ Hid (xs.take k = ys.take k) ∧ ∃ n, wr = w.drewN n) (fun i _ => xs.length - (intOf i).toNat)
    case atStart => exact ⟨0, Nat.zero_le _, rfl, rfl, 0, rfl⟩
    case round =>
      obtain ⟨k, hk, rfl, heq, n, rfl⟩ := hrel
      by_cases hlt : k < xs.length
      · obtain ⟨b1, o1, c1, x, hv, _, hx, hcell1⟩ := Rd.at_ H.out hlt
        cases hv
        obtain ⟨b2, o2, c2, y, hv, _, hy, hcell2⟩ := Rd.at_ G.out (by rw [← HL.out]; exact hlt)
        have HX := Lib.hid hx
        have HY := Lib.hid hy
        injection hv with hv1 hv2 hv3
        subst hv1
        clear hx hy hv2 hv3
        by_cases hxy : x = y
        · subst hxy
          go_wp2
          go_quiet (fail)
          go_wp2
          go_roundw
          case rel => exact ⟨k + 1, by omega, by go_num, eq_take HX.out HY.out heq.out, _, rfl⟩
          case measure => simp [intOf]; omega
        · have hbe : (x == y) = false := by simpa using hxy
          have hbn : (x != y) = true := by simpa using hxy
          go_wp2
          go_quiet (fail)
          go_wp2
          go_ret
          exact ⟨ret_bool (eq_no HX.out HY.out hxy).symm, _, World.drewN_drewN _ _ _⟩
      · go_wp2
        go_ret
        exact ⟨ret_bool (eq_full hlt HL.out heq.out).symm, _, rfl⟩
  · have hne : (((xs.length : Nat) : Int) != ((ys.length : Nat) : Int)) = true := by rw [bne_iff_ne]; omega
    go_enter Tryd.func74, Tryd.ntmps74
    go_wp2
    go_ret
    refine ⟨ret_bool ?_, 0, rfl⟩
    symm; rw [decide_eq_false_iff_not]; rintro rfl; exact hl rfl
end Go.Proofs.YtjnkdjokbamibaaDoor
/- A drawn region whose operations only read old memory and whose calls may lay new memory: one walk in the order of the text serves every order. Facts on worlds that came later. -/
namespace Go.Proofs.YtjnkdjokbamibaaDoor
open Go Go.RowKit
/-- A world in which all below block B is as in w. -/
structure LaterW (B : Nat) (w : World) where
  val : World
  bel : Below B w val
instance laterSome {B : Nat} {w : World} : Nonempty (LaterW B w) := ⟨⟨w, Below.refl _ _⟩⟩
theorem wp_region_later {P : Program} {id : Nat} {Q : Exit → Act → World → Prop} {a : Act} {w : World} {l : List Oper} (B : Nat) (hm : P.follows .mixedOrders = true) (hB : Region.lexB .any l.toArray = true)
    (h : wpQuiet P l.toArray (fun w' => ∃ x : LaterW B w, w' = x.val) (fun a' => ∀ w', (∃ x : LaterW B w, w' = x.val) → Q .normal a' w') l a) : (Code.region id l.toArray true).wp P Q a w :=
  wp_region_quiet (C := fun w' => ∃ x : LaterW B w, w' = x.val) hm hB ⟨⟨_, bel_drewN B w 1⟩, rfl⟩ (by simpa using h)
theorem later_nil {P : Program} {ops : Array Oper} {C : World → Prop} {B : Nat} {w : World} {a : Act} {Q : Act → World → Prop}
    (h : ∀ w', Below B w w' → Q a w') : wpQuiet P ops C (fun a' => ∀ w', (∃ x : LaterW B w, w' = x.val) → Q a' w') [] a :=
  wpQuiet_nil fun _ ⟨x, e⟩ => e ▸ h _ x.bel
theorem later_of {P : Program} {f : FuncId} {args : Array Value} {B : Nat} {w : World} {x : LaterW B w} {v : Value} (hB : B ≤ w.heap.size)
    (h : Calls P f args x.val fun e w' => e = .returned v ∧ Below x.val.heap.size x.val w') : Calls P f args x.val fun e w'' => e = .returned v ∧ ∃ y : LaterW B w, w'' = y.val :=
  h.mono fun _ w' ⟨he, hb⟩ => ⟨he, ⟨w', x.bel.trans (hb.mono (by have := x.bel.size; omega))⟩, rfl⟩
theorem later_same {P : Program} {f : FuncId} {args : Array Value} {B : Nat} {w : World} {x : LaterW B w} {v : Value}
    (h : Calls P f args x.val fun e w' => e = .returned v ∧ x.val = w') : Calls P f args x.val fun e w'' => e = .returned v ∧ ∃ y : LaterW B w, w'' = y.val :=
  h.mono fun _ _ ⟨he, hb⟩ => ⟨he, x, hb.symm⟩
theorem later_cell {B : Nat} {w : World} {b o : Nat} {v : Value} (h : w.cell? ⟨b, o, Option.none⟩ = some v) (hb : b < B) : ∀ x : LaterW B w, x.val.cell? ⟨b, o, Option.none⟩ = some v :=
  fun x => (x.bel.cell (p := ⟨b, o, Option.none⟩) hb).trans h
end Go.Proofs.YtjnkdjokbamibaaDoor
