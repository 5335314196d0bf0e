/- Texts of one claim, joined: D7, W2D, C1, K, D3, E1, D4, D5, D6, D8, E2, Y2, Y9, Y10, Y11, S, Y4. -/
import Derived.Laws.OwnMore
import Derived.Laws.IdiomStrings
import Derived.Deep.Onto
import Derived.Deep.RegionLaw
import Derived.Deep.QuietTactic
import Derived.BigQuiet
import Derived.Shelf.GgClosure.Gives
import Derived.Test.YtjnkdjokbamibaaDoorShelf
import Derived.Shelf.Strings.BuilderK
import Derived.Test.YtjnkdjokbamibaaDoorP1ParseBook
/- Marks on books: each text and each signal of a book that the call has copied is overwritten. -/
namespace Go.Proofs.YtjnkdjokbamibaaDoor
open Go.RowKit
/-- The digits of a number that is not 0. -/
def decT (n : Nat) : List UInt8 := if _h : n = 0 then [] else decT (n / 10) ++ [UInt8.ofNat (48 + n % 10)]
termination_by n
decreasing_by omega
theorem decT_zero : decT 0 = [] := by rw [decT]; rfl
theorem decT_pos {n : Nat} (h : 0 < n) : decT n = decT (n / 10) ++ [UInt8.ofNat (48 + n % 10)] := by rw [decT]; rw [dif_neg (by omega)]
def markT (k : Nat) : ByteArray := ⟨(109 :: decT k).toArray⟩
theorem conv_one (z : Int) (h0 : 0 ≤ z) (h1 : z < 256) (wr : World) :
    (convert 79 9 (.slice (some ⟨wr.heap.size, 0, Option.none⟩) 1 1)).run Tryd.prog (wr.alloc (.cells #[.int .u8 z] 5)) = .ok (.string ⟨#[UInt8.ofNat z.toNat]⟩) (wr.alloc (.cells #[.int .u8 z] 5)) := by
  have hl : [UInt8.ofNat z.toNat].length = 1 := rfl
  have := run_convert_bytes_back (P := Tryd.prog) (wr.alloc (.cells #[.int .u8 z] 5)) 79 9 5 ⟨wr.heap.size, 0, Option.none⟩ 1 [UInt8.ofNat z.toNat] Tryd.underlying79 Tryd.underlying5 Tryd.underlying9 (fun j hj => by
    obtain rfl : j = 0 := by simp at hj; omega
    rw [one_cell wr (.int .u8 z) 5 0 _ rfl]
    simp
    omega)
  exact this
theorem dec_step {k j : Nat} {l : List UInt8} (hj : 0 < j) (hd : decT k = decT j ++ l) : decT k = decT (j / 10) ++ (UInt8.ofNat (48 + j % 10) :: l) := by
  rw [hd, decT_pos hj]; simp
theorem dec_bd {j n : Nat} (hn : n < 24) (h : j < 2 ^ (24 - n)) : j / 10 < 2 ^ (24 - (n + 1)) := by
  rw [show 24 - n = (24 - (n + 1)) + 1 by omega, Nat.pow_succ] at h
  omega
set_option maxRecDepth 100000 in
set_option maxHeartbeats 400000 in
theorem markText_any (k : Nat) (h1 : 1 ≤ k) (h2 : k < 16777216) (w : World) : Calls Tryd.prog 56 #[.int .i64 (k : Int)] w fun e w' => e = .returned (.string (markT k)) ∧ Below w.heap.size w w' := by
  go_enter Tryd.func56, Tryd.ntmps56
  go_wp2
  go_loopw [0, 3] (fun m out wr => ∃ (j : Nat) (l : List UInt8), m = .int .i64 (j : Int) ∧ out = .string ⟨l.toArray⟩ ∧ Hid (decT k = decT j ++ l) ∧ Hid (j < 2 ^ (24 - l.length)) ∧ l.length ≤ 24 ∧ j ≤ k ∧ Below w.heap.size w wr) (fun m _ _ => (intOf m).toNat)
  case atStart => exact ⟨k, [], rfl, rfl, by show decT k = _; simp, by show k < _; simpa using h2, by simp, Nat.le_refl _, Below.refl _ _⟩
  case round =>
    obtain ⟨j, l, rfl, rfl, hd, hb, hl, hjk, hbr⟩ := hrel
    have hs := hbr.size
    by_cases hj : 0 < j
    · have hl2 : l.length < 24 := by
        rcases Nat.lt_or_ge l.length 24 with h | h
        · exact h
        · have := hb.out; rw [show 24 - l.length = 0 by omega] at this; omega
      have hcv := fun wr' => conv_one (48 + (j : Int) % 10) (by omega) (by omega) wr'
      go_wp2
      go_roundw
      case rel => exact ⟨j / 10, UInt8.ofNat (48 + j % 10) :: l, by go_num, by simp [ByteArray.ext_iff, UInt8.ofNat_add], dec_step hj hd.out, by rw [List.length_cons]; exact dec_bd hl2 hb.out, by rw [List.length_cons]; omega, by omega, hbr.alloc hs _⟩
      case measure => simp [intOf]; omega
    · obtain rfl : j = 0 := by omega
      have HD := hd
      go_wp2
      go_ret
      refine ⟨ret_val ?_, hbr⟩
      have := HD.out
      rw [decT_zero, List.nil_append] at this
      unfold markT
      rw [this]
      simp [ByteArray.ext_iff]
/-- How many marks books take. -/
def cntB : List Phr → Nat
  | [] => 0
  | p :: r => 1 + p.2.length + cntB r
theorem cntB_at {ps : List Phr} {j : Nat} {p : Phr} (h : ps[j]? = some p) : cntB (ps.take (j + 1)) = cntB (ps.take j) + 1 + p.2.length ∧ cntB (ps.take (j + 1)) ≤ cntB ps := by
  induction ps generalizing j with
  | nil => simp at h
  | cons y r ih =>
    cases j with
    | zero => simp at h; subst h; simp [cntB]
    | succ j =>
      have := ih (j := j) (by simpa using h)
      simp only [List.take_succ_cons, cntB]
      omega
def marksB : Nat → List Phr → List Phr
  | _, [] => []
  | k, p :: r => (markT k, marks (k + 1) p.2.length) :: marksB (k + 1 + p.2.length) r
theorem marksB_len (k : Nat) (ps : List Phr) : (marksB k ps).length = ps.length := by
  induction ps generalizing k with
  | nil => rfl
  | cons p r ih => simp [marksB, ih]
theorem marksB_at {k j : Nat} {ps : List Phr} {p : Phr} (h : ps[j]? = some p) : (marksB k ps)[j]? = some (markT (k + cntB (ps.take j)), marks (k + cntB (ps.take j) + 1) p.2.length) := by
  induction ps generalizing j k with
  | nil => simp at h
  | cons y r ih =>
    cases j with
    | zero => simp at h; subst h; simp [marksB, cntB]
    | succ j =>
      simp only [marksB, List.getElem?_cons_succ, List.take_succ_cons, cntB]
      rw [ih (by simpa using h)]
      simp only [Nat.add_assoc]
def mixB (k j : Nat) (ps : List Phr) : List Phr := (marksB k ps).take j ++ ps.drop j
theorem mixB_len (k j : Nat) (ps : List Phr) : (mixB k j ps).length = ps.length := by simp [mixB, marksB_len]; omega
theorem mixB_at {k j : Nat} {ps : List Phr} {p : Phr} (h : ps[j]? = some p) : (mixB k j ps)[j]? = some p := by
  have hj := (List.getElem?_eq_some_iff.1 h).1
  unfold mixB
  rw [List.getElem?_append_right (by simp [marksB_len]; omega)]
  simp [marksB_len, show min j ps.length = j by omega, h]
theorem mixB_step {k j : Nat} {ps : List Phr} {p : Phr} (h : ps[j]? = some p) : (mixB k j ps).set j (markT (k + cntB (ps.take j)), marks (k + cntB (ps.take j) + 1) p.2.length) = mixB k (j + 1) ps := by
  have hj := (List.getElem?_eq_some_iff.1 h).1
  have hm := marksB_at (k := k) h
  unfold mixB
  have hd : ps.drop j = ps[j] :: ps.drop (j + 1) := List.drop_eq_getElem_cons hj
  have hl : j - ((marksB k ps).take j).length = 0 := by simp [marksB_len]; omega
  rw [List.set_append_right _ _ (by simp [marksB_len]; omega), take_snocN hm, hd, hl, List.set_cons_zero, List.append_assoc]
  rfl
theorem mixB_full (k : Nat) (ps : List Phr) : mixB k ps.length ps = marksB k ps := by
  unfold mixB; rw [List.drop_length, List.append_nil, List.take_of_length_le (by rw [marksB_len]; exact Nat.le_refl _)]
/-- Of what was there only blocks from lo to below hi may have turned. -/
structure KeepG (lo hi : Nat) (w w' : World) : Prop where
  os : w'.os = w.os
  tape : w'.tape = w.tape
  output : w'.output = w.output
  size : w.heap.size ≤ w'.heap.size
  block : ∀ k, k < w.heap.size → (k < lo ∨ hi ≤ k) → w'.heap[k]? = w.heap[k]?
theorem KeepG.refl (lo hi : Nat) (w : World) : KeepG lo hi w w := ⟨rfl, rfl, rfl, Nat.le_refl _, fun _ _ _ => rfl⟩
theorem KeepG.trans {lo hi : Nat} {a b c : World} (h : KeepG lo hi a b) (k : KeepG lo hi b c) : KeepG lo hi a c :=
  ⟨k.os.trans h.os, k.tape.trans h.tape, k.output.trans h.output, Nat.le_trans h.size k.size, fun i h1 h2 => (k.block i (Nat.lt_of_lt_of_le h1 h.size) h2).trans (h.block i h1 h2)⟩
theorem Keep.g {lo hi : Nat} {w w' : World} (h : Keep lo hi w w') : KeepG lo hi w w' := ⟨h.os, h.tape, h.output, Nat.le_of_eq h.size.symm, fun k _ h2 => h.block k h2⟩
theorem below_g {lo hi : Nat} {w w' : World} (h : Below w.heap.size w w') : KeepG lo hi w w' := ⟨h.os, h.tape, h.output, h.size, fun k h1 _ => h.block k h1⟩
/-- In two steps: first the blocks turn, then new ones come. -/
theorem KeepG.split {lo hi : Nat} {w w' : World} (h : KeepG lo hi w w') : ∃ m, Keep lo hi w m ∧ Below m.heap.size m w' := by
  refine ⟨{ w' with heap := w'.heap.extract 0 w.heap.size }, ⟨h.os, h.tape, h.output, ?_, fun k hk => ?_⟩, ⟨rfl, rfl, rfl, ?_, fun k hk => ?_⟩⟩
  · have := h.size; simp; omega
  · by_cases hlt : k < w.heap.size
    · rw [← h.block k hlt hk]
      show (w'.heap.extract 0 w.heap.size)[k]? = _
      rw [Array.getElem?_extract]
      have := h.size
      rw [if_pos (by omega), Nat.zero_add]
    · rw [Array.getElem?_eq_none (xs := w.heap) (by omega)]
      show (w'.heap.extract 0 w.heap.size)[k]? = _
      rw [Array.getElem?_eq_none (by simp; omega)]
  · show (w'.heap.extract 0 w.heap.size).size ≤ w'.heap.size
    simp; omega
  · show w'.heap[k]? = (w'.heap.extract 0 w.heap.size)[k]?
    have hk' : k < w.heap.size := by have h1 := h.size; simp at hk; omega
    have := h.size
    rw [Array.getElem?_extract, if_pos (by omega), Nat.zero_add]
theorem rows_far {w : World} {lo hi g : Nat} {us : List Value} {xss : List (List Int)} {cur : Array Value} {e : TypeId} {q : Nat × Nat} (h : RowsO w lo hi us xss) (hg : w.heap[g]? = some (.cells cur e q)) (he : e ≠ 3) (i : Nat) (x : Value) : RowsO (w.setCell ⟨g, i, Option.none⟩ x) lo hi us xss := by
  refine ⟨h.1, fun j u xs hu hx => ?_, h.2.2⟩
  have h1 := h.2.1 j u xs hu hx
  refine h1.only (b := some g) ((Only.refl _ _).setCell (p := ⟨g, i, Option.none⟩) rfl _) (fun g2 hg2 e2 => ?_)
  cases e2
  rcases h1.1.2 with ⟨rfl, _⟩ | ⟨g3, cap, cur3, rfl, _, hg3, _⟩
  · cases hg2
  · cases hg2
    rw [hg] at hg3
    cases hg3
    exact he rfl
theorem outer_onlyP {w w' : World} {lo n : Nat} {v u : Value} {cs : List Value} {xs : List Int} {lo' hi' : Nat} (h : w.ownsRow lo 49 2 v n cs) (hu : OwI w lo' hi' u xs) (hk : Only u.ownBlock w w') : w'.ownsRow lo 49 2 v n cs := by
  refine ⟨h.1, ?_⟩
  rcases h.2 with hn | ⟨g, cap, cur, rfl, hl, hg, rest⟩
  · exact .inl hn
  · refine .inr ⟨g, cap, cur, rfl, hl, (hk.block g (fun e => ?_)).trans hg, rest⟩
    rcases hu.1.2 with ⟨rfl, _⟩ | ⟨g2, cap2, cur2, rfl, _, hg2, _⟩
    · cases e
    · cases e
      rw [hg] at hg2
      simp at hg2
theorem zipC_set : ∀ (ts : List ByteArray) (us : List Value) (j : Nat) (t : ByteArray), (zipC ts us).set (j * 2) (.string t) = zipC (ts.set j t) us
  | [], us, j, t => by simp [zipC]
  | a :: ts, [], j, t => by cases j <;> simp [zipC]
  | a :: ts, u :: us, 0, t => by simp [zipC]
  | a :: ts, u :: us, j + 1, t => by simp only [zipC, List.set_cons_succ, show (j + 1) * 2 = j * 2 + 1 + 1 by omega, zipC_set ts us j t]
theorem markT_size {k : Nat} (h : k < 16777216) : (markT k).size ≤ 9223372036854775807 := by
  have hb : ∀ f n, n < 2 ^ f → (decT n).length ≤ f := by
    intro f
    induction f with
    | zero => intro n hn; obtain rfl : n = 0 := by simpa using hn
              rw [decT_zero]; simp
    | succ f ih =>
      intro n hn
      rcases Nat.eq_zero_or_pos n with rfl | hp
      · rw [decT_zero]; simp
      · rw [decT_pos hp, List.length_append]
        have := ih (n / 10) (by rw [Nat.pow_succ] at hn; omega)
        simp; omega
  have := hb 24 k (by simpa using h)
  show (109 :: decT k).toArray.size ≤ _
  simp; omega
set_option maxRecDepth 100000 in
set_option maxHeartbeats 1600000 in
theorem markPhraseS_any (ps : List Phr) (v : Value) (lo hi k : Nat) (w : World) (h : OwPS w lo hi v ps) (hh : hi ≤ w.heap.size) (hk1 : 1 ≤ k) (hk : k ≤ 4194304) (hsz : cntB ps ≤ 4194304) :
    Calls Tryd.prog 33 #[v, .int .i64 (k : Int)] w fun e w' => e = .returned (.int .i64 ((k + cntB ps : Nat) : Int)) ∧ OwPS w' lo hi v (marksB k ps) ∧ KeepG lo hi w w' := by
  obtain ⟨A, c, rfl, hc, hm⟩ := h.rd.form
  have H := Lib.hid h
  clear h
  go_enter Tryd.func33, Tryd.ntmps33
  go_wp2
  go_loopw [1, 5] (fun q i wr => ∃ (j : Nat), j ≤ ps.length ∧ i = .int .i64 j ∧ q = .int .i64 ((k + cntB (ps.take j) : Nat) : Int) ∧ Hid (OwPS wr lo hi (.slice A ps.length c) (mixB k j ps)) ∧ KeepG lo hi w wr) (fun _ i _ => ps.length - (intOf i).toNat)
  case atStart => exact ⟨0, Nat.zero_le _, rfl, rfl, by show OwPS _ _ _ _ _; simpa [mixB] using H.out, KeepG.refl _ _ _⟩
  case round =>
    obtain ⟨j, hj, rfl, rfl, how, hkp⟩ := hrel
    by_cases hlt : j < ps.length
    · have hx : ps[j]? = some ps[j] := by simp [hlt]
      obtain ⟨p, hp⟩ : ∃ p, p = ps[j] := ⟨_, rfl⟩
      rw [← hp] at hx
      have hcj := cntB_at hx
      have hc1 := hcj.1
      have hc2 := hcj.2
      have hs1 := hkp.size
      have HX := Lib.hid hx
      have HC := Lib.hid hc1
      have HKP := Lib.hid hkp
      have hb1 : k + cntB (ps.take j) + 1 + p.2.length ≤ 8388608 := by omega
      clear hx hp hcj hc1 hkp
      have hhr : hi ≤ wr.heap.size := by omega
      obtain ⟨us, hrows, hown, htx, hbl⟩ := how.out
      rw [mixB_len] at hown
      rcases hown.2 with ⟨_, h0⟩ | ⟨g, cap, cur, hv, hg1, hg2, _⟩
      · omega
      cases hv
      have hul : us.length = ps.length := by rw [hrows.1]; simp [sigs, mixB_len]
      obtain ⟨u, hu⟩ : ∃ u, us[j]? = some u := ⟨_, List.getElem?_eq_getElem (by omega)⟩
      have hz := zipC_at (txts (mixB k j ps)) us j p.1 u (by simp [txts, mixB_at HX.out]) hu
      have hgi : g < hi := hbl g rfl
      have HROW := Lib.hid hrows
      have HOWN := Lib.hid hown
      have HTX := Lib.hid htx
      have HG2 := Lib.hid hg2
      have HU := Lib.hid hu
      have HZ := Lib.hid hz
      have HUL := Lib.hid hul
      have HBL := Lib.hid hbl
      clear hrows hown htx hg2 hu hz how hul hbl
      go_wp2_with fail
      refine (markText_any (k + cntB (ps.take j)) (by omega) (by omega) _).mono ?_
      rintro e w1 ⟨rfl, hb2⟩
      have hown1 := owns_below HOWN.out HBL.out hb2 hhr
      have hrow1 := HROW.out.below hb2 hhr
      have hg21 := (hb2.block g (by omega)).trans HG2.out
      have hc0 := hown1.cellAt (j * 2) (by omega)
      rw [HZ.out.1] at hc0
      have hf0 := hown1.frozenAt (j * 2)
      have hc01 := hown1.cellAt (j * 2 + 1) (by omega)
      rw [HZ.out.2] at hc01
      have hst := (hown1.stored (j * 2) (.string (markT (k + cntB (ps.take j))))).1
      rw [zipC_set] at hst
      have hrow2 := rows_far hrow1 hg21 (by decide) (j * 2) (.string (markT (k + cntB (ps.take j))))
      have hru := hrow2.2.1 j u p.2 HU.out (by simp [sigs, mixB_at HX.out])
      have hkp2 : KeepG lo hi w (w1.setCell ⟨g, j * 2, Option.none⟩ (.string (markT (k + cntB (ps.take j))))) :=
        HKP.out.trans ((below_g hb2).trans ((Keep.refl lo hi w1).setCell (p := ⟨g, j * 2, Option.none⟩) hg1 hgi _).g)
      obtain ⟨AU, cu, hue, _⟩ := hru.rd.form
      subst hue
      have HST := Lib.hid hst
      have HRW2 := Lib.hid hrow2
      have HRU := Lib.hid hru
      have HKP2 := Lib.hid hkp2
      clear hown1 hrow1 hg21 hst hrow2 hru hkp2 hb2
      go_wp2_with fail
      refine (markIntS_only p.2 _ lo hi (k + cntB (ps.take j) + 1) _ HRU.out (by omega) (by omega)).mono ?_
      rintro e w3 ⟨rfl, hm3, hk3⟩
      have h1 := HRW2.out.only HU.out hk3 hm3
      have h2 := outer_onlyP HST.out HRU.out hk3
      have h3 := HKP2.out.trans (hk3.keepI HRU.out).g
      have H4 : Hid (OwPS w3 lo hi (.slice (some ⟨g, 0, Option.none⟩) ps.length c) (mixB k (j + 1) ps)) := by
        refine ⟨us, ?_, ?_, ?_, HBL.out⟩
        · rw [← mixB_step HX.out]
          have : sigs ((mixB k j ps).set j (markT (k + cntB (ps.take j)), marks (k + cntB (ps.take j) + 1) p.2.length)) = (sigs (mixB k j ps)).set j (marks (k + cntB (ps.take j) + 1) p.2.length) := by simp [sigs, List.map_set]
          rw [this]; exact h1
        · rw [← mixB_step HX.out]
          have : txts ((mixB k j ps).set j (markT (k + cntB (ps.take j)), marks (k + cntB (ps.take j) + 1) p.2.length)) = (txts (mixB k j ps)).set j (markT (k + cntB (ps.take j))) := by simp [txts, List.map_set]
          rw [this]
          simpa [mixB_len] using h2
        · rw [← mixB_step HX.out]
          intro x hx
          rcases List.mem_or_eq_of_mem_set hx with hx | rfl
          · exact HTX.out x hx
          · exact markT_size (by omega)
      have H3 := Lib.hid h3
      clear h1 h2 h3 hk3 hm3 hc0 hf0 hc01
      go_wp2
      go_roundw
      case rel => exact ⟨j + 1, by omega, by go_num, int_val (by have := HC.out; omega), H4, H3.out⟩
      case measure => simp [intOf]; omega
    · obtain rfl : j = ps.length := by omega
      have HO := how
      go_wp2
      go_ret
      exact ⟨ret_int (by rw [List.take_of_length_le (Nat.le_refl _)]), by have := HO.out; rwa [mixB_full] at this, hkp⟩
theorem markBook_g (ps : List Phr) (v : Value) (lo hi k : Nat) (w : World) (h : OwB w lo hi v ps) (hh : hi ≤ w.heap.size) (hk1 : 1 ≤ k) (hk : k ≤ 4194304) (hsz : cntB ps ≤ 4194304) :
    Calls Tryd.prog 10 #[v, .int .i64 (k : Int)] w fun e w' => e = .returned (.int .i64 ((k + cntB ps : Nat) : Int)) ∧ OwB w' lo hi v (marksB k ps) ∧ KeepG lo hi w w' := by
  obtain ⟨u, rfl, hu⟩ := h
  obtain ⟨A, c, rfl, hc, hm⟩ := hu.rd.form
  have hba : Below w.heap.size w (w.alloc (.cells #[.slice A ps.length c] 24)) := (Below.refl _ _).alloc (Nat.le_refl _) _
  have H := Lib.hid (hu.below hba hh)
  have HB := Lib.hid (below_g (lo := lo) (hi := hi) hba)
  clear hu hba
  go_enter Tryd.func10, Tryd.ntmps10
  go_wp2_with fail
  refine (markPhraseS_any ps _ lo hi k _ H.out (by simp; omega) hk1 hk hsz).mono ?_
  rintro e w2 ⟨rfl, ho2, hk2⟩
  have HO : Hid (OwB w2 lo hi (.agg #[.slice A ps.length c]) (marksB k ps)) := ⟨_, rfl, ho2⟩
  have HK := Lib.hid (HB.out.trans hk2)
  clear ho2 hk2
  go_wp2_with fail
  go_ret
  exact ⟨rfl, HO.out, HK.out⟩
end Go.Proofs.YtjnkdjokbamibaaDoor
/- Rows of phrases appended: for the seats that lack the draws. -/
namespace Go.Proofs.YtjnkdjokbamibaaDoor
open Go.RowKit
/-- The slice value u reads as xs, in memory below B, or in a block of ints. -/
def El (w : World) (B : Nat) (u : Value) (xs : List Int) : Prop :=
  RdI w w.heap.size u xs ∧ ∀ (b off n c : Nat), u = .slice (some ⟨b, off, Option.none⟩) n c → 0 < n → b < B ∨ ∃ cur fz, w.heap[b]? = some (.cells cur 3 fz)
theorem El.rd {w : World} {B : Nat} {u : Value} {xs : List Int} (h : El w B u xs) (_ : B ≤ w.heap.size) : RdI w w.heap.size u xs := h.1
theorem El.below {w w' : World} {B : Nat} {u : Value} {xs : List Int} (h : El w B u xs) (_ : B ≤ w.heap.size) (hb : Below w.heap.size w w') : El w' B u xs := by
  refine ⟨(RdI.below h.1 hb (Nat.le_refl _)).mono hb.size, fun b off n c hu hn => ?_⟩
  rcases h.2 b off n c hu hn with h2 | ⟨cur, fz, h2⟩
  · exact .inl h2
  · exact .inr ⟨cur, fz, (hb.block b (Array.getElem?_eq_some_iff.1 h2).1).trans h2⟩
/-- Blocks that are no rows of phrases stand. -/
def FrP (w w' : World) : Prop := ∀ (k : Nat) (c : Array Value) (e : TypeId) (fz : Nat × Nat), w.heap[k]? = some (.cells c e fz) → e ≠ 49 → w'.heap[k]? = some (.cells c e fz)
theorem Blk.frP {w w' : World} {g : Nat} {t : TypeId} {cs : List Value} (h : Blk w g t cs) (hf : FrP w w') (h1 : t ≠ 49) : Blk w' g t cs := hf _ _ _ _ h h1
theorem two_cells (w : World) (u v : Value) (t : TypeId) (j : Nat) (x : Value) (h : [u, v][j]? = some x) : (w.alloc (.cells #[u, v] t)).cell? ((⟨w.heap.size, 0, Option.none⟩ : Addr).add j) = some x := by
  rw [Go.WideShapes.add_plain, show (0 : Nat) + j = j by omega, (Blk.new w t #[u, v]).cell j]
  exact h
theorem OwI.frP {w w' : World} {lo hi : Nat} {v : Value} {xs : List Int} (h : OwI w lo hi v xs) (hf : FrP w w') : OwI w' lo hi v xs := by
  refine ⟨⟨h.1.1, ?_⟩, h.2⟩
  rcases h.1.2 with hn | ⟨g, cap, cur, rfl, hl, hg, rest⟩
  · exact .inl hn
  · exact .inr ⟨g, cap, cur, rfl, hl, hf _ _ _ _ hg (by decide), rest⟩
theorem RowsO.frP {w w' : World} {lo hi : Nat} {us : List Value} {xss : List (List Int)} (h : RowsO w lo hi us xss) (hf : FrP w w') : RowsO w' lo hi us xss :=
  ⟨h.1, fun i u xs hu hx => (h.2.1 i u xs hu hx).frP hf, h.2.2⟩
theorem El.frP {a w w' : World} {B : Nat} {u : Value} {xs : List Int} (h : El w B u xs) (hb : Below B a w) (hb' : Below B a w') (hs : w.heap.size ≤ w'.heap.size) (hf : FrP w w') : El w' B u xs := by
  obtain ⟨⟨h0, A, c, h1, h2, h3, h4⟩, h5⟩ := h
  refine ⟨⟨h0, A, c, h1, h2, h3, fun hn => ?_⟩, fun b off n c hu hn => ?_⟩
  · obtain ⟨b, off, hA, hbl, hc⟩ := h4 hn
    refine ⟨b, off, hA, by omega, fun j u hu => ?_⟩
    rcases h5 b off _ _ (by rw [h1, hA]) hn with h6 | ⟨cur, fz, h6⟩
    · rw [hb'.cell (p := ⟨b, off + j, Option.none⟩) h6, ← hb.cell (p := ⟨b, off + j, Option.none⟩) h6]
      exact hc j u hu
    · have h7 := hf _ _ _ _ h6 (by decide)
      rw [← hc j u hu, cell_of_row w b (off + j) cur _ fz h6, cell_of_row w' b (off + j) cur _ fz h7]
  · rcases h5 b off n c hu hn with h6 | ⟨cur, fz, h6⟩
    · exact .inl h6
    · exact .inr ⟨cur, fz, hf _ _ _ _ h6 (by decide)⟩
/-- The slice values us read as the signals of ps. -/
def Els (w : World) (B : Nat) (us : List Value) (ps : List Phr) : Prop := us.length = ps.length ∧ ∀ (i : Nat) (u : Value) (p : Phr), us[i]? = some u → ps[i]? = some p → El w B u p.2
theorem Els.nil (w : World) (B : Nat) : Els w B [] [] := ⟨rfl, fun i u p hu _ => by simp at hu⟩
theorem Els.append {w : World} {B : Nat} {us vs : List Value} {ps qs : List Phr} (h : Els w B us ps) (g : Els w B vs qs) : Els w B (us ++ vs) (ps ++ qs) := by
  refine ⟨by simp [h.1, g.1], fun i u p hu hp => ?_⟩
  rcases Nat.lt_or_ge i us.length with hi | hi
  · rw [List.getElem?_append_left hi] at hu
    rw [List.getElem?_append_left (by have := h.1; omega)] at hp
    exact h.2 i u p hu hp
  · rw [List.getElem?_append_right hi] at hu
    rw [List.getElem?_append_right (by have := h.1; omega), ← h.1] at hp
    exact g.2 _ u p hu hp
theorem Els.one {w : World} {B : Nat} {u : Value} {p : Phr} (h : El w B u p.2) : Els w B [u] [p] := by
  refine ⟨rfl, fun i u' p' hu hp => ?_⟩
  cases i with
  | zero => simp at hu hp; subst hu hp; exact h
  | succ i => simp at hu
theorem Els.frP {a w w' : World} {B : Nat} {us : List Value} {ps : List Phr} (h : Els w B us ps) (hb : Below B a w) (hb' : Below B a w') (hs : w.heap.size ≤ w'.heap.size) (hf : FrP w w') : Els w' B us ps :=
  ⟨h.1, fun i u p hu hp => (h.2 i u p hu hp).frP hb hb' hs hf⟩
theorem Els.below {w w' : World} {B : Nat} {us : List Value} {ps : List Phr} (h : Els w B us ps) (hB : B ≤ w.heap.size) (hb : Below w.heap.size w w') : Els w' B us ps :=
  ⟨h.1, fun i u p hu hp => (h.2 i u p hu hp).below hB hb⟩
/-- v is a row of phrases, appended to since the world w; below block number B nothing has turned. -/
def GrowP (w : World) (B : Nat) (wr : World) (v : Value) (ps : List Phr) : Prop :=
  (∃ us : List Value, Els wr B us ps ∧ wr.ownsRow B 49 2 v ps.length (zipC (txts ps) us)) ∧ TxtOk ps ∧ Below B w wr ∧ B ≤ wr.heap.size
theorem TxtOk.nil : TxtOk [] := fun p hp => by cases hp
theorem TxtOk.append {ps qs : List Phr} (h : TxtOk ps) (g : TxtOk qs) : TxtOk (ps ++ qs) := fun p hp => by
  rcases List.mem_append.1 hp with hp | hp
  · exact h p hp
  · exact g p hp
theorem GrowP.start (w : World) {B : Nat} (hB : B = w.heap.size) : GrowP w B w (.slice Option.none 0 0) [] := by
  subst hB
  exact ⟨⟨[], Els.nil _ _, World.ownsRow_nil _ _ _ _⟩, TxtOk.nil, Below.refl _ _, Nat.le_refl _⟩
theorem GrowP.belowR {w wr wr' : World} {B : Nat} {v : Value} {ps : List Phr} (h : GrowP w B wr v ps) (hb : Below wr.heap.size wr wr') : GrowP w B wr' v ps := by
  obtain ⟨⟨us, h1, h3⟩, h4, h5, h6⟩ := h
  exact ⟨⟨us, h1.below h6 hb, owns_below h3 (fun k hk => (h3.lt k hk).2) hb (Nat.le_refl _)⟩, h4, h5.trans (hb.mono h6), Nat.le_trans h6 hb.size⟩
theorem GrowP.alloc {w wr : World} {B : Nat} {v : Value} {ps : List Phr} (h : GrowP w B wr v ps) (o : Obj) : GrowP w B (wr.alloc o) v ps := h.belowR ((Below.refl _ _).alloc (Nat.le_refl _) _)
theorem GrowP.rd {w wr : World} {B : Nat} {v : Value} {ps : List Phr} (h : GrowP w B wr v ps) : RdPS wr wr.heap.size v ps := by
  obtain ⟨⟨us, h1, h3⟩, h4, h5, h6⟩ := h
  refine ⟨us, ⟨by simp [sigs, h1.1], fun i u xs hu hx => ?_⟩, rd_of_owns h3 (fun k hk => (h3.lt k hk).2), h4⟩
  unfold sigs at hx
  rw [List.getElem?_map] at hx
  cases hp : ps[i]? with
  | none => rw [hp] at hx; cases hx
  | some p => rw [hp] at hx; cases hx; exact (h1.2 i u p hu hp).1
theorem GrowP.form {w wr : World} {B : Nat} {v : Value} {ps : List Phr} (h : GrowP w B wr v ps) : ∃ A c, v = .slice A ps.length c ∧ ps.length ≤ 9223372036854775807 := by
  obtain ⟨A, c, hv, _, hm⟩ := h.rd.form
  exact ⟨A, c, hv, hm⟩
theorem grow_frP {wr wr1 w' : World} {B n : Nat} {v : Value} {cs : List Value} (h3 : wr.ownsRow B 49 2 v n cs) (hb : Below wr.heap.size wr wr1) (hgr : World.grownBy wr1 w' v.ownBlock) : FrP wr w' := by
  intro k c e fz hk e1
  have hlt := (Array.getElem?_eq_some_iff.1 hk).1
  rw [hgr.block k (by have := hb.size; omega) (fun hv => ?_), hb.block k hlt]
  · exact hk
  · rcases h3.2 with ⟨rfl, _⟩ | ⟨g, cap, cur, rfl, _, hg, _⟩
    · cases hv
    · cases hv
      rw [hk] at hg
      cases hg
      exact e1 rfl
/-- One phrase more behind the row. -/
theorem GrowP.app {w wr : World} {B g : Nat} {v : Value} {ps : List Phr} {t : ByteArray} {xs : List Int} {ops : Array Oper} {rest : List Oper} {o : Oper} {a : Act} {Q : Exit → Act → World → Prop} {A : Option Addr} {n c : Nat} (hgd : o.guard = Option.none) (s x : Operand)
    (ho : o.op = .call { callee := .builtin .append, args := #[s, x], argTypes := #[22, 22] }) (hG : GrowP w B wr v ps) (hu : El wr B (.slice A n c) xs) (ht : t.size ≤ 9223372036854775807) (hlen : ps.length < 1048577)
    (hs : a.eval s = v) (hg : g = wr.heap.size) (hx : a.eval x = .slice (some ⟨g, 0, Option.none⟩) 1 1)
    (h : ∀ v' w', GrowP w B w' v' (ps ++ [(t, xs)]) → FrP wr w' → wr.heap.size ≤ w'.heap.size → wpList Tryd.prog ops Q rest (a.put o.dst v') w') : wpList Tryd.prog ops Q (o :: rest) a (wr.alloc (.cells #[.string t, .slice A n c] 49)) := by
  subst hg
  obtain ⟨i, hi, hz0, hz1, hz2⟩ := info_parts info_phr
  obtain ⟨⟨us, h1, h3⟩, h2, h4, h5⟩ := hG
  refine wpList_append_own _ hgd s x 22 ho B 49 i (.agg #[.string { data := #[] }, .slice Option.none 0 0]) 2 40 Tryd.underlying22 hi hz0 hz1 hz2 rfl (by decide) v ps.length (zipC (txts ps) us) hs (h3.alloc _) ⟨wr.heap.size, 0, Option.none⟩ 1 1 [.string t, .slice A n c] hx rfl
    (two_cells _ _ _ _) (by intro u hu; simp at hu; rcases hu with rfl | rfl <;> rfl) (by unfold maxLen; omega) (by omega) (by simp; omega) ?_
  intro v' w' hown hgr _
  have hsz := hgr.size
  have hsz2 : wr.heap.size + 1 ≤ w'.heap.size := by simpa using hsz
  have hfr : FrP wr w' := grow_frP h3 ((Below.refl _ _).alloc (Nat.le_refl _) _) hgr
  have hb' : Below B w w' := (h4.alloc h5 _).grown hgr (by simp; omega) (fun k hk => ((h3.alloc (.cells #[.string t, .slice A n c] 49)).lt k hk).1)
  refine h v' w' ⟨⟨us ++ [.slice A n c], (h1.frP h4 hb' (by omega) hfr).append (Els.one (hu.frP h4 hb' (by omega) hfr)), ?_⟩, h2.append (fun p hp => by simp at hp; subst hp; exact ht), hb', by omega⟩ hfr (by omega)
  unfold txts
  rw [List.map_append, List.map_cons, List.map_nil, zipC_append _ _ _ _ (by simp [h1.1])]
  simpa [txts] using hown
/-- A row of phrases of the call's own, each with signals of its own. -/
def GrowO (w : World) (B : Nat) (wr : World) (v : Value) (ps : List Phr) : Prop :=
  (∃ us : List Value, RowsO wr B wr.heap.size us (sigs ps) ∧ wr.ownsRow B 49 2 v ps.length (zipC (txts ps) us)) ∧ TxtOk ps ∧ Below B w wr ∧ B ≤ wr.heap.size
theorem GrowO.start (w : World) {B : Nat} (hB : B = w.heap.size) : GrowO w B w (.slice Option.none 0 0) [] := by
  subst hB
  exact ⟨⟨[], RowsO.nil _ _ _, World.ownsRow_nil _ _ _ _⟩, TxtOk.nil, Below.refl _ _, Nat.le_refl _⟩
theorem GrowO.own {w wr : World} {B : Nat} {v : Value} {ps : List Phr} (h : GrowO w B wr v ps) : OwPS wr B wr.heap.size v ps := by
  obtain ⟨⟨us, h1, h3⟩, h4, h5, h6⟩ := h
  exact ⟨us, h1, h3, h4, fun k hk => (h3.lt k hk).2⟩
theorem GrowO.form {w wr : World} {B : Nat} {v : Value} {ps : List Phr} (h : GrowO w B wr v ps) : ∃ A c, v = .slice A ps.length c ∧ ps.length ≤ 9223372036854775807 := by
  obtain ⟨A, c, hv, _, hm⟩ := h.own.rd.form
  exact ⟨A, c, hv, hm⟩
/-- One phrase more, its signals made since. -/
theorem GrowO.app {w w0 wr : World} {B g : Nat} {v : Value} {ps : List Phr} {t : ByteArray} {xs : List Int} {ops : Array Oper} {rest : List Oper} {o : Oper} {a : Act} {Q : Exit → Act → World → Prop} {A : Option Addr} {n c : Nat} (hgd : o.guard = Option.none) (s x : Operand)
    (ho : o.op = .call { callee := .builtin .append, args := #[s, x], argTypes := #[22, 22] }) (hG : GrowO w B w0 v ps) (hb0 : Below w0.heap.size w0 wr) (hu : OwI wr w0.heap.size wr.heap.size (.slice A n c) xs) (ht : t.size ≤ 9223372036854775807) (hlen : ps.length < 1048577)
    (hs : a.eval s = v) (hg : g = wr.heap.size) (hx : a.eval x = .slice (some ⟨g, 0, Option.none⟩) 1 1)
    (h : ∀ v' w', GrowO w B w' v' (ps ++ [(t, xs)]) → FrP wr w' → wr.heap.size ≤ w'.heap.size → wpList Tryd.prog ops Q rest (a.put o.dst v') w') : wpList Tryd.prog ops Q (o :: rest) a (wr.alloc (.cells #[.string t, .slice A n c] 49)) := by
  subst hg
  obtain ⟨i, hi, hz0, hz1, hz2⟩ := info_parts info_phr
  obtain ⟨⟨us, h1, h3⟩, h2, h4, h5⟩ := hG
  have hs0 := hb0.size
  have h3r := owns_below h3 (fun k hk => (h3.lt k hk).2) hb0 (Nat.le_refl _)
  refine wpList_append_own _ hgd s x 22 ho B 49 i (.agg #[.string { data := #[] }, .slice Option.none 0 0]) 2 40 Tryd.underlying22 hi hz0 hz1 hz2 rfl (by decide) v ps.length (zipC (txts ps) us) hs (h3r.alloc _) ⟨wr.heap.size, 0, Option.none⟩ 1 1 [.string t, .slice A n c] hx rfl
    (two_cells _ _ _ _) (by intro u hu; simp at hu; rcases hu with rfl | rfl <;> rfl) (by unfold maxLen; omega) (by omega) (by simp; omega) ?_
  intro v' w' hown hgr _
  have hsz := hgr.size
  have hsz2 : wr.heap.size + 1 ≤ w'.heap.size := by simpa using hsz
  have hfr : FrP wr w' := grow_frP h3r ((Below.refl _ _).alloc (Nat.le_refl _) _) hgr
  have hb' : Below B w w' := ((h4.trans (hb0.mono h5)).alloc (by omega) _).grown hgr (by simp; omega) (fun k hk => ((h3r.alloc (.cells #[.string t, .slice A n c] 49)).lt k hk).1)
  refine h v' w' ⟨⟨us ++ [.slice A n c], ?_, ?_⟩, h2.append (fun p hp => by simp at hp; subst hp; exact ht), hb', by omega⟩ hfr (by omega)
  · have h6 := ((h1.below hb0 (Nat.le_refl _)).snoc hu h5 hs0).frP hfr
    have h7 := h6.mono (lo' := B) (hi' := w'.heap.size) (Nat.le_refl _) (by omega)
    simpa [sigs] using h7
  · unfold txts
    have hul : us.length = ps.length := by simpa [sigs] using h1.1
    rw [List.map_append, List.map_cons, List.map_nil, zipC_append _ _ _ _ (by simp [hul])]
    simpa [txts] using hown
theorem OwPS.far {w : World} {lo hi B : Nat} {v x : Value} {ps : List Phr} (h : OwPS w lo hi v ps) (hX : Blk w B 24 [x]) (u : Value) : OwPS (w.setCell ⟨B, 0, Option.none⟩ u) lo hi v ps := by
  obtain ⟨us, h1, h2, h3, h4⟩ := h
  refine ⟨us, rows_far h1 hX (by decide) 0 u, ⟨h2.1, ?_⟩, h3, h4⟩
  rcases h2.2 with hn | ⟨g, cap, cur, e1, hl, hg, rest⟩
  · exact .inl hn
  · refine .inr ⟨g, cap, cur, e1, hl, ?_, rest⟩
    rw [Below.heap_setCell _ _ _ _ (by show g ≠ B; rintro rfl; rw [hX] at hg; simp at hg)]
    exact hg
/-- A book of the call's own, and a bool. -/
def RetOwBT (ps : List Phr) (b : Bool) (w : World) (e : Ending) (w' : World) : Prop := ∃ u, e = .returned (.tuple #[.agg #[u], .bool b]) ∧ OwPS w' w.heap.size w'.heap.size u ps ∧ Below w.heap.size w w'
theorem owPS_nil (w : World) (lo hi : Nat) : OwPS w lo hi (.slice Option.none 0 0) [] := ⟨[], RowsO.nil _ _ _, World.ownsRow_nil _ _ _ _, TxtOk.nil, fun k hk => by cases hk⟩
theorem OwPS.mono {w : World} {lo hi lo' hi' : Nat} {v : Value} {ps : List Phr} (h : OwPS w lo hi v ps) (h1 : lo' ≤ lo) (h2 : hi ≤ hi') : OwPS w lo' hi' v ps := by
  obtain ⟨us, g1, g2, g3, g4⟩ := h
  refine ⟨us, g1.mono h1 h2, ⟨g2.1, ?_⟩, g3, fun k hk => by have := g4 k hk; omega⟩
  rcases g2.2 with hn | ⟨g, cap, cur, e1, hl, rest⟩
  · exact .inl hn
  · exact .inr ⟨g, cap, cur, e1, by omega, rest⟩
theorem growO_of {w wr : World} {B : Nat} {v : Value} {ps : List Phr} (h : OwPS wr B wr.heap.size v ps) (hb : Below B w wr) (hB : B ≤ wr.heap.size) : GrowO w B wr v ps := by
  obtain ⟨us, h1, h2, h3, _⟩ := h
  exact ⟨⟨us, h1, h2⟩, h3, hb, hB⟩
theorem GrowO.belowR {w wr wr' : World} {B : Nat} {v : Value} {ps : List Phr} (h : GrowO w B wr v ps) (hb : Below wr.heap.size wr wr') : GrowO w B wr' v ps :=
  growO_of ((h.own.below hb (Nat.le_refl _)).mono (Nat.le_refl _) hb.size) (h.2.2.1.trans (hb.mono h.2.2.2)) (Nat.le_trans h.2.2.2 hb.size)
theorem GrowO.far {w wr : World} {B L : Nat} {v x : Value} {ps : List Phr} (h : GrowO w B wr v ps) (hX : Blk wr L 24 [x]) (hL : B ≤ L) (u : Value) : GrowO w B (wr.setCell ⟨L, 0, Option.none⟩ u) v ps := by
  have h1 := h.own.far hX u
  have hs : (wr.setCell ⟨L, 0, Option.none⟩ u).heap.size = wr.heap.size := by simp [World.setCell]
  exact growO_of (by rw [hs]; exact h1) (h.2.2.1.setCell hL u) (by rw [hs]; exact h.2.2.2)
end Go.Proofs.YtjnkdjokbamibaaDoor
/- Contracts of the comparisons of lists and of their beginnings, of the program and of the reference. -/
namespace Go.Proofs.YtjnkdjokbamibaaDoor
open Go.RowKit
/-- A slice cut off at its end. -/
theorem Rd.cut {w : World} {hi n c : Nat} {A : Option Addr} {xs : List Value} (h : Rd w hi 1 (.slice A n c) n xs) {k : Nat} (hk : k ≤ n) : Rd w hi 1 (.slice A k c) k (xs.take k) := by
  obtain ⟨h0, A', c', hv, h1, h2, h3⟩ := h
  cases hv
  refine ⟨by rw [List.length_take]; omega, A, c, rfl, by omega, h2, fun hp => ?_⟩
  obtain ⟨b, off, hA, hb, hc⟩ := h3 (by omega)
  refine ⟨b, off, hA, hb, fun j u hu => hc j u ?_⟩
  rw [List.getElem?_take] at hu
  split at hu
  · exact hu
  · cases hu
theorem RdI.cut {w : World} {hi c : Nat} {A : Option Addr} {xs : List Int} (h : RdI w hi (.slice A xs.length c) xs) {k : Nat} (hk : k ≤ xs.length) : RdI w hi (.slice A k c) (xs.take k) := by
  have h1 := Rd.cut h hk
  have hl : (xs.take k).length = k := by rw [List.length_take]; omega
  unfold RdI
  rw [hl]
  simpa [ints] using h1
set_option maxHeartbeats 400000 in
theorem l1Same_any (xs ys : List Int) (v u : Value) (hi hj : Nat) (w : World) (h : RdI w hi v xs) (g : RdI w hj u ys) : Calls Tryd.prog 66 #[v, u] w fun e w' => e = .returned (.bool (decide (xs = ys))) ∧ ∃ n, w' = w.drewN n := by
  obtain ⟨A, c, rfl, hc, hm⟩ := Rd.form h
  obtain ⟨A', c', rfl, hc', hm'⟩ := Rd.form g
  have H := Lib.hid h
  have G := Lib.hid g
  clear h g
  by_cases hl : xs.length = ys.length
  · have HL := Lib.hid hl
    rw [← hl]
    rw [← hl] at hc' hm'
    clear hl
    go_enter Tryd.func66, Tryd.ntmps66
    go_wp2
    go_loopw [13] (fun i wr => ∃ k : Nat, k ≤ xs.length ∧ i = .int .i64 k ∧ Hid (xs.take k = ys.take k) ∧ ∃ n, wr = w.drewN n) (fun i _ => xs.length - (intOf i).toNat)
    case atStart => exact ⟨0, Nat.zero_le _, rfl, rfl, 0, rfl⟩
    case round =>
      obtain ⟨k, hk, rfl, heq, n, rfl⟩ := hrel
      by_cases hlt : k < xs.length
      · obtain ⟨b1, o1, c1, x, hv, _, hx, hcell1⟩ := Rd.at_ H.out hlt
        cases hv
        obtain ⟨b2, o2, c2, y, hv, _, hy, hcell2⟩ := Rd.at_ G.out (by rw [← HL.out]; exact hlt)
        have HX := Lib.hid hx
        have HY := Lib.hid hy
        injection hv with hv1 hv2 hv3
        subst hv1
        clear hx hy hv2 hv3
        by_cases hxy : x = y
        · subst hxy
          go_wp2
          go_quiet (fail)
          go_wp2
          go_roundw
          case rel => exact ⟨k + 1, by omega, by go_num, eq_take HX.out HY.out heq.out, _, rfl⟩
          case measure => simp [intOf]; omega
        · have hbe : (x == y) = false := by simpa using hxy
          have hbn : (x != y) = true := by simpa using hxy
          go_wp2
          go_quiet (fail)
          go_wp2
          go_ret
          exact ⟨ret_bool (eq_no HX.out HY.out hxy).symm, _, World.drewN_drewN _ _ _⟩
      · go_wp2
        go_ret
        exact ⟨ret_bool (eq_full hlt HL.out heq.out).symm, _, rfl⟩
  · have hne : (((xs.length : Nat) : Int) != ((ys.length : Nat) : Int)) = true := by rw [bne_iff_ne]; omega
    go_enter Tryd.func66, Tryd.ntmps66
    go_wp2
    go_ret
    refine ⟨ret_bool ?_, 0, rfl⟩
    symm; rw [decide_eq_false_iff_not]; rintro rfl; exact hl rfl
set_option maxHeartbeats 400000 in
theorem slicesEqual_any (xs ys : List Int) (v u : Value) (hi hj : Nat) (w : World) (h : RdI w hi v xs) (g : RdI w hj u ys) : Calls Tryd.prog 74 #[v, u] w fun e w' => e = .returned (.bool (decide (xs = ys))) ∧ ∃ n, w' = w.drewN n := by
  obtain ⟨A, c, rfl, hc, hm⟩ := Rd.form h
  obtain ⟨A', c', rfl, hc', hm'⟩ := Rd.form g
  have H := Lib.hid h
  have G := Lib.hid g
  clear h g
  by_cases hl : xs.length = ys.length
  · have HL := Lib.hid hl
    rw [← hl]
    rw [← hl] at hc' hm'
    clear hl
    go_enter Tryd.func74, Tryd.ntmps74
    go_wp2
    go_loopw [13] (fun i wr => ∃ k : Nat, k ≤ xs.length ∧ i = .int .i64 k ∧ Hid (xs.take k = ys.take k) ∧ ∃ n, wr = w.drewN n) (fun i _ => xs.length - (intOf i).toNat)
    case atStart => exact ⟨0, Nat.zero_le _, rfl, rfl, 0, rfl⟩
    case round =>
      obtain ⟨k, hk, rfl, heq, n, rfl⟩ := hrel
      by_cases hlt : k < xs.length
      · obtain ⟨b1, o1, c1, x, hv, _, hx, hcell1⟩ := Rd.at_ H.out hlt
        cases hv
        obtain ⟨b2, o2, c2, y, hv, _, hy, hcell2⟩ := Rd.at_ G.out (by rw [← HL.out]; exact hlt)
        have HX := Lib.hid hx
        have HY := Lib.hid hy
        injection hv with hv1 hv2 hv3
        subst hv1
        clear hx hy hv2 hv3
        by_cases hxy : x = y
        · subst hxy
          go_wp2
          go_quiet (fail)
          go_wp2
          go_roundw
          case rel => exact ⟨k + 1, by omega, by go_num, eq_take HX.out HY.out heq.out, _, rfl⟩
          case measure => simp [intOf]; omega
        · have hbe : (x == y) = false := by simpa using hxy
          have hbn : (x != y) = true := by simpa using hxy
          go_wp2
          go_quiet (fail)
          go_wp2
          go_ret
          exact ⟨ret_bool (eq_no HX.out HY.out hxy).symm, _, World.drewN_drewN _ _ _⟩
      · go_wp2
        go_ret
        exact ⟨ret_bool (eq_full hlt HL.out heq.out).symm, _, rfl⟩
  · have hne : (((xs.length : Nat) : Int) != ((ys.length : Nat) : Int)) = true := by rw [bne_iff_ne]; omega
    go_enter Tryd.func74, Tryd.ntmps74
    go_wp2
    go_ret
    refine ⟨ret_bool ?_, 0, rfl⟩
    symm; rw [decide_eq_false_iff_not]; rintro rfl; exact hl rfl
end Go.Proofs.YtjnkdjokbamibaaDoor
/- A drawn region whose operations only read old memory and whose calls may lay new memory: one walk in the order of the text serves every order. Facts on worlds that came later. -/
namespace Go.Proofs.YtjnkdjokbamibaaDoor
open Go Go.RowKit
/-- A world in which all below block B is as in w. -/
structure LaterW (B : Nat) (w : World) where
  val : World
  bel : Below B w val
instance laterSome {B : Nat} {w : World} : Nonempty (LaterW B w) := ⟨⟨w, Below.refl _ _⟩⟩
theorem wp_region_later {P : Program} {id : Nat} {Q : Exit → Act → World → Prop} {a : Act} {w : World} {l : List Oper} (B : Nat) (hm : P.follows .mixedOrders = true) (hB : Region.lexB .any l.toArray = true)
    (h : wpQuiet P l.toArray (fun w' => ∃ x : LaterW B w, w' = x.val) (fun a' => ∀ w', (∃ x : LaterW B w, w' = x.val) → Q .normal a' w') l a) : (Code.region id l.toArray true).wp P Q a w :=
  wp_region_quiet (C := fun w' => ∃ x : LaterW B w, w' = x.val) hm hB ⟨⟨_, bel_drewN B w 1⟩, rfl⟩ (by simpa using h)
theorem later_nil {P : Program} {ops : Array Oper} {C : World → Prop} {B : Nat} {w : World} {a : Act} {Q : Act → World → Prop}
    (h : ∀ w', Below B w w' → Q a w') : wpQuiet P ops C (fun a' => ∀ w', (∃ x : LaterW B w, w' = x.val) → Q a' w') [] a :=
  wpQuiet_nil fun _ ⟨x, e⟩ => e ▸ h _ x.bel
theorem later_of {P : Program} {f : FuncId} {args : Array Value} {B : Nat} {w : World} {x : LaterW B w} {v : Value} (hB : B ≤ w.heap.size)
    (h : Calls P f args x.val fun e w' => e = .returned v ∧ Below x.val.heap.size x.val w') : Calls P f args x.val fun e w'' => e = .returned v ∧ ∃ y : LaterW B w, w'' = y.val :=
  h.mono fun _ w' ⟨he, hb⟩ => ⟨he, ⟨w', x.bel.trans (hb.mono (by have := x.bel.size; omega))⟩, rfl⟩
theorem later_same {P : Program} {f : FuncId} {args : Array Value} {B : Nat} {w : World} {x : LaterW B w} {v : Value}
    (h : Calls P f args x.val fun e w' => e = .returned v ∧ x.val = w') : Calls P f args x.val fun e w'' => e = .returned v ∧ ∃ y : LaterW B w, w'' = y.val :=
  h.mono fun _ _ ⟨he, hb⟩ => ⟨he, x, hb.symm⟩
theorem later_cell {B : Nat} {w : World} {b o : Nat} {v : Value} (h : w.cell? ⟨b, o, Option.none⟩ = some v) (hb : b < B) : ∀ x : LaterW B w, x.val.cell? ⟨b, o, Option.none⟩ = some v :=
  fun x => (x.bel.cell (p := ⟨b, o, Option.none⟩) hb).trans h
end Go.Proofs.YtjnkdjokbamibaaDoor
/- Contracts of the tests whether a book is valid, of the reference. -/
namespace Go.Proofs.YtjnkdjokbamibaaDoor
open Go.RowKit
def sigOk (xs : List Int) : Bool := inB xs.length 1 3 && allB xs 1 60
theorem bkSignals_any (xs : List Int) (v : Value) (hi : Nat) (w : World) (h : RdI w hi v xs) : Calls Tryd.prog 45 #[v] w fun e w' => e = .returned (.bool (sigOk xs)) ∧ w = w' := by
  obtain ⟨A, c, hv, hc, hm⟩ := Rd.form h
  have H := Lib.hid h
  clear h
  unfold sigOk
  cases hl : inB xs.length 1 3
  · rw [Bool.false_and]
    subst hv
    go_enter Tryd.func45, Tryd.ntmps45
    go_wp2_with (first | (go_at_call 43; refine (l1In_any _ _ _ _).mono ?_; rintro e w' ⟨rfl, rfl⟩) | (go_at_call 57; refine (l1All_any xs _ _ _ hi _ H.out).mono ?_; rintro e w' ⟨rfl, rfl⟩))
    go_ret
    exact ⟨rfl, rfl⟩
  · rw [Bool.true_and]
    subst hv
    go_enter Tryd.func45, Tryd.ntmps45
    go_wp2_with (first | (go_at_call 43; refine (l1In_any _ _ _ _).mono ?_; rintro e w' ⟨rfl, rfl⟩) | (go_at_call 57; refine (l1All_any xs _ _ _ hi _ H.out).mono ?_; rintro e w' ⟨rfl, rfl⟩))
    go_ret
    exact ⟨rfl, rfl⟩
/-- The place of the phrase with some signals. -/
def sigIx (ps : List Phr) (xs : List Int) : Option Nat := ps.findIdx? fun p => decide (p.2 = xs)
def ixI : Option Nat → Int
  | some i => (i : Int)
  | Option.none => -1
theorem findIdx_take {α : Type} {f : α → Bool} {l : List α} {k : Nat} (h : ∀ j, j < k → ∀ x, l[j]? = some x → f x = false) {x : α} (hx : l[k]? = some x) (hf : f x = true) : l.findIdx? f = some k := by
  induction l generalizing k with
  | nil => simp at hx
  | cons a r ih =>
    rw [List.findIdx?_cons]
    cases k with
    | zero => simp at hx; subst hx; rw [hf]; rfl
    | succ k =>
      have ha : f a = false := h 0 (by omega) a rfl
      rw [ha]
      have := ih (k := k) (fun j hj x hx => h (j + 1) (by omega) x (by simpa using hx)) (by simpa using hx)
      rw [this]; rfl
theorem findIdx_none {α : Type} {f : α → Bool} {l : List α} (h : ∀ (j : Nat) (x : α), l[j]? = some x → f x = false) : l.findIdx? f = Option.none := by
  rw [List.findIdx?_eq_none_iff]
  intro x hx
  obtain ⟨j, hj⟩ := List.getElem?_of_mem hx
  exact h j x hj
set_option maxHeartbeats 800000 in
theorem bkOf_any (ps : List Phr) (xs : List Int) (v u : Value) (hi hj : Nat) (w : World) (h : RdB w hi v ps) (g : RdI w hj u xs) (hh : hi ≤ w.heap.size) (hg : hj ≤ w.heap.size) :
    Calls Tryd.prog 46 #[v, u] w fun e w' => e = .returned (.int .i64 (ixI (sigIx ps xs))) ∧ Below w.heap.size w w' := by
  obtain ⟨a, rfl, ha⟩ := h
  obtain ⟨A, c, rfl, hc, hm⟩ := ha.form
  have hba : Below w.heap.size w (w.alloc (.cells #[.slice A ps.length c] 24)) := (Below.refl _ _).alloc (Nat.le_refl _) _
  have H := Lib.hid ha
  have G := Lib.hid g
  clear ha g
  go_enter Tryd.func46, Tryd.ntmps46
  go_wp2_with fail
  go_loopw [10] (fun i wr => ∃ k : Nat, k ≤ ps.length ∧ i = .int .i64 k ∧ Hid (∀ j, j < k → ∀ x, ps[j]? = some x → decide (x.2 = xs) = false) ∧ Below w.heap.size w wr) (fun i _ => ps.length - (intOf i).toNat)
  case atStart => exact ⟨0, Nat.zero_le _, rfl, fun j hj => by omega, hba⟩
  case round =>
    obtain ⟨k, hk, rfl, hno, hbr⟩ := hrel
    by_cases hlt : k < ps.length
    · obtain ⟨b1, o1, c1, a, t, ys, hv, hb1, hx, hcell1, hcell2, hra, hta⟩ := (H.out.below hbr hh).at_ hlt
      cases hv
      obtain ⟨A2, c2, rfl, hc2, hm2⟩ := Rd.form hra
      have hs := hbr.size
      have hb2 : Below w.heap.size w (wr.alloc (.cells #[.string t, .slice A2 ys.length c2] 49)) := hbr.alloc hs _
      have HA := Lib.hid (hra.below ((Below.refl wr.heap.size wr).alloc (Nat.le_refl _) (.cells #[.string t, .slice A2 ys.length c2] 49)) (by omega))
      have HX := Lib.hid hx
      clear hra hx
      by_cases hys : ys = xs
      · have HYS := Lib.hid hys
        clear hys
        go_wp2_with fail
        refine (l1Same_any ys xs _ _ hi hj _ HA.out (Rd.below G.out hb2 hg)).mono ?_
        rw [decide_eq_true HYS.out]
        rintro e w' ⟨rfl, n, rfl⟩
        go_wp2_with fail
        go_ret
        refine ⟨ret_int ?_, hb2.trans (bel_drewN _ _ _)⟩
        unfold sigIx
        rw [findIdx_take (fun j hj x hx => hno.out j hj x hx) HX.out (decide_eq_true HYS.out)]
        rfl
      · have HYS : Hid (decide (ys = xs) = false) := decide_eq_false hys
        clear hys
        go_wp2_with fail
        refine (l1Same_any ys xs _ _ hi hj _ HA.out (Rd.below G.out hb2 hg)).mono ?_
        rw [HYS.out]
        rintro e w' ⟨rfl, n, rfl⟩
        go_wp2_with fail
        go_roundw
        case rel => exact ⟨k + 1, by omega, by go_num, fun j hj x hx => by
          by_cases e : j = k
          · subst e; rw [HX.out] at hx; cases hx; exact HYS.out
          · exact hno.out j (by omega) x hx, hb2.trans (bel_drewN _ _ _)⟩
        case measure => simp [intOf]; omega
    · obtain rfl : k = ps.length := by omega
      go_wp2_with fail
      go_ret
      refine ⟨ret_int ?_, hbr⟩
      unfold sigIx
      rw [findIdx_none (fun j x hx => hno.out j (List.getElem?_eq_some_iff.1 hx).1 x hx)]
      rfl
def ltT (a b : ByteArray) : Bool := Op.bytesLess a.toList b.toList
def phrOk (p : Phr) : Bool := phraseB p.1.data.toList && sigOk p.2
/-- Is the phrase at j fine, and fine behind those before it? -/
def goodAt (ps : List Phr) (j : Nat) : Bool := match ps[j]? with
  | some p => phrOk p && ((match j with | 0 => true | i + 1 => match ps[i]? with | some q => ltT q.1 p.1 | Option.none => true) && (sigIx ps p.2 == some j))
  | Option.none => true
def goodB (ps : List Phr) : Bool := (List.range ps.length).all fun j => goodAt ps j
def bookB (ps : List Phr) : Bool := inB ps.length 1 40 && goodB ps
theorem goodB_no {ps : List Phr} {k : Nat} (hk : k < ps.length) (h : goodAt ps k = false) : goodB ps = false := by
  unfold goodB; rw [List.all_eq_false]; exact ⟨k, List.mem_range.2 hk, by simp [h]⟩
theorem goodB_yes {ps : List Phr} (h : ∀ j, j < ps.length → goodAt ps j = true) : goodB ps = true := by
  unfold goodB; rw [List.all_eq_true]; intro j hj; exact h j (List.mem_range.1 hj)
theorem goodAt_phr {ps : List Phr} {k : Nat} {p : Phr} (hp : ps[k]? = some p) (h : phrOk p = false) : goodAt ps k = false := by unfold goodAt; rw [hp]; simp [h]
theorem goodAt_lt {ps : List Phr} {k : Nat} {p q : Phr} (hp : ps[k + 1]? = some p) (hq : ps[k]? = some q) (h : ltT q.1 p.1 = false) : goodAt ps (k + 1) = false := by unfold goodAt; rw [hp]; simp [hq, h]
theorem goodAt_ix {ps : List Phr} {k : Nat} {p : Phr} (hp : ps[k]? = some p) (h : sigIx ps p.2 ≠ some k) : goodAt ps k = false := by unfold goodAt; rw [hp]; simp [h]
theorem goodAt_0 {ps : List Phr} {p : Phr} (hp : ps[0]? = some p) (h : phrOk p = true) (h2 : sigIx ps p.2 = some 0) : goodAt ps 0 = true := by unfold goodAt; rw [hp]; simp [h, h2]
theorem goodAt_s {ps : List Phr} {k : Nat} {p q : Phr} (hp : ps[k + 1]? = some p) (hq : ps[k]? = some q) (h : phrOk p = true) (h1 : ltT q.1 p.1 = true) (h2 : sigIx ps p.2 = some (k + 1)) : goodAt ps (k + 1) = true := by unfold goodAt; rw [hp]; simp [h, h1, h2, hq]
theorem ixI_ne {o : Option Nat} {k : Nat} (h : o ≠ some k) : (ixI o != (k : Int)) = true := by
  rw [bne_iff_ne]; intro e; apply h
  cases o with
  | none => simp only [ixI] at e; omega
  | some i => simp only [ixI] at e; congr 1; omega
theorem ixI_eq {o : Option Nat} {k : Nat} (h : o = some k) : (ixI o != (k : Int)) = false := by subst h; simp [ixI]
end Go.Proofs.YtjnkdjokbamibaaDoor
/- Plain laws: the tables of how many ways there are from each place on; their bounds. -/
namespace Go.Proofs.YtjnkdjokbamibaaDoor
/-- Phrases that fit at one place have lengths of their own. -/
def Apart (fit : Phr → Bool) (len : Phr → Nat) (r : Nat) (ps : List Phr) : Prop :=
  ps.Pairwise (fun p q => fit p = true → fit q = true → len p ≠ len q) ∧ ∀ p ∈ ps, fit p = true → 1 ≤ len p ∧ len p ≤ r
theorem Apart.take {fit : Phr → Bool} {len : Phr → Nat} {r : Nat} {ps : List Phr} (h : Apart fit len r ps) (j : Nat) : Apart fit len r (ps.take j) :=
  ⟨h.1.sublist (List.take_sublist j ps), fun p hp => h.2 p (List.mem_of_mem_take hp)⟩
end Go.Proofs.YtjnkdjokbamibaaDoor
/- Contracts of the tests whether a book is valid, of the reference. -/
namespace Go.Proofs.YtjnkdjokbamibaaDoor
open Go.RowKit
theorem bookB_no {ps : List Phr} {k : Nat} (hk : k < ps.length) (h : goodAt ps k = false) : bookB ps = false := by unfold bookB; rw [goodB_no hk h, Bool.and_false]
set_option maxRecDepth 100000 in
set_option maxHeartbeats 4000000 in
theorem bkGood_any (ps : List Phr) (v : Value) (hi : Nat) (w : World) (h : RdB w hi v ps) (hh : hi ≤ w.heap.size) :
    Calls Tryd.prog 26 #[v] w fun e w' => e = .returned (.bool (bookB ps)) ∧ Below w.heap.size w w' := by
  obtain ⟨a, rfl, ha⟩ := h
  obtain ⟨A, c, rfl, hc, hm⟩ := ha.form
  have hba : Below w.heap.size w (w.alloc (.cells #[.slice A ps.length c] 24)) := (Below.refl _ _).alloc (Nat.le_refl _) _
  have HBA := Lib.hid hba
  have H := Lib.hid (ha.below hba hh)
  have hbox : (w.alloc (.cells #[.slice A ps.length c] 24)).cell? ⟨w.heap.size, 0, Option.none⟩ = some (.slice A ps.length c) := (Blk.new w 24 #[.slice A ps.length c]).cell 0
  have HBOX := Lib.hid hbox
  clear ha hba hbox
  go_enter Tryd.func26, Tryd.ntmps26
  go_wp2_with fail
  go_loopw [8] (fun i wr => ∃ k : Nat, k ≤ ps.length ∧ i = .int .i64 k ∧ Hid (∀ j, j < k → goodAt ps j = true) ∧ Below (w.heap.size + 1) (w.alloc (.cells #[.slice A ps.length c] 24)) wr) (fun i _ => ps.length - (intOf i).toNat)
  case atStart => exact ⟨0, Nat.zero_le _, rfl, fun j hj => by omega, Below.refl _ _⟩
  case round =>
    obtain ⟨k, hk, rfl, hup, hbr⟩ := hrel
    have hs : w.heap.size + 1 ≤ wr.heap.size := by have := hbr.size; simpa using this
    have hboxr : wr.cell? ⟨w.heap.size, 0, Option.none⟩ = some (.slice A ps.length c) := (hbr.cell (p := ⟨w.heap.size, 0, Option.none⟩) (by show w.heap.size < _; omega)).trans HBOX.out
    by_cases hlt : k < ps.length
    · obtain ⟨b1, o1, c1, a, t, xs, hv, hb1, hx, hcell1, hcell2, hra, hta⟩ := (H.out.below hbr (by omega)).at_ hlt
      cases hv
      obtain ⟨A2, c2, rfl, hc2, hm2⟩ := Rd.form hra
      have HX := Lib.hid hx
      have HBR := Lib.hid (HBA.out.trans (hbr.mono (by omega)))
      have hbw1 : Below (w.heap.size + 1) (w.alloc (.cells #[.slice (some ⟨b1, o1, Option.none⟩) ps.length c] 24)) (wr.alloc (.cells #[.string t, .slice A2 xs.length c2] 49)) := hbr.alloc hs _
      have HBR2 := Lib.hid hbw1
      have hra2 := hra.below ((Below.refl wr.heap.size wr).alloc (Nat.le_refl _) (.cells #[.string t, .slice A2 xs.length c2] 49)) (by omega)
      have HRA := Lib.hid hra2
      have HPS : Hid (RdB (wr.alloc (.cells #[.string t, .slice A2 xs.length c2] 49)) hi (.agg #[.slice (some ⟨b1, o1, Option.none⟩) ps.length c]) ps) := ⟨_, rfl, H.out.below hbw1 (by omega)⟩
      have HPQ : Hid (RdPS (wr.alloc (.cells #[.string t, .slice A2 xs.length c2] 49)) hi (.slice (some ⟨b1, o1, Option.none⟩) ps.length c) ps) := H.out.below hbw1 (by omega)
      have hlat := fun {b o : Nat} {u : Value} (hq : (wr.alloc (.cells #[.string t, .slice A2 xs.length c2] 49)).cell? ⟨b, o, Option.none⟩ = some u) (hb : b < wr.heap.size + 1) => later_cell (B := wr.heap.size + 1) hq hb
      have l0 := hlat ((Blk.new wr 49 #[.string t, .slice A2 xs.length c2]).cell 0) (by omega)
      have l1 := hlat ((Blk.new wr 49 #[.string t, .slice A2 xs.length c2]).cell 1) (by omega)
      have lb := hlat ((hbw1.cell (p := ⟨w.heap.size, 0, Option.none⟩) (by show w.heap.size < _; omega)).trans HBOX.out) (by omega)
      clear hlat hra hra2 hx hbw1 hbr hboxr
      have hxs : wr.heap.size + 1 ≤ (wr.alloc (.cells #[.string t, .slice A2 xs.length c2] 49)).heap.size := by simp
      have HXS := Lib.hid hxs
      clear hxs
      have cT := fun x : LaterW (wr.heap.size + 1) (wr.alloc (.cells #[.string t, .slice A2 xs.length c2] 49)) => bkPhraseText_any t (by unfold maxLen; omega) x.val
      have cS := fun x : LaterW (wr.heap.size + 1) (wr.alloc (.cells #[.string t, .slice A2 xs.length c2] 49)) => bkSignals_any xs (.slice A2 xs.length c2) hi x.val (HRA.out.below x.bel (by omega))
      have cO := fun x : LaterW (wr.heap.size + 1) (wr.alloc (.cells #[.string t, .slice A2 xs.length c2] 49)) => bkOf_any ps xs (.agg #[.slice (some ⟨b1, o1, Option.none⟩) ps.length c]) (.slice A2 xs.length c2) hi hi x.val (HPS.out.below x.bel (by omega)) (HRA.out.below x.bel (by omega)) (by have := x.bel.size; have := HXS.out; omega) (by have := x.bel.size; have := HXS.out; omega)
      cases hp1 : phraseB t.data.toList
      · rw [hp1] at cT
        have CT := Lib.hid cT
        clear cT cS cO
        go_wp2_with fail
        refine wp_region_later (wr.heap.size + 1) (by kernel_rfl) (by kernel_rfl) ?_; (repeat (go_big_quiet_step ((go_at_call 44; exact later_same (CT.out _))))); refine later_nil ?_; intro w2 hb2
        go_wp2_with fail
        go_ret
        exact ⟨ret_bool (bookB_no hlt (goodAt_phr HX.out (by unfold phrOk; rw [hp1]; rfl))).symm, (HBA.out.trans (HBR2.out.mono (by omega))).trans (hb2.mono (by omega))⟩
      · cases hp2 : sigOk xs
        · rw [hp1] at cT
          rw [hp2] at cS
          have CT := Lib.hid cT
          have CS := Lib.hid cS
          clear cT cS cO
          go_wp2_with fail
          refine wp_region_later (wr.heap.size + 1) (by kernel_rfl) (by kernel_rfl) ?_; (repeat (go_big_quiet_step ((first | (go_at_call 44; exact later_same (CT.out _)) | (go_at_call 45; exact later_same (CS.out _)))))); refine later_nil ?_; intro w2 hb2
          go_wp2_with fail
          go_ret
          exact ⟨ret_bool (bookB_no hlt (goodAt_phr HX.out (by unfold phrOk; rw [hp1, hp2]; rfl))).symm, (HBA.out.trans (HBR2.out.mono (by omega))).trans (hb2.mono (by omega))⟩
        · have HP : Hid (phrOk (t, xs) = true) := by show phrOk (t, xs) = true; unfold phrOk; rw [hp1, hp2]; rfl
          rw [hp1] at cT
          rw [hp2] at cS
          have CT := Lib.hid cT
          have CS := Lib.hid cS
          have CO := Lib.hid cO
          clear cT cS cO
          rcases Nat.eq_zero_or_pos k with h0 | hpos
          · have hk0 : decide (0 < k) = false := by rw [decide_eq_false_iff_not]; omega
            have H0 := Lib.hid h0
            clear h0
            by_cases hix : sigIx ps xs = some k
            · have hne := ixI_eq hix
              have HIX := Lib.hid hix
              clear hix
              go_wp2_with fail
              refine wp_region_later (wr.heap.size + 1) (by kernel_rfl) (by kernel_rfl) ?_; (repeat (go_big_quiet_step ((first | (go_at_call 44; exact later_same (CT.out _)) | (go_at_call 45; exact later_same (CS.out _)) | (go_at_call 46; exact later_of (HXS.out) (CO.out _)))))); refine later_nil ?_; intro w2 hb2
              go_wp2_with fail
              go_roundw
              case rel => exact ⟨k + 1, by omega, by go_num, fun j hj => by
                obtain rfl : k = 0 := H0.out
                obtain rfl : j = 0 := by omega
                exact goodAt_0 HX.out HP.out HIX.out, HBR2.out.trans (hb2.mono (by omega))⟩
              case measure => simp [intOf]; omega
            · have hne := ixI_ne hix
              go_wp2_with fail
              refine wp_region_later (wr.heap.size + 1) (by kernel_rfl) (by kernel_rfl) ?_; (repeat (go_big_quiet_step ((first | (go_at_call 44; exact later_same (CT.out _)) | (go_at_call 45; exact later_same (CS.out _)) | (go_at_call 46; exact later_of (HXS.out) (CO.out _)))))); refine later_nil ?_; intro w2 hb2
              go_wp2_with fail
              go_ret
              exact ⟨ret_bool (bookB_no hlt (goodAt_ix HX.out hix)).symm, (HBA.out.trans (HBR2.out.mono (by omega))).trans (hb2.mono (by omega))⟩
          · have hk0 : decide (0 < k) = true := by rw [decide_eq_true_eq]; omega
            obtain ⟨b3, o3, c3, a3, q, ys, hv, hb3, hq, hcq, _, _, hqs⟩ := (HPQ.out).at_ (show k - 1 < ps.length by omega)
            cases hv
            have lq := later_cell (B := wr.heap.size + 1) hcq (by omega)
            have hi1 : (0 : Int) ≤ (k : Int) - 1 := by omega
            have hi2 : (k : Int) - 1 < (ps.length : Int) := by omega
            have hi3 : ((k : Int) - 1).toNat = k - 1 := by omega
            have HQ : Hid (ps[k - 1]? = some (q, ys)) := hq
            clear hq hcq
            have HK : Hid (∃ m, k = m + 1) := ⟨k - 1, by omega⟩
            cases hlt2 : ltT q t
            · have hl1 : Op.bytesLess q.toList t.toList = false := hlt2
              go_wp2_with fail
              refine wp_region_later (wr.heap.size + 1) (by kernel_rfl) (by kernel_rfl) ?_; (repeat (go_big_quiet_step ((first | (go_at_call 44; exact later_same (CT.out _)) | (go_at_call 45; exact later_same (CS.out _)) | (go_at_call 46; exact later_of (HXS.out) (CO.out _)))))); refine later_nil ?_; intro w2 hb2
              go_wp2_with fail
              go_ret
              refine ⟨ret_bool ?_, (HBA.out.trans (HBR2.out.mono (by omega))).trans (hb2.mono (by omega))⟩
              obtain ⟨m, rfl⟩ := HK.out
              exact (bookB_no hlt (goodAt_lt HX.out HQ.out hlt2)).symm
            · have hl1 : Op.bytesLess q.toList t.toList = true := hlt2
              by_cases hix : sigIx ps xs = some k
              · have hne := ixI_eq hix
                have HIX := Lib.hid hix
                clear hix
                go_wp2_with fail
                refine wp_region_later (wr.heap.size + 1) (by kernel_rfl) (by kernel_rfl) ?_; (repeat (go_big_quiet_step ((first | (go_at_call 44; exact later_same (CT.out _)) | (go_at_call 45; exact later_same (CS.out _)) | (go_at_call 46; exact later_of (HXS.out) (CO.out _)))))); refine later_nil ?_; intro w2 hb2
                go_wp2_with fail
                go_roundw
                case rel => exact ⟨k + 1, by omega, by go_num, fun j hj => by
                  by_cases e : j = k
                  · subst e
                    obtain ⟨m, rfl⟩ := HK.out
                    exact goodAt_s HX.out HQ.out HP.out hlt2 HIX.out
                  · exact hup.out j (by omega), HBR2.out.trans (hb2.mono (by omega))⟩
                case measure => simp [intOf]; omega
              · have hne := ixI_ne hix
                go_wp2_with fail
                refine wp_region_later (wr.heap.size + 1) (by kernel_rfl) (by kernel_rfl) ?_; (repeat (go_big_quiet_step ((first | (go_at_call 44; exact later_same (CT.out _)) | (go_at_call 45; exact later_same (CS.out _)) | (go_at_call 46; exact later_of (HXS.out) (CO.out _)))))); refine later_nil ?_; intro w2 hb2
                go_wp2_with fail
                go_ret
                exact ⟨ret_bool (bookB_no hlt (goodAt_ix HX.out hix)).symm, (HBA.out.trans (HBR2.out.mono (by omega))).trans (hb2.mono (by omega))⟩
    · obtain rfl : k = ps.length := by omega
      go_wp2_with (go_at_call 43; refine (l1In_any _ _ _ _).mono ?_; rintro e w' ⟨rfl, rfl⟩)
      go_ret
      refine ⟨ret_bool ?_, HBA.out.trans (hbr.mono (by omega))⟩
      unfold bookB
      rw [goodB_yes hup.out, Bool.and_true]
end Go.Proofs.YtjnkdjokbamibaaDoor
/- Contracts of the tests whether a book is valid, of the program; of the search for a phrase by a predicate. -/
namespace Go.Proofs.YtjnkdjokbamibaaDoor
open Go.RowKit
theorem zipC_take : ∀ (ts : List ByteArray) (us : List Value) (k : Nat), (zipC ts us).take (k * 2) = zipC (ts.take k) (us.take k)
  | [], us, k => by simp [zipC]
  | t :: ts, [], k => by simp [zipC]
  | t :: ts, u :: us, 0 => by simp [zipC]
  | t :: ts, u :: us, k + 1 => by simp only [zipC, List.take_succ_cons, show (k + 1) * 2 = k * 2 + 1 + 1 by omega, zipC_take ts us k]
theorem RowsR.take {w : World} {hi : Nat} {us : List Value} {xss : List (List Int)} (h : RowsR w hi us xss) (k : Nat) : RowsR w hi (us.take k) (xss.take k) := by
  refine ⟨by simp [h.1], fun i u xs hu hx => ?_⟩
  rw [List.getElem?_take] at hu hx
  split at hu
  · rename_i hlt; rw [if_pos hlt] at hx; exact h.2 i u xs hu hx
  · cases hu
theorem RdPS.cut {w : World} {hi n c : Nat} {A : Option Addr} {ps : List Phr} (h : RdPS w hi (.slice A n c) ps) {k : Nat} (hk : k ≤ ps.length) : RdPS w hi (.slice A k c) (ps.take k) := by
  obtain ⟨us, h1, ⟨h0, A', c', hv, h2, h3, h4⟩, ht⟩ := h
  cases hv
  refine ⟨us.take k, ?_, ⟨?_, A, c, ?_, ?_, h3, fun hp => ?_⟩, fun p hp => ht p (List.mem_of_mem_take hp)⟩
  · have := h1.take k; unfold sigs at *; rwa [← List.map_take] at this
  · have e := zipC_take (txts ps) us k
    unfold txts at *
    rw [← List.map_take] at e
    rw [← e, List.length_take, h0, List.length_take]; omega
  · rw [List.length_take]; congr 1; omega
  · rw [List.length_take]; omega
  · obtain ⟨b, off, hA, hb, hc⟩ := h4 (by rw [List.length_take] at hp; omega)
    refine ⟨b, off, hA, hb, fun j u hu => hc j u ?_⟩
    have e := zipC_take (txts ps) us k
    unfold txts at *
    rw [← List.map_take] at e
    rw [← e, List.getElem?_take] at hu
    split at hu
    · exact hu
    · cases hu
/-- What is asked of a predicate on phrases. -/
def PredP (g : Nat) (lb : Array Value) (hi : Nat) (p : Phr → Bool) (w : World) : Prop :=
  ∀ (W : World) (x : Phr) (u : Value), Below w.heap.size w W → RdI W hi u x.2 → x.1.size ≤ 9223372036854775807 → Calls Tryd.prog g (#[.agg #[.string x.1, u]] ++ lb) W fun e w' => e = .returned (.bool (p x)) ∧ Below W.heap.size W w'
set_option maxHeartbeats 800000 in
theorem indexP_any (ps : List Phr) (v : Value) (hi : Nat) (w : World) (g : Nat) (lb : Array Value) (p : Phr → Bool) (h : RdPS w hi v ps) (hh : hi ≤ w.heap.size) (hp : PredP g lb hi p w)
    (eg : ∀ args w, (callFunc g args).run Tryd.prog w = .ok (.enter g args) w) :
    Calls Tryd.prog 72 #[v, .func (.func g) #[] lb] w fun e w' => e = .returned (.int .i64 (ixI (ps.findIdx? p))) ∧ Below w.heap.size w w' := by
  obtain ⟨A, c, rfl, hc, hm⟩ := h.form
  have H := Lib.hid h
  have HP := Lib.hid hp
  clear h hp
  go_enter Tryd.func72, Tryd.ntmps72
  go_wp2
  go_loopw [8] (fun i wr => ∃ k : Nat, k ≤ ps.length ∧ i = .int .i64 k ∧ Hid (∀ j, j < k → ∀ x, ps[j]? = some x → p x = false) ∧ Below w.heap.size w wr) (fun i _ => ps.length - (intOf i).toNat)
  case atStart => exact ⟨0, Nat.zero_le _, rfl, fun j hj => by omega, Below.refl _ _⟩
  case round =>
    obtain ⟨k, hk, rfl, hno, hbr⟩ := hrel
    by_cases hlt : k < ps.length
    · obtain ⟨b1, o1, c1, a, t, xs, hv, _, hx, hcell1, hcell2, hra, hts⟩ := (H.out.below hbr hh).at_ hlt
      cases hv
      obtain ⟨A2, c2, rfl, hc2, hm2⟩ := Rd.form hra
      have hcall := HP.out wr (t, xs) _ hbr hra hts
      have HX := Lib.hid hx
      have hs := hbr.size
      have HBR := Lib.hid hbr
      clear hra hx hbr
      cases hq : p (t, xs)
      · have HQ := Lib.hid hq
        rw [hq] at hcall
        clear hq
        have HC := Lib.hid hcall
        clear hcall
        go_wp2_with (go_at_fn g; refine HC.out.mono ?_; rintro e w' ⟨rfl, hb'⟩)
        go_roundw
        case rel => exact ⟨k + 1, by omega, by go_num, fun j hj x hx => by
          by_cases e : j = k
          · subst e; rw [HX.out] at hx; cases hx; exact HQ.out
          · exact hno.out j (by omega) x hx, HBR.out.trans (hb'.mono hs)⟩
        case measure => simp [intOf]; omega
      · have HQ := Lib.hid hq
        rw [hq] at hcall
        clear hq
        have HC := Lib.hid hcall
        clear hcall
        go_wp2_with (go_at_fn g; refine HC.out.mono ?_; rintro e w' ⟨rfl, hb'⟩)
        go_ret
        refine ⟨ret_int ?_, HBR.out.trans (hb'.mono hs)⟩
        rw [findIdx_take (fun j hj x hx => hno.out j hj x hx) HX.out HQ.out]
        rfl
    · obtain rfl : k = ps.length := by omega
      go_wp2_with fail
      go_ret
      refine ⟨ret_int ?_, hbr⟩
      rw [findIdx_none (fun j x hx => hno.out j (List.getElem?_eq_some_iff.1 hx).1 x hx)]
      rfl
theorem phraseIndex1_any (x : Phr) (ys : List Int) (u s : Value) (B hi hj : Nat) (w : World) (h : RdI w hi u x.2) (g : RdI w hj s ys) (hh : hi ≤ w.heap.size) (hg : hj ≤ w.heap.size) (hB : B < w.heap.size) (hc : w.cell? ⟨B, 0, Option.none⟩ = some s) :
    Calls Tryd.prog 73 #[.agg #[.string x.1, u], .pointer (some ⟨B, 0, Option.none⟩)] w fun e w' => e = .returned (.bool (decide (x.2 = ys))) ∧ Below w.heap.size w w' := by
  obtain ⟨A, c, rfl, hc1, hm⟩ := Rd.form h
  obtain ⟨A', c', rfl, hc2, hm'⟩ := Rd.form g
  have hba : Below w.heap.size w (w.alloc (.cells #[.string x.1, .slice A x.2.length c] 49)) := (Below.refl _ _).alloc (Nat.le_refl _) _
  have H := Lib.hid (RdI.below h hba hh)
  have G := Lib.hid (RdI.below g hba hg)
  clear h g
  go_enter Tryd.func73, Tryd.ntmps73
  go_wp2_with fail
  refine (slicesEqual_any x.2 ys _ _ hi hj _ H.out G.out).mono ?_
  rintro e w' ⟨rfl, n, rfl⟩
  go_wp2_with fail
  go_ret
  exact ⟨rfl, hba.trans (bel_drewN _ _ _)⟩
theorem phraseIndex_any (ps : List Phr) (xs : List Int) (v u : Value) (hi hj : Nat) (w : World) (h : RdB w hi v ps) (g : RdI w hj u xs) (hh : hi ≤ w.heap.size) (hg : hj ≤ w.heap.size) :
    Calls Tryd.prog 54 #[v, u] w fun e w' => e = .returned (.int .i64 (ixI (sigIx ps xs))) ∧ Below w.heap.size w w' := by
  obtain ⟨a, rfl, ha⟩ := h
  obtain ⟨A, c, rfl, hc, hm⟩ := ha.form
  obtain ⟨A', c', rfl, hc', hm'⟩ := Rd.form g
  have hba : Below w.heap.size w ((w.alloc (.cells #[.slice A ps.length c] 24)).alloc (.cells #[.slice A' xs.length c'] 30)) := ((Below.refl _ _).alloc (Nat.le_refl _) _).alloc (by simp) _
  have H := Lib.hid (ha.below hba hh)
  have G := Lib.hid (RdI.below g hba hg)
  clear ha g
  have HB := Lib.hid hba
  clear hba
  have hcap : ((w.alloc (.cells #[.slice A ps.length c] 24)).alloc (.cells #[.slice A' xs.length c'] 30)).cell? ⟨w.heap.size + 1, 0, Option.none⟩ = some (.slice A' xs.length c') := by
    have := (Blk.new (w.alloc (.cells #[.slice A ps.length c] 24)) 30 #[.slice A' xs.length c']).cell 0
    simp at this ⊢
  have hpred : PredP 73 #[.pointer (some ⟨w.heap.size + 1, 0, Option.none⟩)] hi (fun p => decide (p.2 = xs)) ((w.alloc (.cells #[.slice A ps.length c] 24)).alloc (.cells #[.slice A' xs.length c'] 30)) := by
    intro W x u hb hu _
    have hs := hb.size
    have h2 : ((w.alloc (.cells #[.slice A ps.length c] 24)).alloc (.cells #[.slice A' xs.length c'] 30)).heap.size = w.heap.size + 1 + 1 := by simp
    refine phraseIndex1_any x xs u (.slice A' xs.length c') (w.heap.size + 1) hi hj W hu (RdI.below G.out hb (by omega)) (by omega) (by omega) (by omega) ?_
    exact (hb.cell (p := ⟨w.heap.size + 1, 0, Option.none⟩) (by show w.heap.size + 1 < _; omega)).trans hcap
  have HPR := Lib.hid hpred
  have HC := Lib.hid (indexP_any ps _ hi _ _ _ _ H.out (by simp; omega) HPR.out (enters_of Tryd.func73 (by kernel_rfl) rfl))
  clear hpred hcap
  go_enter Tryd.func54, Tryd.ntmps54
  go_wp2_with fail
  refine HC.out.mono ?_
  rintro e w' ⟨rfl, hb'⟩
  go_wp2_with fail
  go_ret
  exact ⟨rfl, HB.out.trans (hb'.mono (by simp; omega))⟩
set_option maxHeartbeats 400000 in
theorem isPhrase_any (p : Phr) (v : Value) (hi : Nat) (w : World) (h : RdP w hi v p) (hh : hi ≤ w.heap.size) : Calls Tryd.prog 53 #[v] w fun e w' => e = .returned (.bool (phrOk p)) ∧ Below w.heap.size w w' := by
  obtain ⟨u, rfl, hu, ht⟩ := h
  obtain ⟨A, c, rfl, hc, hm⟩ := Rd.form hu
  have hba : Below w.heap.size w (w.alloc (.cells #[.string p.1, .slice A p.2.length c] 49)) := (Below.refl _ _).alloc (Nat.le_refl _) _
  have H := Lib.hid (RdI.below hu hba hh)
  clear hu
  have cT := IsPhraseText_any p.1 (by unfold maxLen; omega)
  have cA := allWithin_any p.2 1 60 (.slice A p.2.length c) hi _ H.out
  unfold phrOk sigOk
  cases h1 : phraseB p.1.data.toList
  · rw [h1] at cT
    have CT := Lib.hid cT
    clear cT cA
    go_enter Tryd.func53, Tryd.ntmps53
    go_wp2_with (go_at_call 71; refine (CT.out _).mono ?_; rintro e w' ⟨rfl, rfl⟩)
    go_ret
    exact ⟨rfl, hba⟩
  · rw [h1] at cT
    cases h2 : inB p.2.length 1 3
    · have CT := Lib.hid cT
      clear cT cA
      go_enter Tryd.func53, Tryd.ntmps53
      go_wp2_with (first | (go_at_call 71; refine (CT.out _).mono ?_; rintro e w' ⟨rfl, rfl⟩) | (go_at_call 52; refine (within_any _ _ _ _).mono ?_; rintro e w' ⟨rfl, rfl⟩))
      go_ret
      exact ⟨rfl, hba⟩
    · have CT := Lib.hid cT
      have CA := Lib.hid cA
      clear cT cA
      go_enter Tryd.func53, Tryd.ntmps53
      go_wp2_with (first | (go_at_call 71; refine (CT.out _).mono ?_; rintro e w' ⟨rfl, rfl⟩) | (go_at_call 52; refine (within_any _ _ _ _).mono ?_; rintro e w' ⟨rfl, rfl⟩) | (go_at_call 58; refine (CA.out).mono ?_; rintro e w' ⟨rfl, rfl⟩))
      go_ret
      exact ⟨rfl, hba⟩
theorem sigIx_take {ps : List Phr} {k : Nat} {p : Phr} (hp : ps[k]? = some p) : sigIx ps p.2 = some k ↔ sigIx (ps.take k) p.2 = Option.none := by
  unfold sigIx
  have hk := (List.getElem?_eq_some_iff.1 hp).1
  constructor
  · intro h
    rw [List.findIdx?_eq_none_iff]
    intro x hx
    rw [List.findIdx?_eq_some_iff_getElem] at h
    obtain ⟨_, _, h3⟩ := h
    obtain ⟨j, hj⟩ := List.getElem?_of_mem hx
    rw [List.getElem?_take] at hj
    split at hj
    · rename_i hlt
      have := h3 j hlt
      have e := (List.getElem?_eq_some_iff.1 hj).2
      rw [← e]; simpa using this
    · cases hj
  · intro h
    rw [List.findIdx?_eq_none_iff] at h
    refine findIdx_take (fun j hj x hx => h x ?_) hp (by simp)
    exact List.mem_of_getElem? (by rw [List.getElem?_take, if_pos hj]; exact hx)
theorem ixI_nonneg {o : Option Nat} : (0 ≤ ixI o) ↔ o ≠ Option.none := by cases o <;> simp [ixI]
end Go.Proofs.YtjnkdjokbamibaaDoor
/- Contracts of the tests whether a book is valid, of the program. -/
namespace Go.Proofs.YtjnkdjokbamibaaDoor
open Go.RowKit
set_option maxRecDepth 100000 in
set_option maxHeartbeats 4000000 in
theorem IsBook_any (ps : List Phr) (v : Value) (hi : Nat) (w : World) (h : RdB w hi v ps) (hh : hi ≤ w.heap.size) :
    Calls Tryd.prog 31 #[v] w fun e w' => e = .returned (.bool (bookB ps)) ∧ Below w.heap.size w w' := by
  obtain ⟨a, rfl, ha⟩ := h
  obtain ⟨A, c, rfl, hc, hm⟩ := ha.form
  have hba : Below w.heap.size w (w.alloc (.cells #[.slice A ps.length c] 24)) := (Below.refl _ _).alloc (Nat.le_refl _) _
  have HBA := Lib.hid hba
  have H := Lib.hid (ha.below hba hh)
  have hbox : (w.alloc (.cells #[.slice A ps.length c] 24)).cell? ⟨w.heap.size, 0, Option.none⟩ = some (.slice A ps.length c) := (Blk.new w 24 #[.slice A ps.length c]).cell 0
  have HBOX := Lib.hid hbox
  clear ha hba hbox
  cases hl40 : inB ps.length 1 40
  · go_enter Tryd.func31, Tryd.ntmps31
    go_wp2_with (go_at_call 52; refine (within_any _ _ _ _).mono ?_; rintro e w' ⟨rfl, rfl⟩)
    go_ret
    exact ⟨ret_bool (by unfold bookB; rw [hl40]; rfl), HBA.out⟩
  go_enter Tryd.func31, Tryd.ntmps31
  go_wp2_with (go_at_call 52; refine (within_any _ _ _ _).mono ?_; rintro e w' ⟨rfl, rfl⟩)
  go_loopw [13] (fun i wr => ∃ k : Nat, k ≤ ps.length ∧ i = .int .i64 k ∧ Hid (∀ j, j < k → goodAt ps j = true) ∧ Below (w.heap.size + 1) (w.alloc (.cells #[.slice A ps.length c] 24)) wr) (fun i _ => ps.length - (intOf i).toNat)
  case atStart => exact ⟨0, Nat.zero_le _, rfl, fun j hj => by omega, Below.refl _ _⟩
  case round =>
    obtain ⟨k, hk, rfl, hup, hbr⟩ := hrel
    have hs : w.heap.size + 1 ≤ wr.heap.size := by have := hbr.size; simpa using this
    have hboxr : wr.cell? ⟨w.heap.size, 0, Option.none⟩ = some (.slice A ps.length c) := (hbr.cell (p := ⟨w.heap.size, 0, Option.none⟩) (by show w.heap.size < _; omega)).trans HBOX.out
    by_cases hlt : k < ps.length
    · obtain ⟨b1, o1, c1, a, t, xs, hv, hb1, hx, hcell1, hcell2, hra, hta⟩ := (H.out.below hbr (by omega)).at_ hlt
      cases hv
      obtain ⟨A2, c2, rfl, hc2, hm2⟩ := Rd.form hra
      have HX := Lib.hid hx
      have HBR := Lib.hid (HBA.out.trans (hbr.mono (by omega)))
      have hbw1 : Below (w.heap.size + 1) (w.alloc (.cells #[.slice (some ⟨b1, o1, Option.none⟩) ps.length c] 24)) (wr.alloc (.cells #[.string t, .slice A2 xs.length c2] 49)) := hbr.alloc hs _
      have HBR2 := Lib.hid hbw1
      have hra2 := hra.below ((Below.refl wr.heap.size wr).alloc (Nat.le_refl _) (.cells #[.string t, .slice A2 xs.length c2] 49)) (by omega)
      have HRA := Lib.hid hra2
      have HPS : Hid (RdB (wr.alloc (.cells #[.string t, .slice A2 xs.length c2] 49)) hi (.agg #[.slice (some ⟨b1, o1, Option.none⟩) ps.length c]) ps) := ⟨_, rfl, H.out.below hbw1 (by omega)⟩
      have HPQ : Hid (RdPS (wr.alloc (.cells #[.string t, .slice A2 xs.length c2] 49)) hi (.slice (some ⟨b1, o1, Option.none⟩) ps.length c) ps) := H.out.below hbw1 (by omega)
      have hlat := fun {b o : Nat} {u : Value} (hq : (wr.alloc (.cells #[.string t, .slice A2 xs.length c2] 49)).cell? ⟨b, o, Option.none⟩ = some u) (hb : b < wr.heap.size + 1) => later_cell (B := wr.heap.size + 1) hq hb
      have l0 := hlat ((Blk.new wr 49 #[.string t, .slice A2 xs.length c2]).cell 0) (by omega)
      have l1 := hlat ((Blk.new wr 49 #[.string t, .slice A2 xs.length c2]).cell 1) (by omega)
      have lb := hlat ((hbw1.cell (p := ⟨w.heap.size, 0, Option.none⟩) (by show w.heap.size < _; omega)).trans HBOX.out) (by omega)
      clear hlat hra hra2 hx hbw1 hbr hboxr
      have hxs : wr.heap.size + 1 ≤ (wr.alloc (.cells #[.string t, .slice A2 xs.length c2] 49)).heap.size := by simp
      have HXS := Lib.hid hxs
      clear hxs
      have hcut : RdB (wr.alloc (.cells #[.string t, .slice A2 xs.length c2] 49)) hi (.agg #[.slice (some ⟨b1, o1, Option.none⟩) k c]) (ps.take k) := ⟨_, rfl, HPQ.out.cut hk⟩
      have HCUT := Lib.hid hcut
      clear hcut
      have cT := fun x : LaterW (wr.heap.size + 1) (wr.alloc (.cells #[.string t, .slice A2 xs.length c2] 49)) => isPhrase_any (t, xs) (.agg #[.string t, .slice A2 xs.length c2]) hi x.val ⟨_, rfl, HRA.out.below x.bel (by omega), hta⟩ (by have := x.bel.size; have := HXS.out; omega)
      have cO := fun x : LaterW (wr.heap.size + 1) (wr.alloc (.cells #[.string t, .slice A2 xs.length c2] 49)) => phraseIndex_any (ps.take k) xs (.agg #[.slice (some ⟨b1, o1, Option.none⟩) k c]) (.slice A2 xs.length c2) hi hi x.val (HCUT.out.below x.bel (by omega)) (HRA.out.below x.bel (by omega)) (by have := x.bel.size; have := HXS.out; omega) (by have := x.bel.size; have := HXS.out; omega)
      have hkc : (k : Int) ≤ (c : Int) := by omega
      have hk0' : (0 : Int) ≤ (k : Int) := by omega
      cases hp1 : phrOk (t, xs)
      · rw [hp1] at cT
        have CT := Lib.hid cT
        have CO := Lib.hid cO
        clear cT cO
        go_wp2_with fail
        refine wp_region_later (wr.heap.size + 1) (by kernel_rfl) (by kernel_rfl) ?_; (repeat (go_big_quiet_step ((first | (go_at_call 53; exact later_of HXS.out (CT.out _)) | (go_at_call 54; exact later_of HXS.out (CO.out _)))))); refine later_nil ?_; intro w2 hb2
        go_wp2_with fail
        go_ret
        exact ⟨ret_bool (bookB_no hlt (goodAt_phr HX.out hp1)).symm, (HBA.out.trans (HBR2.out.mono (by omega))).trans (hb2.mono (by omega))⟩
      · have HP := Lib.hid hp1
        rw [hp1] at cT
        have CT := Lib.hid cT
        have CO := Lib.hid cO
        clear cT cO
        rcases Nat.eq_zero_or_pos k with h0 | hpos
        · have hk0 : decide (0 < k) = false := by rw [decide_eq_false_iff_not]; omega
          have H0 := Lib.hid h0
          clear h0
          by_cases hix : sigIx (ps.take k) xs = Option.none
          · have hne : decide (0 ≤ ixI (sigIx (ps.take k) xs)) = false := by rw [decide_eq_false_iff_not, ixI_nonneg]; exact fun h => h hix
            have HIX := Lib.hid hix
            clear hix
            go_wp2_with fail
            refine wp_region_later (wr.heap.size + 1) (by kernel_rfl) (by kernel_rfl) ?_; (repeat (go_big_quiet_step ((first | (go_at_call 53; exact later_of HXS.out (CT.out _)) | (go_at_call 54; exact later_of HXS.out (CO.out _)))))); refine later_nil ?_; intro w2 hb2
            go_wp2_with fail
            go_roundw
            case rel => exact ⟨k + 1, by omega, by go_num, fun j hj => by
              obtain rfl : k = 0 := H0.out
              obtain rfl : j = 0 := by omega
              exact goodAt_0 HX.out HP.out ((sigIx_take HX.out).2 HIX.out), HBR2.out.trans (hb2.mono (by omega))⟩
            case measure => simp [intOf]; omega
          · have hne : decide (0 ≤ ixI (sigIx (ps.take k) xs)) = true := by rw [decide_eq_true_eq, ixI_nonneg]; exact hix
            have HIX := Lib.hid hix
            clear hix
            go_wp2_with fail
            refine wp_region_later (wr.heap.size + 1) (by kernel_rfl) (by kernel_rfl) ?_; (repeat (go_big_quiet_step ((first | (go_at_call 53; exact later_of HXS.out (CT.out _)) | (go_at_call 54; exact later_of HXS.out (CO.out _)))))); refine later_nil ?_; intro w2 hb2
            go_wp2_with fail
            go_ret
            exact ⟨ret_bool (bookB_no hlt (goodAt_ix HX.out (fun h => HIX.out ((sigIx_take HX.out).1 h)))).symm, (HBA.out.trans (HBR2.out.mono (by omega))).trans (hb2.mono (by omega))⟩
        · have hk0 : decide (0 < k) = true := by rw [decide_eq_true_eq]; omega
          obtain ⟨b3, o3, c3, a3, q, ys, hv, hb3, hq, hcq, _, _, hqs⟩ := (HPQ.out).at_ (show k - 1 < ps.length by omega)
          cases hv
          have lq := later_cell (B := wr.heap.size + 1) hcq (by omega)
          have hi1 : (0 : Int) ≤ (k : Int) - 1 := by omega
          have hi2 : (k : Int) - 1 < (ps.length : Int) := by omega
          have hi3 : ((k : Int) - 1).toNat = k - 1 := by omega
          have HQ : Hid (ps[k - 1]? = some (q, ys)) := hq
          clear hq hcq
          have HK : Hid (∃ m, k = m + 1) := ⟨k - 1, by omega⟩
          cases hlt2 : ltT q t
          · have hl1 : Op.bytesLess q.toList t.toList = false := hlt2
            go_wp2_with fail
            refine wp_region_later (wr.heap.size + 1) (by kernel_rfl) (by kernel_rfl) ?_; (repeat (go_big_quiet_step ((first | (go_at_call 53; exact later_of HXS.out (CT.out _)) | (go_at_call 54; exact later_of HXS.out (CO.out _)))))); refine later_nil ?_; intro w2 hb2
            go_wp2_with fail
            go_ret
            refine ⟨ret_bool ?_, (HBA.out.trans (HBR2.out.mono (by omega))).trans (hb2.mono (by omega))⟩
            obtain ⟨m, rfl⟩ := HK.out
            exact (bookB_no hlt (goodAt_lt HX.out HQ.out hlt2)).symm
          · have hl1 : Op.bytesLess q.toList t.toList = true := hlt2
            by_cases hix : sigIx (ps.take k) xs = Option.none
            · have hne : decide (0 ≤ ixI (sigIx (ps.take k) xs)) = false := by rw [decide_eq_false_iff_not, ixI_nonneg]; exact fun h => h hix
              have HIX := Lib.hid hix
              clear hix
              go_wp2_with fail
              refine wp_region_later (wr.heap.size + 1) (by kernel_rfl) (by kernel_rfl) ?_; (repeat (go_big_quiet_step ((first | (go_at_call 53; exact later_of HXS.out (CT.out _)) | (go_at_call 54; exact later_of HXS.out (CO.out _)))))); refine later_nil ?_; intro w2 hb2
              go_wp2_with fail
              go_roundw
              case rel => exact ⟨k + 1, by omega, by go_num, fun j hj => by
                by_cases e : j = k
                · subst e
                  have h5 := (sigIx_take HX.out).2 HIX.out
                  obtain ⟨m, rfl⟩ := HK.out
                  exact goodAt_s HX.out HQ.out HP.out hlt2 h5
                · exact hup.out j (by omega), HBR2.out.trans (hb2.mono (by omega))⟩
              case measure => simp [intOf]; omega
            · have hne : decide (0 ≤ ixI (sigIx (ps.take k) xs)) = true := by rw [decide_eq_true_eq, ixI_nonneg]; exact hix
              have HIX := Lib.hid hix
              clear hix
              go_wp2_with fail
              refine wp_region_later (wr.heap.size + 1) (by kernel_rfl) (by kernel_rfl) ?_; (repeat (go_big_quiet_step ((first | (go_at_call 53; exact later_of HXS.out (CT.out _)) | (go_at_call 54; exact later_of HXS.out (CO.out _)))))); refine later_nil ?_; intro w2 hb2
              go_wp2_with fail
              go_ret
              exact ⟨ret_bool (bookB_no hlt (goodAt_ix HX.out (fun h => HIX.out ((sigIx_take HX.out).1 h)))).symm, (HBA.out.trans (HBR2.out.mono (by omega))).trans (hb2.mono (by omega))⟩
    · obtain rfl : k = ps.length := by omega
      go_wp2_with fail
      go_ret
      refine ⟨ret_bool ?_, HBA.out.trans (hbr.mono (by omega))⟩
      unfold bookB
      rw [goodB_yes hup.out, hl40, Bool.and_true]
end Go.Proofs.YtjnkdjokbamibaaDoor
/- Contracts of the searches in a book by a text, by signals, and for texts of one letter; of the program and of the reference. -/
namespace Go.Proofs.YtjnkdjokbamibaaDoor
open Go.RowKit
theorem bookB_phr {ps : List Phr} {p : Phr} (h : bookB ps = true) (hp : p ∈ ps) : phrOk p = true := by
  obtain ⟨j, hj⟩ := List.getElem?_of_mem hp
  have hl := (List.getElem?_eq_some_iff.1 hj).1
  unfold bookB goodB at h
  rw [Bool.and_eq_true, List.all_eq_true] at h
  have := h.2 j (List.mem_range.2 hl)
  unfold goodAt at this
  rw [hj] at this
  simp only [Bool.and_eq_true] at this
  exact this.1
theorem bookB_len {ps : List Phr} (h : bookB ps = true) : 1 ≤ ps.length ∧ ps.length ≤ 40 := by
  unfold bookB at h
  rw [Bool.and_eq_true, inB_iff] at h
  omega
end Go.Proofs.YtjnkdjokbamibaaDoor
/- Plain laws on good books: no two phrases have one text, nor the same signals; phrases that fit at one place have lengths of their own. Slices cut off at their head. -/
namespace Go.Proofs.YtjnkdjokbamibaaDoor
open Go.RowKit
theorem RdI.drop {w : World} {hi c : Nat} {b off : Nat} {xs : List Int} (h : RdI w hi (.slice (some ⟨b, off, Option.none⟩) xs.length c) xs) {k : Nat} (hk : k < xs.length) :
    RdI w hi (.slice (some ⟨b, off + k, Option.none⟩) (xs.length - k) (c - k)) (xs.drop k) := by
  obtain ⟨h0, A', c', hv, h1, h2, h3⟩ := h
  cases hv
  obtain ⟨b', off', hA, hb, hc⟩ := h3 (by omega)
  cases hA
  refine ⟨by simp, some ⟨b, off + k, Option.none⟩, c - k, by rw [List.length_drop], by rw [List.length_drop]; omega, by omega, fun _ => ⟨b, off + k, rfl, hb, fun j u hu => ?_⟩⟩
  have := hc (k + j) u (by
    rw [ints, List.getElem?_map, List.getElem?_drop] at hu
    rw [ints, List.getElem?_map]; exact hu)
  rwa [← Nat.add_assoc] at this
end Go.Proofs.YtjnkdjokbamibaaDoor
/- Plain laws on the texts of books: the text of a book is read back, and nothing else is. -/
namespace Go.Proofs.YtjnkdjokbamibaaDoor
open Go.RowKit
def lineT (p : Phr) : List UInt8 := p.1.data.toList ++ 32 :: numsT 45 p.2
def bookT (ps : List Phr) : List UInt8 := (ps.map fun p => lineT p ++ [10]).flatten
def linesO (s : List UInt8) : Option (List (List UInt8)) := if s = [] then some [] else if Lib.hasSuffix s [10] then some (splitC 10 (Lib.trimSuffix s [10])) else Option.none
def lineO (line : List UInt8) : Option Phr := match numsO 45 (Lib.cut line [32]).2.1 with
  | some l => some (⟨(Lib.cut line [32]).1.toArray⟩, l)
  | Option.none => Option.none
def bookO (s : List UInt8) : Option (List Phr) := match linesO s with
  | some ls => match allO lineO ls with
    | some b => if bookB b then some b else Option.none
    | Option.none => Option.none
  | Option.none => Option.none
theorem joinC_flat (c : UInt8) : ∀ {ls : List (List UInt8)}, ls ≠ [] → joinC c ls ++ [c] = (ls.map (· ++ [c])).flatten
  | [], h => absurd rfl h
  | [a], _ => by simp [joinC]
  | a :: b :: r, _ => by
    have ih := joinC_flat c (ls := b :: r) (by simp)
    rw [joinC_cons _ _ (by simp), List.map_cons, List.flatten_cons, ← ih]
    simp
theorem bookT_join {ps : List Phr} (h : ps ≠ []) : bookT ps = joinC 10 (ps.map lineT) ++ [10] := by
  rw [joinC_flat 10 (by simpa using h)]
  unfold bookT
  rw [List.map_map]; rfl
theorem suffix_snoc (a : List UInt8) (c : UInt8) : Lib.hasSuffix (a ++ [c]) [c] = true ∧ Lib.trimSuffix (a ++ [c]) [c] = a := by
  have h : Lib.hasSuffix (a ++ [c]) [c] = true := by
    unfold Lib.hasSuffix
    rw [List.isSuffixOf_iff_suffix]
    exact List.suffix_append _ _
  refine ⟨h, ?_⟩
  unfold Lib.trimSuffix
  rw [h, if_pos rfl]
  simp
theorem suffix_of {s : List UInt8} {c : UInt8} (h : Lib.hasSuffix s [c] = true) : s = Lib.trimSuffix s [c] ++ [c] := by
  have h0 := h
  unfold Lib.hasSuffix at h
  rw [List.isSuffixOf_iff_suffix] at h
  obtain ⟨a, rfl⟩ := h
  rw [(suffix_snoc a c).2]
theorem lineO_text {line : List UInt8} {p : Phr} (h : lineO line = some p) : lineT p = line ∧ True := by
  refine ⟨?_, trivial⟩
  unfold lineO at h
  rcases cut_or 32 line with ⟨_, hc⟩ | ⟨a, r, rfl, _, hc⟩
  · rw [hc] at h
    simp [numsO, splitC, allO, readN, Lib.atoiAll] at h
  · rw [hc] at h
    cases hn : numsO 45 r with
    | none => simp [hn] at h
    | some l =>
      simp [hn] at h
      subst h
      unfold lineT
      rw [nums_text hn]
theorem phr_text {p : Phr} (h : phrOk p = true) : 1 ≤ p.1.data.toList.length ∧ p.1.data.toList.length ≤ 12 ∧ ∀ b ∈ p.1.data.toList, 97 ≤ b.toNat ∧ b.toNat ≤ 122 := by
  unfold phrOk phraseB smallB at h
  simp only [Bool.and_eq_true, decide_eq_true_eq, List.all_eq_true] at h
  exact ⟨h.1.1.1, h.1.1.2, h.1.2⟩
theorem phr_sigs {p : Phr} (h : phrOk p = true) : 1 ≤ p.2.length ∧ p.2.length ≤ 3 ∧ ∀ n ∈ p.2, 1 ≤ n ∧ n ≤ 60 := by
  unfold phrOk sigOk allB at h
  simp only [Bool.and_eq_true, inB_iff, List.all_eq_true] at h
  have h1 := h.2.1
  exact ⟨by omega, by omega, fun n hn => h.2.2 n hn⟩
theorem phr_no {p : Phr} (h : phrOk p = true) {c : UInt8} (hc : c.toNat < 97) : c ∉ p.1.data.toList := fun hm => by have := (phr_text h).2.2 c hm; omega
theorem phr_63 {p : Phr} (h : phrOk p = true) : ∀ n ∈ p.2, 0 ≤ n ∧ n ≤ 63 := fun n hn => by have := (phr_sigs h).2.2 n hn; omega
theorem phr_ne {p : Phr} (h : phrOk p = true) : p.2 ≠ [] := fun e => by have := (phr_sigs h).1; rw [e] at this; simp at this
theorem line_no {p : Phr} (h : phrOk p = true) : 10 ∉ lineT p := by
  unfold lineT
  intro hm
  rcases List.mem_append.1 hm with hm | hm
  · exact phr_no h (by decide) hm
  · rcases List.mem_cons.1 hm with hm | hm
    · cases hm
    · exact numsT_no (by decide) (.inl (by decide)) (phr_63 h) hm
theorem text_lineO {p : Phr} (h : phrOk p = true) : lineO (lineT p) = some p := by
  unfold lineO lineT
  rw [cut_hit _ (phr_no h (by decide))]
  simp only [text_nums (c := 45) (by decide) (phr_ne h) (phr_63 h)]
theorem book_ne {ps : List Phr} (h : bookB ps = true) : ps ≠ [] := fun e => by have := bookB_len h; rw [e] at this; simp at this
theorem book_lines {ps : List Phr} (h : bookB ps = true) : splitC 10 (joinC 10 (ps.map lineT)) = ps.map lineT := by
  refine split_join (by simpa using book_ne h) (fun a ha => ?_)
  obtain ⟨p, hp, rfl⟩ := List.mem_map.1 ha
  exact line_no (bookB_phr h hp)
theorem bookO_iff {s : List UInt8} {b : List Phr} : bookO s = some b ↔ bookB b = true ∧ bookT b = s := by
  constructor
  · intro h
    unfold bookO at h
    cases hl : linesO s with
    | none => rw [hl] at h; cases h
    | some ls =>
      rw [hl] at h
      cases ha : allO lineO ls with
      | none => simp [ha] at h
      | some q =>
        simp only [ha] at h
        split at h
        · rename_i hb
          cases h
          refine ⟨hb, ?_⟩
          have hm := (allO_inv (P := fun _ => True) (fun a n hn => lineO_text hn) ha).1
          unfold linesO at hl
          split at hl
          · cases hl
            have : b = [] := by simpa using hm
            exact absurd this (book_ne hb)
          · split at hl
            · rename_i hs
              cases hl
              rw [bookT_join (book_ne hb), hm, join_split]
              exact (suffix_of hs).symm
            · cases hl
        · cases h
  · rintro ⟨h1, rfl⟩
    have h2 := suffix_snoc (joinC 10 (b.map lineT)) 10
    unfold bookO linesO
    rw [bookT_join (book_ne h1), if_neg (by simp), h2.1, if_pos rfl, h2.2, book_lines h1]
    simp only [allO_map (fun p hp => text_lineO (bookB_phr h1 hp)), h1, if_true]
/-- As the reference reads a line, and a book. -/
def refLine (line : List UInt8) : Option Phr := match splitC 32 line with
  | [a, r] => some (⟨a.toArray⟩, (splitC 45 r).map readR)
  | _ => Option.none
def refB (s : List UInt8) : Option (List Phr) := if 41 < (splitC 10 s).length then Option.none else match allO refLine (splitC 10 s).dropLast with
  | some b => if bookB b && decide (bookT b = s) then some b else Option.none
  | Option.none => Option.none
theorem text_refLine {p : Phr} (h : phrOk p = true) : refLine (lineT p) = some p := by
  unfold refLine lineT
  rw [splitC_hit _ (phr_no h (by decide)), splitC_no (numsT_no (by decide) (.inl (by decide)) (phr_63 h))]
  simp only [nums_parts (c := 45) (by decide) (phr_ne h) (phr_63 h), map_readR (phr_63 h)]
theorem refB_eq (s : List UInt8) : refB s = bookO s := by
  apply Option.ext
  intro b
  rw [bookO_iff]
  unfold refB
  constructor
  · intro h
    split at h
    · cases h
    · split at h
      · split at h
        · rename_i hc
          rw [Bool.and_eq_true, decide_eq_true_eq] at hc
          cases h; exact hc
        · cases h
      · cases h
  · rintro ⟨h1, rfl⟩
    have hb := bookB_len h1
    have hs : splitC 10 (bookT b) = b.map lineT ++ [[]] := by
      rw [bookT_join (book_ne h1), show joinC 10 (b.map lineT) ++ [10] = joinC 10 (b.map lineT ++ [[]]) by rw [joinC_snoc, if_neg (by simpa using book_ne h1)]]
      refine split_join (by simp) (fun a ha => ?_)
      rcases List.mem_append.1 ha with ha | ha
      · obtain ⟨p, hp, rfl⟩ := List.mem_map.1 ha
        exact line_no (bookB_phr h1 hp)
      · simp at ha; subst ha; simp
    rw [hs, if_neg (by simp; omega), List.dropLast_concat, allO_map (fun p hp => text_refLine (bookB_phr h1 hp))]
    simp [h1]
end Go.Proofs.YtjnkdjokbamibaaDoor
/- Contracts: the lines of a text; of the program. -/
namespace Go.Proofs.YtjnkdjokbamibaaDoor
open Go.RowKit
def RetRdST (xs : List (List UInt8)) (b : Bool) (w : World) (e : Ending) (w' : World) : Prop := ∃ v, e = .returned (.tuple #[v, .bool b]) ∧ Rd w' w'.heap.size 1 v xs.length (strsT xs) ∧ Below w.heap.size w w'
theorem rd_nilS (w : World) (hi : Nat) : Rd w hi 1 (.slice Option.none 0 0) 0 (strsT []) := ⟨rfl, _, _, rfl, Nat.le_refl _, Nat.zero_le _, fun h => absurd h (by omega)⟩
theorem linesO_some {s : List UInt8} (h : s ≠ []) (hf : Lib.hasSuffix s [10] = true) : linesO s = some (splitC 10 (Lib.trimSuffix s [10])) := by
  unfold linesO; rw [if_neg h, if_pos hf]
theorem linesO_none {s : List UInt8} (h : s ≠ []) (hf : Lib.hasSuffix s [10] = false) : linesO s = Option.none := by
  unfold linesO; rw [if_neg h, if_neg (by rw [hf]; decide)]
set_option maxRecDepth 100000 in
set_option maxHeartbeats 4000000 in
theorem linesOf_any (s : ByteArray) (hs : s.size ≤ 1048576) (w : World) (hL : LW w) : Calls Tryd.prog 28 #[.string s] w (RetRdST ((linesO s.data.toList).getD []) (linesO s.data.toList).isSome w) := by
  cases hse : s.toList.isEmpty
  · have hne : s.data.toList ≠ [] := fun e => by rw [ByteArray.toList_eq, e] at hse; cases hse
    have cC := Tryd.strings_CutSuffix s ⟨#[10]⟩ w (by omega)
    have eT : (⟨#[10]⟩ : ByteArray).data.toList = [10] := rfl
    rw [eT] at cC
    cases hf : Lib.hasSuffix s.data.toList [10]
    · rw [hf] at cC
      have HO := Lib.hid (linesO_none hne hf)
      have CC := Lib.hid cC
      clear cC hf hne
      go_enter Tryd.func28, Tryd.ntmps28
      go_wp2_with fail
      refine CC.out.mono ?_
      rintro e w1 ⟨rfl, hw1⟩
      subst hw1
      go_wp2_with fail
      go_ret2
      rw [HO.out]
      exact ⟨_, rfl, rd_nilS _ _, Below.refl _ _⟩
    · rw [hf] at cC
      have HO := Lib.hid (linesO_some hne hf)
      have hsf := suffix_of hf
      have hlt : (Lib.trimSuffix s.data.toList [10]).length ≤ s.size := by
        have := congrArg List.length hsf
        simp at this; omega
      obtain ⟨T, hT⟩ : ∃ T, T = Lib.trimSuffix s.data.toList [10] := ⟨_, rfl⟩
      rw [← hT] at cC HO hlt
      have CC := Lib.hid cC
      obtain ⟨m, hm⟩ := hL.2.1
      have hts : (⟨T.toArray⟩ : ByteArray).size = T.length := by show T.toArray.size = _; simp
      have cS := Tryd.strings_Split ⟨T.toArray⟩ ⟨#[10]⟩ m w (by omega) hm (Nat.le_refl 1)
      have e0 : (⟨T.toArray⟩ : ByteArray).data.toList = T := rfl
      rw [split_txts, split_count, e0] at cS
      have CS := Lib.hid cS
      have hsl := (splitC_len 10 T).2
      have HR := Lib.hid (rd_strs w (splitC 10 T) (by unfold maxLen; omega))
      have HB : Hid (Below w.heap.size w (w.alloc (.cells (strsT (splitC 10 T)).toArray 9))) := (Below.refl _ _).alloc (Nat.le_refl _) _
      have hz1 : (w.alloc (.cells (strsT (splitC 10 T)).toArray 9)).heap.size = w.heap.size + 1 := by simp
      have HZ := Lib.hid hz1
      clear cC cS hf hne hsf hT hm e0 eT hz1
      go_enter Tryd.func28, Tryd.ntmps28
      go_wp2_with fail
      refine CC.out.mono ?_
      rintro e w1 ⟨rfl, hw1⟩
      subst hw1
      go_wp2_with fail
      refine CS.out.mono ?_
      rintro e w1 ⟨rfl, hw1⟩
      rw [← hw1] at HR HB HZ
      clear hw1
      go_wp2_with fail
      go_ret2
      rw [HO.out]
      exact ⟨_, rfl, HR.out.mono (by rw [HZ.out]; exact Nat.le_refl _), HB.out⟩
  · have HN : Hid (s.data.toList = []) := by
      have := List.isEmpty_iff.1 hse
      rwa [ByteArray.toList_eq] at this
    go_enter Tryd.func28, Tryd.ntmps28
    go_wp2_with fail
    go_ret2
    rw [HN.out]
    exact ⟨_, rfl, rd_nilS _ _, Below.refl _ _⟩
end Go.Proofs.YtjnkdjokbamibaaDoor
/- Towards ParseBook of the program: one line of a text. -/
namespace Go.Proofs.YtjnkdjokbamibaaDoor
open Go.RowKit
theorem cut_le (l : List UInt8) : (Lib.cut l [32]).1.length ≤ l.length ∧ (Lib.cut l [32]).2.1.length ≤ l.length := by
  rcases cut_or 32 l with ⟨_, h⟩ | ⟨a, r, h1, _, h⟩
  · rw [h]; exact ⟨Nat.le_refl _, Nat.zero_le _⟩
  · rw [h]; have := congrArg List.length h1; simp at this; exact ⟨by show a.length ≤ _; omega, by show r.length ≤ _; omega⟩
theorem lineO_some {l : List UInt8} {x : List Int} (h : numsO 45 (Lib.cut l [32]).2.1 = some x) : lineO l = some (⟨(Lib.cut l [32]).1.toArray⟩, x) := by unfold lineO; rw [h]
theorem lineO_none {l : List UInt8} (h : numsO 45 (Lib.cut l [32]).2.1 = Option.none) : lineO l = Option.none := by unfold lineO; rw [h]
theorem bookO_no {s : List UInt8} (h : linesO s = Option.none) : bookO s = Option.none := by unfold bookO; rw [h]
theorem bookO_bad {s : List UInt8} {ls : List (List UInt8)} (h : linesO s = some ls) (g : allO lineO ls = Option.none) : bookO s = Option.none := by unfold bookO; rw [h]; simp only [g]
theorem bookO_end {s : List UInt8} {ls : List (List UInt8)} {b : List Phr} (h : linesO s = some ls) (g : allO lineO ls = some b) : bookO s = if bookB b then some b else Option.none := by unfold bookO; rw [h]; simp only [g]
theorem linesO_le {s : List UInt8} {ls : List (List UInt8)} (h : linesO s = some ls) : ls.length ≤ s.length + 1 ∧ ∀ l ∈ ls, l.length ≤ s.length := by
  unfold linesO at h
  split at h
  · cases h; exact ⟨Nat.zero_le _, fun l hl => by cases hl⟩
  · split at h
    · rename_i hf
      have h1 := congrArg List.length (suffix_of hf)
      simp at h1
      cases h
      have h2 := (splitC_len 10 (Lib.trimSuffix s [10])).2
      exact ⟨by omega, fun l hl => by have := splitC_le hl; omega⟩
    · cases h
end Go.Proofs.YtjnkdjokbamibaaDoor
/- Contracts: ParseBook of the program. -/
namespace Go.Proofs.YtjnkdjokbamibaaDoor
open Go.RowKit
theorem lineO_cut {l a r : List UInt8} {f : Bool} {x : List Int} (hc : Lib.cut l [32] = (a, r, f)) (h : numsO 45 r = some x) : lineO l = some (⟨a.toArray⟩, x) := by
  have := lineO_some (l := l) (x := x) (by rw [hc]; exact h)
  rw [hc] at this; exact this
theorem lineO_cutn {l a r : List UInt8} {f : Bool} (hc : Lib.cut l [32] = (a, r, f)) (h : numsO 45 r = Option.none) : lineO l = Option.none := lineO_none (by rw [hc]; exact h)
theorem take_snocL {α : Type} {p : List α} {k : Nat} {a : α} (h : p[k]? = some a) : p.take (k + 1) = p.take k ++ [a] := by rw [List.take_add_one, h]; rfl
set_option maxRecDepth 100000 in
set_option maxHeartbeats 4000000 in
theorem ParseBook_any (s : ByteArray) (hs : s.size ≤ 1048576) (w : World) (hL : LW w) : Calls Tryd.prog 8 #[.string s] w (RetOwBT ((bookO s.data.toList).getD []) (bookO s.data.toList).isSome w) := by
  have HL := Lib.hid hL
  clear hL
  obtain ⟨wa, hwa⟩ : ∃ x, x = w.alloc (.cells #[.slice Option.none 0 0] 24) := ⟨_, rfl⟩
  have hb0 : Below w.heap.size w wa := by rw [hwa]; exact (Below.refl _ _).alloc (Nat.le_refl _) _
  have hR0 : Blk wa w.heap.size 24 [.slice Option.none 0 0] := by rw [hwa]; exact Blk.new w 24 #[.slice Option.none 0 0]
  have cl := linesOf_any s hs wa (HL.out.below hb0)
  rcases hl : linesO s.data.toList with _ | P
  · rw [hl] at cl
    have HO := Lib.hid (bookO_no hl)
    have CL := Lib.hid cl
    have HB0 := Lib.hid hb0
    have HR0 := Lib.hid hR0
    clear cl hl hb0 hR0
    go_enter Tryd.func8, Tryd.ntmps8
    go_wp2_with fail
    rw [← hwa]
    refine CL.out.mono ?_
    rintro e w1 ⟨v, rfl, hrd, hb1⟩
    have hr1 := HR0.out.below hb1 HR0.out.lt
    have hrc := hr1.cell 0
    have hrf := hr1.frozen 0
    have c10 := (hr1.set_ 0 (.slice Option.none 0 0)).cell 0
    have HLX := Lib.hid ((HB0.out.trans (hb1.mono HB0.out.size)).setCell (p := ⟨w.heap.size, 0, Option.none⟩) (Nat.le_refl _) (.slice Option.none 0 0))
    clear hrd hb1 hr1
    go_wp2_with fail
    refine bodyPost_ret (v := .tuple #[.agg #[.slice Option.none 0 0], .bool false]) (by simp [results, Tryd.results8, go_sem, c10]) rfl ?_
    exact ⟨_, by rw [HO.out]; rfl, by rw [HO.out]; exact owPS_nil _ _ _, HLX.out⟩
  · rw [hl] at cl
    have CL : Hid (Calls Tryd.prog 28 #[.string s] wa (RetRdST P true wa)) := cl
    obtain ⟨hP1, hP2⟩ := linesO_le hl
    have hs2 : s.data.toList.length = s.size := by simp
    have HM := Lib.hid hP2
    have HLN := Lib.hid hl
    have HB0 := Lib.hid hb0
    have HR0 := Lib.hid hR0
    have hsa : w.heap.size < wa.heap.size := hR0.lt
    clear cl hl hb0 hR0 hP2
    go_enter Tryd.func8, Tryd.ntmps8
    go_wp2_with fail
    rw [← hwa]
    clear hwa
    refine CL.out.mono ?_
    rintro e w1 ⟨v, rfl, hrd, hb1⟩
    obtain ⟨A, c, rfl, hc, hm⟩ := Rd.form hrd
    have hs1 : wa.heap.size ≤ w1.heap.size := hb1.size
    obtain ⟨w2, hw2⟩ : ∃ x, x = w1.alloc (.cells #[.slice Option.none 0 0] 24) := ⟨_, rfl⟩
    have hb2 : Below w1.heap.size w1 w2 := by rw [hw2]; exact (Below.refl _ _).alloc (Nat.le_refl _) _
    have hX2 : Blk w2 w1.heap.size 24 [.slice Option.none 0 0] := by rw [hw2]; exact Blk.new w1 _ _
    have hz2 : w2.heap.size = w1.heap.size + 1 := by rw [hw2]; simp
    have HX2 := Lib.hid hX2
    have HR2 := Lib.hid ((HR0.out.below hb1 hsa).below hb2 (by omega))
    have HRD := Lib.hid (hrd.below hb2 (Nat.le_refl _))
    have HB2 := Lib.hid ((HB0.out.trans (hb1.mono (by omega))).trans (hb2.mono (by omega)))
    have HW2 := Lib.hid hw2
    clear hrd hb1 hb2 hX2 hw2 HB0 HR0 CL
    go_wp2_with fail
    rw [← HW2.out]
    clear HW2
    go_loopw [24] (fun i wr => ∃ (k : Nat) (ps : List Phr) (A5 : Option Addr) (c5 : Nat), k ≤ P.length ∧ i = .int .i64 (k : Int) ∧ ps.length ≤ k ∧ Hid (allO lineO (P.take k) = some ps) ∧ Hid (OwPS wr w2.heap.size wr.heap.size (.slice A5 ps.length c5) ps) ∧ Hid (Blk wr w1.heap.size 24 [.slice A5 ps.length c5]) ∧ Hid (Below w1.heap.size w2 wr)) (fun i _ => P.length - (intOf i).toNat)
    case atStart => exact ⟨0, [], Option.none, 0, Nat.zero_le _, rfl, Nat.le_refl _, rfl, owPS_nil _ _ _, HX2.out, Below.refl _ _⟩
    case round =>
      obtain ⟨k, ps, A5, c5, hk, rfl, hps, HA, HO, HX, HBq⟩ := hrel
      have hsq : w2.heap.size ≤ wr.heap.size := HBq.out.size
      have hbw : Below w.heap.size w wr := HB2.out.trans (HBq.out.mono (by omega))
      have hRq := HR2.out.below HBq.out (by omega)
      have hlw := HL.out.below hbw
      have HBW := Lib.hid hbw
      have HRQ := Lib.hid hRq
      clear hbw hRq HX2
      by_cases hlt : k < P.length
      · obtain ⟨b1, o1, c1, y, hv, _, hx, hcell1⟩ := Rd.atS (Rd.below HRD.out HBq.out (Nat.le_refl _)) hlt
        injection hv with hv1 hv2 hv3; cases hv1; clear hv2 hv3
        have hy := HM.out y (List.mem_of_getElem? hx)
        have hcl := cut_le y
        obtain ⟨a1, r1, f1, hct⟩ : ∃ a r f, Lib.cut y [32] = (a, r, f) := ⟨_, _, _, rfl⟩
        obtain ⟨m, hm0⟩ := hlw.2.1
        have cC := Tryd.strings_Cut ⟨y.toArray⟩ ⟨#[32]⟩ m wr (by show y.toArray.size < _; simp; omega) hm0
        have e0 : (⟨y.toArray⟩ : ByteArray).data.toList = y := rfl
        have e1 : (⟨#[32]⟩ : ByteArray).data.toList = [32] := rfl
        rw [e0, e1, hct] at cC
        rw [hct] at hcl
        have ha1 : a1.length ≤ y.length := hcl.1
        have hr1 : r1.length ≤ y.length := hcl.2
        have CC := Lib.hid cC
        have HLW := Lib.hid hlw
        have hts : (⟨a1.toArray⟩ : ByteArray).size ≤ 9223372036854775807 := by show a1.toArray.size ≤ _; simp; omega
        have cN := fun (wx : World) (h : LW wx) => splitNumbers_any ⟨r1.toArray⟩ 45 (by show r1.toArray.size ≤ _; simp; omega) wx h
        have e2 : (⟨r1.toArray⟩ : ByteArray).data.toList = r1 := rfl
        rw [e2] at cN
        clear cC hcl hlw hm0 e0 e1 e2
        rcases hn : numsO 45 r1 with _ | x
        · rw [hn] at cN
          have CN := Lib.hid cN
          have HE := Lib.hid (bookO_bad HLN.out (allO_no hx (lineO_cutn hct hn)))
          clear cN hn hct hx
          go_wp2_with fail
          refine CC.out.mono ?_
          rintro e w3 ⟨rfl, n3, hw3⟩
          have hb3 : Below wr.heap.size wr w3 := by rw [hw3]; exact bel_drewN _ _ _
          have HR3 := Lib.hid (HRQ.out.below hb3 (by omega))
          have HB3 := Lib.hid (HBW.out.trans (hb3.mono (by omega)))
          have hs3 := hb3.size
          clear hw3 hb3 HRQ HBW
          go_wp2_with fail
          refine (CN.out w3 (HL.out.below HB3.out)).mono ?_
          rintro e w4 ⟨v4, rfl, how, hb4⟩
          obtain ⟨A4, c4, rfl, _⟩ := how.form
          have hr4 := HR3.out.below hb4 (by omega)
          have hrc := hr4.cell 0
          have hrf := hr4.frozen 0
          have c10 := (hr4.set_ 0 (.slice Option.none 0 0)).cell 0
          have HLX := Lib.hid ((HB3.out.trans (hb4.mono (by omega))).setCell (p := ⟨w.heap.size, 0, Option.none⟩) (Nat.le_refl _) (.slice Option.none 0 0))
          clear how hb4 hr4
          go_wp2_with fail
          refine bodyPost_ret (v := .tuple #[.agg #[.slice Option.none 0 0], .bool false]) (by simp [results, Tryd.results8, go_sem, c10]) rfl ?_
          exact ⟨_, by rw [HE.out]; rfl, by rw [HE.out]; exact owPS_nil _ _ _, HLX.out⟩
        · rw [hn] at cN
          have CN : Hid (∀ wx, LW wx → Calls Tryd.prog 30 #[.string ⟨r1.toArray⟩, .string ⟨#[45]⟩] wx (RetOwT x true wx)) := cN
          have HA2 : Hid (allO lineO (P.take (k + 1)) = some (ps ++ [(⟨a1.toArray⟩, x)])) := by
            show _ = _
            rw [take_snocL hx]; exact allO_snoc HA.out (lineO_cut hct hn)
          clear cN hn hct hx
          go_wp2_with fail
          refine CC.out.mono ?_
          rintro e w3 ⟨rfl, n3, hw3⟩
          have hb3 : Below wr.heap.size wr w3 := by rw [hw3]; exact bel_drewN _ _ _
          have hs3 : w3.heap.size = wr.heap.size := by rw [hw3]; rfl
          have HB3 := Lib.hid hb3
          clear hw3 hb3
          go_wp2_with fail
          refine (CN.out w3 (HLW.out.below HB3.out)).mono ?_
          rintro e w4 ⟨v4, rfl, how, hb4⟩
          obtain ⟨A4, c4, rfl, _⟩ := how.form
          have hb4' : Below wr.heap.size wr w4 := HB3.out.trans (hb4.mono (by omega))
          have hX4 := HX.out.below hb4' (by omega)
          have hxc := hX4.cell 0
          have HB4 := Lib.hid hb4'
          have HW4 := Lib.hid (how.mono (show wr.heap.size ≤ w3.heap.size by omega) (Nat.le_refl _))
          have HG := Lib.hid (growO_of HO.out (Below.refl _ _) hsq)
          have HTS := Lib.hid hts
          clear how hb4 hb4' hX4 hts
          go_wp2_with (at_builtin; refine GrowO.app rfl (.tmp 43) (.tmp 47) rfl HG.out HB4.out HW4.out HTS.out (by omega) rfl rfl rfl ?_; intro v' w6 hG' hfr hsz6; obtain ⟨A6, c6, hv6, _⟩ := hG'.form; subst hv6; have hX6 := HX.out.below hG'.2.2.1 (show w1.heap.size < w2.heap.size by omega); have hxc6 := hX6.cell 0; have hxf6 := hX6.frozen 0; have HX6 := Lib.hid hX6; have HG6 := Lib.hid hG'; clear hG' hfr hX6)
          have hl1 : (ps ++ [((⟨a1.toArray⟩ : ByteArray), x)]).length = ps.length + 1 := by simp
          have HO7 : Hid (OwPS (w6.setCell ⟨w1.heap.size, 0, Option.none⟩ (.slice A6 (ps.length + 1) c6)) w2.heap.size (w6.setCell ⟨w1.heap.size, 0, Option.none⟩ (.slice A6 (ps.length + 1) c6)).heap.size (.slice A6 (ps ++ [((⟨a1.toArray⟩ : ByteArray), x)]).length c6) (ps ++ [((⟨a1.toArray⟩ : ByteArray), x)])) :=
            (HG6.out.own.far HX6.out (.slice A6 (ps.length + 1) c6)).mono (Nat.le_refl _) (by rw [World.size_setCell]; exact Nat.le_refl _)
          have HX7 : Hid (Blk (w6.setCell ⟨w1.heap.size, 0, Option.none⟩ (.slice A6 (ps.length + 1) c6)) w1.heap.size 24 [.slice A6 (ps ++ [((⟨a1.toArray⟩ : ByteArray), x)]).length c6]) := by
            show Blk _ _ _ _
            rw [hl1]; exact HX6.out.set_ 0 _
          have HB7 : Hid (Below w1.heap.size w2 (w6.setCell ⟨w1.heap.size, 0, Option.none⟩ (.slice A6 (ps.length + 1) c6))) := (HBq.out.trans (HG6.out.2.2.1.mono (by omega))).setCell (p := ⟨w1.heap.size, 0, Option.none⟩) (Nat.le_refl _) _
          go_roundw
          case rel => exact ⟨k + 1, ps ++ [((⟨a1.toArray⟩ : ByteArray), x)], A6, c6, by omega, by go_num, by rw [hl1]; omega, HA2, HO7, HX7, HB7⟩
          case measure => (simp [intOf]; try omega)
      · have ha := HA.out
        rw [List.take_of_length_le (by omega)] at ha
        have HE := Lib.hid (bookO_end HLN.out ha)
        have hxc := HX.out.cell 0
        have cB := IsBook_any ps (.agg #[.slice A5 ps.length c5]) wr.heap.size wr ⟨_, rfl, HO.out.rd⟩ (Nat.le_refl _)
        clear ha
        cases hbk : bookB ps
        · rw [hbk] at cB
          have HE2 : Hid (bookO s.data.toList = Option.none) := by
            show _ = _
            rw [HE.out, hbk]; rfl
          have CB := Lib.hid cB
          clear cB hbk HE
          go_wp2_with fail
          refine CB.out.mono ?_
          rintro e w3 ⟨rfl, hb3⟩
          have hr4 := HRQ.out.below hb3 (by omega)
          have hrc := hr4.cell 0
          have hrf := hr4.frozen 0
          have c10 := (hr4.set_ 0 (.slice Option.none 0 0)).cell 0
          have HLX := Lib.hid ((HBW.out.trans (hb3.mono (by omega))).setCell (p := ⟨w.heap.size, 0, Option.none⟩) (Nat.le_refl _) (.slice Option.none 0 0))
          clear hb3 hr4
          go_wp2_with fail
          refine bodyPost_ret (v := .tuple #[.agg #[.slice Option.none 0 0], .bool false]) (by simp [results, Tryd.results8, go_sem, c10]) rfl ?_
          exact ⟨_, by rw [HE2.out]; rfl, by rw [HE2.out]; exact owPS_nil _ _ _, HLX.out⟩
        · rw [hbk] at cB
          have HE2 : Hid (bookO s.data.toList = some ps) := by
            show _ = _
            rw [HE.out, hbk]; rfl
          have CB := Lib.hid cB
          clear cB hbk HE
          go_wp2_with fail
          refine CB.out.mono ?_
          rintro e w3 ⟨rfl, hb3⟩
          have hr4 := HRQ.out.below hb3 (by omega)
          have hrc := hr4.cell 0
          have hrf := hr4.frozen 0
          have hx4 := HX.out.below hb3 (by omega)
          have hxc4 := hx4.cell 0
          have c10 := (hr4.set_ 0 (.slice A5 ps.length c5)).cell 0
          have HLX := Lib.hid ((HBW.out.trans (hb3.mono (by omega))).setCell (p := ⟨w.heap.size, 0, Option.none⟩) (Nat.le_refl _) (.slice A5 ps.length c5))
          have HOX := Lib.hid (((HO.out.below hb3 (Nat.le_refl _)).far hr4 (.slice A5 ps.length c5)).mono (show w.heap.size ≤ w2.heap.size by omega) (show wr.heap.size ≤ (w3.setCell ⟨w.heap.size, 0, Option.none⟩ (.slice A5 ps.length c5)).heap.size by have := hb3.size; simpa [World.setCell] using this))
          clear hb3 hr4 hx4
          go_wp2_with fail
          refine bodyPost_ret (v := .tuple #[.agg #[.slice A5 ps.length c5], .bool true]) (by simp [results, Tryd.results8, go_sem, c10]) rfl ?_
          exact ⟨_, by rw [HE2.out]; rfl, by rw [HE2.out]; exact HOX.out, HLX.out⟩
end Go.Proofs.YtjnkdjokbamibaaDoor
/- The library's strings.Builder at this dump: its contracts, laid by hand (the numbers of functions and types put in their places). -/
namespace Go.Proofs.YtjnkdjokbamibaaDoor
open Go Go.RowKit
/-- A builder of the call's own that holds the bytes l. -/
def Bld (B b : Nat) (l : List UInt8) (w : World) : Prop := Lib.IsBuilder 81 5 B b (Lib.byteCells l) w
end Go.Proofs.YtjnkdjokbamibaaDoor
/- Contracts: the texts of books; of the reference and of the program. -/
namespace Go.Proofs.YtjnkdjokbamibaaDoor
open Go.RowKit
theorem bookT_snoc {ps : List Phr} {k : Nat} {p : Phr} (h : ps[k]? = some p) : bookT (ps.take (k + 1)) = bookT (ps.take k) ++ (p.1.data.toList ++ 32 :: numsT 45 p.2 ++ [10]) := by
  unfold bookT
  rw [take_snocN h, List.map_append, List.flatten_append]
  simp [lineT]
theorem bldAt_below {B b : Nat} {p : Value} {l : List Value} {w w' : World} (h : Lib.BuilderAt 81 5 B b p l w) (hb : Below w.heap.size w w') : Lib.BuilderAt 81 5 B b p l w' := by
  obtain ⟨h1, v, h2, h3, h4⟩ := h
  exact ⟨h1, v, (hb.block b (Array.getElem?_eq_some_iff.1 h2).1).trans h2, owns_below h3 (fun k hk => (h3.lt k hk).2) hb (Nat.le_refl _), h4⟩
theorem Bld.below {B b : Nat} {l : List UInt8} {w w' : World} (h : Bld B b l w) (hb : Below w.heap.size w w') : Bld B b l w' := by
  rcases h with h | h
  · exact .inl (bldAt_below h hb)
  · exact .inr (bldAt_below h hb)
theorem bookT_le : ∀ {q : List Phr}, (∀ p ∈ q, phrOk p = true) → (bookT q).length ≤ 23 * q.length := by
  intro q
  induction q with
  | nil => intro _; simp [bookT]
  | cons p r ih =>
    intro hq
    have h1 := phr_text (hq p (by simp))
    have h2 := phr_sigs (hq p (by simp))
    have h3 := numsT_len (c := 45) (phr_63 (hq p (by simp)))
    have ih := ih (fun x hx => hq x (by simp [hx]))
    unfold bookT at ih ⊢
    rw [List.map_cons, List.flatten_cons, List.length_append]
    unfold lineT at ih ⊢
    simp only [List.length_append, List.length_cons, List.length_nil] at ih ⊢
    omega
theorem take_sub {ps : List Phr} (h : bookB ps = true) (k : Nat) : (bookT (ps.take k)).length ≤ 1000 := by
  have h1 := bookB_len h
  have h2 : ∀ p ∈ ps.take k, phrOk p = true := fun p hp => bookB_phr h (List.mem_of_mem_take hp)
  have h3 := bookT_le h2
  rw [List.length_take] at h3
  omega
set_option maxRecDepth 100000 in
set_option maxHeartbeats 4000000 in
theorem bkText_any (ps : List Phr) (v : Value) (hi : Nat) (w : World) (h : RdB w hi v ps) (hh : hi ≤ w.heap.size) (hbk : bookB ps = true) :
    Calls Tryd.prog 27 #[v] w fun e w' => e = .returned (.string ⟨(bookT ps).toArray⟩) ∧ Below w.heap.size w w' := by
  obtain ⟨a, rfl, ha⟩ := h
  obtain ⟨A, c, rfl, hc, hm⟩ := ha.form
  have hba : Below w.heap.size w (w.alloc (.cells #[.slice A ps.length c] 24)) := (Below.refl _ _).alloc (Nat.le_refl _) _
  have HB := Lib.hid hba
  have HA := Lib.hid (ha.below hba hh)
  have hsz1 : hi ≤ (w.alloc (.cells #[.slice A ps.length c] 24)).heap.size := by simp; omega
  clear ha hba
  have HBK := Lib.hid hbk
  clear hbk
  go_enter Tryd.func27, Tryd.ntmps27
  go_wp2_with fail
  go_loopw [3, 11] (fun s i wr => ∃ k : Nat, k ≤ ps.length ∧ i = .int .i64 (k : Int) ∧ s = .string ⟨(bookT (ps.take k)).toArray⟩ ∧ Hid (Below (w.heap.size + 1) (w.alloc (.cells #[.slice A ps.length c] 24)) wr) ∧ w.heap.size + 1 ≤ wr.heap.size) (fun _ i _ => ps.length - (intOf i).toNat)
  case atStart => exact ⟨0, Nat.zero_le _, rfl, rfl, Below.refl _ _, by simp⟩
  case round =>
    obtain ⟨k, hk, rfl, rfl, hbr, hs⟩ := hrel
    by_cases hlt : k < ps.length
    · obtain ⟨b2, o2, c2, a2, t, xs, hv, hb2, hx, hcell2, hcell3, hra, hta⟩ := (HA.out.below hbr.out (by omega)).at_ hlt
      cases hv
      obtain ⟨A2, cc2, rfl, hcc2, hmm2⟩ := Rd.form hra
      have hok := bookB_phr HBK.out (List.mem_of_getElem? hx)
      have htl : t.size ≤ 12 := (phr_text hok).2.1
      have hxl : xs.length ≤ 3 := (phr_sigs hok).2.1
      have h63 : ∀ n ∈ xs, 0 ≤ n ∧ n ≤ 63 := phr_63 hok
      have H63 := Lib.hid h63
      have hbl := take_sub HBK.out k
      have HX := Lib.hid hx
      have HRA := Lib.hid hra
      have hbx : Below wr.heap.size wr (wr.alloc (.cells #[.string t, .slice A2 xs.length cc2] 49)) := (Below.refl _ _).alloc (Nat.le_refl _) _
      have q0 : (wr.alloc (.cells #[.string t, .slice A2 xs.length cc2] 49)).cell? ⟨wr.heap.size, 0, Option.none⟩ = some (.string t) := (Blk.new wr 49 #[.string t, .slice A2 xs.length cc2]).cell 0
      have q1 : (wr.alloc (.cells #[.string t, .slice A2 xs.length cc2] 49)).cell? ⟨wr.heap.size, 1, Option.none⟩ = some (.slice A2 xs.length cc2) := (Blk.new wr 49 #[.string t, .slice A2 xs.length cc2]).cell 1
      obtain ⟨wx, hwx⟩ : ∃ wx, wx = wr.alloc (.cells #[.string t, .slice A2 xs.length cc2] 49) := ⟨_, rfl⟩
      rw [← hwx] at hbx q0 q1
      have HWX := Lib.hid hwx
      obtain ⟨PRE, hPRE⟩ : ∃ PRE, PRE = bookT (ps.take k) ++ (t.data.toList ++ [32]) := ⟨_, rfl⟩
      have hpl : PRE.length ≤ 1100 := by rw [hPRE, List.length_append, List.length_append]; have : t.data.toList.length = t.size := by rw [Array.length_toList]; rfl
                                         rw [this]; simp; omega
      have HPRE := Lib.hid hPRE
      have HSTR : Hid ((⟨(bookT (ps.take k)).toArray⟩ : ByteArray) ++ (t ++ ⟨#[32]⟩) = ⟨PRE.toArray⟩) := by
        show _ = _
        rw [hPRE]; simp [ByteArray.ext_iff]
      have HXS := Lib.hid (RdI.below HRA.out hbx (by omega))
      have HBX := Lib.hid (hbr.out.trans (hbx.mono hs))
      have hsx := hbx.size
      clear hx hra hok h63 hwx hPRE hbx
      go_wp2_with fail
      rw [← HWX.out, HSTR.out]
      clear HWX q0 q1
      go_loopw [3, 23] (fun s i wq => ∃ j : Nat, j ≤ xs.length ∧ i = .int .i64 (j : Int) ∧ s = .string ⟨(PRE ++ numsT 45 (xs.take j)).toArray⟩ ∧ Hid (Below wx.heap.size wx wq)) (fun _ i _ => xs.length - (intOf i).toNat)
      case atStart => exact ⟨0, Nat.zero_le _, rfl, by rw [List.take_zero, show numsT 45 [] = [] from rfl, List.append_nil], Below.refl _ _⟩
      case round =>
        obtain ⟨j, hj, rfl, rfl, hbr2⟩ := hrel
        by_cases hltj : j < xs.length
        · obtain ⟨b1, o1, c1, y, hv, _, hy, hcell1⟩ := Rd.at_ (RdI.below HXS.out hbr2.out (by omega)) hltj
          cases hv
          have hyb := H63.out y (List.mem_of_getElem? hy)
          obtain ⟨m, rfl⟩ : ∃ m : Nat, y = (m : Int) := ⟨y.toNat, by omega⟩
          have HY := Lib.hid hy
          have hnl := numsT_len (c := 45) (l := xs.take j) (fun n hn => H63.out n (List.mem_of_mem_take hn))
          rw [List.length_take] at hnl
          have hil := itoa_len hyb.1 hyb.2
          rw [Lib.itoa_nonneg] at hil
          have CN := Lib.hid (l1Num_any m (by omega) wr)
          obtain ⟨T, hT⟩ : ∃ T, T = PRE ++ numsT 45 (xs.take j) := ⟨_, rfl⟩
          obtain ⟨D, hD⟩ : ∃ D, D = Lib.decDigits m := ⟨_, rfl⟩
          have hT1 : T.length ≤ 3000 := by rw [hT, List.length_append]; omega
          rw [← hT]
          rw [← hD] at CN hil
          have HT := Lib.hid hT
          have HD := Lib.hid hD
          have hD1 : D.length ≤ 2 := hil.2
          clear hy hT hD hnl hil
          rcases Nat.eq_zero_or_pos j with h0 | h0
          · have hg : decide (0 < j) = false := decide_eq_false (by omega)
            have H0 := Lib.hid h0
            clear h0
            go_wp2_with fail
            refine CN.out.mono ?_
            rintro e w2 ⟨rfl, hb2⟩
            have HB := Lib.hid (hbr2.out.trans (hb2.mono hbr2.out.size))
            clear hb2
            go_wp2_with fail
            go_roundw
            case rel =>
              refine ⟨j + 1, by omega, by go_num, ?_, HB.out⟩
              have e1 : xs.take j = [] := by rw [H0.out]; rfl
              rw [take_snocI HY.out, numsT_snoc, if_pos e1, Lib.itoa_nonneg, ← HD.out, HT.out, e1, show numsT 45 [] = [] from rfl, List.append_nil]
              simp [ByteArray.ext_iff]
            case measure => (simp [intOf]; try omega)
          · have hg : decide (0 < j) = true := decide_eq_true (by omega)
            go_wp2_with fail
            refine CN.out.mono ?_
            rintro e w2 ⟨rfl, hb2⟩
            have HB := Lib.hid (hbr2.out.trans (hb2.mono hbr2.out.size))
            clear hb2
            go_wp2_with fail
            go_roundw
            case rel =>
              refine ⟨j + 1, by omega, by go_num, ?_, HB.out⟩
              have e1 : xs.take j ≠ [] := by intro e; have := congrArg List.length e; rw [List.length_take, List.length_nil] at this; omega
              rw [take_snocI HY.out, numsT_snoc, if_neg e1, Lib.itoa_nonneg, ← HD.out, HT.out]
              simp [ByteArray.ext_iff]
            case measure => (simp [intOf]; try omega)
        · obtain rfl : j = xs.length := by omega
          have hfn := numsT_len (c := 45) (l := xs.take xs.length) (fun n hn => H63.out n (List.mem_of_mem_take hn))
          rw [List.length_take] at hfn
          obtain ⟨T, hT⟩ : ∃ T, T = PRE ++ numsT 45 (xs.take xs.length) := ⟨_, rfl⟩
          have hT1 : T.length ≤ 3000 := by rw [hT, List.length_append]; omega
          rw [← hT]
          have HT := Lib.hid hT
          have HBF := Lib.hid (HBX.out.trans (hbr2.out.mono (by omega)))
          have hsf := hbr2.out.size
          clear hT hfn
          go_wp2_with fail
          go_roundw
          case rel =>
            refine ⟨k + 1, by omega, by go_num, ?_, HBF.out, by omega⟩
            rw [bookT_snoc HX.out, HT.out, HPRE.out, List.take_of_length_le (Nat.le_refl _)]
            simp [ByteArray.ext_iff]
          case measure => (simp [intOf]; try omega)
    · obtain rfl : k = ps.length := by omega
      have HBR := Lib.hid (HB.out.trans (hbr.out.mono (by omega)))
      go_wp2_with fail
      go_ret
      exact ⟨ret_val (by first | rfl | (rw [List.take_of_length_le (Nat.le_refl _)]; rfl)), HBR.out⟩
end Go.Proofs.YtjnkdjokbamibaaDoor
