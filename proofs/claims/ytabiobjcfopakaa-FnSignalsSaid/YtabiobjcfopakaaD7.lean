/- Marks on books: each text and each signal of a book that the call has copied is overwritten. -/
import Derived.Test.YtabiobjcfopakaaO3
import Derived.Test.YtabiobjcfopakaaD2
import Derived.Laws.OwnMore
import Derived.Laws.IdiomStrings
namespace Go.Proofs.Ytabiobjcfopakaa
open Go.RowKit
/-- The digits of a number that is not 0. -/
def decT (n : Nat) : List UInt8 := if _h : n = 0 then [] else decT (n / 10) ++ [UInt8.ofNat (48 + n % 10)]
termination_by n
decreasing_by omega
theorem decT_zero : decT 0 = [] := by rw [decT]; rfl
theorem decT_pos {n : Nat} (h : 0 < n) : decT n = decT (n / 10) ++ [UInt8.ofNat (48 + n % 10)] := by rw [decT]; rw [dif_neg (by omega)]
def markT (k : Nat) : ByteArray := ⟨(109 :: decT k).toArray⟩
theorem conv_one (z : Int) (h0 : 0 ≤ z) (h1 : z < 256) (wr : World) :
    (convert 22 9 (.slice (some ⟨wr.heap.size, 0, Option.none⟩) 1 1)).run Try.prog (wr.alloc (.cells #[.int .u8 z] 5)) = .ok (.string ⟨#[UInt8.ofNat z.toNat]⟩) (wr.alloc (.cells #[.int .u8 z] 5)) := by
  have hl : [UInt8.ofNat z.toNat].length = 1 := rfl
  have := run_convert_bytes_back (P := Try.prog) (wr.alloc (.cells #[.int .u8 z] 5)) 22 9 5 ⟨wr.heap.size, 0, Option.none⟩ 1 [UInt8.ofNat z.toNat] Try.underlying22 Try.underlying5 Try.underlying9 (fun j hj => by
    obtain rfl : j = 0 := by simp at hj; omega
    rw [one_cell wr (.int .u8 z) 5 0 _ rfl]
    simp
    omega)
  exact this
theorem dec_step {k j : Nat} {l : List UInt8} (hj : 0 < j) (hd : decT k = decT j ++ l) : decT k = decT (j / 10) ++ (UInt8.ofNat (48 + j % 10) :: l) := by
  rw [hd, decT_pos hj]; simp
theorem dec_bd {j n : Nat} (hn : n < 24) (h : j < 2 ^ (24 - n)) : j / 10 < 2 ^ (24 - (n + 1)) := by
  rw [show 24 - n = (24 - (n + 1)) + 1 by omega, Nat.pow_succ] at h
  omega
set_option maxRecDepth 100000 in
set_option maxHeartbeats 400000 in
theorem markText_any (k : Nat) (h1 : 1 ≤ k) (h2 : k < 16777216) (w : World) : Calls Try.prog 226 #[.int .i64 (k : Int)] w fun e w' => e = .returned (.string (markT k)) ∧ Below w.heap.size w w' := by
  go_enter Try.func226, Try.ntmps226
  go_wp2
  go_loopw [0, 3] (fun m out wr => ∃ (j : Nat) (l : List UInt8), m = .int .i64 (j : Int) ∧ out = .string ⟨l.toArray⟩ ∧ Hid (decT k = decT j ++ l) ∧ Hid (j < 2 ^ (24 - l.length)) ∧ l.length ≤ 24 ∧ j ≤ k ∧ Below w.heap.size w wr) (fun m _ _ => (intOf m).toNat)
  case atStart => exact ⟨k, [], rfl, rfl, by show decT k = _; simp, by show k < _; simpa using h2, by simp, Nat.le_refl _, Below.refl _ _⟩
  case round =>
    obtain ⟨j, l, rfl, rfl, hd, hb, hl, hjk, hbr⟩ := hrel
    have hs := hbr.size
    by_cases hj : 0 < j
    · have hl2 : l.length < 24 := by
        rcases Nat.lt_or_ge l.length 24 with h | h
        · exact h
        · have := hb.out; rw [show 24 - l.length = 0 by omega] at this; omega
      have hcv := fun wr' => conv_one (48 + (j : Int) % 10) (by omega) (by omega) wr'
      go_wp2
      go_roundw
      case rel => exact ⟨j / 10, UInt8.ofNat (48 + j % 10) :: l, by go_num, by simp [ByteArray.ext_iff, UInt8.ofNat_add], dec_step hj hd.out, by rw [List.length_cons]; exact dec_bd hl2 hb.out, by rw [List.length_cons]; omega, by omega, hbr.alloc hs _⟩
      case measure => simp [intOf]; omega
    · obtain rfl : j = 0 := by omega
      have HD := hd
      go_wp2
      go_ret
      refine ⟨ret_val ?_, hbr⟩
      have := HD.out
      rw [decT_zero, List.nil_append] at this
      unfold markT
      rw [this]
      simp [ByteArray.ext_iff]
/-- How many marks books take. -/
def cntB : List Phr → Nat
  | [] => 0
  | p :: r => 1 + p.2.length + cntB r
theorem cntB_le (ps : List Phr) : cntB ps ≤ sizeB ps := by
  induction ps with
  | nil => exact Nat.le_refl _
  | cons p r ih => simp only [cntB, sizeB, sizeP]; omega
theorem cntB_at {ps : List Phr} {j : Nat} {p : Phr} (h : ps[j]? = some p) : cntB (ps.take (j + 1)) = cntB (ps.take j) + 1 + p.2.length ∧ cntB (ps.take (j + 1)) ≤ cntB ps := by
  induction ps generalizing j with
  | nil => simp at h
  | cons y r ih =>
    cases j with
    | zero => simp at h; subst h; simp [cntB]
    | succ j =>
      have := ih (j := j) (by simpa using h)
      simp only [List.take_succ_cons, cntB]
      omega
def marksB : Nat → List Phr → List Phr
  | _, [] => []
  | k, p :: r => (markT k, marks (k + 1) p.2.length) :: marksB (k + 1 + p.2.length) r
theorem marksB_len (k : Nat) (ps : List Phr) : (marksB k ps).length = ps.length := by
  induction ps generalizing k with
  | nil => rfl
  | cons p r ih => simp [marksB, ih]
theorem marksB_at {k j : Nat} {ps : List Phr} {p : Phr} (h : ps[j]? = some p) : (marksB k ps)[j]? = some (markT (k + cntB (ps.take j)), marks (k + cntB (ps.take j) + 1) p.2.length) := by
  induction ps generalizing j k with
  | nil => simp at h
  | cons y r ih =>
    cases j with
    | zero => simp at h; subst h; simp [marksB, cntB]
    | succ j =>
      simp only [marksB, List.getElem?_cons_succ, List.take_succ_cons, cntB]
      rw [ih (by simpa using h)]
      simp only [Nat.add_assoc]
def mixB (k j : Nat) (ps : List Phr) : List Phr := (marksB k ps).take j ++ ps.drop j
theorem mixB_len (k j : Nat) (ps : List Phr) : (mixB k j ps).length = ps.length := by simp [mixB, marksB_len]; omega
theorem mixB_at {k j : Nat} {ps : List Phr} {p : Phr} (h : ps[j]? = some p) : (mixB k j ps)[j]? = some p := by
  have hj := (List.getElem?_eq_some_iff.1 h).1
  unfold mixB
  rw [List.getElem?_append_right (by simp [marksB_len]; omega)]
  simp [marksB_len, show min j ps.length = j by omega, h]
theorem mixB_step {k j : Nat} {ps : List Phr} {p : Phr} (h : ps[j]? = some p) : (mixB k j ps).set j (markT (k + cntB (ps.take j)), marks (k + cntB (ps.take j) + 1) p.2.length) = mixB k (j + 1) ps := by
  have hj := (List.getElem?_eq_some_iff.1 h).1
  have hm := marksB_at (k := k) h
  unfold mixB
  have hd : ps.drop j = ps[j] :: ps.drop (j + 1) := List.drop_eq_getElem_cons hj
  have hl : j - ((marksB k ps).take j).length = 0 := by simp [marksB_len]; omega
  rw [List.set_append_right _ _ (by simp [marksB_len]; omega), take_snocN hm, hd, hl, List.set_cons_zero, List.append_assoc]
  rfl
theorem mixB_full (k : Nat) (ps : List Phr) : mixB k ps.length ps = marksB k ps := by
  unfold mixB; rw [List.drop_length, List.append_nil, List.take_of_length_le (by rw [marksB_len]; exact Nat.le_refl _)]
/-- Of what was there only blocks from lo to below hi may have turned. -/
structure KeepG (lo hi : Nat) (w w' : World) : Prop where
  os : w'.os = w.os
  tape : w'.tape = w.tape
  output : w'.output = w.output
  size : w.heap.size ≤ w'.heap.size
  block : ∀ k, k < w.heap.size → (k < lo ∨ hi ≤ k) → w'.heap[k]? = w.heap[k]?
theorem KeepG.refl (lo hi : Nat) (w : World) : KeepG lo hi w w := ⟨rfl, rfl, rfl, Nat.le_refl _, fun _ _ _ => rfl⟩
theorem KeepG.trans {lo hi : Nat} {a b c : World} (h : KeepG lo hi a b) (k : KeepG lo hi b c) : KeepG lo hi a c :=
  ⟨k.os.trans h.os, k.tape.trans h.tape, k.output.trans h.output, Nat.le_trans h.size k.size, fun i h1 h2 => (k.block i (Nat.lt_of_lt_of_le h1 h.size) h2).trans (h.block i h1 h2)⟩
theorem Keep.g {lo hi : Nat} {w w' : World} (h : Keep lo hi w w') : KeepG lo hi w w' := ⟨h.os, h.tape, h.output, Nat.le_of_eq h.size.symm, fun k _ h2 => h.block k h2⟩
theorem below_g {lo hi : Nat} {w w' : World} (h : Below w.heap.size w w') : KeepG lo hi w w' := ⟨h.os, h.tape, h.output, h.size, fun k h1 _ => h.block k h1⟩
/-- In two steps: first the blocks turn, then new ones come. -/
theorem KeepG.split {lo hi : Nat} {w w' : World} (h : KeepG lo hi w w') : ∃ m, Keep lo hi w m ∧ Below m.heap.size m w' := by
  refine ⟨{ w' with heap := w'.heap.extract 0 w.heap.size }, ⟨h.os, h.tape, h.output, ?_, fun k hk => ?_⟩, ⟨rfl, rfl, rfl, ?_, fun k hk => ?_⟩⟩
  · have := h.size; simp; omega
  · by_cases hlt : k < w.heap.size
    · rw [← h.block k hlt hk]
      show (w'.heap.extract 0 w.heap.size)[k]? = _
      rw [Array.getElem?_extract]
      have := h.size
      rw [if_pos (by omega), Nat.zero_add]
    · rw [Array.getElem?_eq_none (xs := w.heap) (by omega)]
      show (w'.heap.extract 0 w.heap.size)[k]? = _
      rw [Array.getElem?_eq_none (by simp; omega)]
  · show (w'.heap.extract 0 w.heap.size).size ≤ w'.heap.size
    simp; omega
  · show w'.heap[k]? = (w'.heap.extract 0 w.heap.size)[k]?
    have hk' : k < w.heap.size := by have h1 := h.size; simp at hk; omega
    have := h.size
    rw [Array.getElem?_extract, if_pos (by omega), Nat.zero_add]
theorem rows_far {w : World} {lo hi g : Nat} {us : List Value} {xss : List (List Int)} {cur : Array Value} {e : TypeId} {q : Nat × Nat} (h : RowsO w lo hi us xss) (hg : w.heap[g]? = some (.cells cur e q)) (he : e ≠ 3) (i : Nat) (x : Value) : RowsO (w.setCell ⟨g, i, Option.none⟩ x) lo hi us xss := by
  refine ⟨h.1, fun j u xs hu hx => ?_, h.2.2⟩
  have h1 := h.2.1 j u xs hu hx
  refine h1.only (b := some g) ((Only.refl _ _).setCell (p := ⟨g, i, Option.none⟩) rfl _) (fun g2 hg2 e2 => ?_)
  cases e2
  rcases h1.1.2 with ⟨rfl, _⟩ | ⟨g3, cap, cur3, rfl, _, hg3, _⟩
  · cases hg2
  · cases hg2
    rw [hg] at hg3
    cases hg3
    exact he rfl
theorem outer_onlyP {w w' : World} {lo n : Nat} {v u : Value} {cs : List Value} {xs : List Int} {lo' hi' : Nat} (h : w.ownsRow lo 60 2 v n cs) (hu : OwI w lo' hi' u xs) (hk : Only u.ownBlock w w') : w'.ownsRow lo 60 2 v n cs := by
  refine ⟨h.1, ?_⟩
  rcases h.2 with hn | ⟨g, cap, cur, rfl, hl, hg, rest⟩
  · exact .inl hn
  · refine .inr ⟨g, cap, cur, rfl, hl, (hk.block g (fun e => ?_)).trans hg, rest⟩
    rcases hu.1.2 with ⟨rfl, _⟩ | ⟨g2, cap2, cur2, rfl, _, hg2, _⟩
    · cases e
    · cases e
      rw [hg] at hg2
      simp at hg2
theorem zipC_set : ∀ (ts : List ByteArray) (us : List Value) (j : Nat) (t : ByteArray), (zipC ts us).set (j * 2) (.string t) = zipC (ts.set j t) us
  | [], us, j, t => by simp [zipC]
  | a :: ts, [], j, t => by cases j <;> simp [zipC]
  | a :: ts, u :: us, 0, t => by simp [zipC]
  | a :: ts, u :: us, j + 1, t => by simp only [zipC, List.set_cons_succ, show (j + 1) * 2 = j * 2 + 1 + 1 by omega, zipC_set ts us j t]
theorem markT_size {k : Nat} (h : k < 16777216) : (markT k).size ≤ 9223372036854775807 := by
  have hb : ∀ f n, n < 2 ^ f → (decT n).length ≤ f := by
    intro f
    induction f with
    | zero => intro n hn; obtain rfl : n = 0 := by simpa using hn
              rw [decT_zero]; simp
    | succ f ih =>
      intro n hn
      rcases Nat.eq_zero_or_pos n with rfl | hp
      · rw [decT_zero]; simp
      · rw [decT_pos hp, List.length_append]
        have := ih (n / 10) (by rw [Nat.pow_succ] at hn; omega)
        simp; omega
  have := hb 24 k (by simpa using h)
  show (109 :: decT k).toArray.size ≤ _
  simp; omega
set_option maxRecDepth 100000 in
set_option maxHeartbeats 1600000 in
theorem markPhraseS_any (ps : List Phr) (v : Value) (lo hi k : Nat) (w : World) (h : OwPS w lo hi v ps) (hh : hi ≤ w.heap.size) (hk1 : 1 ≤ k) (hk : k ≤ 4194304) (hsz : cntB ps ≤ 4194304) :
    Calls Try.prog 146 #[v, .int .i64 (k : Int)] w fun e w' => e = .returned (.int .i64 ((k + cntB ps : Nat) : Int)) ∧ OwPS w' lo hi v (marksB k ps) ∧ KeepG lo hi w w' := by
  obtain ⟨A, c, rfl, hc, hm⟩ := h.rd.form
  have H := Lib.hid h
  clear h
  go_enter Try.func146, Try.ntmps146
  go_wp2
  go_loopw [1, 5] (fun q i wr => ∃ (j : Nat), j ≤ ps.length ∧ i = .int .i64 j ∧ q = .int .i64 ((k + cntB (ps.take j) : Nat) : Int) ∧ Hid (OwPS wr lo hi (.slice A ps.length c) (mixB k j ps)) ∧ KeepG lo hi w wr) (fun _ i _ => ps.length - (intOf i).toNat)
  case atStart => exact ⟨0, Nat.zero_le _, rfl, rfl, by show OwPS _ _ _ _ _; simpa [mixB] using H.out, KeepG.refl _ _ _⟩
  case round =>
    obtain ⟨j, hj, rfl, rfl, how, hkp⟩ := hrel
    by_cases hlt : j < ps.length
    · have hx : ps[j]? = some ps[j] := by simp [hlt]
      obtain ⟨p, hp⟩ : ∃ p, p = ps[j] := ⟨_, rfl⟩
      rw [← hp] at hx
      have hcj := cntB_at hx
      have hc1 := hcj.1
      have hc2 := hcj.2
      have hs1 := hkp.size
      have HX := Lib.hid hx
      have HC := Lib.hid hc1
      have HKP := Lib.hid hkp
      have hb1 : k + cntB (ps.take j) + 1 + p.2.length ≤ 8388608 := by omega
      clear hx hp hcj hc1 hkp
      have hhr : hi ≤ wr.heap.size := by omega
      obtain ⟨us, hrows, hown, htx, hbl⟩ := how.out
      rw [mixB_len] at hown
      rcases hown.2 with ⟨_, h0⟩ | ⟨g, cap, cur, hv, hg1, hg2, _⟩
      · omega
      cases hv
      have hul : us.length = ps.length := by rw [hrows.1]; simp [sigs, mixB_len]
      obtain ⟨u, hu⟩ : ∃ u, us[j]? = some u := ⟨_, List.getElem?_eq_getElem (by omega)⟩
      have hz := zipC_at (txts (mixB k j ps)) us j p.1 u (by simp [txts, mixB_at HX.out]) hu
      have hgi : g < hi := hbl g rfl
      have HROW := Lib.hid hrows
      have HOWN := Lib.hid hown
      have HTX := Lib.hid htx
      have HG2 := Lib.hid hg2
      have HU := Lib.hid hu
      have HZ := Lib.hid hz
      have HUL := Lib.hid hul
      have HBL := Lib.hid hbl
      clear hrows hown htx hg2 hu hz how hul hbl
      go_wp2_with fail
      refine (markText_any (k + cntB (ps.take j)) (by omega) (by omega) _).mono ?_
      rintro e w1 ⟨rfl, hb2⟩
      have hown1 := owns_below HOWN.out HBL.out hb2 hhr
      have hrow1 := HROW.out.below hb2 hhr
      have hg21 := (hb2.block g (by omega)).trans HG2.out
      have hc0 := hown1.cellAt (j * 2) (by omega)
      rw [HZ.out.1] at hc0
      have hf0 := hown1.frozenAt (j * 2)
      have hc01 := hown1.cellAt (j * 2 + 1) (by omega)
      rw [HZ.out.2] at hc01
      have hst := (hown1.stored (j * 2) (.string (markT (k + cntB (ps.take j))))).1
      rw [zipC_set] at hst
      have hrow2 := rows_far hrow1 hg21 (by decide) (j * 2) (.string (markT (k + cntB (ps.take j))))
      have hru := hrow2.2.1 j u p.2 HU.out (by simp [sigs, mixB_at HX.out])
      have hkp2 : KeepG lo hi w (w1.setCell ⟨g, j * 2, Option.none⟩ (.string (markT (k + cntB (ps.take j))))) :=
        HKP.out.trans ((below_g hb2).trans ((Keep.refl lo hi w1).setCell (p := ⟨g, j * 2, Option.none⟩) hg1 hgi _).g)
      obtain ⟨AU, cu, hue, _⟩ := hru.rd.form
      subst hue
      have HST := Lib.hid hst
      have HRW2 := Lib.hid hrow2
      have HRU := Lib.hid hru
      have HKP2 := Lib.hid hkp2
      clear hown1 hrow1 hg21 hst hrow2 hru hkp2 hb2
      go_wp2_with fail
      refine (markIntS_only p.2 _ lo hi (k + cntB (ps.take j) + 1) _ HRU.out (by omega) (by omega)).mono ?_
      rintro e w3 ⟨rfl, hm3, hk3⟩
      have h1 := HRW2.out.only HU.out hk3 hm3
      have h2 := outer_onlyP HST.out HRU.out hk3
      have h3 := HKP2.out.trans (hk3.keepI HRU.out).g
      have H4 : Hid (OwPS w3 lo hi (.slice (some ⟨g, 0, Option.none⟩) ps.length c) (mixB k (j + 1) ps)) := by
        refine ⟨us, ?_, ?_, ?_, HBL.out⟩
        · rw [← mixB_step HX.out]
          have : sigs ((mixB k j ps).set j (markT (k + cntB (ps.take j)), marks (k + cntB (ps.take j) + 1) p.2.length)) = (sigs (mixB k j ps)).set j (marks (k + cntB (ps.take j) + 1) p.2.length) := by simp [sigs, List.map_set]
          rw [this]; exact h1
        · rw [← mixB_step HX.out]
          have : txts ((mixB k j ps).set j (markT (k + cntB (ps.take j)), marks (k + cntB (ps.take j) + 1) p.2.length)) = (txts (mixB k j ps)).set j (markT (k + cntB (ps.take j))) := by simp [txts, List.map_set]
          rw [this]
          simpa [mixB_len] using h2
        · rw [← mixB_step HX.out]
          intro x hx
          rcases List.mem_or_eq_of_mem_set hx with hx | rfl
          · exact HTX.out x hx
          · exact markT_size (by omega)
      have H3 := Lib.hid h3
      clear h1 h2 h3 hk3 hm3 hc0 hf0 hc01
      go_wp2
      go_roundw
      case rel => exact ⟨j + 1, by omega, by go_num, int_val (by have := HC.out; omega), H4, H3.out⟩
      case measure => simp [intOf]; omega
    · obtain rfl : j = ps.length := by omega
      have HO := how
      go_wp2
      go_ret
      exact ⟨ret_int (by rw [List.take_of_length_le (Nat.le_refl _)]), by have := HO.out; rwa [mixB_full] at this, hkp⟩
theorem markBook_g (ps : List Phr) (v : Value) (lo hi k : Nat) (w : World) (h : OwB w lo hi v ps) (hh : hi ≤ w.heap.size) (hk1 : 1 ≤ k) (hk : k ≤ 4194304) (hsz : cntB ps ≤ 4194304) :
    Calls Try.prog 43 #[v, .int .i64 (k : Int)] w fun e w' => e = .returned (.int .i64 ((k + cntB ps : Nat) : Int)) ∧ OwB w' lo hi v (marksB k ps) ∧ KeepG lo hi w w' := by
  obtain ⟨u, rfl, hu⟩ := h
  obtain ⟨A, c, rfl, hc, hm⟩ := hu.rd.form
  have hba : Below w.heap.size w (w.alloc (.cells #[.slice A ps.length c] 48)) := (Below.refl _ _).alloc (Nat.le_refl _) _
  have H := Lib.hid (hu.below hba hh)
  have HB := Lib.hid (below_g (lo := lo) (hi := hi) hba)
  clear hu hba
  go_enter Try.func43, Try.ntmps43
  go_wp2_with fail
  refine (markPhraseS_any ps _ lo hi k _ H.out (by simp; omega) hk1 hk hsz).mono ?_
  rintro e w2 ⟨rfl, ho2, hk2⟩
  have HO : Hid (OwB w2 lo hi (.agg #[.slice A ps.length c]) (marksB k ps)) := ⟨_, rfl, ho2⟩
  have HK := Lib.hid (HB.out.trans hk2)
  clear ho2 hk2
  go_wp2_with fail
  go_ret
  exact ⟨rfl, HO.out, HK.out⟩
/-- The count, in a number of its own; the memory in two steps. -/
theorem markBook_ex (ps : List Phr) (v : Value) (lo hi k : Nat) (w : World) (h : OwB w lo hi v ps) (hh : hi ≤ w.heap.size) (hk1 : 1 ≤ k) (hk : k ≤ 4194304) (hsz : sizeB ps ≤ 4194304) :
    Calls Try.prog 43 #[v, .int .i64 (k : Int)] w fun e w' => ∃ (q : Nat) (m : World), e = .returned (.int .i64 (q : Int)) ∧ q ≤ k + sizeB ps ∧ k ≤ q ∧ OwB w' lo hi v (marksB k ps) ∧ Keep lo hi w m ∧ Below m.heap.size m w' :=
  (markBook_g ps v lo hi k w h hh hk1 hk (by have := cntB_le ps; omega)).mono fun _ _ ⟨he, h1, h2⟩ => by
    obtain ⟨m, hm1, hm2⟩ := h2.split
    exact ⟨_, m, he, by have := cntB_le ps; omega, by omega, h1, hm1, hm2⟩
end Go.Proofs.Ytabiobjcfopakaa
