/- Texts of one claim, joined: D1, O3, D2, D7, J1, J2, J3, B1, B2, A3, B4. -/
import Derived.Deep.SlicePairs
import Derived.Lib.SmallJoins
import Derived.StillTailTactics
import Derived.Laws.OwnMore
import Derived.Laws.IdiomStrings
import Derived.Laws.BitsLemmas
import Derived.Laws.Bits64
import Derived.Lib.SlBytesConst
import Derived.Test.YtabiobjcfopakaaC1ReadOneWay
/- Words on books in memory; the helpers of the laws on phrases and books. -/
namespace Go.Proofs.Ytabiobjcfopakaa
open Go.RowKit
/-- A phrase: its text and its signals. -/
abbrev Phr := ByteArray × List Int
/-- The cells of phrases: of each its text, then its slice. -/
def zipC : List ByteArray → List Value → List Value
  | t :: ts, u :: us => .string t :: u :: zipC ts us
  | _, _ => []
theorem zipC_len : ∀ (ts : List ByteArray) (us : List Value), us.length = ts.length → (zipC ts us).length = ts.length * 2
  | [], [], _ => rfl
  | [], _ :: _, h => by simp at h
  | _ :: _, [], h => by simp at h
  | t :: ts, u :: us, h => by simp only [zipC, List.length_cons, zipC_len ts us (by simpa using h)]; omega
theorem zipC_at : ∀ (ts : List ByteArray) (us : List Value) (k : Nat) (t : ByteArray) (u : Value), ts[k]? = some t → us[k]? = some u → (zipC ts us)[k * 2]? = some (.string t) ∧ (zipC ts us)[k * 2 + 1]? = some u
  | [], _, k, t, u, h, _ => by simp at h
  | _ :: _, [], k, t, u, _, h => by simp at h
  | a :: ts, b :: us, 0, t, u, h, g => by simp at h g; subst h g; exact ⟨rfl, rfl⟩
  | a :: ts, b :: us, k + 1, t, u, h, g => by
    have := zipC_at ts us k t u (by simpa using h) (by simpa using g)
    simp only [zipC, show (k + 1) * 2 = k * 2 + 1 + 1 by omega, List.getElem?_cons_succ]
    exact this
theorem zipC_append : ∀ (ts : List ByteArray) (us : List Value) (t : ByteArray) (u : Value), us.length = ts.length → zipC (ts ++ [t]) (us ++ [u]) = zipC ts us ++ [.string t, u]
  | [], [], t, u, _ => rfl
  | [], _ :: _, _, _, h => by simp at h
  | _ :: _, [], _, _, h => by simp at h
  | a :: ts, b :: us, t, u, h => by simp only [List.cons_append, zipC, zipC_append ts us t u (by simpa using h)]
def txts (ps : List Phr) : List ByteArray := ps.map (·.1)
def sigs (ps : List Phr) : List (List Int) := ps.map (·.2)
def TxtOk (ps : List Phr) : Prop := ∀ p ∈ ps, p.1.size ≤ 9223372036854775807
/-- The slice value v reads as phrases. -/
def RdPS (w : World) (hi : Nat) (v : Value) (ps : List Phr) : Prop := ∃ us, RowsR w hi us (sigs ps) ∧ Rd w hi 2 v ps.length (zipC (txts ps) us) ∧ TxtOk ps
theorem RdPS.form {w : World} {hi : Nat} {v : Value} {ps : List Phr} (h : RdPS w hi v ps) : ∃ A c, v = .slice A ps.length c ∧ ps.length ≤ c ∧ ps.length ≤ 9223372036854775807 := by
  obtain ⟨us, _, ⟨_, A, c, hv, h2, h3, _⟩, _⟩ := h
  exact ⟨A, c, hv, h2, by unfold maxLen at h3; omega⟩
theorem RdPS.at_ {w : World} {hi : Nat} {v : Value} {ps : List Phr} (h : RdPS w hi v ps) {k : Nat} (hk : k < ps.length) :
    ∃ b off c u t xs, v = .slice (some ⟨b, off, Option.none⟩) ps.length c ∧ b < hi ∧ ps[k]? = some (t, xs) ∧ w.cell? ⟨b, off + k * 2, Option.none⟩ = some (.string t) ∧ w.cell? ⟨b, off + k * 2 + 1, Option.none⟩ = some u ∧ RdI w hi u xs ∧ t.size ≤ 9223372036854775807 := by
  obtain ⟨us, h1, ⟨h0, A, c, hv, _, _, h4⟩, ht⟩ := h
  obtain ⟨b, off, rfl, hb, hc⟩ := h4 (by omega)
  have hl : us.length = ps.length := by have := h1.1; simpa [sigs] using this
  have hu : us[k]? = some us[k] := by simp [show k < us.length by omega]
  have hz := zipC_at (txts ps) us k ps[k].1 us[k] (by simp [txts, hk]) hu
  refine ⟨b, off, c, us[k], ps[k].1, ps[k].2, hv, hb, by simp [hk], hc _ _ hz.1, ?_, h1.2 k _ _ hu (by simp [sigs, hk]), ht _ (List.getElem_mem hk)⟩
  have := hc _ _ hz.2
  rwa [← Nat.add_assoc] at this
theorem RdPS.below {w w' : World} {hi : Nat} {v : Value} {ps : List Phr} (h : RdPS w hi v ps) {B : Nat} (hb : Below B w w') (hB : hi ≤ B) : RdPS w' hi v ps := by
  obtain ⟨us, h1, h2, h3⟩ := h; exact ⟨us, h1.below hb hB, h2.below hb hB, h3⟩
def RdP (w : World) (hi : Nat) (v : Value) (p : Phr) : Prop := ∃ u, v = .agg #[.string p.1, u] ∧ RdI w hi u p.2 ∧ p.1.size ≤ 9223372036854775807
def RdB (w : World) (hi : Nat) (v : Value) (ps : List Phr) : Prop := ∃ u, v = .agg #[u] ∧ RdPS w hi u ps
def OwP (w : World) (lo hi : Nat) (v : Value) (p : Phr) : Prop := ∃ u, v = .agg #[.string p.1, u] ∧ OwI w lo hi u p.2 ∧ p.1.size ≤ 9223372036854775807
def OwPS (w : World) (lo hi : Nat) (v : Value) (ps : List Phr) : Prop := ∃ us, RowsO w lo hi us (sigs ps) ∧ w.ownsRow lo 60 2 v ps.length (zipC (txts ps) us) ∧ TxtOk ps ∧ ∀ k, v.ownBlock = some k → k < hi
def OwB (w : World) (lo hi : Nat) (v : Value) (ps : List Phr) : Prop := ∃ u, v = .agg #[u] ∧ OwPS w lo hi u ps
theorem RdP.below {w w' : World} {hi : Nat} {v : Value} {p : Phr} (h : RdP w hi v p) {B : Nat} (hb : Below B w w') (hB : hi ≤ B) : RdP w' hi v p := by
  obtain ⟨u, h1, h2, h3⟩ := h; exact ⟨u, h1, h2.below hb hB, h3⟩
theorem RdB.below {w w' : World} {hi : Nat} {v : Value} {ps : List Phr} (h : RdB w hi v ps) {B : Nat} (hb : Below B w w') (hB : hi ≤ B) : RdB w' hi v ps := by
  obtain ⟨u, h1, h2⟩ := h; exact ⟨u, h1, h2.below hb hB⟩
theorem OwP.below {w w' : World} {lo hi : Nat} {v : Value} {p : Phr} (h : OwP w lo hi v p) {B : Nat} (hb : Below B w w') (hB : hi ≤ B) : OwP w' lo hi v p := by
  obtain ⟨u, h1, h2, h3⟩ := h; exact ⟨u, h1, h2.below hb hB, h3⟩
theorem OwP.keep {w w' : World} {lo hi a b : Nat} {v : Value} {p : Phr} (h : OwP w lo hi v p) (hk : Keep a b w w') (hd : hi ≤ a ∨ b ≤ lo) : OwP w' lo hi v p := by
  obtain ⟨u, h1, h2, h3⟩ := h; exact ⟨u, h1, h2.keep hk hd, h3⟩
theorem OwPS.below {w w' : World} {lo hi : Nat} {v : Value} {ps : List Phr} (h : OwPS w lo hi v ps) {B : Nat} (hb : Below B w w') (hB : hi ≤ B) : OwPS w' lo hi v ps := by
  obtain ⟨us, h1, h2, h3, h4⟩ := h; exact ⟨us, h1.below hb hB, owns_below h2 h4 hb hB, h3, h4⟩
theorem OwPS.keep {w w' : World} {lo hi a b : Nat} {v : Value} {ps : List Phr} (h : OwPS w lo hi v ps) (hk : Keep a b w w') (hd : hi ≤ a ∨ b ≤ lo) : OwPS w' lo hi v ps := by
  obtain ⟨us, h1, h2, h3, h4⟩ := h; exact ⟨us, h1.keep hk hd, owns_keep h2 h4 hk hd, h3, h4⟩
theorem OwB.below {w w' : World} {lo hi : Nat} {v : Value} {ps : List Phr} (h : OwB w lo hi v ps) {B : Nat} (hb : Below B w w') (hB : hi ≤ B) : OwB w' lo hi v ps := by
  obtain ⟨u, h1, h2⟩ := h; exact ⟨u, h1, h2.below hb hB⟩
theorem OwB.keep {w w' : World} {lo hi a b : Nat} {v : Value} {ps : List Phr} (h : OwB w lo hi v ps) (hk : Keep a b w w') (hd : hi ≤ a ∨ b ≤ lo) : OwB w' lo hi v ps := by
  obtain ⟨u, h1, h2⟩ := h; exact ⟨u, h1, h2.keep hk hd⟩
theorem OwP.rd {w : World} {lo hi : Nat} {v : Value} {p : Phr} (h : OwP w lo hi v p) : RdP w hi v p := by
  obtain ⟨u, h1, h2, h3⟩ := h; exact ⟨u, h1, h2.rd, h3⟩
theorem OwPS.rd {w : World} {lo hi : Nat} {v : Value} {ps : List Phr} (h : OwPS w lo hi v ps) : RdPS w hi v ps := by
  obtain ⟨us, h1, h2, h3, h4⟩ := h; exact ⟨us, h1.rd, rd_of_owns h2 h4, h3⟩
theorem OwB.rd {w : World} {lo hi : Nat} {v : Value} {ps : List Phr} (h : OwB w lo hi v ps) : RdB w hi v ps := by
  obtain ⟨u, h1, h2⟩ := h; exact ⟨u, h1, h2.rd⟩
/-- What is left of a number of cells behind a phrase, behind phrases. -/
def szPhraseM (p : Phr) (left : Int) : Int := if left - p.1.size < 0 then -1 else if left - p.1.size - p.2.length < 0 then -1 else left - p.1.size - p.2.length
def szPhrRest : Int → List Phr → Int
  | l, [] => l
  | l, p :: r => if szPhraseM p l < 0 then -1 else szPhrRest (szPhraseM p l) r
def szBookM (ps : List Phr) (left : Int) : Int := if left - ps.length < 0 then -1 else szPhrRest (left - ps.length) ps
def sizeP (p : Phr) : Nat := p.1.size + p.2.length
def sizeB : List Phr → Nat
  | [] => 0
  | p :: r => sizeP p + 1 + sizeB r
theorem szPhraseM_bd {p : Phr} {l : Int} (h : ¬ szPhraseM p l < 0) : szPhraseM p l = l - sizeP p ∧ sizeP p ≤ l := by
  unfold szPhraseM at *
  unfold sizeP
  split at h
  · omega
  · split at h
    · omega
    · rename_i h1 h2; rw [if_neg h1, if_neg h2]; omega
theorem szPhrRest_bd (l : Int) (ps : List Phr) (h : ¬ szPhrRest l ps < 0) : (sizeB ps : Int) ≤ l + ps.length := by
  induction ps generalizing l with
  | nil => simp only [szPhrRest] at h; simp only [sizeB, List.length_nil]; omega
  | cons p r ih =>
    simp only [szPhrRest] at h
    split at h
    · omega
    · rename_i h1
      have h2 := szPhraseM_bd h1
      have := ih _ h
      simp only [sizeB, List.length_cons]
      omega
theorem szPhrase_bd {p : Phr} {left z : Int} (h : z = szPhraseM p left) (hz : ¬ z < 0) (hl : left ≤ 1048576 := by omega) : sizeP p ≤ 1048576 := by
  subst h; have := (szPhraseM_bd hz).2; omega
theorem szBook_bd {ps : List Phr} {left z : Int} (h : z = szBookM ps left) (hz : ¬ z < 0) (hl : left ≤ 1048576 := by omega) : sizeB ps ≤ 1048576 := by
  subst h
  unfold szBookM at hz
  split at hz
  · omega
  · have := szPhrRest_bd _ _ hz
    omega
theorem sizeB_at {ps : List Phr} {k : Nat} {p : Phr} (h : ps[k]? = some p) : sizeB (ps.take (k + 1)) = sizeB (ps.take k) + sizeP p + 1 ∧ sizeB (ps.take (k + 1)) ≤ sizeB ps := by
  induction ps generalizing k with
  | nil => simp at h
  | cons y r ih =>
    cases k with
    | zero => simp at h; subst h; simp [sizeB]
    | succ k =>
      have := ih (k := k) (by simpa using h)
      simp only [List.take_succ_cons, sizeB]
      omega
theorem sizeB_len (ps : List Phr) : ps.length ≤ sizeB ps := by
  induction ps with
  | nil => simp
  | cons y r ih => simp only [List.length_cons, sizeB]; omega
theorem bel_box {B : Nat} {w w' : World} {o : Obj} (h : Below (w.alloc o).heap.size (w.alloc o) w') (hB : B ≤ w.heap.size) : Below B w w' :=
  ((Below.refl B w).alloc hB o).trans (h.mono (by simp; omega))
theorem szPhrase_any (p : Phr) (v : Value) (left : Int) (hi : Nat) (w : World) (h : RdP w hi v p) (hhi : hi ≤ w.heap.size) (h0 : 0 ≤ left) (h1 : left ≤ 1048576) :
    Calls Try.prog 66 #[v, .int .i64 left] w fun e w' => e = .returned (.int .i64 (szPhraseM p left)) ∧ Below w.heap.size w w' := by
  obtain ⟨u, rfl, hu, ht⟩ := h
  have H := Lib.hid (RdI.below hu ((Below.refl w.heap.size w).alloc (Nat.le_refl _) (.cells #[.string p.1, u] 73)) hhi)
  clear hu
  unfold szPhraseM
  have hba : Below w.heap.size w (w.alloc (.cells #[.string p.1, u] 73)) := (Below.refl _ _).alloc (Nat.le_refl _) _
  by_cases hl1 : left - p.1.size < 0
  · rw [if_pos hl1]
    go_enter Try.func66, Try.ntmps66
    go_wp2_with fail
    go_ret
    exact ⟨rfl, hba⟩
  · rw [if_neg hl1]
    by_cases hl2 : left - p.1.size - p.2.length < 0
    · rw [if_pos hl2]
      go_enter Try.func66, Try.ntmps66
      go_wp2_with fail
      refine (szIntS_any p.2 u _ hi _ H.out (by omega) (by omega)).mono ?_
      rw [if_pos hl2]
      rintro e w' ⟨rfl, rfl⟩
      go_wp2_with fail
      go_ret
      exact ⟨rfl, hba⟩
    · rw [if_neg hl2]
      go_enter Try.func66, Try.ntmps66
      go_wp2_with fail
      refine (szIntS_any p.2 u _ hi _ H.out (by omega) (by omega)).mono ?_
      rw [if_neg (by omega)]
      rintro e w' ⟨rfl, rfl⟩
      go_wp2_with fail
      go_ret
      exact ⟨rfl, hba⟩
set_option maxHeartbeats 400000 in
theorem szPhraseS_any (ps : List Phr) (v : Value) (left : Int) (hi : Nat) (w : World) (h : RdPS w hi v ps) (hhi : hi ≤ w.heap.size) (h0 : 0 ≤ left) (h1 : left ≤ 1048576) :
    Calls Try.prog 133 #[v, .int .i64 left] w fun e w' => e = .returned (.int .i64 (szBookM ps left)) ∧ Below w.heap.size w w' := by
  obtain ⟨A, c, rfl, hc, hm⟩ := h.form
  have H := Lib.hid h
  clear h
  unfold szBookM
  by_cases hlt : left - ps.length < 0
  · rw [if_pos hlt]
    go_enter Try.func133, Try.ntmps133
    go_wp2
    go_ret
    exact ⟨rfl, Below.refl _ _⟩
  · rw [if_neg hlt]
    obtain ⟨z, hz⟩ : ∃ z, z = szPhrRest (left - ps.length) ps := ⟨_, rfl⟩
    rw [← hz]
    have HZ := Lib.hid hz
    clear hz
    go_enter Try.func133, Try.ntmps133
    go_wp2
    go_loopw [1, 5] (fun q i wr => ∃ (k : Nat) (l : Int), k ≤ ps.length ∧ i = .int .i64 k ∧ q = .int .i64 l ∧ 0 ≤ l ∧ l ≤ 1048576 ∧ Hid (z = szPhrRest l (ps.drop k)) ∧ Below w.heap.size w wr) (fun _ i _ => ps.length - (intOf i).toNat)
    case atStart => exact ⟨0, _, Nat.zero_le _, rfl, rfl, by omega, by omega, HZ.out, Below.refl _ _⟩
    case round =>
      obtain ⟨k, l, hk, rfl, rfl, hl0, hl1, hzl, hbr⟩ := hrel
      by_cases hlt : k < ps.length
      · obtain ⟨b1, o1, c1, u, t, xs, hv, _, hx, hcell1, hcell2, hru, hts⟩ := (H.out.below hbr hhi).at_ hlt
        cases hv
        have hdr : ps.drop k = (t, xs) :: ps.drop (k + 1) := by
          rw [List.drop_eq_getElem_cons hlt]
          rw [List.getElem?_eq_getElem hlt] at hx
          rw [Option.some.inj hx]
        have hz2 := hzl.out
        rw [hdr, szPhrRest] at hz2
        have HZ2 := Lib.hid hz2
        have HRU : Hid (RdP wr hi (.agg #[.string t, u]) (t, xs)) := ⟨u, rfl, hru, hts⟩
        have hbs := hbr.size
        clear hz2 hdr hx hru
        by_cases hneg : szPhraseM (t, xs) l < 0
        · go_wp2_with fail
          refine (szPhrase_any (t, xs) _ l hi _ HRU.out (by omega) hl0 hl1).mono ?_
          rintro e w' ⟨rfl, hb2⟩
          have hb3 := hbr.trans (hb2.mono hbs)
          go_wp2_with fail
          go_ret
          exact ⟨ret_int (by rw [HZ2.out, if_pos hneg]), hb3⟩
        · have hbd := szPhraseM_bd hneg
          have hbd1 := hbd.1
          have HB1 := Lib.hid hbd1
          have hbd2 := hbd.2
          have hbd3 : szPhraseM (t, xs) l ≤ 1048576 := by omega
          have hbd4 : 0 ≤ szPhraseM (t, xs) l := by omega
          clear hbd hbd1
          go_wp2_with fail
          refine (szPhrase_any (t, xs) _ l hi _ HRU.out (by omega) hl0 hl1).mono ?_
          rintro e w' ⟨rfl, hb2⟩
          have hb3 := hbr.trans (hb2.mono hbs)
          go_wp2_with fail
          go_roundw
          case rel => exact ⟨k + 1, szPhraseM (t, xs) l, by omega, by go_num, rfl, by omega, by omega, by have := HZ2.out; rw [if_neg (by omega)] at this; exact this, hb3⟩
          case measure => simp [intOf]; omega
      · obtain rfl : k = ps.length := by omega
        go_wp2
        go_ret
        exact ⟨ret_int (by rw [hzl.out, List.drop_length]; rfl), hbr⟩
theorem szBook_any (ps : List Phr) (v : Value) (left : Int) (hi : Nat) (w : World) (h : RdB w hi v ps) (hhi : hi ≤ w.heap.size) (h0 : 0 ≤ left) (h1 : left ≤ 1048576) :
    Calls Try.prog 36 #[v, .int .i64 left] w fun e w' => e = .returned (.int .i64 (szBookM ps left)) ∧ Below w.heap.size w w' := by
  obtain ⟨u, rfl, hu⟩ := h
  have H := Lib.hid (hu.below ((Below.refl w.heap.size w).alloc (Nat.le_refl _) (.cells #[u] 42)) hhi)
  clear hu
  have hneg : szBookM ps left < 0 → szBookM ps left = -1 := by
    intro hn
    unfold szBookM at *
    split
    · rfl
    · rename_i h2
      rw [if_neg h2] at hn
      revert hn
      generalize left - ps.length = l at h2
      clear h0 h1 H
      induction ps generalizing l with
      | nil => intro hn; simp only [szPhrRest] at hn; omega
      | cons p r ih =>
        simp only [szPhrRest]
        split
        · intro _; rfl
        · rename_i h3; intro hn; exact ih _ (by omega) hn
  have HN := Lib.hid hneg
  clear hneg
  by_cases hz : szBookM ps left < 0
  · go_enter Try.func36, Try.ntmps36
    go_wp2_with fail
    refine (szPhraseS_any ps u left hi _ H.out (by simp; omega) h0 h1).mono ?_
    rintro e w' ⟨rfl, hb⟩
    have hb2 := bel_box hb (Nat.le_refl w.heap.size)
    clear hb
    go_wp2_with fail
    go_ret
    exact ⟨ret_int (HN.out hz).symm, hb2⟩
  · go_enter Try.func36, Try.ntmps36
    go_wp2_with fail
    refine (szPhraseS_any ps u left hi _ H.out (by simp; omega) h0 h1).mono ?_
    rintro e w' ⟨rfl, hb⟩
    have hb2 := bel_box hb (Nat.le_refl w.heap.size)
    clear hb
    go_wp2_with fail
    go_ret
    exact ⟨rfl, hb2⟩
theorem toPhrase_any (p : Phr) (v : Value) (hi : Nat) (w : World) (h : RdP w hi v p) (hhi : hi ≤ w.heap.size) (hsz : sizeP p ≤ 1048576) :
    Calls Try.prog 68 #[v] w fun e w' => ∃ v', e = .returned v' ∧ OwP w' w.heap.size w'.heap.size v' p ∧ Below w.heap.size w w' := by
  obtain ⟨u, rfl, hu, ht⟩ := h
  have hba : Below w.heap.size w (((w.alloc (.cells #[.string p.1, u] 73)).alloc (.cells #[.string { data := #[] }, .slice Option.none 0 0] 60)).alloc (.cells #[.string p.1, .slice Option.none 0 0] 60)) :=
    (((Below.refl _ _).alloc (Nat.le_refl _) _).alloc (by simp) _).alloc (by simp; omega) _
  have H := Lib.hid (hu.below hba hhi)
  have hlen : p.2.length ≤ 1048576 := by unfold sizeP at hsz; omega
  clear hu
  go_enter Try.func68, Try.ntmps68
  go_wp2_with fail
  refine (toIntS_any p.2 u hi _ H.out (by omega) (by simp; omega)).mono ?_
  rintro e w4 ⟨u', rfl, hu', hb4⟩
  have hblk1 : Blk w4 (w.heap.size + 1) 60 [.string { data := #[] }, .slice Option.none 0 0] := by
    have := ((Blk.new (w.alloc (.cells #[.string p.1, u] 73)) 60 #[.string { data := #[] }, .slice Option.none 0 0]).alloc (.cells #[.string p.1, .slice Option.none 0 0] 60)).below hb4 (by simp)
    simpa using this
  have hblk2 : Blk w4 (w.heap.size + 1 + 1) 60 [.string p.1, .slice Option.none 0 0] := by
    have := (Blk.new ((w.alloc (.cells #[.string p.1, u] 73)).alloc (.cells #[.string { data := #[] }, .slice Option.none 0 0] 60)) 60 #[.string p.1, .slice Option.none 0 0]).below hb4 (by simp)
    simpa using this
  have hsz4 : w.heap.size + 1 + 1 < w4.heap.size := hblk2.lt
  have c10 : w4.cell? ⟨w.heap.size + 1, 0, Option.none⟩ = some (.string { data := #[] }) := hblk1.cell 0
  have c11 : w4.cell? ⟨w.heap.size + 1, 1, Option.none⟩ = some (.slice Option.none 0 0) := hblk1.cell 1
  have c20 : w4.cell? ⟨w.heap.size + 1 + 1, 0, Option.none⟩ = some (.string p.1) := hblk2.cell 0
  have c21 : w4.cell? ⟨w.heap.size + 1 + 1, 1, Option.none⟩ = some (.slice Option.none 0 0) := hblk2.cell 1
  have f10 := hblk1.frozen 0
  have f11 := hblk1.frozen 1
  have f20 := hblk2.frozen 0
  have f21 := hblk2.frozen 1
  obtain ⟨A', c', rfl, hc'⟩ := hu'.form
  have HU := Lib.hid hu'
  have HB := Lib.hid (hba.trans (hb4.mono (by simp; omega)))
  clear hb4 hu' hba hblk1 hblk2
  go_wp2_with fail
  refine bodyPost_ret (v := .agg #[.string p.1, .slice A' p.2.length c']) (by simp [results, Try.results68, go_sem, c10, c11]) rfl ?_
  have hk : Keep (w.heap.size + 1) (w.heap.size + 3) w4 (((w4.setCell ⟨w.heap.size + 1 + 1, 1, Option.none⟩ (.slice A' p.2.length c')).setCell ⟨w.heap.size + 1, 0, Option.none⟩ (.string p.1)).setCell ⟨w.heap.size + 1, 1, Option.none⟩ (.slice A' p.2.length c')) :=
    (((Keep.refl _ _ w4).setCell (p := ⟨w.heap.size + 1 + 1, 1, Option.none⟩) (by simp) (by simp) _).setCell (p := ⟨w.heap.size + 1, 0, Option.none⟩) (by simp) (by simp) _).setCell (p := ⟨w.heap.size + 1, 1, Option.none⟩) (by simp) (by simp) _
  have h3 : OwI w4 (w.heap.size + 3) w4.heap.size (.slice A' p.2.length c') p.2 := by simpa using HU.out
  refine ⟨_, rfl, ⟨_, rfl, ?_, ht⟩, HB.out.trans (hk.bel.mono (by omega))⟩
  have h4 := (h3.keep hk (.inr (Nat.le_refl _))).mono (lo' := w.heap.size) (by omega) (Nat.le_refl _)
  rw [hk.size]; exact h4
/-- n empty phrases: their cells. -/
def noPhr : Nat → List Value
  | 0 => []
  | n + 1 => .string { data := #[] } :: .slice Option.none 0 0 :: noPhr n
theorem noPhr_len (n : Nat) : (noPhr n).length = n * 2 := by
  induction n with
  | zero => rfl
  | succ n ih => simp only [noPhr, List.length_cons, ih]; omega
theorem noPhr_at {n j : Nat} (h : j < n) : (noPhr n)[j * 2]? = some (.string { data := #[] }) ∧ (noPhr n)[j * 2 + 1]? = some (.slice Option.none 0 0) := by
  induction n generalizing j with
  | zero => omega
  | succ n ih =>
    cases j with
    | zero => exact ⟨rfl, rfl⟩
    | succ j =>
      have := ih (j := j) (by omega)
      simp only [noPhr, show (j + 1) * 2 = j * 2 + 1 + 1 by omega, List.getElem?_cons_succ]
      exact this
theorem info_phr : (Try.prog.info? 60).map (fun i => (i.zero, i.size, i.bytes)) = some (some (.agg #[.string { data := #[] }, .slice Option.none 0 0]), 2, 40) := by kernel_rfl
theorem made_phr (n : Nat) : (madeCells (Value.agg #[.string { data := #[] }, .slice Option.none 0 0]).cells (n * 2)).toList = noPhr n := by
  apply List.ext_getElem?
  intro i
  by_cases h : i < n * 2
  · have h1 : (madeCells (Value.agg #[.string { data := #[] }, .slice Option.none 0 0]).cells (n * 2)).toList[i]? = some (#[Value.string { data := #[] }, .slice Option.none 0 0][i % 2]!) := by
      simp [madeCells, h, Value.cells]
    rw [h1]
    rcases Nat.mod_two_eq_zero_or_one i with e | e
    · have := (noPhr_at (n := n) (j := i / 2) (by omega)).1
      rw [show i / 2 * 2 = i by omega] at this
      rw [this, e]; rfl
    · have := (noPhr_at (n := n) (j := i / 2) (by omega)).2
      rw [show i / 2 * 2 + 1 = i by omega] at this
      rw [this, e]; rfl
  · rw [List.getElem?_eq_none (by simp [madeCells]; omega), List.getElem?_eq_none (by rw [noPhr_len]; omega)]
/-- The room of n phrases, behind a name. -/
def phrRoom (n : Nat) : Array Value := madeCells (Value.agg #[.string { data := #[] }, .slice Option.none 0 0]).cells (n * 2)
theorem set_pair {A : List Value} {k m : Nat} {x y : Value} (h : 0 < m) (hl : A.length = k * 2) : ((A ++ noPhr m).set (k * 2) x).set (k * 2 + 1) y = (A ++ [x, y]) ++ noPhr (m - 1) := by
  obtain ⟨q, rfl⟩ : ∃ q, m = q + 1 := ⟨m - 1, by omega⟩
  rw [List.set_append_right _ _ (by omega), List.set_append_right _ _ (by omega), hl, Nat.sub_self, show k * 2 + 1 - k * 2 = 1 by omega]
  simp [noPhr]
theorem make_phr (n : Nat) (hn : n ≤ 1048576) (w : World) :
    (Instr.makeSlice 46 (.int .i64 (n : Int)) (.int .i64 (n : Int))).run Try.prog w = .ok (.slice (some ⟨w.heap.size, 0, Option.none⟩) n n) (w.alloc (.cells (phrRoom n) 60)) := by
  obtain ⟨i, hi, hz0, hz1, hz2⟩ := info_parts info_phr
  have h := run_make_rowN (P := Try.prog) 46 60 i (.agg #[.string { data := #[] }, .slice Option.none 0 0]) Try.underlying46 hi hz0 .i64 .i64 n n (Nat.le_refl _) (by rw [hz2]; omega) (by omega) w
  rw [h, hz1]
  rfl
/-- Phrases of the call's own. -/
def RetOwPS (ps : List Phr) (w : World) (e : Ending) (w' : World) : Prop := ∃ v, e = .returned v ∧ OwPS w' w.heap.size w'.heap.size v ps ∧ Below w.heap.size w w'
set_option maxHeartbeats 1000000 in
theorem toPhraseS_any (ps : List Phr) (v : Value) (hi : Nat) (w : World) (h : RdPS w hi v ps) (hsz : sizeB ps ≤ 1048576) (hhi : hi ≤ w.heap.size) : Calls Try.prog 136 #[v] w (RetOwPS ps w) := by
  have hok := h
  obtain ⟨_, _, _, htx⟩ := hok
  have HTX := Lib.hid htx
  obtain ⟨A, c, rfl, hc, hm⟩ := h.form
  have H := Lib.hid h
  have hpl := sizeB_len ps
  clear h htx
  have hmk := make_phr ps.length (by omega)
  go_enter Try.func136, Try.ntmps136
  go_wp2
  go_loopw [4] (fun i wr => ∃ (k : Nat) (us : List Value), k ≤ ps.length ∧ i = .int .i64 k ∧ us.length = k ∧ Blk wr w.heap.size 60 (zipC (txts (ps.take k)) us ++ noPhr (ps.length - k)) ∧
      RowsO wr (w.heap.size + 1) wr.heap.size us (sigs (ps.take k)) ∧ Below w.heap.size w wr ∧ w.heap.size + 1 ≤ wr.heap.size) (fun i _ => ps.length - (intOf i).toNat)
  case atStart => exact ⟨0, [], Nat.zero_le _, rfl, rfl, by have := Blk.new w 60 (phrRoom ps.length); unfold phrRoom at this; rw [made_phr] at this; exact this, RowsO.nil _ _ _, (Below.refl _ _).alloc (Nat.le_refl _) _, by simp⟩
  case round =>
    obtain ⟨k, us, hk, rfl, hul, hblk, hrows, hbr, hsz1⟩ := hrel
    by_cases hlt : k < ps.length
    · obtain ⟨b1, o1, c1, a, t, xs, hv, _, hx, hcell1, hcell2, hra, hts⟩ := (H.out.below hbr hhi).at_ hlt
      cases hv
      have HA : Hid (RdP wr hi (.agg #[.string t, a]) (t, xs)) := ⟨a, rfl, hra, hts⟩
      have HX := Lib.hid hx
      have hsj := sizeB_at hx
      have hlx : sizeP (t, xs) ≤ 1048576 := by omega
      have hbs := hbr.size
      have HU := Lib.hid hul
      clear hx hra hul hsj
      go_wp2_with fail
      refine (toPhrase_any (t, xs) _ hi _ HA.out (by omega) hlx).mono ?_
      rintro e w2 ⟨_, rfl, ⟨u, rfl, hu, _⟩, hb2⟩
      have hs2 := hb2.size
      have hblk2 := hblk.below hb2 (by omega)
      have hzl : (zipC (txts (ps.take k)) us).length = k * 2 := by rw [zipC_len _ _ (by simp [txts]; have := HU.out; omega)]; simp [txts]; omega
      have hn1 := noPhr_at (n := ps.length - k) (j := 0) (by omega)
      have hcell3 := hblk2.cell (k * 2)
      rw [List.getElem?_append_right (by omega), show k * 2 - (zipC (txts (ps.take k)) us).length = 0 * 2 by omega, hn1.1] at hcell3
      have hcell4 := hblk2.cell (k * 2 + 1)
      rw [List.getElem?_append_right (by omega), show k * 2 + 1 - (zipC (txts (ps.take k)) us).length = 0 * 2 + 1 by omega, hn1.2] at hcell4
      have hfr3 := hblk2.frozen (k * 2)
      have hfr4 := hblk2.frozen (k * 2 + 1)
      clear hn1 hcell1 hcell2 hblk
      obtain ⟨A2, c2, rfl, hc2'⟩ := hu.form
      have hset := (hblk2.set_ (k * 2) (.string t)).set_ (k * 2 + 1) (.slice A2 xs.length c2)
      rw [set_pair (by omega) hzl] at hset
      have HS := Lib.hid hset
      have HO := Lib.hid hu
      have HR := Lib.hid hrows
      have HB2 := Lib.hid hb2
      clear hset hu hrows hb2 hblk2 hzl
      go_wp2
      go_roundw
      case rel =>
        refine ⟨k + 1, us ++ [.slice A2 xs.length c2], by omega, by go_num, by have := HU.out; simp [this], ?_, ?_, ((hbr.trans (HB2.out.mono (by omega))).setCell (Nat.le_refl _) _).setCell (Nat.le_refl _) _, by simp [World.setCell]; omega⟩
        · have := HS.out
          rw [show ps.length - (k + 1) = ps.length - k - 1 by omega, take_snocN HX.out]
          unfold txts at *
          rw [List.map_append, List.map_cons, List.map_nil, zipC_append _ _ _ _ (by simp; have := HU.out; omega)]
          exact this
        · rw [take_snocN HX.out]
          unfold sigs at *
          rw [List.map_append, List.map_cons, List.map_nil]
          have h1 := (HR.out.below HB2.out (Nat.le_refl _)).snoc HO.out hsz1 hs2
          have h2 := h1.keep (((Keep.refl w.heap.size (w.heap.size + 1) w2).setCell (p := ⟨w.heap.size, k * 2, Option.none⟩) (Nat.le_refl _) (by simp) (.string t)).setCell (p := ⟨w.heap.size, k * 2 + 1, Option.none⟩) (Nat.le_refl _) (by simp) (.slice A2 xs.length c2)) (.inr (Nat.le_refl _))
          simpa [World.setCell] using h2
      case measure => simp [intOf]; omega
    · obtain rfl : k = ps.length := by omega
      rw [List.take_of_length_le (Nat.le_refl _)] at hrows hblk
      rw [Nat.sub_self, noPhr, List.append_nil] at hblk
      have hzl : (zipC (txts ps) us).length = ps.length * 2 := by rw [zipC_len _ _ (by simp [txts]; omega)]; simp [txts]
      go_wp2
      go_ret
      refine ⟨_, rfl, ⟨us, hrows.mono (by omega) (Nat.le_refl _), ⟨hzl, .inr ⟨w.heap.size, ps.length, (zipC (txts ps) us).toArray, rfl, Nat.le_refl _, hblk, Nat.le_refl _, by unfold maxLen; omega, by simpa using hzl, by rw [List.take_of_length_le (by simp; omega)]⟩⟩, HTX.out, fun g hg => by cases hg; show w.heap.size < _; omega⟩, hbr⟩
theorem toBook_any (ps : List Phr) (v : Value) (hi : Nat) (w : World) (h : RdB w hi v ps) (hsz : sizeB ps ≤ 1048576) (hhi : hi ≤ w.heap.size) :
    Calls Try.prog 38 #[v] w fun e w' => ∃ v', e = .returned v' ∧ OwB w' w.heap.size w'.heap.size v' ps ∧ Below w.heap.size w w' := by
  obtain ⟨u, rfl, hu⟩ := h
  have hba : Below w.heap.size w (((w.alloc (.cells #[u] 42)).alloc (.cells #[.slice Option.none 0 0] 48)).alloc (.cells #[.slice Option.none 0 0] 48)) :=
    (((Below.refl _ _).alloc (Nat.le_refl _) _).alloc (by simp) _).alloc (by simp; omega) _
  have H := Lib.hid (hu.below hba hhi)
  clear hu
  go_enter Try.func38, Try.ntmps38
  go_wp2_with fail
  refine (toPhraseS_any ps u hi _ H.out hsz (by simp; omega)).mono ?_
  rintro e w4 ⟨u', rfl, hu', hb4⟩
  have hblk1 : Blk w4 (w.heap.size + 1) 48 [.slice Option.none 0 0] := by
    have := ((Blk.new (w.alloc (.cells #[u] 42)) 48 #[.slice Option.none 0 0]).alloc (.cells #[.slice Option.none 0 0] 48)).below hb4 (by simp)
    simpa using this
  have hblk2 : Blk w4 (w.heap.size + 1 + 1) 48 [.slice Option.none 0 0] := by
    have := (Blk.new ((w.alloc (.cells #[u] 42)).alloc (.cells #[.slice Option.none 0 0] 48)) 48 #[.slice Option.none 0 0]).below hb4 (by simp)
    simpa using this
  have hsz4 : w.heap.size + 1 + 1 < w4.heap.size := hblk2.lt
  have c10 : w4.cell? ⟨w.heap.size + 1, 0, Option.none⟩ = some (.slice Option.none 0 0) := hblk1.cell 0
  have c20 : w4.cell? ⟨w.heap.size + 1 + 1, 0, Option.none⟩ = some (.slice Option.none 0 0) := hblk2.cell 0
  have f10 := hblk1.frozen 0
  have f20 := hblk2.frozen 0
  obtain ⟨A', c', rfl, hc', hcl'⟩ := hu'.rd.form
  have HU := Lib.hid hu'
  have HB := Lib.hid (hba.trans (hb4.mono (by simp; omega)))
  clear hb4 hu' hba hblk1 hblk2
  go_wp2_with fail
  refine bodyPost_ret (v := .agg #[.slice A' ps.length c']) (by simp [results, Try.results38, go_sem, c10]) rfl ?_
  have hk : Keep (w.heap.size + 1) (w.heap.size + 3) w4 ((w4.setCell ⟨w.heap.size + 1 + 1, 0, Option.none⟩ (.slice A' ps.length c')).setCell ⟨w.heap.size + 1, 0, Option.none⟩ (.slice A' ps.length c')) :=
    ((Keep.refl _ _ w4).setCell (p := ⟨w.heap.size + 1 + 1, 0, Option.none⟩) (by simp) (by simp) _).setCell (p := ⟨w.heap.size + 1, 0, Option.none⟩) (by simp) (by simp) _
  have h3 : OwPS w4 (w.heap.size + 3) w4.heap.size (.slice A' ps.length c') ps := by simpa using HU.out
  refine ⟨_, rfl, ⟨_, rfl, ?_⟩, HB.out.trans (hk.bel.mono (by omega))⟩
  obtain ⟨us, g1, g2, g3, g4⟩ := h3.keep hk (.inr (Nat.le_refl _))
  rw [hk.size]
  refine ⟨us, g1.mono (by omega) (Nat.le_refl _), ⟨g2.1, ?_⟩, g3, g4⟩
  rcases g2.2 with hn | ⟨g, cap, cur, e1, hl, rest⟩
  · exact .inl hn
  · exact .inr ⟨g, cap, cur, e1, by omega, rest⟩
end Go.Proofs.Ytabiobjcfopakaa
/- What a book and a phrase that read as data look like in memory. -/
namespace Go.Proofs.Ytabiobjcfopakaa
set_option maxRecDepth 100000
open Go.ChangeShapes Go.WideShapes Go.ChangeAt Go.RowKit Go.Deep
theorem open_agg1 {H : Type} {enc : TypeId × Value → H} {P : Program} {w : World} {base : Nat} {spare : Nat → Bool} {held : Bool} {r : Reach} {b0 : Nat} {t : TypeId} {f0 : Field} {v : Value} {d : DataW H} {p : List MemPlace}
    (hs : P.underlying t = some (.struct #[f0])) (hC : P.cellsOf t = 1) (ho : f0.offset = 0) (hk : P.cellsOf f0.type = 1) (hv : Value.okWide P w r b0 t v) (h : DataW.Trod enc P w base spare held t v d p) :
    ∃ v0 y0 n, v = .agg #[v0] ∧ DataW.trod enc P w base spare held n f0.type [v0] = some y0 := by
  obtain ⟨cs, rfl, hsz⟩ := okWide_struct hs hv
  obtain ⟨c0, rfl⟩ : ∃ c0, cs = #[c0] := by
    match cs, hsz.trans hC with
    | ⟨[c]⟩, _ => exact ⟨c, rfl⟩
  obtain ⟨fuel, hf⟩ := h
  obtain ⟨y0, n, _, _, h0⟩ := trod_struct1 hs hf
  exact ⟨c0, y0, n, rfl, by simpa [Value.cells, ho, hk] using h0⟩
theorem zipC_inv : ∀ (ts : List ByteArray) (us : List Value) (j : Nat) (u : Value), (zipC ts us)[j]? = some u → (∃ i t, j = i * 2 ∧ ts[i]? = some t ∧ u = .string t) ∨ (∃ i, j = i * 2 + 1 ∧ us[i]? = some u)
  | [], us, j, u, h => by simp [zipC] at h
  | t :: ts, [], j, u, h => by simp [zipC] at h
  | t :: ts, v :: us, 0, u, h => by simp [zipC] at h; exact .inl ⟨0, t, rfl, rfl, h.symm⟩
  | t :: ts, v :: us, 1, u, h => by simp [zipC] at h; exact .inr ⟨0, rfl, by simp [h]⟩
  | t :: ts, v :: us, j + 2, u, h => by
    simp only [zipC, List.getElem?_cons_succ] at h
    rcases zipC_inv ts us j u h with ⟨i, t', rfl, h1, h2⟩ | ⟨i, rfl, h1⟩
    · exact .inl ⟨i + 1, t', by omega, by simpa using h1, h2⟩
    · exact .inr ⟨i + 1, by omega, by simpa using h1⟩
theorem open_phrS {H : Type} {enc : TypeId × Value → H} {w : World} {spare : Nat → Bool} {held : Bool} {fuel : Nat} {v : Value} {x : DataW H × List MemPlace}
    (h : DataW.trod enc Try.prog w 0 spare held fuel 40 [v] = some x) : ∃ ps, RdPS w w.heap.size v ps := by
  rcases open_slice_pairs Try.underlying40 Try.underlying73 (by kernel_rfl) rfl rfl (by kernel_rfl) (by kernel_rfl) h with ⟨hv, _⟩ | ⟨a, len, cap, m, n, V0, V1, D0, D1, P0, P1, hv, _, hl, hm, hmm, _, hcell⟩
  · simp only [List.cons.injEq, and_true] at hv
    subst hv
    exact ⟨[], [], ⟨rfl, fun i u xs hu _ => by simp at hu⟩, ⟨rfl, Option.none, 0, rfl, Nat.le_refl _, Nat.zero_le _, fun h => absurd h (by simp)⟩, fun p hp => by cases hp⟩
  · simp only [List.cons.injEq, and_true] at hv
    subst hv
    have hlm : len ≤ m := by rw [hmm]; split <;> omega
    have hk : ∀ i, ∃ p : Phr, i < len → w.cell? (a.add (i * 2)) = some (.string p.1) ∧ w.cell? (a.add (i * 2 + 1)) = some (V1 i) ∧ RdI w w.heap.size (V1 i) p.2 ∧ p.1.size ≤ 9223372036854775807 := by
      intro i
      by_cases hi : i < len
      · obtain ⟨h0, h1, h2, h3⟩ := hcell i (by omega)
        obtain ⟨s, e, _, hs⟩ := DataW.trod_string Try.underlying9 h2
        obtain ⟨xs, hxs⟩ := open_intS h3
        have e' : V0 i = .string s := by simpa using e
        exact ⟨(s, xs), fun _ => ⟨by rw [h0, e'], h1, hxs, by unfold maxLen at hs; show s.size ≤ _; omega⟩⟩
      · exact ⟨(⟨#[]⟩, []), fun h => absurd h hi⟩
    obtain ⟨F, hF⟩ : ∃ F : Nat → Phr, ∀ i, i < len → w.cell? (a.add (i * 2)) = some (.string (F i).1) ∧ w.cell? (a.add (i * 2 + 1)) = some (V1 i) ∧ RdI w w.heap.size (V1 i) (F i).2 ∧ (F i).1.size ≤ 9223372036854775807 :=
      ⟨fun i => Classical.choose (hk i), fun i => Classical.choose_spec (hk i)⟩
    clear hk
    have hzl : (zipC (txts ((List.range len).map F)) ((List.range len).map V1)).length = len * 2 := by rw [zipC_len _ _ (by simp [txts])]; simp [txts]
    refine ⟨(List.range len).map F, (List.range len).map V1, ⟨by simp [sigs], fun i u xs hu hx => ?_⟩, ⟨by rw [hzl]; simp, some a, cap, by simp, by simpa using hl, hm, fun hpos => ?_⟩, fun p hp => ?_⟩
    · have hi : i < len := by
        rcases Nat.lt_or_ge i len with h | h
        · exact h
        · rw [List.getElem?_eq_none (by simp; exact h)] at hu; cases hu
      simp [hi] at hu
      simp [sigs, hi] at hx
      rw [← hu, ← hx]; exact (hF i hi).2.2.1
    · have hpos' : 0 < len := by simpa using hpos
      obtain ⟨b, off, ha, hlt⟩ := spot_of (hF 0 hpos').1
      have ha' : a = ⟨b, off, Option.none⟩ := by simpa [Addr.add] using ha
      subst ha'
      refine ⟨b, off, rfl, hlt, fun j u hu => ?_⟩
      rcases zipC_inv _ _ _ _ hu with ⟨i, t, rfl, h1, rfl⟩ | ⟨i, rfl, h1⟩
      · have hi : i < len := by
          rcases Nat.lt_or_ge i len with h | h
          · exact h
          · rw [List.getElem?_eq_none (by simp [txts]; exact h)] at h1; cases h1
        simp [txts, hi] at h1
        have := (hF i hi).1
        rw [add_plain, h1] at this; exact this
      · have hi : i < len := by
          rcases Nat.lt_or_ge i len with h | h
          · exact h
          · rw [List.getElem?_eq_none (by simp; exact h)] at h1; cases h1
        simp [hi] at h1
        have := (hF i hi).2.1
        rw [add_plain, h1] at this; exact this
    · rw [List.mem_map] at hp
      obtain ⟨i, hi, rfl⟩ := hp
      exact (hF i (List.mem_range.1 hi)).2.2.2
theorem open_book {H : Type} {enc : TypeId × Value → H} {w : World} {spare : Nat → Bool} {held : Bool} {r : Reach} {b0 : Nat} {v : Value} {d : DataW H} {p : List MemPlace}
    (hv : Value.okWide Try.prog w r b0 42 v) (h : DataW.Trod enc Try.prog w 0 spare held 42 v d p) : ∃ ps, RdB w w.heap.size v ps := by
  obtain ⟨v0, y0, n, rfl, h0⟩ := open_agg1 Try.underlying42 (by kernel_rfl) rfl (by kernel_rfl) hv h
  obtain ⟨ps, hps⟩ := open_phrS h0
  exact ⟨ps, v0, rfl, hps⟩
theorem open_phrase {H : Type} {enc : TypeId × Value → H} {w : World} {spare : Nat → Bool} {held : Bool} {r : Reach} {b0 : Nat} {v : Value} {d : DataW H} {p : List MemPlace}
    (hv : Value.okWide Try.prog w r b0 73 v) (h : DataW.Trod enc Try.prog w 0 spare held 73 v d p) : ∃ x, RdP w w.heap.size v x := by
  obtain ⟨v0, v1, y0, y1, n, rfl, _, _, h0, h1⟩ := Go.Joins.open_agg2 Try.underlying73 (by kernel_rfl) (by kernel_rfl) hv h
  obtain ⟨s, e, _, hs⟩ := DataW.trod_string Try.underlying9 h0
  obtain ⟨xs, hxs⟩ := open_intS h1
  have e' : v0 = .string s := by simpa using e
  subst e'
  exact ⟨(s, xs), v1, rfl, hxs, by unfold maxLen at hs; show s.size ≤ _; omega⟩
end Go.Proofs.Ytabiobjcfopakaa
/- Comparisons of phrases and books, by the helpers of the laws. -/
namespace Go.Proofs.Ytabiobjcfopakaa
open Go.RowKit
theorem eqPhrase_sameB (p : Phr) (v u : Value) (hi hj : Nat) (w : World) (h : RdP w hi v p) (g : RdP w hj u p) (hh : hi ≤ w.heap.size := by omega) (hg : hj ≤ w.heap.size := by omega) :
    Calls Try.prog 70 #[v, u] w fun e w' => e = .returned (.bool true) ∧ Below w.heap.size w w' := by
  obtain ⟨a, rfl, ha, hta⟩ := h
  obtain ⟨b, rfl, hb, htb⟩ := g
  have hba : Below w.heap.size w ((w.alloc (.cells #[.string p.1, a] 60)).alloc (.cells #[.string p.1, b] 60)) := ((Below.refl _ _).alloc (Nat.le_refl _) _).alloc (by simp) _
  have HA := Lib.hid (ha.below hba hh)
  have HB := Lib.hid (hb.below hba hg)
  clear ha hb
  go_enter Try.func70, Try.ntmps70
  go_wp2_with fail
  refine (eqIntS_sameB p.2 a b hi hj _ HA.out HB.out).mono ?_
  rintro e w4 ⟨rfl, hb4⟩
  have hbz := hba.trans (hb4.mono (by simp; omega))
  clear hba hb4
  go_wp2_with fail
  go_ret
  exact ⟨rfl, hbz⟩
set_option maxRecDepth 100000 in
set_option maxHeartbeats 400000 in
theorem eqPhraseS_sameB (ps : List Phr) (v u : Value) (hi hj : Nat) (w : World) (h : RdPS w hi v ps) (g : RdPS w hj u ps) (hh : hi ≤ w.heap.size := by omega) (hg : hj ≤ w.heap.size := by omega) :
    Calls Try.prog 139 #[v, u] w fun e w' => e = .returned (.bool true) ∧ Below w.heap.size w w' := by
  obtain ⟨A, c, rfl, hc, hm⟩ := h.form
  obtain ⟨A', c', rfl, hc', hm'⟩ := g.form
  have H := Lib.hid h
  have G := Lib.hid g
  clear h g
  go_enter Try.func139, Try.ntmps139
  go_wp2
  go_loopw [5] (fun i wr => ∃ k : Nat, k ≤ ps.length ∧ i = .int .i64 k ∧ Below w.heap.size w wr) (fun i _ => ps.length - (intOf i).toNat)
  case atStart => exact ⟨0, Nat.zero_le _, rfl, Below.refl _ _⟩
  case round =>
    obtain ⟨k, hk, rfl, hbr⟩ := hrel
    by_cases hlt : k < ps.length
    · obtain ⟨b1, o1, c1, a, t, xs, hv, _, hx, hcell1, hcell2, hra, hta⟩ := (H.out.below hbr hh).at_ hlt
      cases hv
      obtain ⟨b2, o2, c2, b, t', xs', hv, _, hx', hcell3, hcell4, hrb, htb⟩ := (G.out.below hbr hg).at_ hlt
      cases hv
      rw [hx] at hx'
      cases hx'
      have HA : Hid (RdP wr hi (.agg #[.string t, a]) (t, xs)) := ⟨a, rfl, hra, hta⟩
      have HB : Hid (RdP wr hj (.agg #[.string t, b]) (t, xs)) := ⟨b, rfl, hrb, htb⟩
      have hs := hbr.size
      clear hx hra hrb
      go_wp2
      go_still_tail 8, (by kernel_rfl)
      change wpList _ _ _ _ _ wr.drew
      have hbd : Below w.heap.size w wr.drew := hbr.drew
      have HA' : Hid (RdP wr.drew hi (.agg #[.string t, a]) (t, xs)) := HA.out
      have HB' : Hid (RdP wr.drew hj (.agg #[.string t, b]) (t, xs)) := HB.out
      have hs' : w.heap.size ≤ wr.drew.heap.size := hs
      revert hbd HA' HB' hs'
      clear hcell1 hcell2 hcell3 hcell4 HA HB
      generalize wr.drew = w2
      intro hbd HA' HB' hs'
      go_wp2_with fail
      refine (eqPhrase_sameB (t, xs) _ _ hi hj _ HA'.out HB'.out (by omega) (by omega)).mono ?_
      rintro e w4 ⟨rfl, hb4⟩
      have hbz := hbd.trans (hb4.mono hs')
      clear hbd hb4
      go_wp2_with fail
      go_roundw
      case rel => exact ⟨k + 1, by omega, by go_num, hbz⟩
      case measure => simp [intOf]; omega
    · go_wp2
      go_ret
      exact ⟨rfl, hbr⟩
theorem eqBook_sameB (ps : List Phr) (v u : Value) (hi hj : Nat) (w : World) (h : RdB w hi v ps) (g : RdB w hj u ps) (hh : hi ≤ w.heap.size := by omega) (hg : hj ≤ w.heap.size := by omega) :
    Calls Try.prog 40 #[v, u] w fun e w' => e = .returned (.bool true) ∧ Below w.heap.size w w' := by
  obtain ⟨a, rfl, ha⟩ := h
  obtain ⟨b, rfl, hb⟩ := g
  have hba : Below w.heap.size w ((w.alloc (.cells #[a] 48)).alloc (.cells #[b] 48)) := ((Below.refl _ _).alloc (Nat.le_refl _) _).alloc (by simp) _
  have HA := Lib.hid (ha.below hba hh)
  have HB := Lib.hid (hb.below hba hg)
  clear ha hb
  go_enter Try.func40, Try.ntmps40
  go_wp2_with fail
  refine (eqPhraseS_sameB ps a b hi hj _ HA.out HB.out (by simp; omega) (by simp; omega)).mono ?_
  rintro e w4 ⟨rfl, hb4⟩
  have hbz := hba.trans (hb4.mono (by simp; omega))
  clear hba hb4
  go_wp2_with fail
  go_ret
  exact ⟨rfl, hbz⟩
end Go.Proofs.Ytabiobjcfopakaa
/- Marks on books: each text and each signal of a book that the call has copied is overwritten. -/
namespace Go.Proofs.Ytabiobjcfopakaa
open Go.RowKit
/-- The digits of a number that is not 0. -/
def decT (n : Nat) : List UInt8 := if _h : n = 0 then [] else decT (n / 10) ++ [UInt8.ofNat (48 + n % 10)]
termination_by n
decreasing_by omega
theorem decT_zero : decT 0 = [] := by rw [decT]; rfl
theorem decT_pos {n : Nat} (h : 0 < n) : decT n = decT (n / 10) ++ [UInt8.ofNat (48 + n % 10)] := by rw [decT]; rw [dif_neg (by omega)]
def markT (k : Nat) : ByteArray := ⟨(109 :: decT k).toArray⟩
theorem conv_one (z : Int) (h0 : 0 ≤ z) (h1 : z < 256) (wr : World) :
    (convert 22 9 (.slice (some ⟨wr.heap.size, 0, Option.none⟩) 1 1)).run Try.prog (wr.alloc (.cells #[.int .u8 z] 5)) = .ok (.string ⟨#[UInt8.ofNat z.toNat]⟩) (wr.alloc (.cells #[.int .u8 z] 5)) := by
  have hl : [UInt8.ofNat z.toNat].length = 1 := rfl
  have := run_convert_bytes_back (P := Try.prog) (wr.alloc (.cells #[.int .u8 z] 5)) 22 9 5 ⟨wr.heap.size, 0, Option.none⟩ 1 [UInt8.ofNat z.toNat] Try.underlying22 Try.underlying5 Try.underlying9 (fun j hj => by
    obtain rfl : j = 0 := by simp at hj; omega
    rw [one_cell wr (.int .u8 z) 5 0 _ rfl]
    simp
    omega)
  exact this
theorem dec_step {k j : Nat} {l : List UInt8} (hj : 0 < j) (hd : decT k = decT j ++ l) : decT k = decT (j / 10) ++ (UInt8.ofNat (48 + j % 10) :: l) := by
  rw [hd, decT_pos hj]; simp
theorem dec_bd {j n : Nat} (hn : n < 24) (h : j < 2 ^ (24 - n)) : j / 10 < 2 ^ (24 - (n + 1)) := by
  rw [show 24 - n = (24 - (n + 1)) + 1 by omega, Nat.pow_succ] at h
  omega
set_option maxRecDepth 100000 in
set_option maxHeartbeats 400000 in
theorem markText_any (k : Nat) (h1 : 1 ≤ k) (h2 : k < 16777216) (w : World) : Calls Try.prog 226 #[.int .i64 (k : Int)] w fun e w' => e = .returned (.string (markT k)) ∧ Below w.heap.size w w' := by
  go_enter Try.func226, Try.ntmps226
  go_wp2
  go_loopw [0, 3] (fun m out wr => ∃ (j : Nat) (l : List UInt8), m = .int .i64 (j : Int) ∧ out = .string ⟨l.toArray⟩ ∧ Hid (decT k = decT j ++ l) ∧ Hid (j < 2 ^ (24 - l.length)) ∧ l.length ≤ 24 ∧ j ≤ k ∧ Below w.heap.size w wr) (fun m _ _ => (intOf m).toNat)
  case atStart => exact ⟨k, [], rfl, rfl, by show decT k = _; simp, by show k < _; simpa using h2, by simp, Nat.le_refl _, Below.refl _ _⟩
  case round =>
    obtain ⟨j, l, rfl, rfl, hd, hb, hl, hjk, hbr⟩ := hrel
    have hs := hbr.size
    by_cases hj : 0 < j
    · have hl2 : l.length < 24 := by
        rcases Nat.lt_or_ge l.length 24 with h | h
        · exact h
        · have := hb.out; rw [show 24 - l.length = 0 by omega] at this; omega
      have hcv := fun wr' => conv_one (48 + (j : Int) % 10) (by omega) (by omega) wr'
      go_wp2
      go_roundw
      case rel => exact ⟨j / 10, UInt8.ofNat (48 + j % 10) :: l, by go_num, by simp [ByteArray.ext_iff, UInt8.ofNat_add], dec_step hj hd.out, by rw [List.length_cons]; exact dec_bd hl2 hb.out, by rw [List.length_cons]; omega, by omega, hbr.alloc hs _⟩
      case measure => simp [intOf]; omega
    · obtain rfl : j = 0 := by omega
      have HD := hd
      go_wp2
      go_ret
      refine ⟨ret_val ?_, hbr⟩
      have := HD.out
      rw [decT_zero, List.nil_append] at this
      unfold markT
      rw [this]
      simp [ByteArray.ext_iff]
/-- How many marks books take. -/
def cntB : List Phr → Nat
  | [] => 0
  | p :: r => 1 + p.2.length + cntB r
theorem cntB_le (ps : List Phr) : cntB ps ≤ sizeB ps := by
  induction ps with
  | nil => exact Nat.le_refl _
  | cons p r ih => simp only [cntB, sizeB, sizeP]; omega
theorem cntB_at {ps : List Phr} {j : Nat} {p : Phr} (h : ps[j]? = some p) : cntB (ps.take (j + 1)) = cntB (ps.take j) + 1 + p.2.length ∧ cntB (ps.take (j + 1)) ≤ cntB ps := by
  induction ps generalizing j with
  | nil => simp at h
  | cons y r ih =>
    cases j with
    | zero => simp at h; subst h; simp [cntB]
    | succ j =>
      have := ih (j := j) (by simpa using h)
      simp only [List.take_succ_cons, cntB]
      omega
def marksB : Nat → List Phr → List Phr
  | _, [] => []
  | k, p :: r => (markT k, marks (k + 1) p.2.length) :: marksB (k + 1 + p.2.length) r
theorem marksB_len (k : Nat) (ps : List Phr) : (marksB k ps).length = ps.length := by
  induction ps generalizing k with
  | nil => rfl
  | cons p r ih => simp [marksB, ih]
theorem marksB_at {k j : Nat} {ps : List Phr} {p : Phr} (h : ps[j]? = some p) : (marksB k ps)[j]? = some (markT (k + cntB (ps.take j)), marks (k + cntB (ps.take j) + 1) p.2.length) := by
  induction ps generalizing j k with
  | nil => simp at h
  | cons y r ih =>
    cases j with
    | zero => simp at h; subst h; simp [marksB, cntB]
    | succ j =>
      simp only [marksB, List.getElem?_cons_succ, List.take_succ_cons, cntB]
      rw [ih (by simpa using h)]
      simp only [Nat.add_assoc]
def mixB (k j : Nat) (ps : List Phr) : List Phr := (marksB k ps).take j ++ ps.drop j
theorem mixB_len (k j : Nat) (ps : List Phr) : (mixB k j ps).length = ps.length := by simp [mixB, marksB_len]; omega
theorem mixB_at {k j : Nat} {ps : List Phr} {p : Phr} (h : ps[j]? = some p) : (mixB k j ps)[j]? = some p := by
  have hj := (List.getElem?_eq_some_iff.1 h).1
  unfold mixB
  rw [List.getElem?_append_right (by simp [marksB_len]; omega)]
  simp [marksB_len, show min j ps.length = j by omega, h]
theorem mixB_step {k j : Nat} {ps : List Phr} {p : Phr} (h : ps[j]? = some p) : (mixB k j ps).set j (markT (k + cntB (ps.take j)), marks (k + cntB (ps.take j) + 1) p.2.length) = mixB k (j + 1) ps := by
  have hj := (List.getElem?_eq_some_iff.1 h).1
  have hm := marksB_at (k := k) h
  unfold mixB
  have hd : ps.drop j = ps[j] :: ps.drop (j + 1) := List.drop_eq_getElem_cons hj
  have hl : j - ((marksB k ps).take j).length = 0 := by simp [marksB_len]; omega
  rw [List.set_append_right _ _ (by simp [marksB_len]; omega), take_snocN hm, hd, hl, List.set_cons_zero, List.append_assoc]
  rfl
theorem mixB_full (k : Nat) (ps : List Phr) : mixB k ps.length ps = marksB k ps := by
  unfold mixB; rw [List.drop_length, List.append_nil, List.take_of_length_le (by rw [marksB_len]; exact Nat.le_refl _)]
/-- Of what was there only blocks from lo to below hi may have turned. -/
structure KeepG (lo hi : Nat) (w w' : World) : Prop where
  os : w'.os = w.os
  tape : w'.tape = w.tape
  output : w'.output = w.output
  size : w.heap.size ≤ w'.heap.size
  block : ∀ k, k < w.heap.size → (k < lo ∨ hi ≤ k) → w'.heap[k]? = w.heap[k]?
theorem KeepG.refl (lo hi : Nat) (w : World) : KeepG lo hi w w := ⟨rfl, rfl, rfl, Nat.le_refl _, fun _ _ _ => rfl⟩
theorem KeepG.trans {lo hi : Nat} {a b c : World} (h : KeepG lo hi a b) (k : KeepG lo hi b c) : KeepG lo hi a c :=
  ⟨k.os.trans h.os, k.tape.trans h.tape, k.output.trans h.output, Nat.le_trans h.size k.size, fun i h1 h2 => (k.block i (Nat.lt_of_lt_of_le h1 h.size) h2).trans (h.block i h1 h2)⟩
theorem Keep.g {lo hi : Nat} {w w' : World} (h : Keep lo hi w w') : KeepG lo hi w w' := ⟨h.os, h.tape, h.output, Nat.le_of_eq h.size.symm, fun k _ h2 => h.block k h2⟩
theorem below_g {lo hi : Nat} {w w' : World} (h : Below w.heap.size w w') : KeepG lo hi w w' := ⟨h.os, h.tape, h.output, h.size, fun k h1 _ => h.block k h1⟩
/-- In two steps: first the blocks turn, then new ones come. -/
theorem KeepG.split {lo hi : Nat} {w w' : World} (h : KeepG lo hi w w') : ∃ m, Keep lo hi w m ∧ Below m.heap.size m w' := by
  refine ⟨{ w' with heap := w'.heap.extract 0 w.heap.size }, ⟨h.os, h.tape, h.output, ?_, fun k hk => ?_⟩, ⟨rfl, rfl, rfl, ?_, fun k hk => ?_⟩⟩
  · have := h.size; simp; omega
  · by_cases hlt : k < w.heap.size
    · rw [← h.block k hlt hk]
      show (w'.heap.extract 0 w.heap.size)[k]? = _
      rw [Array.getElem?_extract]
      have := h.size
      rw [if_pos (by omega), Nat.zero_add]
    · rw [Array.getElem?_eq_none (xs := w.heap) (by omega)]
      show (w'.heap.extract 0 w.heap.size)[k]? = _
      rw [Array.getElem?_eq_none (by simp; omega)]
  · show (w'.heap.extract 0 w.heap.size).size ≤ w'.heap.size
    simp; omega
  · show w'.heap[k]? = (w'.heap.extract 0 w.heap.size)[k]?
    have hk' : k < w.heap.size := by have h1 := h.size; simp at hk; omega
    have := h.size
    rw [Array.getElem?_extract, if_pos (by omega), Nat.zero_add]
theorem rows_far {w : World} {lo hi g : Nat} {us : List Value} {xss : List (List Int)} {cur : Array Value} {e : TypeId} {q : Nat × Nat} (h : RowsO w lo hi us xss) (hg : w.heap[g]? = some (.cells cur e q)) (he : e ≠ 3) (i : Nat) (x : Value) : RowsO (w.setCell ⟨g, i, Option.none⟩ x) lo hi us xss := by
  refine ⟨h.1, fun j u xs hu hx => ?_, h.2.2⟩
  have h1 := h.2.1 j u xs hu hx
  refine h1.only (b := some g) ((Only.refl _ _).setCell (p := ⟨g, i, Option.none⟩) rfl _) (fun g2 hg2 e2 => ?_)
  cases e2
  rcases h1.1.2 with ⟨rfl, _⟩ | ⟨g3, cap, cur3, rfl, _, hg3, _⟩
  · cases hg2
  · cases hg2
    rw [hg] at hg3
    cases hg3
    exact he rfl
theorem outer_onlyP {w w' : World} {lo n : Nat} {v u : Value} {cs : List Value} {xs : List Int} {lo' hi' : Nat} (h : w.ownsRow lo 60 2 v n cs) (hu : OwI w lo' hi' u xs) (hk : Only u.ownBlock w w') : w'.ownsRow lo 60 2 v n cs := by
  refine ⟨h.1, ?_⟩
  rcases h.2 with hn | ⟨g, cap, cur, rfl, hl, hg, rest⟩
  · exact .inl hn
  · refine .inr ⟨g, cap, cur, rfl, hl, (hk.block g (fun e => ?_)).trans hg, rest⟩
    rcases hu.1.2 with ⟨rfl, _⟩ | ⟨g2, cap2, cur2, rfl, _, hg2, _⟩
    · cases e
    · cases e
      rw [hg] at hg2
      simp at hg2
theorem zipC_set : ∀ (ts : List ByteArray) (us : List Value) (j : Nat) (t : ByteArray), (zipC ts us).set (j * 2) (.string t) = zipC (ts.set j t) us
  | [], us, j, t => by simp [zipC]
  | a :: ts, [], j, t => by cases j <;> simp [zipC]
  | a :: ts, u :: us, 0, t => by simp [zipC]
  | a :: ts, u :: us, j + 1, t => by simp only [zipC, List.set_cons_succ, show (j + 1) * 2 = j * 2 + 1 + 1 by omega, zipC_set ts us j t]
theorem markT_size {k : Nat} (h : k < 16777216) : (markT k).size ≤ 9223372036854775807 := by
  have hb : ∀ f n, n < 2 ^ f → (decT n).length ≤ f := by
    intro f
    induction f with
    | zero => intro n hn; obtain rfl : n = 0 := by simpa using hn
              rw [decT_zero]; simp
    | succ f ih =>
      intro n hn
      rcases Nat.eq_zero_or_pos n with rfl | hp
      · rw [decT_zero]; simp
      · rw [decT_pos hp, List.length_append]
        have := ih (n / 10) (by rw [Nat.pow_succ] at hn; omega)
        simp; omega
  have := hb 24 k (by simpa using h)
  show (109 :: decT k).toArray.size ≤ _
  simp; omega
set_option maxRecDepth 100000 in
set_option maxHeartbeats 1600000 in
theorem markPhraseS_any (ps : List Phr) (v : Value) (lo hi k : Nat) (w : World) (h : OwPS w lo hi v ps) (hh : hi ≤ w.heap.size) (hk1 : 1 ≤ k) (hk : k ≤ 4194304) (hsz : cntB ps ≤ 4194304) :
    Calls Try.prog 146 #[v, .int .i64 (k : Int)] w fun e w' => e = .returned (.int .i64 ((k + cntB ps : Nat) : Int)) ∧ OwPS w' lo hi v (marksB k ps) ∧ KeepG lo hi w w' := by
  obtain ⟨A, c, rfl, hc, hm⟩ := h.rd.form
  have H := Lib.hid h
  clear h
  go_enter Try.func146, Try.ntmps146
  go_wp2
  go_loopw [1, 5] (fun q i wr => ∃ (j : Nat), j ≤ ps.length ∧ i = .int .i64 j ∧ q = .int .i64 ((k + cntB (ps.take j) : Nat) : Int) ∧ Hid (OwPS wr lo hi (.slice A ps.length c) (mixB k j ps)) ∧ KeepG lo hi w wr) (fun _ i _ => ps.length - (intOf i).toNat)
  case atStart => exact ⟨0, Nat.zero_le _, rfl, rfl, by show OwPS _ _ _ _ _; simpa [mixB] using H.out, KeepG.refl _ _ _⟩
  case round =>
    obtain ⟨j, hj, rfl, rfl, how, hkp⟩ := hrel
    by_cases hlt : j < ps.length
    · have hx : ps[j]? = some ps[j] := by simp [hlt]
      obtain ⟨p, hp⟩ : ∃ p, p = ps[j] := ⟨_, rfl⟩
      rw [← hp] at hx
      have hcj := cntB_at hx
      have hc1 := hcj.1
      have hc2 := hcj.2
      have hs1 := hkp.size
      have HX := Lib.hid hx
      have HC := Lib.hid hc1
      have HKP := Lib.hid hkp
      have hb1 : k + cntB (ps.take j) + 1 + p.2.length ≤ 8388608 := by omega
      clear hx hp hcj hc1 hkp
      have hhr : hi ≤ wr.heap.size := by omega
      obtain ⟨us, hrows, hown, htx, hbl⟩ := how.out
      rw [mixB_len] at hown
      rcases hown.2 with ⟨_, h0⟩ | ⟨g, cap, cur, hv, hg1, hg2, _⟩
      · omega
      cases hv
      have hul : us.length = ps.length := by rw [hrows.1]; simp [sigs, mixB_len]
      obtain ⟨u, hu⟩ : ∃ u, us[j]? = some u := ⟨_, List.getElem?_eq_getElem (by omega)⟩
      have hz := zipC_at (txts (mixB k j ps)) us j p.1 u (by simp [txts, mixB_at HX.out]) hu
      have hgi : g < hi := hbl g rfl
      have HROW := Lib.hid hrows
      have HOWN := Lib.hid hown
      have HTX := Lib.hid htx
      have HG2 := Lib.hid hg2
      have HU := Lib.hid hu
      have HZ := Lib.hid hz
      have HUL := Lib.hid hul
      have HBL := Lib.hid hbl
      clear hrows hown htx hg2 hu hz how hul hbl
      go_wp2_with fail
      refine (markText_any (k + cntB (ps.take j)) (by omega) (by omega) _).mono ?_
      rintro e w1 ⟨rfl, hb2⟩
      have hown1 := owns_below HOWN.out HBL.out hb2 hhr
      have hrow1 := HROW.out.below hb2 hhr
      have hg21 := (hb2.block g (by omega)).trans HG2.out
      have hc0 := hown1.cellAt (j * 2) (by omega)
      rw [HZ.out.1] at hc0
      have hf0 := hown1.frozenAt (j * 2)
      have hc01 := hown1.cellAt (j * 2 + 1) (by omega)
      rw [HZ.out.2] at hc01
      have hst := (hown1.stored (j * 2) (.string (markT (k + cntB (ps.take j))))).1
      rw [zipC_set] at hst
      have hrow2 := rows_far hrow1 hg21 (by decide) (j * 2) (.string (markT (k + cntB (ps.take j))))
      have hru := hrow2.2.1 j u p.2 HU.out (by simp [sigs, mixB_at HX.out])
      have hkp2 : KeepG lo hi w (w1.setCell ⟨g, j * 2, Option.none⟩ (.string (markT (k + cntB (ps.take j))))) :=
        HKP.out.trans ((below_g hb2).trans ((Keep.refl lo hi w1).setCell (p := ⟨g, j * 2, Option.none⟩) hg1 hgi _).g)
      obtain ⟨AU, cu, hue, _⟩ := hru.rd.form
      subst hue
      have HST := Lib.hid hst
      have HRW2 := Lib.hid hrow2
      have HRU := Lib.hid hru
      have HKP2 := Lib.hid hkp2
      clear hown1 hrow1 hg21 hst hrow2 hru hkp2 hb2
      go_wp2_with fail
      refine (markIntS_only p.2 _ lo hi (k + cntB (ps.take j) + 1) _ HRU.out (by omega) (by omega)).mono ?_
      rintro e w3 ⟨rfl, hm3, hk3⟩
      have h1 := HRW2.out.only HU.out hk3 hm3
      have h2 := outer_onlyP HST.out HRU.out hk3
      have h3 := HKP2.out.trans (hk3.keepI HRU.out).g
      have H4 : Hid (OwPS w3 lo hi (.slice (some ⟨g, 0, Option.none⟩) ps.length c) (mixB k (j + 1) ps)) := by
        refine ⟨us, ?_, ?_, ?_, HBL.out⟩
        · rw [← mixB_step HX.out]
          have : sigs ((mixB k j ps).set j (markT (k + cntB (ps.take j)), marks (k + cntB (ps.take j) + 1) p.2.length)) = (sigs (mixB k j ps)).set j (marks (k + cntB (ps.take j) + 1) p.2.length) := by simp [sigs, List.map_set]
          rw [this]; exact h1
        · rw [← mixB_step HX.out]
          have : txts ((mixB k j ps).set j (markT (k + cntB (ps.take j)), marks (k + cntB (ps.take j) + 1) p.2.length)) = (txts (mixB k j ps)).set j (markT (k + cntB (ps.take j))) := by simp [txts, List.map_set]
          rw [this]
          simpa [mixB_len] using h2
        · rw [← mixB_step HX.out]
          intro x hx
          rcases List.mem_or_eq_of_mem_set hx with hx | rfl
          · exact HTX.out x hx
          · exact markT_size (by omega)
      have H3 := Lib.hid h3
      clear h1 h2 h3 hk3 hm3 hc0 hf0 hc01
      go_wp2
      go_roundw
      case rel => exact ⟨j + 1, by omega, by go_num, int_val (by have := HC.out; omega), H4, H3.out⟩
      case measure => simp [intOf]; omega
    · obtain rfl : j = ps.length := by omega
      have HO := how
      go_wp2
      go_ret
      exact ⟨ret_int (by rw [List.take_of_length_le (Nat.le_refl _)]), by have := HO.out; rwa [mixB_full] at this, hkp⟩
theorem markBook_g (ps : List Phr) (v : Value) (lo hi k : Nat) (w : World) (h : OwB w lo hi v ps) (hh : hi ≤ w.heap.size) (hk1 : 1 ≤ k) (hk : k ≤ 4194304) (hsz : cntB ps ≤ 4194304) :
    Calls Try.prog 43 #[v, .int .i64 (k : Int)] w fun e w' => e = .returned (.int .i64 ((k + cntB ps : Nat) : Int)) ∧ OwB w' lo hi v (marksB k ps) ∧ KeepG lo hi w w' := by
  obtain ⟨u, rfl, hu⟩ := h
  obtain ⟨A, c, rfl, hc, hm⟩ := hu.rd.form
  have hba : Below w.heap.size w (w.alloc (.cells #[.slice A ps.length c] 48)) := (Below.refl _ _).alloc (Nat.le_refl _) _
  have H := Lib.hid (hu.below hba hh)
  have HB := Lib.hid (below_g (lo := lo) (hi := hi) hba)
  clear hu hba
  go_enter Try.func43, Try.ntmps43
  go_wp2_with fail
  refine (markPhraseS_any ps _ lo hi k _ H.out (by simp; omega) hk1 hk hsz).mono ?_
  rintro e w2 ⟨rfl, ho2, hk2⟩
  have HO : Hid (OwB w2 lo hi (.agg #[.slice A ps.length c]) (marksB k ps)) := ⟨_, rfl, ho2⟩
  have HK := Lib.hid (HB.out.trans hk2)
  clear ho2 hk2
  go_wp2_with fail
  go_ret
  exact ⟨rfl, HO.out, HK.out⟩
/-- The count, in a number of its own; the memory in two steps. -/
theorem markBook_ex (ps : List Phr) (v : Value) (lo hi k : Nat) (w : World) (h : OwB w lo hi v ps) (hh : hi ≤ w.heap.size) (hk1 : 1 ≤ k) (hk : k ≤ 4194304) (hsz : sizeB ps ≤ 4194304) :
    Calls Try.prog 43 #[v, .int .i64 (k : Int)] w fun e w' => ∃ (q : Nat) (m : World), e = .returned (.int .i64 (q : Int)) ∧ q ≤ k + sizeB ps ∧ k ≤ q ∧ OwB w' lo hi v (marksB k ps) ∧ Keep lo hi w m ∧ Below m.heap.size m w' :=
  (markBook_g ps v lo hi k w h hh hk1 hk (by have := cntB_le ps; omega)).mono fun _ _ ⟨he, h1, h2⟩ => by
    obtain ⟨m, hm1, hm2⟩ := h2.split
    exact ⟨_, m, he, by have := cntB_le ps; omega, by omega, h1, hm1, hm2⟩
end Go.Proofs.Ytabiobjcfopakaa
/- Contracts: what a cursor over bytes draws; its block alone turns, and new memory comes. -/
namespace Go.Proofs.Ytabiobjcfopakaa
open Go.RowKit
def bytesV (zs : List UInt8) : List Value := zs.map fun z => Value.int .u8 (z.toNat : Int)
def RdU (w : World) (hi : Nat) (v : Value) (zs : List UInt8) : Prop := Rd w hi 1 v zs.length (bytesV zs)
theorem RdU.at_ {w : World} {hi : Nat} {v : Value} {zs : List UInt8} (h : RdU w hi v zs) {k : Nat} (hk : k < zs.length) :
    ∃ (b off c : Nat) (z : Int), v = .slice (some ⟨b, off, Option.none⟩) zs.length c ∧ b < hi ∧ w.cell? ⟨b, off + k, Option.none⟩ = some (.int .u8 z) ∧ 0 ≤ z ∧ z ≤ 255 := by
  obtain ⟨_, A, c, hv, _, _, h4⟩ := h
  obtain ⟨b, off, rfl, hb, hc⟩ := h4 (by omega)
  refine ⟨b, off, c, ((zs[k]).toNat : Int), hv, hb, hc k _ (by simp [bytesV, hk]), by omega, ?_⟩
  have := UInt8.toNat_lt zs[k]
  omega
/-- C is the block of a cursor that has been asked at most m times. -/
def Cur (w : World) (C m : Nat) : Prop := ∃ (v : Value) (zs : List UInt8) (p : Nat) (s : Int), Blk w C 110 [v, .int .i64 (p : Int), .int .u64 s] ∧ RdU w C v zs ∧ p ≤ m
theorem KeepG.drawN {C D : Nat} (w : World) (n : Nat) : KeepG C D w (w.drewN n) := (keep_drewN C D w n).g
theorem KeepG.set_ {C D : Nat} {a w : World} (h : KeepG C D a w) {p : Addr} (h1 : C ≤ p.block) (h2 : p.block < D) (u : Value) : KeepG C D a (w.setCell p u) :=
  h.trans ((Keep.refl C D w).setCell h1 h2 u).g
theorem mask255 (y : Int) : 0 ≤ wrap64 (bits .and .u64 (IntKind.u64.wrap y / 1099511627776) 255) ∧ wrap64 (bits .and .u64 (IntKind.u64.wrap y / 1099511627776) 255) ≤ 255 := by
  have e := IntKind.wrap_u64 y
  obtain ⟨x, hx⟩ : ∃ x, x = IntKind.u64.wrap y / 1099511627776 := ⟨_, rfl⟩
  have hx0 : 0 ≤ x := by omega
  have hx1 : x < 18446744073709551616 := by omega
  rw [← hx]
  have h := bits_mask .u64 64 (by decide) (fun n h0 h1 => by rw [IntKind.wrap_u64]; omega) 8 (by decide) x hx0 (by omega)
  have h2 : bits .and .u64 x 255 = x % 256 := by simpa using h
  rw [h2]
  unfold wrap64
  omega
set_option maxRecDepth 100000 in
set_option maxHeartbeats 1600000 in
theorem next_any (C m : Nat) (w : World) (h : Cur w C m) (hm : m ≤ 1099511627776) :
    Calls Try.prog 212 #[.pointer (some ⟨C, 0, Option.none⟩)] w fun e w' => ∃ z : Int, e = .returned (.int .i64 z) ∧ 0 ≤ z ∧ z ≤ 255 ∧ Cur w' C (m + 1) ∧ KeepG C (C + 1) w w' := by
  obtain ⟨v, zs, p, s, hb, hr, hp⟩ := h
  obtain ⟨A, c, rfl, hc, hlm⟩ := Rd.form hr
  have h0 := hb.cell 0
  have h1 := hb.cell 1
  have h2 := hb.cell 2
  have hf := fun i => hb.frozen i
  by_cases hlt : p < zs.length
  · obtain ⟨b, off, c', z, hv, hbl, hcell, hz0, hz1⟩ := hr.at_ hlt
    cases hv
    have HB := Lib.hid hb
    have HR := Lib.hid hr
    clear hb hr
    go_enter Try.func212, Try.ntmps212
    go_wp2_with fail
    go_quiet (fail)
    go_wp2_with fail
    clear h0 h1 h2 hf
    have HB1 : Hid (Blk (w.drewN nq) C 110 [(.slice (some ⟨b, off, Option.none⟩) zs.length c), .int .i64 (p : Int), .int .u64 s]) := HB.out
    have h01 : (w.drewN nq).cell? ⟨C, 0, Option.none⟩ = some (.slice (some ⟨b, off, Option.none⟩) zs.length c) := HB1.out.cell 0
    have h11 : (w.drewN nq).cell? ⟨C, 1, Option.none⟩ = some (.int .i64 (p : Int)) := HB1.out.cell 1
    have h21 : (w.drewN nq).cell? ⟨C, 2, Option.none⟩ = some (.int .u64 s) := HB1.out.cell 2
    have hf1 : ∀ i, (w.drewN nq).frozen? ⟨C, i, Option.none⟩ = false := fun i => HB1.out.frozen i
    have hc1 : (w.drewN nq).cell? ⟨b, off + p, Option.none⟩ = some (.int .u8 z) := hcell
    have HR1 : Hid (RdU (w.drewN nq) C (.slice (some ⟨b, off, Option.none⟩) zs.length c) zs) := HR.out
    have HK1 : Hid (KeepG C (C + 1) w (w.drewN nq)) := KeepG.drawN _ _
    generalize (w.drewN nq) = w1 at HB1 h01 h11 h21 hf1 hc1 HR1 HK1 ⊢
    clear HB HR hcell
    go_wp2_with fail
    go_quiet (fail)
    have HB2 : Hid (Blk (w1.drewN nq) C 110 [(.slice (some ⟨b, off, Option.none⟩) zs.length c), .int .i64 (p : Int), .int .u64 s]) := HB1.out
    have h02 : (w1.drewN nq).cell? ⟨C, 0, Option.none⟩ = some (.slice (some ⟨b, off, Option.none⟩) zs.length c) := HB2.out.cell 0
    have h12 : (w1.drewN nq).cell? ⟨C, 1, Option.none⟩ = some (.int .i64 (p : Int)) := HB2.out.cell 1
    have h22 : (w1.drewN nq).cell? ⟨C, 2, Option.none⟩ = some (.int .u64 s) := HB2.out.cell 2
    have hf2 : ∀ i, (w1.drewN nq).frozen? ⟨C, i, Option.none⟩ = false := fun i => HB2.out.frozen i
    have HR2 : Hid (RdU (w1.drewN nq) C (.slice (some ⟨b, off, Option.none⟩) zs.length c) zs) := HR1.out
    have HK2 : Hid (KeepG C (C + 1) w (w1.drewN nq)) := HK1.out.trans (KeepG.drawN _ _)
    clear hc1 h01 h11 h21 hf1
    generalize (w1.drewN nq) = w2 at HB2 h02 h12 h22 hf2 HR2 HK2 ⊢
    have hp1 : (0 : Int) ≤ (p : Int) + 1 := by omega
    have hS1 : ∀ x, (w2.setCell ⟨C, 1, Option.none⟩ x).cell? ⟨C, 2, Option.none⟩ = some (.int .u64 s) := fun x => (HB2.out.set_ 1 x).cell 2
    have hS2 : ∀ x, (w2.setCell ⟨C, 1, Option.none⟩ x).frozen? ⟨C, 2, Option.none⟩ = false := fun x => (HB2.out.set_ 1 x).frozen 2
    have hB3 : ∀ e, Blk ((w2.setCell ⟨C, 1, Option.none⟩ (.int .i64 ((p : Int) + 1))).setCell ⟨C, 2, Option.none⟩ (.int .u64 e)) C 110 [(.slice (some ⟨b, off, Option.none⟩) zs.length c), .int .i64 ((p : Int) + 1), .int .u64 e] := fun e => (HB2.out.set_ 1 _).set_ 2 _
    have hT0 : ∀ e, ((w2.setCell ⟨C, 1, Option.none⟩ (.int .i64 ((p : Int) + 1))).setCell ⟨C, 2, Option.none⟩ (.int .u64 e)).cell? ⟨C, 0, Option.none⟩ = some (.slice (some ⟨b, off, Option.none⟩) zs.length c) := fun e => (hB3 e).cell 0
    have hT1 : ∀ e, ((w2.setCell ⟨C, 1, Option.none⟩ (.int .i64 ((p : Int) + 1))).setCell ⟨C, 2, Option.none⟩ (.int .u64 e)).cell? ⟨C, 1, Option.none⟩ = some (.int .i64 ((p : Int) + 1)) := fun e => (hB3 e).cell 1
    have hT2 : ∀ e, ((w2.setCell ⟨C, 1, Option.none⟩ (.int .i64 ((p : Int) + 1))).setCell ⟨C, 2, Option.none⟩ (.int .u64 e)).cell? ⟨C, 2, Option.none⟩ = some (.int .u64 e) := fun e => (hB3 e).cell 2
    have hR3 : ∀ e, RdU ((w2.setCell ⟨C, 1, Option.none⟩ (.int .i64 ((p : Int) + 1))).setCell ⟨C, 2, Option.none⟩ (.int .u64 e)) C (.slice (some ⟨b, off, Option.none⟩) zs.length c) zs := fun e => HR2.out.below (((Below.refl C w2).setCell (p := ⟨C, 1, Option.none⟩) (Nat.le_refl _) _).setCell (p := ⟨C, 2, Option.none⟩) (Nat.le_refl _) _) (Nat.le_refl _)
    have hK3 : ∀ e, KeepG C (C + 1) w ((w2.setCell ⟨C, 1, Option.none⟩ (.int .i64 ((p : Int) + 1))).setCell ⟨C, 2, Option.none⟩ (.int .u64 e)) := fun e => (HK2.out.set_ (Nat.le_refl _) (Nat.lt_succ_self _) _).set_ (Nat.le_refl _) (Nat.lt_succ_self _) _
    have HB3 := Lib.hid hB3
    have HR3 := Lib.hid hR3
    have HK3 := Lib.hid hK3
    clear hB3 hR3 hK3
    go_wp2_with fail
    go_quiet (fail)
    go_wp2_with fail
    go_ret
    exact ⟨_, rfl, hz0, hz1, ⟨_, zs, p + 1, _, HB3.out _, HR3.out _, by omega⟩, (HK3.out _).trans (KeepG.drawN _ _)⟩
  · have HB := Lib.hid hb
    have HR := Lib.hid hr
    clear hb hr
    go_enter Try.func212, Try.ntmps212
    go_wp2_with fail
    go_quiet (fail)
    go_wp2_with fail
    clear h0 h1 h2 hf
    have HB2 : Hid (Blk (w.drewN nq) C 110 [(.slice A zs.length c), .int .i64 (p : Int), .int .u64 s]) := HB.out
    have h02 : (w.drewN nq).cell? ⟨C, 0, Option.none⟩ = some (.slice A zs.length c) := HB2.out.cell 0
    have h12 : (w.drewN nq).cell? ⟨C, 1, Option.none⟩ = some (.int .i64 (p : Int)) := HB2.out.cell 1
    have h22 : (w.drewN nq).cell? ⟨C, 2, Option.none⟩ = some (.int .u64 s) := HB2.out.cell 2
    have hf2 : ∀ i, (w.drewN nq).frozen? ⟨C, i, Option.none⟩ = false := fun i => HB2.out.frozen i
    have HR2 : Hid (RdU (w.drewN nq) C (.slice A zs.length c) zs) := HR.out
    have HK2 : Hid (KeepG C (C + 1) w (w.drewN nq)) := KeepG.drawN _ _
    generalize (w.drewN nq) = w2 at HB2 h02 h12 h22 hf2 HR2 HK2 ⊢
    have hp1 : (0 : Int) ≤ (p : Int) + 1 := by omega
    have hS1 : ∀ x, (w2.setCell ⟨C, 1, Option.none⟩ x).cell? ⟨C, 2, Option.none⟩ = some (.int .u64 s) := fun x => (HB2.out.set_ 1 x).cell 2
    have hS2 : ∀ x, (w2.setCell ⟨C, 1, Option.none⟩ x).frozen? ⟨C, 2, Option.none⟩ = false := fun x => (HB2.out.set_ 1 x).frozen 2
    have hB3 : ∀ e, Blk ((w2.setCell ⟨C, 1, Option.none⟩ (.int .i64 ((p : Int) + 1))).setCell ⟨C, 2, Option.none⟩ (.int .u64 e)) C 110 [(.slice A zs.length c), .int .i64 ((p : Int) + 1), .int .u64 e] := fun e => (HB2.out.set_ 1 _).set_ 2 _
    have hT0 : ∀ e, ((w2.setCell ⟨C, 1, Option.none⟩ (.int .i64 ((p : Int) + 1))).setCell ⟨C, 2, Option.none⟩ (.int .u64 e)).cell? ⟨C, 0, Option.none⟩ = some (.slice A zs.length c) := fun e => (hB3 e).cell 0
    have hT1 : ∀ e, ((w2.setCell ⟨C, 1, Option.none⟩ (.int .i64 ((p : Int) + 1))).setCell ⟨C, 2, Option.none⟩ (.int .u64 e)).cell? ⟨C, 1, Option.none⟩ = some (.int .i64 ((p : Int) + 1)) := fun e => (hB3 e).cell 1
    have hT2 : ∀ e, ((w2.setCell ⟨C, 1, Option.none⟩ (.int .i64 ((p : Int) + 1))).setCell ⟨C, 2, Option.none⟩ (.int .u64 e)).cell? ⟨C, 2, Option.none⟩ = some (.int .u64 e) := fun e => (hB3 e).cell 2
    have hR3 : ∀ e, RdU ((w2.setCell ⟨C, 1, Option.none⟩ (.int .i64 ((p : Int) + 1))).setCell ⟨C, 2, Option.none⟩ (.int .u64 e)) C (.slice A zs.length c) zs := fun e => HR2.out.below (((Below.refl C w2).setCell (p := ⟨C, 1, Option.none⟩) (Nat.le_refl _) _).setCell (p := ⟨C, 2, Option.none⟩) (Nat.le_refl _) _) (Nat.le_refl _)
    have hK3 : ∀ e, KeepG C (C + 1) w ((w2.setCell ⟨C, 1, Option.none⟩ (.int .i64 ((p : Int) + 1))).setCell ⟨C, 2, Option.none⟩ (.int .u64 e)) := fun e => (HK2.out.set_ (Nat.le_refl _) (Nat.lt_succ_self _) _).set_ (Nat.le_refl _) (Nat.lt_succ_self _) _
    have HB3 := Lib.hid hB3
    have HR3 := Lib.hid hR3
    have HK3 := Lib.hid hK3
    clear hB3 hR3 hK3
    go_wp2_with fail
    go_quiet (fail)
    go_wp2_with fail
    go_ret
    exact ⟨_, rfl, (mask255 _).1, (mask255 _).2, ⟨_, zs, p + 1, _, HB3.out _, HR3.out _, by omega⟩, (HK3.out _).trans (KeepG.drawN _ _)⟩
theorem Cur.mono {w : World} {C m m' : Nat} (h : Cur w C m) (hm : m ≤ m') : Cur w C m' := by
  obtain ⟨v, zs, p, s, h1, h2, h3⟩ := h
  exact ⟨v, zs, p, s, h1, h2, by omega⟩
theorem Cur.lt {w : World} {C m : Nat} (h : Cur w C m) : C < w.heap.size := by
  obtain ⟨v, zs, p, s, h1, _, _⟩ := h
  exact h1.lt
theorem Cur.alloc {w : World} {C m : Nat} (h : Cur w C m) (o : Obj) : Cur (w.alloc o) C m := by
  obtain ⟨v, zs, p, s, h1, h2, h3⟩ := h
  exact ⟨v, zs, p, s, h1.alloc o, h2.below ((Below.refl _ _).alloc (by have := h1.lt; omega) _) (Nat.le_refl _), h3⟩
/-- What a call that draws leaves: a number in a range, the cursor a little further, all other blocks as they were. -/
def Drawn (C m : Nat) (w : World) (p : Int → Prop) (e : Ending) (w' : World) : Prop := ∃ z : Int, e = .returned (.int .i64 z) ∧ p z ∧ Cur w' C m ∧ KeepG C (C + 1) w w'
set_option maxHeartbeats 800000 in
theorem pick_any (n : Int) (C m : Nat) (w : World) (h : Cur w C m) (hm : m ≤ 1099511627000) (h1 : 1 ≤ n) (h2 : n ≤ 1048576) :
    Calls Try.prog 130 #[.pointer (some ⟨C, 0, Option.none⟩), .int .i64 n] w (Drawn C (m + 2) w (fun z => 0 ≤ z ∧ z < n)) := by
  by_cases hn : n ≤ 1
  · have H := Lib.hid h
    clear h
    go_enter Try.func130, Try.ntmps130
    go_wp2_with fail
    go_ret
    exact ⟨0, rfl, ⟨Int.le_refl _, by omega⟩, H.out.mono (by omega), KeepG.refl _ _ _⟩
  · have cN := next_any C m w h (by omega)
    have CN := Lib.hid cN
    clear cN h
    by_cases hb : 200 < n
    · go_enter Try.func130, Try.ntmps130
      go_wp2_with fail
      refine CN.out.mono ?_
      rintro e w1 ⟨z, rfl, hz0, hz1, hc1, hk1⟩
      have cM := next_any C (m + 1) w1 hc1 (by omega)
      have CM := Lib.hid cM
      have HK1 := Lib.hid hk1
      clear cM hc1 hk1
      go_wp2_with fail
      refine CM.out.mono ?_
      rintro e w2 ⟨y, rfl, hy0, hy1, hc2, hk2⟩
      have HC2 := Lib.hid hc2
      have HK2 := Lib.hid hk2
      clear hc2 hk2
      have hq0 : 0 ≤ (z * 256 + y) % n := Int.emod_nonneg _ (by omega)
      have hq1 : (z * 256 + y) % n < n := Int.emod_lt_of_pos _ (by omega)
      have hnn : n ≠ 0 := by omega
      go_wp2_with fail
      go_ret
      refine ⟨(z * 256 + y) % n, ?_, ⟨hq0, hq1⟩, HC2.out, HK1.out.trans HK2.out⟩
      simp
      try rw [Int.tmod_eq_emod_of_nonneg (by omega)]
    · go_enter Try.func130, Try.ntmps130
      go_wp2_with fail
      refine CN.out.mono ?_
      rintro e w1 ⟨z, rfl, hz0, hz1, hc1, hk1⟩
      have HC1 := Lib.hid hc1
      have HK1 := Lib.hid hk1
      clear hc1 hk1
      have hq0 : 0 ≤ z % n := Int.emod_nonneg _ (by omega)
      have hq1 : z % n < n := Int.emod_lt_of_pos _ (by omega)
      have hnn : n ≠ 0 := by omega
      go_wp2_with fail
      go_ret
      refine ⟨z % n, ?_, ⟨hq0, hq1⟩, HC1.out.mono (by omega), HK1.out⟩
      simp
      try rw [Int.tmod_eq_emod_of_nonneg (by omega)]
theorem one_any (n : Int) (C m : Nat) (w : World) (h : Cur w C m) (hm : m ≤ 1099511627000) (h1 : 1 ≤ n) (h2 : n ≤ 1048576) :
    Calls Try.prog 131 #[.pointer (some ⟨C, 0, Option.none⟩), .int .i64 n] w fun e w' => ∃ b : Bool, e = .returned (.bool b) ∧ Cur w' C (m + 2) ∧ KeepG C (C + 1) w w' := by
  have cN := pick_any n C m w h hm h1 h2
  have CN := Lib.hid cN
  clear cN h
  go_enter Try.func131, Try.ntmps131
  go_wp2_with fail
  refine CN.out.mono ?_
  rintro e w1 ⟨z, rfl, hz, hc1, hk1⟩
  have HC1 := Lib.hid hc1
  have HK1 := Lib.hid hk1
  clear hc1 hk1
  go_wp2_with fail
  go_ret
  exact ⟨_, rfl, HC1.out, HK1.out⟩
/-- The slice value v is not empty, lies outside block C, and reads as xs. -/
def Lst (w : World) (C : Nat) (v : Value) (xs : List Int) : Prop := 1 ≤ xs.length ∧ xs.length ≤ 1048576 ∧ ∃ b off c, v = .slice (some ⟨b, off, Option.none⟩) xs.length c ∧ b ≠ C ∧ b < w.heap.size ∧ ∀ j x, xs[j]? = some x → w.cell? ⟨b, off + j, Option.none⟩ = some (.int .i64 x)
theorem KeepG.cell {lo hi : Nat} {w w' : World} (h : KeepG lo hi w w') {b o : Nat} (hb : b < w.heap.size) (hne : b < lo ∨ hi ≤ b) : w'.cell? ⟨b, o, Option.none⟩ = w.cell? ⟨b, o, Option.none⟩ := by
  unfold World.cell?
  rw [h.block b hb hne]
theorem lst_new (w : World) (C : Nat) (xs : List Int) (hC : C < w.heap.size) (h1 : 1 ≤ xs.length) (h2 : xs.length ≤ 1048576) : Lst (w.alloc (.cells (ints xs).toArray 3)) C (.slice (some ⟨w.heap.size, 0, Option.none⟩) xs.length xs.length) xs := by
  refine ⟨h1, h2, w.heap.size, 0, _, rfl, by omega, by simp, fun j x hj => ?_⟩
  rw [show (0 : Nat) + j = j by omega, (Blk.new w 3 (ints xs).toArray).cell j]
  simp [ints, hj]
theorem among_any (xs : List Int) (v : Value) (C m : Nat) (w : World) (h : Cur w C m) (hm : m ≤ 1099511627000) (hl : Lst w C v xs) :
    Calls Try.prog 187 #[.pointer (some ⟨C, 0, Option.none⟩), v] w (Drawn C (m + 2) w (fun z => z ∈ xs)) := by
  obtain ⟨l1, l2, b, off, c, rfl, hbC, hbw, hcell⟩ := hl
  have cN := pick_any (xs.length : Int) C m w h hm (by omega) (by omega)
  have CN := Lib.hid cN
  have HCE := Lib.hid hcell
  clear cN h hcell
  go_enter Try.func187, Try.ntmps187
  go_wp2_with fail
  refine CN.out.mono ?_
  rintro e w1 ⟨z, rfl, ⟨hz0, hz1⟩, hc1, hk1⟩
  obtain ⟨k, rfl⟩ : ∃ k : Nat, z = (k : Int) := ⟨z.toNat, by omega⟩
  have hx : xs[k]? = some xs[k] := by simp [show k < xs.length by omega]
  have hc := (hk1.cell (o := off + k) hbw (by omega)).trans (HCE.out k _ hx)
  have HX := Lib.hid (List.mem_of_getElem? hx)
  have HC1 := Lib.hid hc1
  have HK1 := Lib.hid hk1
  clear hc1 hk1 hx
  go_wp2_with fail
  go_ret
  exact ⟨_, rfl, HX.out, HC1.out, HK1.out⟩
end Go.Proofs.Ytabiobjcfopakaa
/- Contracts: drawn signals, drawn texts of signals. -/
namespace Go.Proofs.Ytabiobjcfopakaa
open Go.RowKit
theorem keepG_box {w w' : World} {o : Obj} (h : KeepG w.heap.size (w.heap.size + 1) (w.alloc o) w') : Below w.heap.size w w' := by
  have h0 : Below w.heap.size w (w.alloc o) := (Below.refl _ _).alloc (Nat.le_refl _) _
  refine ⟨h.os.trans h0.os, h.tape.trans h0.tape, h.output.trans h0.output, Nat.le_trans h0.size h.size, fun k hk => ?_⟩
  rw [h.block k (by have := h0.size; omega) (.inl hk)]
  exact h0.block k hk
theorem cur_new {w : World} {hi : Nat} {v : Value} {zs : List UInt8} (h : RdU w hi v zs) (hh : hi ≤ w.heap.size) : Cur (w.alloc (.cells #[v, .int .i64 0, .int .u64 0] 110)) w.heap.size 0 :=
  ⟨v, zs, 0, 0, Blk.new _ _ _, (Rd.mono h hh).below ((Below.refl _ _).alloc (Nat.le_refl _) _) (Nat.le_refl _), Nat.le_refl _⟩
set_option maxHeartbeats 800000 in
theorem signal_any (C m : Nat) (w : World) (h : Cur w C m) (hm : m ≤ 1099511600000) :
    Calls Try.prog 127 #[.pointer (some ⟨C, 0, Option.none⟩)] w (Drawn C (m + 10) w (fun _ => True)) := by
  have c1 := Lib.hid (pick_any 64 C m w h (by omega) (by omega) (by omega))
  clear h
  go_enter Try.func127, Try.ntmps127
  go_wp2_with fail
  refine c1.out.mono ?_
  rintro e w1 ⟨z1, rfl, _, hc1, hk1⟩
  have c2 := Lib.hid (pick_any 64 C (m + 2) w1 hc1 (by omega) (by omega) (by omega))
  have HK1 := Lib.hid hk1
  clear hc1 hk1
  go_wp2_with fail
  refine c2.out.mono ?_
  rintro e w2 ⟨z2, rfl, _, hc2, hk2⟩
  have c3 := Lib.hid (pick_any 64 C (m + 4) w2 hc2 (by omega) (by omega) (by omega))
  have HK2 := Lib.hid (HK1.out.trans hk2)
  clear hc2 hk2
  go_wp2_with fail
  refine c3.out.mono ?_
  rintro e w3 ⟨z3, rfl, _, hc3, hk3⟩
  have hl4 : Lst (w3.alloc (.cells #[.int .i64 (-1), .int .i64 64] 3)) C (.slice (some ⟨w3.heap.size, 0, Option.none⟩) 2 2) [-1, 64] := lst_new w3 C [-1, 64] hc3.lt (by decide) (by decide)
  have c4 := Lib.hid (among_any [-1, 64] _ C (m + 6) _ (hc3.alloc _) (by omega) hl4)
  have HK3 := Lib.hid ((HK2.out.trans hk3).trans (below_g ((Below.refl _ w3).alloc (Nat.le_refl _) (.cells #[.int .i64 (-1), .int .i64 64] 3))))
  clear hc3 hk3 hl4
  go_wp2_with fail
  refine c4.out.mono ?_
  rintro e w4 ⟨z4, rfl, _, hc4, hk4⟩
  have hl5 : Lst (w4.alloc (.cells #[.int .i64 0, .int .i64 5, .int .i64 12, .int .i64 60, .int .i64 61, .int .i64 62, .int .i64 63, .int .i64 z1, .int .i64 z2, .int .i64 z3, .int .i64 z4] 3)) C (.slice (some ⟨w4.heap.size, 0, Option.none⟩) 11 11) [0, 5, 12, 60, 61, 62, 63, z1, z2, z3, z4] := lst_new w4 C [0, 5, 12, 60, 61, 62, 63, z1, z2, z3, z4] hc4.lt (by simp) (by simp)
  have c5 := Lib.hid (among_any _ _ C (m + 8) _ (hc4.alloc _) (by omega) hl5)
  have HK4 := Lib.hid ((HK3.out.trans hk4).trans (below_g ((Below.refl _ w4).alloc (Nat.le_refl _) (.cells #[.int .i64 0, .int .i64 5, .int .i64 12, .int .i64 60, .int .i64 61, .int .i64 62, .int .i64 63, .int .i64 z1, .int .i64 z2, .int .i64 z3, .int .i64 z4] 3))))
  clear hc4 hk4 hl5
  go_wp2_with fail
  refine c5.out.mono ?_
  rintro e w5 ⟨z5, rfl, _, hc5, hk5⟩
  have HC5 := Lib.hid hc5
  have HK5 := Lib.hid (HK4.out.trans hk5)
  clear hc5 hk5
  go_wp2_with fail
  go_ret
  exact ⟨z5, rfl, trivial, HC5.out, HK5.out⟩
/-- A drawn number. -/
def DrewI (w : World) (e : Ending) (w' : World) : Prop := ∃ z : Int, e = .returned (.int .i64 z) ∧ Below w.heap.size w w'
theorem DrawIsContent_any (zs : List UInt8) (v : Value) (hi : Nat) (w : World) (h : RdU w hi v zs) (hh : hi ≤ w.heap.size) :
    Calls Try.prog 118 #[v] w (DrewI w) := by
  obtain ⟨A, c, rfl, hc, hm⟩ := Rd.form h
  have cS := signal_any w.heap.size 0 _ (cur_new h hh) (by omega)
  have CS := Lib.hid cS
  clear cS h
  go_enter Try.func118, Try.ntmps118
  go_wp2_with fail
  refine CS.out.mono ?_
  rintro e w1 ⟨z, rfl, _, _, hk⟩
  have HK := Lib.hid hk
  clear hk
  go_wp2_with fail
  go_ret
  exact ⟨z, rfl, keepG_box HK.out⟩
theorem DrawSignalText_any (zs : List UInt8) (v : Value) (hi : Nat) (w : World) (h : RdU w hi v zs) (hh : hi ≤ w.heap.size) :
    Calls Try.prog 16 #[v] w (DrewI w) := by
  have cS := DrawIsContent_any zs v hi w h hh
  obtain ⟨A, c, rfl, hc, hm⟩ := Rd.form h
  have CS := Lib.hid cS
  clear cS h
  go_enter Try.func16, Try.ntmps16
  go_wp2_with fail
  refine CS.out.mono ?_
  rintro e w1 ⟨z, rfl, hb⟩
  have HB := Lib.hid hb
  clear hb
  go_wp2_with fail
  go_ret
  exact ⟨z, rfl, HB.out⟩
theorem DrawSignalDistance_any (zs : List UInt8) (v : Value) (hi : Nat) (w : World) (h : RdU w hi v zs) (hh : hi ≤ w.heap.size) :
    Calls Try.prog 29 #[v] w fun e w' => ∃ y z : Int, e = .returned (.tuple #[.int .i64 y, .int .i64 z]) ∧ Below w.heap.size w w' := by
  obtain ⟨A, c, rfl, hc, hm⟩ := Rd.form h
  have cS := signal_any w.heap.size 0 _ (cur_new h hh) (by omega)
  have CS := Lib.hid cS
  clear cS h
  go_enter Try.func29, Try.ntmps29
  go_wp2_with fail
  refine CS.out.mono ?_
  rintro e w1 ⟨y, rfl, _, hc1, hk1⟩
  have cT := signal_any w.heap.size 10 w1 hc1 (by omega)
  have CT := Lib.hid cT
  have HK1 := Lib.hid hk1
  clear cT hc1 hk1
  go_wp2_with fail
  refine CT.out.mono ?_
  rintro e w2 ⟨z, rfl, _, _, hk2⟩
  have HK2 := Lib.hid (HK1.out.trans hk2)
  clear hk2
  go_wp2_with fail
  go_ret2
  exact ⟨y, z, ret_val rfl, keepG_box HK2.out⟩
end Go.Proofs.Ytabiobjcfopakaa
/- Contracts: a drawn text with edits. -/
namespace Go.Proofs.Ytabiobjcfopakaa
open Go.RowKit
set_option maxRecDepth 100000 in
set_option maxHeartbeats 4000000 in
theorem spoilt_any (t s : ByteArray) (C m : Nat) (w : World) (h : Cur w C m) (hm : m ≤ 1099511600000) (ht : t.size ≤ 1000000) (hs1 : 1 ≤ s.size) (hs2 : s.size ≤ 1000) :
    Calls Try.prog 132 #[.pointer (some ⟨C, 0, Option.none⟩), .string t, .string s] w fun e w' => ∃ t' : ByteArray, e = .returned (.string t') ∧ t'.size ≤ t.size + 2 ∧ Cur w' C (m + 20) ∧ KeepG C (C + 1) w w' := by
  have c1 := Lib.hid (pick_any 2 C m w h (by omega) (by omega) (by omega))
  clear h
  go_enter Try.func132, Try.ntmps132
  go_wp2_with fail
  refine c1.out.mono ?_
  rintro e w1 ⟨z1, rfl, ⟨hz0, hz1⟩, hc1, hk1⟩
  obtain ⟨k0, rfl⟩ : ∃ k : Nat, z1 = (k : Int) := ⟨z1.toNat, by omega⟩
  have HC1 := Lib.hid hc1
  have HK1 := Lib.hid hk1
  clear hc1 hk1
  go_wp2_with fail
  go_loopw [1, 7] (fun q i wr => ∃ (k : Nat) (t' : ByteArray), k ≤ 2 ∧ i = .int .i64 (k : Int) ∧ q = .string t' ∧ t'.size + k ≤ t.size + 2 ∧ Hid (Cur wr C (m + 2 + (2 - k) * 6)) ∧ Hid (KeepG C (C + 1) w wr)) (fun _ i _ => (intOf i).toNat)
  case atStart => exact ⟨1 + k0, t, by omega, by go_num, rfl, by omega, HC1.out.mono (by omega), HK1.out⟩
  case round =>
    obtain ⟨k, t', hk2, rfl, rfl, hts, hc, hk⟩ := hrel
    by_cases hk0 : 0 < k
    · by_cases ht0 : 0 < t'.size
      · have cI := Lib.hid (pick_any (t'.size : Int) C (m + 2 + (2 - k) * 6) wr hc.out (by omega) (by omega) (by omega))
        clear hc
        go_wp2_with fail
        refine cI.out.mono ?_
        rintro e w2 ⟨zi, rfl, ⟨hi0, hi1⟩, hc2, hk2'⟩
        obtain ⟨i, rfl⟩ : ∃ k : Nat, zi = (k : Int) := ⟨zi.toNat, by omega⟩
        have HK2 := Lib.hid (hk.out.trans hk2')
        have cJ := Lib.hid (pick_any (s.size : Int) C _ w2 hc2 (by omega) (by omega) (by omega))
        clear hc2 hk2' hk
        go_wp2_with fail
        refine cJ.out.mono ?_
        rintro e w3 ⟨zj, rfl, ⟨hj0, hj1⟩, hc3, hk3⟩
        obtain ⟨j, rfl⟩ : ∃ k : Nat, zj = (k : Int) := ⟨zj.toNat, by omega⟩
        have hjs : j < s.size := by omega
        obtain ⟨sw, hsw⟩ : ∃ sw : ByteArray, sw = ⟨#[UInt8.ofNat ((s[j].toNat : Int)).toNat]⟩ := ⟨_, rfl⟩
        have hcv := fun wr' => conv_one (s[j].toNat : Int) (by omega) (by have := UInt8.toNat_lt s[j]; omega) wr'
        rw [← hsw] at hcv
        have hsw1 : sw.size = 1 := by rw [hsw]; rfl
        have cL := Lib.hid (pick_any 3 C _ (w3.alloc (.cells #[.int .u8 (s[j].toNat : Int)] 5)) (hc3.alloc _) (by omega) (by omega) (by omega))
        have HK3 := Lib.hid ((HK2.out.trans hk3).trans (below_g ((Below.refl _ w3).alloc (Nat.le_refl _) (.cells #[.int .u8 (s[j].toNat : Int)] 5))))
        clear hc3 hk3 hsw
        go_wp2_with fail
        refine cL.out.mono ?_
        rintro e w5 ⟨zl, rfl, ⟨hl0, hl1⟩, hc5, hk5⟩
        have HC5 := Lib.hid hc5
        have HK5 := Lib.hid (HK3.out.trans hk5)
        clear hc5 hk5 hcv hz0 hz1 hi0
        have hil : i < t'.size := by omega
        have hl3 : zl = 0 ∨ zl = 1 ∨ zl = 2 := by omega
        clear hl0 hl1
        rcases hl3 with rfl | rfl | rfl
        · go_wp2_with fail
          go_quiet (fail)
          go_wp2_with fail
          have HCX := Lib.hid (HC5.out.mono (m' := m + 2 + (2 - (k - 1)) * 6) (by omega))
          have HKX := Lib.hid (HK5.out.trans (KeepG.drawN _ nq))
          go_roundw
          case rel => exact ⟨k - 1, _, by omega, by go_num, rfl, by (simp [ByteArray.size_append, ByteArray.size_extract]; omega), HCX.out, HKX.out⟩
          case measure => (simp [intOf]; try omega)
        · go_wp2_with fail
          go_quiet (fail)
          go_wp2_with fail
          have HCX := Lib.hid (HC5.out.mono (m' := m + 2 + (2 - (k - 1)) * 6) (by omega))
          have HKX := Lib.hid (HK5.out.trans (KeepG.drawN _ nq))
          go_roundw
          case rel => exact ⟨k - 1, _, by omega, by go_num, rfl, by (simp [ByteArray.size_append, ByteArray.size_extract]; omega), HCX.out, HKX.out⟩
          case measure => (simp [intOf]; try omega)
        · go_wp2_with fail
          go_quiet (fail)
          go_wp2_with fail
          have HCX := Lib.hid (HC5.out.mono (m' := m + 2 + (2 - (k - 1)) * 6) (by omega))
          have HKX := Lib.hid (HK5.out.trans (KeepG.drawN _ nq))
          go_roundw
          case rel => exact ⟨k - 1, _, by omega, by go_num, rfl, by (simp [ByteArray.size_append, ByteArray.size_extract]; omega), HCX.out, HKX.out⟩
          case measure => (simp [intOf]; try omega)
      · go_wp2_with fail
        go_ret
        exact ⟨_, rfl, by omega, hc.out.mono (by omega), hk.out⟩
    · go_wp2_with fail
      go_ret
      exact ⟨_, rfl, by omega, hc.out.mono (by omega), hk.out⟩
theorem DrawReadSignal_any (zs : List UInt8) (v : Value) (hi : Nat) (w : World) (h : RdU w hi v zs) (hh : hi ≤ w.heap.size) :
    Calls Try.prog 34 #[v] w fun e w' => ∃ t : ByteArray, e = .returned (.string t) ∧ t.size ≤ 1000 ∧ Below w.heap.size w w' := by
  obtain ⟨A, c, rfl, hc, hm⟩ := Rd.form h
  have c1 := Lib.hid (pick_any 64 w.heap.size 0 _ (cur_new h hh) (by omega) (by omega) (by omega))
  clear h
  go_enter Try.func34, Try.ntmps34
  go_wp2_with fail
  refine c1.out.mono ?_
  rintro e w1 ⟨z, rfl, ⟨hz0, hz1⟩, hc1, hk1⟩
  obtain ⟨n, rfl⟩ : ∃ k : Nat, z = (k : Int) := ⟨z.toNat, by omega⟩
  have c2 := Lib.hid (sgText_any n (by omega) w1)
  have c3 := Lib.hid (one_any 3 w.heap.size 2 w1 hc1 (by omega) (by omega) (by omega))
  have HK1 := Lib.hid hk1
  have hsz : (⟨(sgT n 6).toArray⟩ : ByteArray).size = 6 := by simp [sgT, ByteArray.size]
  obtain ⟨st, hst⟩ : ∃ st : ByteArray, st = ⟨(sgT n 6).toArray⟩ := ⟨_, rfl⟩
  rw [← hst] at c2 hsz
  clear hc1 hk1 hst
  go_wp2_with fail
  refine c2.out.mono ?_
  rintro e w1' ⟨rfl, rfl⟩
  go_wp2_with fail
  refine c3.out.mono ?_
  rintro e w2 ⟨b, rfl, hc2, hk2⟩
  have HK2 := Lib.hid (HK1.out.trans hk2)
  cases b
  · clear hc2 hk2
    go_wp2_with fail
    go_ret
    exact ⟨_, rfl, by omega, keepG_box HK2.out⟩
  · have c4 := Lib.hid (spoilt_any st ⟨#[35, 46, 120]⟩ w.heap.size 4 w2 hc2 (by omega) (by omega) (by decide) (by decide))
    clear hc2 hk2
    go_wp2_with fail
    refine c4.out.mono ?_
    rintro e w3 ⟨t', rfl, hts, _, hk3⟩
    have HK3 := Lib.hid (HK2.out.trans hk3)
    clear hk3
    go_wp2_with fail
    go_ret
    exact ⟨t', rfl, by omega, keepG_box HK3.out⟩
end Go.Proofs.Ytabiobjcfopakaa
/- Contracts of the powers, of FlatLength and of the closed shutters of the program. -/
namespace Go.Proofs.Ytabiobjcfopakaa
open Go.RowKit
theorem wrap_id {n : Int} (h : -9223372036854775808 ≤ n) (h2 : n ≤ 9223372036854775807) : wrap64 n = n := IntWalk.wrap64_in n ⟨by omega, by omega⟩
theorem pow_le {r n : Nat} (hr : r ≤ 60) (hn : n ≤ 6) : r ^ n ≤ 46656000000 := by
  have h1 : r ^ n ≤ 60 ^ n := Nat.pow_le_pow_left hr n
  have h2 : 60 ^ n ≤ 60 ^ 6 := Nat.pow_le_pow_right (by omega) hn
  exact Nat.le_trans h1 (Nat.le_trans h2 (by decide))
theorem pow_step {r k n : Nat} (hr : r ≤ 60) (hn : n ≤ 6) (hk : k < n) : wrap64 (((r ^ k : Nat) : Int) * (r : Int)) = ((r ^ (k + 1) : Nat) : Int) := by
  have h := pow_le hr (show k + 1 ≤ 6 by omega)
  have e : ((r ^ k : Nat) : Int) * (r : Int) = ((r ^ (k + 1) : Nat) : Int) := by rw [Nat.pow_succ, Int.natCast_mul]
  rw [e]
  exact wrap_id (by omega) (by omega)
theorem cmPower_any (r n : Nat) (hr : r ≤ 60) (hn : n ≤ 6) (w : World) : Calls Try.prog 154 #[.int .i64 (r : Int), .int .i64 (n : Int)] w fun e w' => e = .returned (.int .i64 (r ^ n : Nat)) ∧ w = w' := by
  go_enter Try.func154, Try.ntmps154
  go_wp2
  go_loop [1, 5] (fun i p => ∃ j k : Nat, k ≤ n ∧ Hid (j + k = n) ∧ i = .int .i64 (j : Int) ∧ j ≤ n ∧ p = .int .i64 (r ^ k : Nat)) (fun i _ => (intOf i).toNat)
  case atStart => exact ⟨n, 0, by omega, by show _ = _; omega, rfl, by omega, rfl⟩
  case round =>
    obtain ⟨j, k, hk, hjk, rfl, hj, rfl⟩ := hrel
    by_cases hlt : 0 < j
    · go_wp2
      go_round
      case rel => exact ⟨j - 1, k + 1, by have := hjk.out; omega, by have := hjk.out; show _ = _; omega, by congr 1; omega, by omega, int_val (pow_step hr hn (by have := hjk.out; omega))⟩
      case measure => simp [intOf]; omega
    · obtain rfl : j = 0 := by omega
      have hkk : k = n := by have := hjk.out; omega
      subst hkk
      go_wp2
      go_ret
      exact ⟨rfl, rfl⟩
theorem powerOf_any (r n : Nat) (hr : r ≤ 60) (hn : n ≤ 6) (w : World) : Calls Try.prog 162 #[.int .i64 (r : Int), .int .i64 (n : Int)] w fun e w' => e = .returned (.int .i64 (r ^ n : Nat)) ∧ w = w' := by
  go_enter Try.func162, Try.ntmps162
  go_wp2
  go_loop [5, 7] (fun p i => ∃ k : Nat, k ≤ n ∧ i = .int .i64 (k : Int) ∧ p = .int .i64 (r ^ k : Nat)) (fun _ i => n - (intOf i).toNat)
  case atStart => exact ⟨0, by omega, rfl, rfl⟩
  case round =>
    obtain ⟨k, hk, rfl, rfl⟩ := hrel
    by_cases hlt : k < n
    · go_wp2
      go_round
      case rel => exact ⟨k + 1, by omega, by go_num, int_val (pow_step hr hn hlt)⟩
      case measure => simp [intOf]; omega
    · obtain rfl : k = n := by omega
      go_wp2
      go_ret
      exact ⟨rfl, rfl⟩
theorem cmBase_any (n : Int) (w : World) : Calls Try.prog 152 #[.int .i64 n] w fun e w' => e = .returned (.bool (inB n 2 60)) ∧ w = w' := by
  go_enter Try.func152, Try.ntmps152
  go_wp2_with (go_at_call 191; refine (l1In_any _ _ _ _).mono ?_; rintro e w' ⟨rfl, rfl⟩)
  go_ret
  exact ⟨rfl, rfl⟩
theorem isRadix_any (n : Int) (w : World) : Calls Try.prog 157 #[.int .i64 n] w fun e w' => e = .returned (.bool (inB n 2 60)) ∧ w = w' := by
  go_enter Try.func157, Try.ntmps157
  go_wp2_with (go_at_call 125; refine (within_any _ _ _ _).mono ?_; rintro e w' ⟨rfl, rfl⟩)
  go_ret
  exact ⟨rfl, rfl⟩
/-- The least length with which n words can all have it. -/
def flatM (n r : Nat) : Nat := if n ≤ r ^ 1 then 1 else if n ≤ r ^ 2 then 2 else if n ≤ r ^ 3 then 3 else if n ≤ r ^ 4 then 4 else 5
theorem flatM_le (n r : Nat) : 1 ≤ flatM n r ∧ flatM n r ≤ 5 := by unfold flatM; repeat (first | split | omega)
theorem pow_mono (r : Nat) (hr : 2 ≤ r) {a b : Nat} (h : a ≤ b) : r ^ a ≤ r ^ b := Nat.pow_le_pow_right (by omega) h
theorem flatM_up {n r L : Nat} (hr : 2 ≤ r) (hn : n ≤ 20) (h1 : 1 ≤ L) (hL : L ≤ flatM n r) (hlt : r ^ L < n) : L + 1 ≤ flatM n r := by
  have h5 := (flatM_le n r).2
  have m2 := pow_mono r hr (show 1 ≤ 2 by omega)
  have m3 := pow_mono r hr (show 2 ≤ 3 by omega)
  have m4 := pow_mono r hr (show 3 ≤ 4 by omega)
  have m5 := pow_mono r hr (show 4 ≤ 5 by omega)
  have b5 : 2 ^ 5 ≤ r ^ 5 := Nat.pow_le_pow_left hr 5
  rcases (show L = 1 ∨ L = 2 ∨ L = 3 ∨ L = 4 ∨ L = 5 by omega) with rfl | rfl | rfl | rfl | rfl
  all_goals (first | omega | (unfold flatM at *; repeat (first | split at * | omega)))
theorem flatM_at {n r L : Nat} (h1 : 1 ≤ L) (hL : L ≤ flatM n r) (hge : ¬ r ^ L < n) : flatM n r = L := by
  have h5 := (flatM_le n r).2
  rcases (show L = 1 ∨ L = 2 ∨ L = 3 ∨ L = 4 ∨ L = 5 by omega) with rfl | rfl | rfl | rfl | rfl
  all_goals (first | omega | (unfold flatM at *; repeat (first | split at * | omega)))
def flatT (n r : Int) : Value := if inB n 1 20 && inB r 2 60 then .tuple #[.int .i64 (flatM n.toNat r.toNat : Nat), .bool true] else .tuple #[.int .i64 0, .bool false]
theorem FlatLength_any (n r : Int) (w : World) : Calls Try.prog 87 #[.int .i64 n, .int .i64 r] w fun e w' => e = .returned (flatT n r) ∧ w = w' := by
  cases ha : inB n 1 20
  · go_enter Try.func87, Try.ntmps87
    go_wp2_with (first | (go_at_call 125; refine (within_any _ _ _ _).mono ?_; rintro e w' ⟨rfl, rfl⟩) | (go_at_call 157; refine (isRadix_any _ _).mono ?_; rintro e w' ⟨rfl, rfl⟩))
    go_ret2
    exact ⟨ret_val (by simp [flatT, ha]), rfl⟩
  · cases hb : inB r 2 60
    · go_enter Try.func87, Try.ntmps87
      go_wp2_with (first | (go_at_call 125; refine (within_any _ _ _ _).mono ?_; rintro e w' ⟨rfl, rfl⟩) | (go_at_call 157; refine (isRadix_any _ _).mono ?_; rintro e w' ⟨rfl, rfl⟩))
      go_ret2
      exact ⟨ret_val (by simp [flatT, hb]), rfl⟩
    · obtain ⟨ha0, ha1⟩ := inB_iff.1 ha
      obtain ⟨hb0, hb1⟩ := inB_iff.1 hb
      obtain ⟨n, rfl⟩ := Int.eq_ofNat_of_zero_le (show 0 ≤ n by omega)
      obtain ⟨r, rfl⟩ := Int.eq_ofNat_of_zero_le (show 0 ≤ r by omega)
      have hf := flatM_le n r
      go_enter Try.func87, Try.ntmps87
      go_wp2_with (first | (go_at_call 125; refine (within_any _ _ _ _).mono ?_; rintro e w' ⟨rfl, rfl⟩) | (go_at_call 157; refine (isRadix_any _ _).mono ?_; rintro e w' ⟨rfl, rfl⟩))
      go_loop [6] (fun i => ∃ L : Nat, 1 ≤ L ∧ L ≤ flatM n r ∧ i = .int .i64 (L : Int)) (fun i => 6 - (intOf i).toNat)
      case atStart => exact ⟨1, by omega, by omega, rfl⟩
      case round =>
        obtain ⟨L, h1, hL, rfl⟩ := hrel
        have hp := pow_le (show r ≤ 60 by omega) (show L ≤ 6 by omega)
        by_cases hlt : r ^ L < n
        · have hlt' : (r : Int) ^ L < (n : Int) := by exact_mod_cast hlt
          go_wp2_with (go_at_call 162; refine (powerOf_any _ _ (by omega) (by omega) _).mono ?_; rintro e w' ⟨rfl, rfl⟩)
          go_round
          case rel => exact ⟨L + 1, by omega, flatM_up (by omega) (by omega) h1 hL hlt, by go_num⟩
          case measure => simp [intOf]; omega
        · have hlt' : ¬ (r : Int) ^ L < (n : Int) := by exact_mod_cast hlt
          go_wp2_with (go_at_call 162; refine (powerOf_any _ _ (by omega) (by omega) _).mono ?_; rintro e w' ⟨rfl, rfl⟩)
          go_ret2
          exact ⟨ret_val (by simp [flatT, ha, hb, flatM_at h1 hL hlt]), rfl⟩
theorem sFlatLength_any (n r : Int) (w : World) : Calls Try.prog 88 #[.int .i64 n, .int .i64 r] w fun e w' => e = .returned (flatT n r) ∧ w = w' := by
  cases ha : inB n 1 20
  · go_enter Try.func88, Try.ntmps88
    go_wp2_with (first | (go_at_call 191; refine (l1In_any _ _ _ _).mono ?_; rintro e w' ⟨rfl, rfl⟩) | (go_at_call 152; refine (cmBase_any _ _).mono ?_; rintro e w' ⟨rfl, rfl⟩))
    go_ret2
    exact ⟨ret_val (by simp [flatT, ha]), rfl⟩
  · cases hb : inB r 2 60
    · go_enter Try.func88, Try.ntmps88
      go_wp2_with (first | (go_at_call 191; refine (l1In_any _ _ _ _).mono ?_; rintro e w' ⟨rfl, rfl⟩) | (go_at_call 152; refine (cmBase_any _ _).mono ?_; rintro e w' ⟨rfl, rfl⟩))
      go_ret2
      exact ⟨ret_val (by simp [flatT, hb]), rfl⟩
    · obtain ⟨ha0, ha1⟩ := inB_iff.1 ha
      obtain ⟨hb0, hb1⟩ := inB_iff.1 hb
      obtain ⟨n, rfl⟩ := Int.eq_ofNat_of_zero_le (show 0 ≤ n by omega)
      obtain ⟨r, rfl⟩ := Int.eq_ofNat_of_zero_le (show 0 ≤ r by omega)
      have hf := flatM_le n r
      go_enter Try.func88, Try.ntmps88
      go_wp2_with (first | (go_at_call 191; refine (l1In_any _ _ _ _).mono ?_; rintro e w' ⟨rfl, rfl⟩) | (go_at_call 152; refine (cmBase_any _ _).mono ?_; rintro e w' ⟨rfl, rfl⟩))
      go_loop [6] (fun i => ∃ L : Nat, 1 ≤ L ∧ L ≤ flatM n r ∧ i = .int .i64 (L : Int)) (fun i => 6 - (intOf i).toNat)
      case atStart => exact ⟨1, by omega, by omega, rfl⟩
      case round =>
        obtain ⟨L, h1, hL, rfl⟩ := hrel
        have hp := pow_le (show r ≤ 60 by omega) (show L ≤ 6 by omega)
        by_cases hlt : r ^ L < n
        · have hlt' : (r : Int) ^ L < (n : Int) := by exact_mod_cast hlt
          go_wp2_with (go_at_call 154; refine (cmPower_any _ _ (by omega) (by omega) _).mono ?_; rintro e w' ⟨rfl, rfl⟩)
          go_round
          case rel => exact ⟨L + 1, by omega, flatM_up (by omega) (by omega) h1 hL hlt, by go_num⟩
          case measure => simp [intOf]; omega
        · have hlt' : ¬ (r : Int) ^ L < (n : Int) := by exact_mod_cast hlt
          go_wp2_with (go_at_call 154; refine (cmPower_any _ _ (by omega) (by omega) _).mono ?_; rintro e w' ⟨rfl, rfl⟩)
          go_ret2
          exact ⟨ret_val (by simp [flatT, ha, hb, flatM_at h1 hL hlt]), rfl⟩
set_option maxHeartbeats 400000 in
theorem closedOf_any (n : Nat) (h1 : n ≤ 63) (w : World) : Calls Try.prog 120 #[.int .i64 (n : Int)] w (RetOwI (shutM n 6) w) := by
  go_enter Try.func120, Try.ntmps120
  go_wp2
  go_loopw [3, 5] (fun v i wr => ∃ k : Nat, k ≤ 6 ∧ i = .int .i64 k ∧ GrowI w w.heap.size wr v (shutM n k)) (fun _ i _ => 6 - (intOf i).toNat)
  case atStart => exact ⟨0, by omega, rfl, GrowI.start w⟩
  case round =>
    obtain ⟨k, hk, rfl, hG⟩ := hrel
    have hl := shutM_len n k
    by_cases hlt : k < 6
    · have hbb := bit_and n k (by omega)
      cases hb : bitB n k
      · have HB := Lib.hid hb
        rw [hb] at hbb
        go_wp2
        go_roundw
        case rel => exact ⟨k + 1, by omega, by go_num, by rw [shutM_no HB.out]; exact hG⟩
        case measure => simp [intOf]; omega
      · have HB := Lib.hid hb
        rw [hb] at hbb
        go_wp2_with (at_builtin; refine GrowI.app rfl (.tmp 13) (.tmp 15) rfl hG (by omega) rfl rfl ?_; intro v' w1 hG')
        go_roundw
        case rel => exact ⟨k + 1, by omega, by go_num, by rw [shutM_yes HB.out]; exact hG'⟩
        case measure => simp [intOf]; omega
    · obtain rfl : k = 6 := by omega
      go_wp2
      go_ret
      exact retOwI hG
end Go.Proofs.Ytabiobjcfopakaa
/- Contracts of ClosedShutters and ChangedShutters; a law's comparison of two equal lists. -/
namespace Go.Proofs.Ytabiobjcfopakaa
open Go.RowKit
def closedL (n : Int) : List Int := if inB n 0 63 then shutM n.toNat 6 else []
def changedL (a b : Int) : List Int := if inB a 0 63 && inB b 0 63 then shutM (a.toNat ^^^ b.toNat) 6 else []
theorem closedL_len (n : Int) : (closedL n).length ≤ 6 := by unfold closedL; split; exact shutM_len _ _; simp
theorem changedL_len (a b : Int) : (changedL a b).length ≤ 6 := by unfold changedL; split; exact shutM_len _ _; simp
theorem ClosedShutters_any (n : Int) (w : World) : Calls Try.prog 23 #[.int .i64 n] w (RetOwT (closedL n) (inB n 0 63) w) := by
  cases ha : inB n 0 63
  · have e : closedL n = [] := by simp [closedL, ha]
    rw [e]
    go_enter Try.func23, Try.ntmps23
    go_wp2_with (go_at_call 119; refine (isSignal_any _ _).mono ?_; rintro e w' ⟨rfl, rfl⟩)
    go_ret2
    exact retOwT_nil w false
  · have e : closedL n = shutM n.toNat 6 := by simp [closedL, ha]
    rw [e]
    obtain ⟨h0, h1⟩ := inB_iff.1 ha
    obtain ⟨n, rfl⟩ := Int.eq_ofNat_of_zero_le h0
    clear e
    go_enter Try.func23, Try.ntmps23
    go_wp2_with (first | (go_at_call 119; refine (isSignal_any _ _).mono ?_; rintro e w' ⟨rfl, rfl⟩) | (go_at_call 120; refine (closedOf_any _ (by omega) _).mono ?_; rintro e w1 ⟨v, rfl, hv, hb1⟩))
    go_ret2
    exact ⟨v, rfl, hv, hb1⟩
theorem sClosedShutters_any (n : Int) (w : World) : Calls Try.prog 24 #[.int .i64 n] w (RetOwT (closedL n) (inB n 0 63) w) := by
  cases ha : inB n 0 63
  · have e : closedL n = [] := by simp [closedL, ha]
    rw [e]
    go_enter Try.func24, Try.ntmps24
    go_wp2_with (go_at_call 121; refine (sgGood_any _ _).mono ?_; rintro e w' ⟨rfl, rfl⟩)
    go_ret2
    exact retOwT_nil w false
  · have e : closedL n = shutM n.toNat 6 := by simp [closedL, ha]
    rw [e]
    obtain ⟨h0, h1⟩ := inB_iff.1 ha
    obtain ⟨n, rfl⟩ := Int.eq_ofNat_of_zero_le h0
    clear e
    go_enter Try.func24, Try.ntmps24
    go_wp2_with (first | (go_at_call 121; refine (sgGood_any _ _).mono ?_; rintro e w' ⟨rfl, rfl⟩) | (go_at_call 124; refine (sgShutters_any _ (by omega) _).mono ?_; rintro e w1 ⟨v, rfl, hv, hb1⟩))
    go_ret2
    exact ⟨v, rfl, hv, hb1⟩
theorem ChangedShutters_any (a b : Int) (w : World) : Calls Try.prog 32 #[.int .i64 a, .int .i64 b] w (RetOwT (changedL a b) (inB a 0 63 && inB b 0 63) w) := by
  cases ha : inB a 0 63
  · have e : changedL a b = [] := by simp [changedL, ha]
    rw [e]
    go_enter Try.func32, Try.ntmps32
    go_wp2_with (go_at_call 119; refine (isSignal_any _ _).mono ?_; rintro e w' ⟨rfl, rfl⟩)
    go_ret2
    exact retOwT_nil w false
  · cases hb : inB b 0 63
    · have e : changedL a b = [] := by simp [changedL, hb]
      rw [e]
      go_enter Try.func32, Try.ntmps32
      go_wp2_with (go_at_call 119; refine (isSignal_any _ _).mono ?_; rintro e w' ⟨rfl, rfl⟩)
      go_ret2
      exact retOwT_nil w false
    · have e : changedL a b = shutM (a.toNat ^^^ b.toNat) 6 := by simp [changedL, ha, hb]
      rw [e]
      obtain ⟨ha0, ha1⟩ := inB_iff.1 ha
      obtain ⟨hb0, hb1⟩ := inB_iff.1 hb
      obtain ⟨a, rfl⟩ := Int.eq_ofNat_of_zero_le ha0
      obtain ⟨b, rfl⟩ := Int.eq_ofNat_of_zero_le hb0
      have hx := i64_xor a b (by omega) (by omega)
      have hl := xor_lt (a := a) (b := b) (by omega) (by omega)
      clear e
      go_enter Try.func32, Try.ntmps32
      go_wp2_with (first | (go_at_call 119; refine (isSignal_any _ _).mono ?_; rintro e w' ⟨rfl, rfl⟩) | (go_at_call 120; refine (closedOf_any _ hl _).mono ?_; rintro e w1 ⟨v, rfl, hv, hb1⟩))
      go_ret2
      exact ⟨v, rfl, hv, hb1⟩
theorem sChangedShutters_any (a b : Int) (w : World) : Calls Try.prog 33 #[.int .i64 a, .int .i64 b] w (RetOwT (changedL a b) (inB a 0 63 && inB b 0 63) w) := by
  cases ha : inB a 0 63
  · have e : changedL a b = [] := by simp [changedL, ha]
    rw [e]
    go_enter Try.func33, Try.ntmps33
    go_wp2_with (go_at_call 121; refine (sgGood_any _ _).mono ?_; rintro e w' ⟨rfl, rfl⟩)
    go_ret2
    exact retOwT_nil w false
  · cases hb : inB b 0 63
    · have e : changedL a b = [] := by simp [changedL, hb]
      rw [e]
      go_enter Try.func33, Try.ntmps33
      go_wp2_with (go_at_call 121; refine (sgGood_any _ _).mono ?_; rintro e w' ⟨rfl, rfl⟩)
      go_ret2
      exact retOwT_nil w false
    · have e : changedL a b = shutM (a.toNat ^^^ b.toNat) 6 := by simp [changedL, ha, hb]
      rw [e]
      obtain ⟨ha0, ha1⟩ := inB_iff.1 ha
      obtain ⟨hb0, hb1⟩ := inB_iff.1 hb
      obtain ⟨a, rfl⟩ := Int.eq_ofNat_of_zero_le ha0
      obtain ⟨b, rfl⟩ := Int.eq_ofNat_of_zero_le hb0
      have hx := i64_xor a b (by omega) (by omega)
      have hl := xor_lt (a := a) (b := b) (by omega) (by omega)
      clear e
      go_enter Try.func33, Try.ntmps33
      go_wp2_with (first | (go_at_call 121; refine (sgGood_any _ _).mono ?_; rintro e w' ⟨rfl, rfl⟩) | (go_at_call 124; refine (sgShutters_any _ hl _).mono ?_; rintro e w1 ⟨v, rfl, hv, hb1⟩))
      go_ret2
      exact ⟨v, rfl, hv, hb1⟩
end Go.Proofs.Ytabiobjcfopakaa
/- Contracts of ReadSignal, of the program and of the reference: both return the signal with a text. -/
namespace Go.Proofs.Ytabiobjcfopakaa
open Go.RowKit
theorem str_eq {a : List UInt8} {b : ByteArray} (h : (a == b.toList) = true) : a = b.data.toList := by
  rw [ByteArray.toList_eq] at h; exact eq_of_beq h
theorem str_ne {a : List UInt8} {b : ByteArray} (h : (a == b.toList) = false) : a ≠ b.data.toList := by
  rw [ByteArray.toList_eq] at h; exact ne_of_beq_false h
def readT (l : List UInt8) : Value := .tuple #[.int .i64 (((readM l).getD 0 : Nat) : Int), .bool (readM l).isSome]
theorem readT_some {l : List UInt8} {n : Nat} (h : readM l = some n) : readT l = .tuple #[.int .i64 (n : Int), .bool true] := by simp [readT, h]
theorem readT_none {l : List UInt8} (h : readM l = Option.none) : readT l = .tuple #[.int .i64 0, .bool false] := by simp [readT, h]
theorem sReadSignal_any (s : ByteArray) (w : World) : Calls Try.prog 35 #[.string s] w fun e w' => e = .returned (readT s.data.toList) ∧ w = w' := by
  go_enter Try.func35, Try.ntmps35
  go_wp2
  go_loop [4] (fun i => ∃ k : Nat, k ≤ 64 ∧ i = .int .i64 k ∧ Hid (∀ j, j < k → sgT j 6 ≠ s.data.toList)) (fun i => 64 - (intOf i).toNat)
  case atStart => exact ⟨0, by omega, rfl, fun j hj => by omega⟩
  case round =>
    obtain ⟨k, hk, rfl, hno⟩ := hrel
    by_cases hlt : k < 64
    · cases hb : (sgT k 6 == s.toList)
      · have HB := Lib.hid (str_ne hb)
        go_wp2_with (go_at_call 122; refine (sgText_any _ (by omega) _).mono ?_; rintro e w' ⟨rfl, rfl⟩)
        go_round
        case rel => exact ⟨k + 1, by omega, by go_num, fun j hj => by
          by_cases e : j = k
          · subst e; exact HB.out
          · exact hno.out j (by omega)⟩
        case measure => simp [intOf]; omega
      · have HB := Lib.hid (str_eq hb)
        go_wp2_with (go_at_call 122; refine (sgText_any _ (by omega) _).mono ?_; rintro e w' ⟨rfl, rfl⟩)
        go_ret2
        refine ⟨ret_val (readT_some ?_).symm, rfl⟩
        rw [← HB.out]; exact readM_sgT k hlt
    · obtain rfl : k = 64 := by omega
      go_wp2
      go_ret2
      refine ⟨ret_val (readT_none ?_).symm, rfl⟩
      cases hr : readM s.data.toList with
      | none => rfl
      | some n => exact absurd (readM_some _ _ hr).2 (hno.out n (readM_some _ _ hr).1)
theorem or_step (v k : Nat) (hv : v < 2 ^ k) (hk : k < 6) : bits .or .i64 (v : Int) (wrap64 (2 ^ k)) = ((v + 2 ^ k : Nat) : Int) := by
  have h : ∀ (k : Fin 6) (v : Fin 64), v.val < 2 ^ k.val → bits .or .i64 (v.val : Int) (wrap64 (2 ^ k.val)) = ((v.val + 2 ^ k.val : Nat) : Int) := by decide +kernel
  exact h ⟨k, hk⟩ ⟨v, Nat.lt_of_lt_of_le hv (by have := Nat.pow_le_pow_right (n := 2) (by omega) (show k ≤ 6 by omega); simpa using this)⟩ hv
theorem readM_len {l : List UInt8} (h : l.length ≠ 6) : readM l = Option.none := by unfold readM; rw [if_neg (fun hc => h hc.1)]
theorem readM_bad (s : ByteArray) (k : Nat) (h : k < s.size) (hc : okC s[k] = false) : readM s.data.toList = Option.none := by
  unfold readM
  rw [if_neg]
  rintro ⟨_, ha⟩
  rw [List.all_eq_true] at ha
  have := ha s[k] (List.getElem_mem (l := s.data.toList) (by simpa using h))
  rw [hc] at this; cases this
theorem u8_eq {c : UInt8} {n : Nat} (h : ((c.toNat : Int) == (n : Int)) = true) : c = UInt8.ofNat n := by
  have : c.toNat = n := by have := eq_of_beq h; omega
  rw [← this, UInt8.ofNat_toNat]
theorem okC_no {c : UInt8} (h1 : ((c.toNat : Int) == 35) = false) (h2 : ((c.toNat : Int) == 46) = false) : okC c = false := by
  unfold okC
  rw [Bool.or_eq_false_iff]
  refine ⟨?_, ?_⟩
  · rw [beq_eq_false_iff_ne]; rintro rfl; exact absurd h1 (by decide)
  · rw [beq_eq_false_iff_ne]; rintro rfl; exact absurd h2 (by decide)
theorem or_take (s : ByteArray) (k : Nat) (h : k < s.size) (h6 : k < 6) (hc : s[k] = 35) : bits .or .i64 (valM (s.data.toList.take k) : Int) (wrap64 (2 ^ k)) = (valM (s.data.toList.take (k + 1)) : Int) := by
  have hl : (s.data.toList.take k).length = k := by simp; omega
  have := valM_lt (s.data.toList.take k)
  rw [hl] at this
  rw [or_step _ _ this h6, take_snoc s k h, valM_snoc, hl, hc]; simp
theorem dot_take (s : ByteArray) (k : Nat) (h : k < s.size) (hc : s[k] = 46) : (valM (s.data.toList.take k) : Int) = (valM (s.data.toList.take (k + 1)) : Int) := by
  rw [take_snoc s k h, valM_snoc, hc]; simp
theorem all_take (s : ByteArray) (k : Nat) (h : k < s.size) (ht : (s.data.toList.take k).all okC = true) (hc : okC s[k] = true) : (s.data.toList.take (k + 1)).all okC = true := by
  rw [take_snoc s k h, List.all_append, ht]; simp [hc]
theorem readM_good (s : ByteArray) (h : s.size = 6) (ht : (s.data.toList.take 6).all okC = true) : readM s.data.toList = some (valM (s.data.toList.take 6)) := by
  rw [List.take_of_length_le (by simp; omega)] at ht ⊢
  unfold readM; rw [if_pos ⟨by simpa using h, ht⟩]
theorem impl_ReadSignal_any (s : ByteArray) (w : World) : Calls Try.prog 28 #[.string s] w fun e w' => e = .returned (readT s.data.toList) ∧ w = w' := by
  by_cases h6 : s.size = 6
  · go_enter Try.func28, Try.ntmps28
    go_wp2
    go_loop [4, 9] (fun v i => ∃ k : Nat, k ≤ 6 ∧ i = .int .i64 k ∧ v = .int .i64 (valM (s.data.toList.take k) : Nat) ∧ Hid ((s.data.toList.take k).all okC = true)) (fun _ i => 6 - (intOf i).toNat)
    case atStart => exact ⟨0, by omega, rfl, rfl, rfl⟩
    case round =>
      obtain ⟨k, hk, rfl, rfl, hok⟩ := hrel
      by_cases hlt : k < 6
      · have hks : k < s.size := by omega
        go_wp2
        · have hc := u8_eq (show ((s[k].toNat : Int) == 35) = true by assumption)
          go_round
          case rel => exact ⟨k + 1, by omega, by go_num, int_val (or_take s k hks hlt hc), all_take s k hks hok.out (by rw [hc]; rfl)⟩
          case measure => simp [intOf]; omega
        · have hc := u8_eq (show ((s[k].toNat : Int) == 46) = true by assumption)
          go_round
          case rel => exact ⟨k + 1, by omega, by go_num, int_val (dot_take s k hks hc), all_take s k hks hok.out (by rw [hc]; rfl)⟩
          case measure => simp [intOf]; omega
        · have hc := okC_no (show ((s[k].toNat : Int) == 35) = false by assumption) (by assumption)
          go_ret2
          exact ⟨ret_val (readT_none (readM_bad s k hks hc)).symm, rfl⟩
      · obtain rfl : k = 6 := by omega
        have HF := Lib.hid (readM_good s h6 hok.out)
        go_wp2
        go_ret2
        exact ⟨ret_val (readT_some HF.out).symm, rfl⟩
  · go_enter Try.func28, Try.ntmps28
    go_wp2
    go_ret2
    exact ⟨ret_val (readT_none (readM_len (by simpa using h6))).symm, rfl⟩
end Go.Proofs.Ytabiobjcfopakaa
/- Contracts of SignalText: the text of a signal. -/
namespace Go.Proofs.Ytabiobjcfopakaa
open Go.RowKit
open Go.WideShapes (add_plain)
/-- Block g is just the cells cs of element type t, with a frozen range. -/
def BlkF (w : World) (g : Nat) (t : TypeId) (cs : List Value) (fr : Nat × Nat) : Prop := w.heap[g]? = some (.cells cs.toArray t fr)
section
variable {w w' : World} {g : Nat} {t : TypeId} {cs : List Value} {fr : Nat × Nat}
theorem BlkF.lt (h : BlkF w g t cs fr) : g < w.heap.size := by
  rcases Nat.lt_or_ge g w.heap.size with hlt | hge
  · exact hlt
  · unfold BlkF at h; rw [Array.getElem?_eq_none hge] at h; cases h
theorem BlkF.cell (h : BlkF w g t cs fr) (i : Nat) : w.cell? ⟨g, i, Option.none⟩ = cs[i]? := by
  have := cell_of_row w g i cs.toArray t fr h
  rw [this]; simp
theorem BlkF.frozen (h : BlkF w g t cs fr) (i : Nat) (hi : i < fr.1) : w.frozen? ⟨g, i, Option.none⟩ = false := by
  unfold BlkF at h
  simp [World.frozen?, h]; omega
theorem BlkF.new (w : World) (t : TypeId) (cs : Array Value) (fr : Nat × Nat) : BlkF (w.alloc (.cells cs t fr)) w.heap.size t cs.toList fr := by
  show (w.heap.push (.cells cs t fr))[w.heap.size]? = _
  simp
theorem BlkF.set_ (h : BlkF w g t cs fr) (i : Nat) (u : Value) : BlkF (w.setCell ⟨g, i, Option.none⟩ u) g t (cs.set i u) fr := by
  unfold BlkF at h ⊢
  simp [World.setCell, Array.getElem?_modify, h]
theorem BlkF.below {B : Nat} (h : BlkF w g t cs fr) (hb : Below B w w') (hg : g < B) : BlkF w' g t cs fr := (hb.block g hg).trans h
end
/-- The six signs of which those of xs are closed. -/
def dots (xs : List Int) : List Value := (List.range 6).map fun i : Nat => Value.int .u8 (if ((i : Nat) : Int) ∈ xs then 35 else 46)
theorem dots_set {xs : List Int} {i : Nat} (hi : i < 6) : (dots xs).set i (.int .u8 35) = dots (xs ++ [(i : Int)]) := by
  have h : i = 0 ∨ i = 1 ∨ i = 2 ∨ i = 3 ∨ i = 4 ∨ i = 5 := by omega
  rcases h with rfl | rfl | rfl | rfl | rfl | rfl <;> simp [dots, List.range_succ]
theorem dots_at (xs : List Int) {i : Nat} (hi : i < 6) : ∃ n, (dots xs)[i]? = some (.int .u8 n) := by
  simp [dots, hi]
theorem mem_shutM (n i : Nat) : ((i : Nat) : Int) ∈ shutM n 6 ↔ i < 6 ∧ bitB n i = true := by
  unfold shutM
  simp only [List.mem_map, List.mem_filter, List.mem_range]
  constructor
  · rintro ⟨a, h, e⟩
    have : a = i := by omega
    subst this; exact h
  · intro h; exact ⟨i, h, rfl⟩
theorem dots_sgT (n : Nat) : dots (shutM n 6) = (sgT n 6).map fun b : UInt8 => Value.int .u8 ((b.toNat : Nat) : Int) := by
  unfold dots sgT
  rw [List.map_map]
  apply List.map_congr_left
  intro i hi
  rw [List.mem_range] at hi
  simp only [mem_shutM, hi, true_and, Function.comp]
  cases bitB n i <;> rfl
theorem shutM_mem {n : Nat} {y : Int} {k : Nat} (h : (shutM n 6)[k]? = some y) : ∃ i : Nat, y = (i : Int) ∧ i < 6 := by
  have := List.mem_of_getElem? h
  unfold shutM at this
  simp only [List.mem_map, List.mem_filter, List.mem_range] at this
  obtain ⟨a, h1, h2⟩ := this
  exact ⟨a, h2.symm, h1.1⟩
def sigTT (n : Int) : Value := if inB n 0 63 then .tuple #[.string ⟨(sgT n.toNat 6).toArray⟩, .bool true] else .tuple #[.string ⟨#[]⟩, .bool false]
theorem dots_nil : dots [] = [.int .u8 46, .int .u8 46, .int .u8 46, .int .u8 46, .int .u8 46, .int .u8 46] := rfl
set_option maxHeartbeats 800000 in
theorem SignalText_any (n : Int) (w : World) : Calls Try.prog 17 #[.int .i64 n] w fun e w' => e = .returned (sigTT n) ∧ Below w.heap.size w w' := by
  cases ha : inB n 0 63
  · go_enter Try.func17, Try.ntmps17
    go_wp2_with (go_at_call 119; refine (isSignal_any _ _).mono ?_; rintro e w' ⟨rfl, rfl⟩)
    go_ret2
    exact ⟨ret_val (by simp [sigTT, ha]), Below.refl _ _⟩
  · obtain ⟨h0, h1⟩ := inB_iff.1 ha
    obtain ⟨n, rfl⟩ := Int.eq_ofNat_of_zero_le h0
    have kc := fun (w : World) (C : Array Value) (n c : Nat) => Lib.run_convert_bytes_const (P := Try.prog) w 22 5 C n c Try.underlying22 Try.underlying5
    go_enter Try.func17, Try.ntmps17
    go_wp2_with (first | (go_at_call 119; refine (isSignal_any _ _).mono ?_; rintro e w' ⟨rfl, rfl⟩) | fail)
    refine (closedOf_any _ (by omega) _).mono ?_
    rintro e w1 ⟨v, rfl, hv, hb1⟩
    clear kc
    have hbl : BlkF w1 w.heap.size 5 (dots []) (6, 7) := by
      refine BlkF.below (BlkF.new w 5 #[.int .u8 46, .int .u8 46, .int .u8 46, .int .u8 46, .int .u8 46, .int .u8 46] (6, 7)) hb1 (by simp)
    have hb : Below w.heap.size w w1 := ((Below.refl _ _).alloc (Nat.le_refl _) _).trans (hb1.mono (by simp))
    have hv' : OwI w1 (w.heap.size + 1) w1.heap.size v (shutM n 6) := by simpa using hv
    have HV := Lib.hid hv'
    obtain ⟨A, c, rfl, hc⟩ := hv.form
    have hlen := shutM_len n 6
    have hgl := hbl.lt
    clear hb1 hv' hv
    go_wp2
    go_loopw [15] (fun i wr => ∃ k : Nat, k ≤ (shutM n 6).length ∧ i = .int .i64 k ∧ BlkF wr w.heap.size 5 (dots ((shutM n 6).take k)) (6, 7) ∧ Keep w.heap.size (w.heap.size + 1) w1 wr) (fun i _ => (shutM n 6).length - (intOf i).toNat)
    case atStart => exact ⟨0, Nat.zero_le _, rfl, hbl, Keep.refl _ _ _⟩
    case round =>
      obtain ⟨k, hk, rfl, hbk, hkp⟩ := hrel
      by_cases hlt : k < (shutM n 6).length
      · obtain ⟨b1, o1, c1, y, hv, _, hy, hcell1⟩ := Rd.at_ (HV.out.keep hkp (.inr (Nat.le_refl _))).rd hlt
        cases hv
        obtain ⟨j, rfl, hj⟩ := shutM_mem hy
        obtain ⟨q, hq⟩ := dots_at ((shutM n 6).take k) hj
        have hcell2 := hbk.cell j
        rw [hq] at hcell2
        have hfr := hbk.frozen j hj
        have HY := Lib.hid hy
        clear hy hq
        go_wp2
        go_roundw
        case rel => exact ⟨k + 1, by omega, by go_num, by rw [take_snocI HY.out, ← dots_set hj]; exact hbk.set_ _ _, hkp.setCell (p := ⟨w.heap.size, j, Option.none⟩) (Nat.le_refl _) (by simp) _⟩
        case measure => simp [intOf]; omega
      · obtain rfl : k = (shutM n 6).length := by omega
        rw [List.take_of_length_le (Nat.le_refl _), dots_sgT] at hbk
        have hconv := run_convert_bytes_back (P := Try.prog) wr 22 9 5 ⟨w.heap.size, 0, Option.none⟩ 6 (sgT n 6) Try.underlying22 Try.underlying5 Try.underlying9 (fun j hj => by
          have := hbk.cell j
          rw [add_plain, Nat.zero_add, this]
          simp [hj])
        rw [sgT_len] at hconv
        go_wp2
        go_ret2
        exact ⟨ret_val (by simp [sigTT, ha]), hb.trans hkp.bel⟩
theorem sSignalText_any (n : Int) (w : World) : Calls Try.prog 18 #[.int .i64 n] w fun e w' => e = .returned (sigTT n) ∧ w = w' := by
  cases ha : inB n 0 63
  · go_enter Try.func18, Try.ntmps18
    go_wp2_with (go_at_call 121; refine (sgGood_any _ _).mono ?_; rintro e w' ⟨rfl, rfl⟩)
    go_ret2
    exact ⟨ret_val (by simp [sigTT, ha]), rfl⟩
  · obtain ⟨h0, h1⟩ := inB_iff.1 ha
    obtain ⟨n, rfl⟩ := Int.eq_ofNat_of_zero_le h0
    go_enter Try.func18, Try.ntmps18
    go_wp2_with (first | (go_at_call 121; refine (sgGood_any _ _).mono ?_; rintro e w' ⟨rfl, rfl⟩) | (go_at_call 122; refine (sgText_any _ (by omega) _).mono ?_; rintro e w' ⟨rfl, rfl⟩))
    go_ret2
    exact ⟨ret_val (by simp [sigTT, ha]), rfl⟩
end Go.Proofs.Ytabiobjcfopakaa
