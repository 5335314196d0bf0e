/- Plain laws on good books: no two phrases have one text, nor the same signals; phrases that fit at one place have lengths of their own. Slices cut off at their head. -/
import Derived.Test.YtabiobjcfopakaaE1
import Derived.Test.YtabiobjcfopakaaD8
namespace Go.Proofs.Ytabiobjcfopakaa
open Go.RowKit
theorem less_irrefl : ∀ a : List UInt8, Op.bytesLess a a = false
  | [] => by simp [Op.bytesLess]
  | x :: a => by simp [Op.bytesLess, less_irrefl a]
theorem less_trans : ∀ {a b c : List UInt8}, Op.bytesLess a b = true → Op.bytesLess b c = true → Op.bytesLess a c = true
  | a, [], c, h, _ => by cases a <;> simp [Op.bytesLess] at h
  | a, b :: bs, [], _, h => by simp [Op.bytesLess] at h
  | [], b :: bs, c :: cs, _, _ => by simp [Op.bytesLess]
  | a :: l, b :: bs, c :: cs, h, g => by
    simp only [Op.bytesLess, Bool.or_eq_true, Bool.and_eq_true, decide_eq_true_eq, beq_iff_eq] at h g ⊢
    rcases h with h | ⟨rfl, h⟩
    · rcases g with g | ⟨rfl, g⟩
      · exact .inl (UInt8.lt_trans h g)
      · exact .inl h
    · rcases g with g | ⟨rfl, g⟩
      · exact .inl g
      · exact .inr ⟨rfl, less_trans h g⟩
theorem bookB_at {ps : List Phr} (h : bookB ps = true) {j : Nat} (hj : j < ps.length) : goodAt ps j = true := by
  unfold bookB goodB at h
  rw [Bool.and_eq_true, List.all_eq_true] at h
  exact h.2 j (List.mem_range.2 hj)
theorem book_sig {ps : List Phr} (h : bookB ps = true) {j : Nat} {p : Phr} (hp : ps[j]? = some p) : sigIx ps p.2 = some j := by
  have hj := (List.getElem?_eq_some_iff.1 hp).1
  have := bookB_at h hj
  unfold goodAt at this
  rw [hp] at this
  simp only [Bool.and_eq_true, beq_iff_eq] at this
  exact this.2.2
theorem book_lt {ps : List Phr} (h : bookB ps = true) {j : Nat} {p q : Phr} (hp : ps[j]? = some p) (hq : ps[j + 1]? = some q) : ltT p.1 q.1 = true := by
  have hj := (List.getElem?_eq_some_iff.1 hq).1
  have := bookB_at h hj
  unfold goodAt at this
  rw [hq] at this
  simp only [hp, Bool.and_eq_true] at this
  exact this.2.1
theorem book_mono {ps : List Phr} (h : bookB ps = true) {i : Nat} {p : Phr} (hp : ps[i]? = some p) : ∀ (d : Nat) {q : Phr}, ps[i + 1 + d]? = some q → ltT p.1 q.1 = true
  | 0, q, hq => book_lt h hp hq
  | d + 1, q, hq => by
    have hl := (List.getElem?_eq_some_iff.1 hq).1
    have hr : ps[i + 1 + d]? = some ps[i + 1 + d] := List.getElem?_eq_getElem (by omega)
    have h1 := book_mono h hp d hr
    have h2 := book_lt h hr (by rw [show i + 1 + d + 1 = i + 1 + (d + 1) by omega]; exact hq)
    exact less_trans h1 h2
theorem book_txt {ps : List Phr} (h : bookB ps = true) {i j : Nat} {p q : Phr} (hp : ps[i]? = some p) (hq : ps[j]? = some q) (hij : i < j) : p.1 ≠ q.1 := by
  have := book_mono h hp (j - i - 1) (by rw [show i + 1 + (j - i - 1) = j by omega]; exact hq)
  intro e
  unfold ltT at this
  rw [e, less_irrefl] at this
  cases this
theorem book_sigs {ps : List Phr} (h : bookB ps = true) {i j : Nat} {p q : Phr} (hp : ps[i]? = some p) (hq : ps[j]? = some q) (hij : i < j) : p.2 ≠ q.2 := by
  intro e
  have h1 := book_sig h hp
  have h2 := book_sig h hq
  rw [e, h2] at h1
  injection h1 with h1
  omega
theorem phrOk_txt {p : Phr} (h : phrOk p = true) : 1 ≤ p.1.size ∧ p.1.size ≤ 12 ∧ smallB p.1.data.toList = true := by
  unfold phrOk phraseB at h
  simp only [Bool.and_eq_true, decide_eq_true_eq] at h
  obtain ⟨⟨⟨h1, h2⟩, h3⟩, _⟩ := h
  exact ⟨by simpa using h1, by simpa using h2, h3⟩
theorem phrOk_sig {p : Phr} (h : phrOk p = true) : 1 ≤ p.2.length ∧ p.2.length ≤ 3 ∧ allB p.2 1 60 = true := by
  unfold phrOk sigOk at h
  simp only [Bool.and_eq_true, inB_iff] at h
  obtain ⟨_, h1, h2⟩ := h
  exact ⟨by omega, by omega, h2⟩
/-- Does a phrase's signals lie at a place? -/
def fitS (sig : List Int) (m : Nat) (p : Phr) : Bool := begB p.2 (sig.drop m)
/-- Does a phrase's text lie at a place? -/
def fitT (s : ByteArray) (m : Nat) (p : Phr) : Bool := Lib.hasPrefix (s.extract m s.size).data.toList p.1.data.toList
theorem fitT_eq {s : ByteArray} {m : Nat} {p : Phr} : fitT s m p = true ↔ p.1.data.toList <+: s.data.toList.drop m := by
  unfold fitT Lib.hasPrefix
  rw [List.isPrefixOf_iff_prefix]
  have : (s.extract m s.size).data.toList = s.data.toList.drop m := by
    simp [List.take_of_length_le]
  rw [this]
theorem apart_sig {ps : List Phr} (h : bookB ps = true) (sig : List Int) (m : Nat) : Apart (fitS sig m) (fun p => p.2.length) (sig.length - m) ps := by
  refine ⟨?_, fun p hp hf => ?_⟩
  · rw [List.pairwise_iff_getElem]
    intro i j hi hj hij f1 f2 e
    unfold fitS at f1 f2
    rw [begB_iff, List.prefix_iff_eq_take] at f1 f2
    refine book_sigs h (List.getElem?_eq_getElem hi) (List.getElem?_eq_getElem hj) hij ?_
    have e' : ps[i].2.length = ps[j].2.length := e
    rw [f1, f2, e']
  · have h1 := phrOk_sig (bookB_phr h hp)
    unfold fitS at hf
    rw [begB_iff] at hf
    have := hf.length_le
    rw [List.length_drop] at this
    exact ⟨h1.1, this⟩
theorem apart_txt {ps : List Phr} (h : bookB ps = true) (s : ByteArray) (m : Nat) : Apart (fitT s m) (fun p => p.1.size) (s.size - m) ps := by
  refine ⟨?_, fun p hp hf => ?_⟩
  · rw [List.pairwise_iff_getElem]
    intro i j hi hj hij f1 f2 e
    rw [fitT_eq, List.prefix_iff_eq_take] at f1 f2
    refine book_txt h (List.getElem?_eq_getElem hi) (List.getElem?_eq_getElem hj) hij ?_
    have e' : ps[i].1.size = ps[j].1.size := e
    have e2 : ps[i].1.data.toList.length = ps[j].1.data.toList.length := by simpa using e'
    have : ps[i].1.data.toList = ps[j].1.data.toList := by rw [f1, f2, e2]
    exact ByteArray.ext (Array.toList_inj.1 this)
  · have h1 := phrOk_txt (bookB_phr h hp)
    rw [fitT_eq] at hf
    have := hf.length_le
    rw [List.length_drop] at this
    exact ⟨h1.1, by simpa using this⟩
/-- The table's cells: m places still empty, then the table. -/
def tblZ (m : Nat) (tb : List Nat) : List Value := List.replicate m (Value.int .i64 0) ++ nats tb
theorem tblZ_down {m : Nat} {tb : List Nat} : tblZ (m + 1) tb = tblC m 0 tb := by
  unfold tblZ tblC
  rw [List.replicate_succ']; simp
theorem tblC_Z {m a : Nat} {tb : List Nat} : tblC m a tb = tblZ m (a :: tb) := rfl
theorem tblZ_start (n : Nat) : ((zeros (n + 1)).setIfInBounds n (.int .i64 1)).toList = tblZ n [1] := by
  unfold tblZ zeros
  rw [Array.toList_setIfInBounds, List.replicate_succ']
  rw [List.set_append_right _ _ (by simp)]
  simp
theorem RdI.drop {w : World} {hi c : Nat} {b off : Nat} {xs : List Int} (h : RdI w hi (.slice (some ⟨b, off, Option.none⟩) xs.length c) xs) {k : Nat} (hk : k < xs.length) :
    RdI w hi (.slice (some ⟨b, off + k, Option.none⟩) (xs.length - k) (c - k)) (xs.drop k) := by
  obtain ⟨h0, A', c', hv, h1, h2, h3⟩ := h
  cases hv
  obtain ⟨b', off', hA, hb, hc⟩ := h3 (by omega)
  cases hA
  refine ⟨by simp, some ⟨b, off + k, Option.none⟩, c - k, by rw [List.length_drop], by rw [List.length_drop]; omega, by omega, fun _ => ⟨b, off + k, rfl, hb, fun j u hu => ?_⟩⟩
  have := hc (k + j) u (by
    rw [ints, List.getElem?_map, List.getElem?_drop] at hu
    rw [ints, List.getElem?_map]; exact hu)
  rwa [← Nat.add_assoc] at this
theorem wrap_in {x : Int} (h : -9223372036854775808 ≤ x ∧ x ≤ 9223372036854775807) : IntKind.i64.wrap x = x := IntWalk.i64_in _ h
end Go.Proofs.Ytabiobjcfopakaa
