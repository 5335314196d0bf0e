/- Plain laws on reading words: the first word that begins digits is the only one; the words read one after the other. -/
import Derived.Test.YtabiobjcfopakaaC2
import Derived.Test.YtabiobjcfopakaaE2
namespace Go.Proofs.Ytabiobjcfopakaa
open Go.RowKit
/-- The first word that begins digits. -/
def ixC (code : List (List Int)) (ds : List Int) : Option Nat := code.findIdx? fun x => begB x ds
def readF (code : List (List Int)) : Nat → List Int → Option (List Int)
  | _, [] => some []
  | 0, _ :: _ => Option.none
  | n + 1, d :: ds => match ixC code (d :: ds) with
    | Option.none => Option.none
    | some i => (readF code n ((d :: ds).drop (code.getD i []).length)).map fun r => (i : Int) :: r
def readW (code : List (List Int)) (ds : List Int) : Option (List Int) := readF code ds.length ds
theorem readW_nil (code : List (List Int)) : readW code [] = some [] := rfl
theorem code_pos {code : List (List Int)} (h : codeB code = true) {x : List Int} (hx : x ∈ code) : 1 ≤ x.length ∧ x.length ≤ 6 := by
  unfold codeB at h
  simp only [Bool.and_eq_true, List.all_eq_true] at h
  have := h.2.1 x hx
  unfold wordOk at this
  rw [Bool.and_eq_true, inB_iff] at this
  omega
theorem code_len {code : List (List Int)} (h : codeB code = true) : 1 ≤ code.length ∧ code.length ≤ 20 := by
  unfold codeB at h
  rw [Bool.and_eq_true, inB_iff] at h
  omega
theorem code_one {code : List (List Int)} (h : codeB code = true) {i k : Nat} {x y ds : List Int} (hx : code[i]? = some x) (hy : code[k]? = some y) (bx : begB x ds = true) (bY : begB y ds = true) : i = k := by
  by_cases e : i = k
  · exact e
  · unfold codeB at h
    simp only [Bool.and_eq_true] at h
    have hn := noClash_iff.1 h.2.2
    rw [begB_iff] at bx bY
    rcases List.prefix_or_prefix_of_prefix bx bY with h1 | h1
    · have := hn i k x y e hx hy
      rw [begB_iff.2 h1] at this; cases this
    · have := hn k i y x (fun e2 => e e2.symm) hy hx
      rw [begB_iff.2 h1] at this; cases this
theorem ixC_some {code : List (List Int)} {ds : List Int} {i : Nat} (h : ixC code ds = some i) : ∃ x, code[i]? = some x ∧ begB x ds = true ∧ i < code.length := by
  unfold ixC at h
  rw [List.findIdx?_eq_some_iff_getElem] at h
  obtain ⟨hl, h1, _⟩ := h
  exact ⟨code[i], List.getElem?_eq_getElem hl, h1, hl⟩
theorem readF_enough {code : List (List Int)} (h : codeB code = true) : ∀ (n : Nat) (ds : List Int), ds.length ≤ n → readF code n ds = readF code ds.length ds
  | _, [], _ => by cases ‹Nat› <;> rfl
  | 0, d :: ds, hl => by simp at hl
  | n + 1, d :: ds, hl => by
    simp only [List.length_cons, readF]
    cases e : ixC code (d :: ds) with
    | none => rfl
    | some i =>
      obtain ⟨x, hx, hb, _⟩ := ixC_some e
      have hp := code_pos h (List.mem_of_getElem? hx)
      have hg : code.getD i [] = x := by rw [List.getD_eq_getElem?_getD, hx]; rfl
      have hlen : ((d :: ds).drop x.length).length ≤ ds.length := by rw [List.length_drop, List.length_cons]; omega
      simp only [hg]
      rw [readF_enough h n _ (by simp only [List.length_cons] at hl; omega), readF_enough h ds.length _ hlen]
theorem readW_step {code : List (List Int)} (h : codeB code = true) {ds x : List Int} {i : Nat} (he : ixC code ds = some i) (hx : code[i]? = some x) (hd : 0 < ds.length) : readW code ds = (readW code (ds.drop x.length)).map fun r => (i : Int) :: r := by
  cases ds with
  | nil => simp at hd
  | cons d ds =>
    have hp := code_pos h (List.mem_of_getElem? hx)
    have hg : code.getD i [] = x := by rw [List.getD_eq_getElem?_getD, hx]; rfl
    unfold readW
    simp only [List.length_cons, readF, he, hg]
    rw [readF_enough h ds.length _ (by rw [List.length_drop, List.length_cons]; omega)]
theorem readW_none {code : List (List Int)} {ds : List Int} (he : ixC code ds = Option.none) (hd : 0 < ds.length) : readW code ds = Option.none := by
  cases ds with
  | nil => simp at hd
  | cons d ds => unfold readW; simp only [List.length_cons, readF, he]
/-- What is read so far, and what is left. -/
def ReadTo (code : List (List Int)) (ds L rest : List Int) : Prop := readW code ds = (readW code rest).map fun r => L ++ r
theorem ReadTo.start (code : List (List Int)) (ds : List Int) : ReadTo code ds [] ds := by unfold ReadTo; cases readW code ds <;> simp
theorem ReadTo.next {code : List (List Int)} (h : codeB code = true) {ds L rest x : List Int} {i : Nat} (hr : ReadTo code ds L rest) (he : ixC code rest = some i) (hx : code[i]? = some x) (hd : 0 < rest.length) : ReadTo code ds (L ++ [(i : Int)]) (rest.drop x.length) := by
  unfold ReadTo at *
  rw [hr, readW_step h he hx hd]
  cases readW code (rest.drop x.length) <;> simp
def digB (ds : List Int) : Bool := decide (ds.length ≤ 180) && allB ds 0 59
def readRes (code : List (List Int)) (ds : List Int) : List Int × Bool :=
  if codeB code && digB ds then match readW code ds with
    | some L => (L, true)
    | Option.none => ([], false)
  else ([], false)
theorem readRes_bad {code : List (List Int)} {ds : List Int} (h : (codeB code && digB ds) = false) : readRes code ds = ([], false) := by unfold readRes; rw [h]; rfl
theorem ReadTo.done {code : List (List Int)} {ds L : List Int} (hc : (codeB code && digB ds) = true) (h : ReadTo code ds L []) : readRes code ds = (L, true) := by
  unfold ReadTo at h
  rw [readW_nil] at h
  unfold readRes
  rw [hc, h]; simp
theorem ReadTo.stuck {code : List (List Int)} {ds L rest : List Int} (hc : (codeB code && digB ds) = true) (h : ReadTo code ds L rest) (he : ixC code rest = Option.none) (hd : 0 < rest.length) : readRes code ds = ([], false) := by
  unfold ReadTo at h
  rw [readW_none he hd] at h
  unfold readRes
  rw [hc, h]; rfl
theorem readF_len {code : List (List Int)} (h : codeB code = true) : ∀ (n : Nat) (ds L : List Int), readF code n ds = some L → L.length ≤ ds.length
  | n, [], L, e => by cases n <;> (simp only [readF, Option.some.injEq] at e; subst e; simp)
  | 0, d :: ds, L, e => by simp [readF] at e
  | n + 1, d :: ds, L, e => by
    simp only [readF] at e
    cases e1 : ixC code (d :: ds) with
    | none => rw [e1] at e; cases e
    | some i =>
      rw [e1] at e
      obtain ⟨x, hx, hb, _⟩ := ixC_some e1
      have hp := code_pos h (List.mem_of_getElem? hx)
      have hg : code.getD i [] = x := by rw [List.getD_eq_getElem?_getD, hx]; rfl
      simp only [hg, Option.map_eq_some_iff] at e
      obtain ⟨r, h1, rfl⟩ := e
      have := readF_len h n _ _ h1
      rw [List.length_drop] at this
      simp only [List.length_cons] at this ⊢
      omega
theorem readRes_len (code : List (List Int)) (ds : List Int) : (readRes code ds).1.length ≤ 180 := by
  unfold readRes
  split
  · rename_i hc
    rw [Bool.and_eq_true] at hc
    have hd : ds.length ≤ 180 := by have := hc.2; unfold digB at this; rw [Bool.and_eq_true, decide_eq_true_eq] at this; exact this.1
    split
    · rename_i L e
      have := readF_len hc.1 _ _ _ e
      show L.length ≤ 180
      omega
    · simp
  · simp
/-- Of the first k words the one that begins digits. -/
def ixUp (code : List (List Int)) (ds : List Int) (k : Nat) : Option Nat := ixC (code.take k) ds
theorem ixUp_full (code : List (List Int)) (ds : List Int) : ixUp code ds code.length = ixC code ds := by unfold ixUp; rw [List.take_length]
theorem ixUp_no {code : List (List Int)} {ds x : List Int} {k : Nat} (hx : code[k]? = some x) (hb : begB x ds = false) : ixUp code ds (k + 1) = ixUp code ds k := by
  unfold ixUp ixC
  rw [take_snocN hx, List.findIdx?_append]
  simp [hb, List.findIdx?_cons]
theorem ixUp_yes {code : List (List Int)} (h : codeB code = true) {ds x : List Int} {k : Nat} (hx : code[k]? = some x) (hb : begB x ds = true) : ixUp code ds (k + 1) = some k := by
  have hk := (List.getElem?_eq_some_iff.1 hx).1
  have hn : (code.take k).findIdx? (fun x => begB x ds) = Option.none := by
    rw [List.findIdx?_eq_none_iff]
    intro y hy
    obtain ⟨j, hj⟩ := List.getElem?_of_mem hy
    rw [List.getElem?_take] at hj
    split at hj
    · rename_i hlt
      cases e : begB y ds
      · rfl
      · have := code_one h hj hx e hb; omega
    · cases hj
  unfold ixUp ixC
  rw [take_snocN hx, List.findIdx?_append, hn]
  simp [hb, List.findIdx?_cons, List.length_take]
  omega
def lenV : Value → Nat
  | .slice _ n _ => n
  | _ => 0
theorem RdI.dropAll {w : World} {hi n c : Nat} {b off : Nat} {xs : List Int} (h : RdI w hi (.slice (some ⟨b, off, Option.none⟩) n c) xs) (hn : n = xs.length) (hc : n ≤ c) {k : Nat} (hk : k ≤ n) :
    RdI w hi (.slice (some ⟨b, off + k, Option.none⟩) (n - k) (c - k)) (xs.drop k) ∧ (k = n → RdI w hi (.slice (some ⟨b, off, Option.none⟩) (n - k) (c - k)) (xs.drop k)) := by
  have hm : c ≤ maxLen := by
    obtain ⟨_, _, _, hv, _, h2, _⟩ := h; cases hv; exact h2
  subst hn
  constructor
  · rcases Nat.lt_or_ge k xs.length with hlt | hge
    · exact RdI.drop h hlt
    · have : xs.drop k = [] := List.drop_eq_nil_of_le hge
      rw [this]
      exact ⟨rfl, some ⟨b, off + k, Option.none⟩, c - k, by rw [show xs.length - k = 0 by omega]; rfl, Nat.zero_le _, by omega, fun h => absurd h (by simp)⟩
  · rintro rfl
    have : xs.drop xs.length = [] := by simp
    rw [this]
    exact ⟨rfl, some ⟨b, off, Option.none⟩, c - xs.length, by rw [Nat.sub_self]; rfl, Nat.zero_le _, by omega, fun h => absurd h (by simp)⟩
end Go.Proofs.Ytabiobjcfopakaa
