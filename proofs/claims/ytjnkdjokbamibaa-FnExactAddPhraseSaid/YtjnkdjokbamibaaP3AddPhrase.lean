/- Texts of one claim, joined: H1, C2, E8, H2, R13, R14, R15, R17, R18, T1, T3, T4, W2, W3, W5. -/
import Derived.BigRegion
import Derived.Deep.Onto
import Derived.Deep.RegionLaw
import Derived.Deep.DeepCutAuto
import Derived.Deep.CutBlock
import Derived.Test.YtjnkdjokbamibaaP2AddPhrase
/- Plain laws: the rests that stick out where two lists of phrases have the same signals so far. -/
namespace Go.Proofs.Ytjnkdjokbamibaa
open Go.RowKit
/-- A rest is put to the others, once. -/
def putR (L : List (List Int)) (r : List Int) : List (List Int) := if r ∈ L then L else L ++ [r]
theorem putR_pre {L : List (List Int)} {r : List Int} : L <+: putR L r := by
  unfold putR; split
  · exact List.prefix_refl _
  · exact List.prefix_append _ _
theorem putR_nodup {L : List (List Int)} {r : List Int} (h : L.Nodup) : (putR L r).Nodup := by
  unfold putR; split
  · exact h
  · rename_i hn
    rw [List.nodup_append]
    refine ⟨h, by simp, fun a ha b hb => ?_⟩
    rw [List.mem_singleton] at hb
    rintro rfl
    exact hn (hb ▸ ha)
/-- One pair of phrases. -/
def seed1 (ps : List Phr) (i : Nat) (x : Phr) (L : List (List Int)) (k : Nat) : List (List Int) := match ps[k]? with
  | some y => if i ≠ k ∧ begB x.2 y.2 = true then putR L (y.2.drop x.2.length) else L
  | Option.none => L
/-- One phrase with the first j others, the first i phrases with all others. -/
def seedK (ps : List Phr) (i : Nat) (x : Phr) (L : List (List Int)) (j : Nat) : List (List Int) := (List.range j).foldl (seed1 ps i x) L
def seedI (ps : List Phr) : Nat → List (List Int)
  | 0 => []
  | i + 1 => match ps[i]? with
    | some x => seedK ps i x (seedI ps i) ps.length
    | Option.none => seedI ps i
def seedR (ps : List Phr) : List (List Int) := seedI ps ps.length
theorem seedK_succ {ps : List Phr} {i j : Nat} {x : Phr} {L : List (List Int)} : seedK ps i x L (j + 1) = seed1 ps i x (seedK ps i x L j) j := by
  unfold seedK; rw [List.range_succ, List.foldl_append]; rfl
/-- One phrase behind, or ahead of, a rest. -/
def turn1 (x : List Int) (L : List (List Int)) (y : Phr) : List (List Int) :=
  let L1 := if begB x y.2 then putR L (y.2.drop x.length) else L
  if begB y.2 x then putR L1 (x.drop y.2.length) else L1
def turnR (ps : List Phr) (x : List Int) (L : List (List Int)) (j : Nat) : List (List Int) := (ps.take j).foldl (turn1 x) L
/-- From the n-th rest on, until nothing new is left. -/
def runR (ps : List Phr) : Nat → Nat → List (List Int) → List (List Int)
  | 0, _, L => L
  | f + 1, n, L => match L[n]? with
    | Option.none => L
    | some x => runR ps f (n + 1) (turnR ps x L ps.length)
/-- All rests. -/
def restsR (ps : List Phr) : List (List Int) := runR ps 200 0 (seedR ps)
theorem runR_on {ps : List Phr} {f n : Nat} {L : List (List Int)} {x : List Int} (h : L[n]? = some x) : runR ps (f + 1) n L = runR ps f (n + 1) (turnR ps x L ps.length) := by rw [runR, h]
theorem turn1_pre {x : List Int} {L : List (List Int)} {y : Phr} : L <+: turn1 x L y := by
  unfold turn1
  dsimp only
  split <;> split
  · exact putR_pre.trans putR_pre
  · exact putR_pre
  · exact putR_pre
  · exact List.prefix_refl _
theorem turn_pre {x : List Int} : ∀ (qs : List Phr) (L : List (List Int)), L <+: qs.foldl (turn1 x) L
  | [], L => List.prefix_refl _
  | q :: qs, L => by rw [List.foldl_cons]; exact turn1_pre.trans (turn_pre qs _)
theorem turnR_pre {ps : List Phr} {x : List Int} {L : List (List Int)} {j : Nat} : L <+: turnR ps x L j := turn_pre _ _
theorem turnR_mono {ps : List Phr} {x : List Int} {L : List (List Int)} {j k : Nat} (h : j ≤ k) : turnR ps x L j <+: turnR ps x L k := by
  unfold turnR
  have : ps.take k = ps.take j ++ (ps.take k).drop j := by
    have e := List.take_append_drop j (ps.take k)
    rw [List.take_take, Nat.min_eq_left h] at e
    exact e.symm
  rw [this, List.foldl_append]
  exact turn_pre _ _
theorem runR_pre {ps : List Phr} : ∀ (f n : Nat) (L : List (List Int)), L <+: runR ps f n L
  | 0, _, L => List.prefix_refl _
  | f + 1, n, L => by
    rw [runR]
    split
    · exact List.prefix_refl _
    · exact turnR_pre.trans (runR_pre f _ _)
/-- The ends of the signals of phrases. -/
def endsP (p : Phr) : List (List Int) := (List.range (p.2.length + 1)).map fun k => p.2.drop k
def endsB (ps : List Phr) : List (List Int) := ps.flatMap endsP
theorem ends_drop {ps : List Phr} {p : Phr} (h : p ∈ ps) {k : Nat} (hk : k ≤ p.2.length) : p.2.drop k ∈ endsB ps := by
  unfold endsB endsP
  rw [List.mem_flatMap]
  exact ⟨p, h, List.mem_map.2 ⟨k, List.mem_range.2 (by omega), rfl⟩⟩
theorem ends_again {ps : List Phr} {r : List Int} (h : r ∈ endsB ps) {k : Nat} (hk : k ≤ r.length) : r.drop k ∈ endsB ps := by
  unfold endsB endsP at h
  rw [List.mem_flatMap] at h
  obtain ⟨p, hp, h⟩ := h
  rw [List.mem_map] at h
  obtain ⟨j, hj, rfl⟩ := h
  rw [List.mem_range] at hj
  rw [List.drop_drop]
  rw [List.length_drop] at hk
  exact ends_drop hp (by omega)
theorem ends_len {ps : List Phr} (h : bookB ps = true) : (endsB ps).length ≤ 160 := by
  have h1 := bookB_len h
  have h2 : ∀ p ∈ ps, p.2.length ≤ 3 := fun p hp => (phrOk_sig (bookB_phr h hp)).2.1
  have h3 : (endsB ps).length ≤ 4 * ps.length := by
    unfold endsB
    clear h h1
    induction ps with
    | nil => simp
    | cons p l ih =>
      have := ih (fun q hq => h2 q (List.mem_cons_of_mem _ hq))
      have h4 := h2 p (by simp)
      rw [List.flatMap_cons, List.length_append, List.length_cons]
      unfold endsP at this ⊢
      rw [List.length_map, List.length_range]
      omega
  omega
theorem nodup_len {α : Type} [DecidableEq α] : ∀ (L E : List α), L.Nodup → (∀ x ∈ L, x ∈ E) → L.length ≤ E.length
  | [], E, _, _ => by simp
  | a :: L, E, h, hs => by
    rw [List.nodup_cons] at h
    have ha := hs a (by simp)
    have h1 := nodup_len L (E.erase a) h.2 (fun x hx => by
      have hne : x ≠ a := by rintro rfl; exact h.1 hx
      exact (List.mem_erase_of_ne hne).2 (hs x (List.mem_cons_of_mem _ hx)))
    have h2 := List.length_erase_of_mem ha
    have h3 : 0 < E.length := List.length_pos_of_mem ha
    rw [List.length_cons]
    omega
/-- A list of rests: none twice, all of them ends of phrases. -/
structure RestOk (ps : List Phr) (L : List (List Int)) : Prop where
  nodup : L.Nodup
  ends : ∀ r ∈ L, r ∈ endsB ps
theorem RestOk.nil (ps : List Phr) : RestOk ps [] := ⟨List.nodup_nil, fun r h => by cases h⟩
theorem RestOk.put {ps : List Phr} {L : List (List Int)} {r : List Int} (h : RestOk ps L) (hr : r ∈ endsB ps) : RestOk ps (putR L r) := by
  refine ⟨putR_nodup h.nodup, fun x hx => ?_⟩
  unfold putR at hx
  split at hx
  · exact h.ends x hx
  · rw [List.mem_append, List.mem_singleton] at hx
    rcases hx with hx | rfl
    · exact h.ends x hx
    · exact hr
theorem RestOk.len {ps : List Phr} {L : List (List Int)} (h : RestOk ps L) (hb : bookB ps = true) : L.length ≤ 160 := Nat.le_trans (nodup_len L _ h.nodup h.ends) (ends_len hb)
theorem begB_le {xs ys : List Int} (h : begB xs ys = true) : xs.length ≤ ys.length := by rw [begB_iff] at h; exact h.length_le
theorem RestOk.seed1 {ps : List Phr} {L : List (List Int)} (h : RestOk ps L) (i : Nat) (x : Phr) (k : Nat) : RestOk ps (seed1 ps i x L k) := by
  unfold Go.Proofs.Ytjnkdjokbamibaa.seed1
  split
  · rename_i y hy
    split
    · rename_i hc
      exact h.put (ends_drop (List.mem_of_getElem? hy) (begB_le hc.2))
    · exact h
  · exact h
theorem RestOk.seedK {ps : List Phr} {L : List (List Int)} (h : RestOk ps L) (i : Nat) (x : Phr) : ∀ j, RestOk ps (seedK ps i x L j)
  | 0 => h
  | j + 1 => by rw [seedK_succ]; exact (RestOk.seedK h i x j).seed1 i x j
theorem RestOk.seedI (ps : List Phr) : ∀ i, RestOk ps (seedI ps i)
  | 0 => RestOk.nil ps
  | i + 1 => by
    rw [Go.Proofs.Ytjnkdjokbamibaa.seedI]
    split
    · exact (RestOk.seedI ps i).seedK _ _ _
    · exact RestOk.seedI ps i
theorem RestOk.turn1 {ps : List Phr} {L : List (List Int)} {x : List Int} {y : Phr} (h : RestOk ps L) (hx : x ∈ endsB ps) (hy : y ∈ ps) : RestOk ps (turn1 x L y) := by
  unfold Go.Proofs.Ytjnkdjokbamibaa.turn1
  dsimp only
  have h1 : RestOk ps (if begB x y.2 then putR L (y.2.drop x.length) else L) := by
    split
    · rename_i hb; exact h.put (ends_drop hy (begB_le hb))
    · exact h
  split
  · rename_i hb; exact h1.put (ends_again hx (begB_le hb))
  · exact h1
theorem RestOk.turnR {ps : List Phr} {L : List (List Int)} {x : List Int} (h : RestOk ps L) (hx : x ∈ endsB ps) (j : Nat) : RestOk ps (turnR ps x L j) := by
  unfold Go.Proofs.Ytjnkdjokbamibaa.turnR
  have : ∀ (qs : List Phr), (∀ q ∈ qs, q ∈ ps) → ∀ L, RestOk ps L → RestOk ps (qs.foldl (Go.Proofs.Ytjnkdjokbamibaa.turn1 x) L) := by
    intro qs
    induction qs with
    | nil => intro _ L h; exact h
    | cons q qs ih =>
      intro hq L h
      rw [List.foldl_cons]
      exact ih (fun r hr => hq r (List.mem_cons_of_mem _ hr)) _ (h.turn1 hx (hq q (by simp)))
  exact this _ (fun q hq => List.mem_of_mem_take hq) L h
/-- So far: the n-th rest is next. -/
def RunTo (ps : List Phr) (n : Nat) (L : List (List Int)) : Prop := RestOk ps L ∧ n ≤ L.length ∧ runR ps (200 - n) n L = restsR ps
theorem RunTo.start (ps : List Phr) : RunTo ps 0 (seedR ps) := ⟨RestOk.seedI ps ps.length, Nat.zero_le _, rfl⟩
theorem RunTo.bd {ps : List Phr} {n : Nat} {L : List (List Int)} (h : RunTo ps n L) (hb : bookB ps = true) : L.length ≤ 160 ∧ n ≤ 160 := by
  have h1 := h.1.len hb
  have h2 := h.2.1
  omega
theorem RunTo.on {ps : List Phr} {n : Nat} {L : List (List Int)} {x : List Int} (h : RunTo ps n L) (hb : bookB ps = true) (hx : L[n]? = some x) : RunTo ps (n + 1) (turnR ps x L ps.length) := by
  have h0 := h.bd hb
  have hn := (List.getElem?_eq_some_iff.1 hx).1
  have hr := h.1.turnR (h.1.ends x (List.mem_of_getElem? hx)) ps.length
  have hp : L.length ≤ (turnR ps x L ps.length).length := (turnR_pre).length_le
  refine ⟨hr, by omega, ?_⟩
  have h3 := h.2.2
  rw [show 200 - n = (200 - (n + 1)) + 1 by omega, runR_on hx] at h3
  exact h3
theorem RunTo.sub {ps : List Phr} {n : Nat} {L : List (List Int)} (h : RunTo ps n L) : L <+: restsR ps := by
  rw [← h.2.2]; exact runR_pre _ _ _
/-- While the n-th rest is held against the phrases. -/
theorem RunTo.mid {ps : List Phr} {n : Nat} {L : List (List Int)} {x : List Int} (h : RunTo ps n L) (hb : bookB ps = true) (hx : L[n]? = some x) {j : Nat} (hj : j ≤ ps.length) : turnR ps x L j <+: restsR ps ∧ RestOk ps (turnR ps x L j) ∧ (turnR ps x L j).length ≤ 160 ∧ (turnR ps x L j)[n]? = some x := by
  have hr := h.1.turnR (h.1.ends x (List.mem_of_getElem? hx)) j
  refine ⟨(turnR_mono hj).trans (h.on hb hx).sub, hr, hr.len hb, ?_⟩
  obtain ⟨t, ht⟩ := turnR_pre (ps := ps) (x := x) (L := L) (j := j)
  rw [← ht, List.getElem?_append_left (List.getElem?_eq_some_iff.1 hx).1]
  exact hx
end Go.Proofs.Ytjnkdjokbamibaa
/- Contracts of the tests whether words are a code, and of the words written one after the other; of the program and of the reference. -/
namespace Go.Proofs.Ytjnkdjokbamibaa
open Go.RowKit
def wordOk (xs : List Int) : Bool := inB xs.length 1 6 && allB xs 0 59
def noClash (xss : List (List Int)) : Bool := (List.range xss.length).all fun i => (List.range xss.length).all fun k => i == k || !begB (xss.getD i []) (xss.getD k [])
def codeB (xss : List (List Int)) : Bool := inB xss.length 1 20 && (xss.all wordOk && noClash xss)
end Go.Proofs.Ytjnkdjokbamibaa
/- Plain laws on reading words: the first word that begins digits is the only one; the words read one after the other. -/
namespace Go.Proofs.Ytjnkdjokbamibaa
open Go.RowKit
/-- The first word that begins digits. -/
def ixC (code : List (List Int)) (ds : List Int) : Option Nat := code.findIdx? fun x => begB x ds
def readF (code : List (List Int)) : Nat → List Int → Option (List Int)
  | _, [] => some []
  | 0, _ :: _ => Option.none
  | n + 1, d :: ds => match ixC code (d :: ds) with
    | Option.none => Option.none
    | some i => (readF code n ((d :: ds).drop (code.getD i []).length)).map fun r => (i : Int) :: r
def readW (code : List (List Int)) (ds : List Int) : Option (List Int) := readF code ds.length ds
theorem readW_nil (code : List (List Int)) : readW code [] = some [] := rfl
theorem code_pos {code : List (List Int)} (h : codeB code = true) {x : List Int} (hx : x ∈ code) : 1 ≤ x.length ∧ x.length ≤ 6 := by
  unfold codeB at h
  simp only [Bool.and_eq_true, List.all_eq_true] at h
  have := h.2.1 x hx
  unfold wordOk at this
  rw [Bool.and_eq_true, inB_iff] at this
  omega
theorem ixC_some {code : List (List Int)} {ds : List Int} {i : Nat} (h : ixC code ds = some i) : ∃ x, code[i]? = some x ∧ begB x ds = true ∧ i < code.length := by
  unfold ixC at h
  rw [List.findIdx?_eq_some_iff_getElem] at h
  obtain ⟨hl, h1, _⟩ := h
  exact ⟨code[i], List.getElem?_eq_getElem hl, h1, hl⟩
theorem readF_enough {code : List (List Int)} (h : codeB code = true) : ∀ (n : Nat) (ds : List Int), ds.length ≤ n → readF code n ds = readF code ds.length ds
  | _, [], _ => by cases ‹Nat› <;> rfl
  | 0, d :: ds, hl => by simp at hl
  | n + 1, d :: ds, hl => by
    simp only [List.length_cons, readF]
    cases e : ixC code (d :: ds) with
    | none => rfl
    | some i =>
      obtain ⟨x, hx, hb, _⟩ := ixC_some e
      have hp := code_pos h (List.mem_of_getElem? hx)
      have hg : code.getD i [] = x := by rw [List.getD_eq_getElem?_getD, hx]; rfl
      have hlen : ((d :: ds).drop x.length).length ≤ ds.length := by rw [List.length_drop, List.length_cons]; omega
      simp only [hg]
      rw [readF_enough h n _ (by simp only [List.length_cons] at hl; omega), readF_enough h ds.length _ hlen]
theorem readW_step {code : List (List Int)} (h : codeB code = true) {ds x : List Int} {i : Nat} (he : ixC code ds = some i) (hx : code[i]? = some x) (hd : 0 < ds.length) : readW code ds = (readW code (ds.drop x.length)).map fun r => (i : Int) :: r := by
  cases ds with
  | nil => simp at hd
  | cons d ds =>
    have hp := code_pos h (List.mem_of_getElem? hx)
    have hg : code.getD i [] = x := by rw [List.getD_eq_getElem?_getD, hx]; rfl
    unfold readW
    simp only [List.length_cons, readF, he, hg]
    rw [readF_enough h ds.length _ (by rw [List.length_drop, List.length_cons]; omega)]
/-- What is read so far, and what is left. -/
def ReadTo (code : List (List Int)) (ds L rest : List Int) : Prop := readW code ds = (readW code rest).map fun r => L ++ r
theorem ReadTo.start (code : List (List Int)) (ds : List Int) : ReadTo code ds [] ds := by unfold ReadTo; cases readW code ds <;> simp
theorem ReadTo.next {code : List (List Int)} (h : codeB code = true) {ds L rest x : List Int} {i : Nat} (hr : ReadTo code ds L rest) (he : ixC code rest = some i) (hx : code[i]? = some x) (hd : 0 < rest.length) : ReadTo code ds (L ++ [(i : Int)]) (rest.drop x.length) := by
  unfold ReadTo at *
  rw [hr, readW_step h he hx hd]
  cases readW code (rest.drop x.length) <;> simp
def digB (ds : List Int) : Bool := decide (ds.length ≤ 180) && allB ds 0 59
def readRes (code : List (List Int)) (ds : List Int) : List Int × Bool :=
  if codeB code && digB ds then match readW code ds with
    | some L => (L, true)
    | Option.none => ([], false)
  else ([], false)
theorem ReadTo.done {code : List (List Int)} {ds L : List Int} (hc : (codeB code && digB ds) = true) (h : ReadTo code ds L []) : readRes code ds = (L, true) := by
  unfold ReadTo at h
  rw [readW_nil] at h
  unfold readRes
  rw [hc, h]; simp
end Go.Proofs.Ytjnkdjokbamibaa
/- A list of rests in memory: each lies in old memory or is a row of the call's own; one more is put to the others; of the program and of the reference. -/
namespace Go.Proofs.Ytjnkdjokbamibaa
open Go.RowKit
/-- The slice value u reads as xs, in memory below B, or in a block of ints. -/
def El (w : World) (B : Nat) (u : Value) (xs : List Int) : Prop :=
  RdI w w.heap.size u xs ∧ ∀ (b off n c : Nat), u = .slice (some ⟨b, off, Option.none⟩) n c → 0 < n → b < B ∨ ∃ cur fz, w.heap[b]? = some (.cells cur 3 fz)
theorem El.rd {w : World} {B : Nat} {u : Value} {xs : List Int} (h : El w B u xs) (_ : B ≤ w.heap.size) : RdI w w.heap.size u xs := h.1
theorem el_old {w : World} {B : Nat} {u : Value} {xs : List Int} (h : RdI w B u xs) (hB : B ≤ w.heap.size) : El w B u xs := by
  refine ⟨h.mono hB, fun b off n c hu hn => .inl ?_⟩
  obtain ⟨_, A, c', h1, _, _, h4⟩ := h
  rw [hu] at h1
  injection h1 with e1 e2 e3
  obtain ⟨b', off', hA, hb, _⟩ := h4 (by omega)
  rw [← e1] at hA
  cases hA
  exact hb
theorem el_own {w : World} {B lo : Nat} {u : Value} {xs : List Int} (h : OwI w lo w.heap.size u xs) : El w B u xs := by
  refine ⟨h.rd, fun b off n c hu _ => .inr ?_⟩
  rcases h.1.2 with ⟨rfl, _⟩ | ⟨g, cap, cur, rfl, _, hg, _⟩
  · cases hu
  · cases hu
    exact ⟨_, _, hg⟩
theorem El.below {w w' : World} {B : Nat} {u : Value} {xs : List Int} (h : El w B u xs) (_ : B ≤ w.heap.size) (hb : Below w.heap.size w w') : El w' B u xs := by
  refine ⟨(RdI.below h.1 hb (Nat.le_refl _)).mono hb.size, fun b off n c hu hn => ?_⟩
  rcases h.2 b off n c hu hn with h2 | ⟨cur, fz, h2⟩
  · exact .inl h2
  · exact .inr ⟨cur, fz, (hb.block b (Array.getElem?_eq_some_iff.1 h2).1).trans h2⟩
/-- Blocks other than rows of slices, and boxes of such, stand. -/
def Fr (w w' : World) : Prop := ∀ (k : Nat) (c : Array Value) (e : TypeId) (fz : Nat × Nat), w.heap[k]? = some (.cells c e fz) → e ≠ 35 → e ≠ 61 → w'.heap[k]? = some (.cells c e fz)
theorem Fr.refl (w : World) : Fr w w := fun _ _ _ _ h _ _ => h
theorem Fr.trans {a b c : World} (h : Fr a b) (g : Fr b c) : Fr a c := fun k x e fz hk h1 h2 => g k x e fz (h k x e fz hk h1 h2) h1 h2
theorem Blk.fr {w w' : World} {g : Nat} {t : TypeId} {cs : List Value} (h : Blk w g t cs) (hf : Fr w w') (h1 : t ≠ 35) (h2 : t ≠ 61) : Blk w' g t cs := hf _ _ _ _ h h1 h2
theorem El.fr {a w w' : World} {B : Nat} {u : Value} {xs : List Int} (h : El w B u xs) (hb : Below B a w) (hb' : Below B a w') (hs : w.heap.size ≤ w'.heap.size) (hf : Fr w w') : El w' B u xs := by
  obtain ⟨⟨h0, A, c, h1, h2, h3, h4⟩, h5⟩ := h
  refine ⟨⟨h0, A, c, h1, h2, h3, fun hn => ?_⟩, fun b off n c hu hn => ?_⟩
  · obtain ⟨b, off, hA, hbl, hc⟩ := h4 hn
    refine ⟨b, off, hA, by omega, fun j u hu => ?_⟩
    rcases h5 b off _ _ (by rw [h1, hA]) hn with h6 | ⟨cur, fz, h6⟩
    · rw [hb'.cell (p := ⟨b, off + j, Option.none⟩) h6, ← hb.cell (p := ⟨b, off + j, Option.none⟩) h6]
      exact hc j u hu
    · have h7 := hf _ _ _ _ h6 (by decide) (by decide)
      rw [← hc j u hu, cell_of_row w b (off + j) cur _ fz h6, cell_of_row w' b (off + j) cur _ fz h7]
  · rcases h5 b off n c hu hn with h6 | ⟨cur, fz, h6⟩
    · exact .inl h6
    · exact .inr ⟨cur, fz, hf _ _ _ _ h6 (by decide) (by decide)⟩
/-- v is a row of rests, appended to since the world w; below block number B nothing has turned. -/
def GrowL (w : World) (B : Nat) (wr : World) (v : Value) (xss : List (List Int)) : Prop :=
  (∃ us : List Value, us.length = xss.length ∧ (∀ (i : Nat) (u : Value) (xs : List Int), us[i]? = some u → xss[i]? = some xs → El wr B u xs) ∧ wr.ownsRow B 35 1 v xss.length us) ∧ Below B w wr ∧ B ≤ wr.heap.size
theorem GrowL.start (w : World) {B : Nat} (hB : B = w.heap.size) : GrowL w B w (.slice Option.none 0 0) [] := by
  subst hB
  exact ⟨⟨[], rfl, fun i u xs hu _ => by simp at hu, World.ownsRow_nil _ _ _ _⟩, Below.refl _ _, Nat.le_refl _⟩
theorem GrowL.belowR {w wr wr' : World} {B : Nat} {v : Value} {xss : List (List Int)} (h : GrowL w B wr v xss) (hb : Below wr.heap.size wr wr') : GrowL w B wr' v xss := by
  obtain ⟨⟨us, h1, h2, h3⟩, h4, h5⟩ := h
  exact ⟨⟨us, h1, fun i u xs hu hx => (h2 i u xs hu hx).below h5 hb, owns_below h3 (fun k hk => (h3.lt k hk).2) hb (Nat.le_refl _)⟩, h4.trans (hb.mono h5), Nat.le_trans h5 hb.size⟩
theorem GrowL.form {w wr : World} {B : Nat} {v : Value} {xss : List (List Int)} (h : GrowL w B wr v xss) : ∃ A c, v = .slice A xss.length c ∧ xss.length ≤ 9223372036854775807 := by
  obtain ⟨⟨us, h1, h2, h3⟩, h4, h5⟩ := h
  obtain ⟨A, c, hv, _, hm⟩ := Rd.form (rd_of_owns h3 (fun k hk => (h3.lt k hk).2))
  exact ⟨A, c, hv, hm⟩
theorem GrowL.rd {w wr : World} {B : Nat} {v : Value} {xss : List (List Int)} (h : GrowL w B wr v xss) : RdII wr wr.heap.size v xss := by
  obtain ⟨⟨us, h1, h2, h3⟩, h4, h5⟩ := h
  exact ⟨us, ⟨h1, fun i u xs hu hx => (h2 i u xs hu hx).rd h5⟩, rd_of_owns h3 (fun k hk => (h3.lt k hk).2)⟩
theorem GrowL.at_ {w wr : World} {B : Nat} {v : Value} {xss : List (List Int)} (h : GrowL w B wr v xss) {k : Nat} (hk : k < xss.length) :
    ∃ b off c u xs, v = .slice (some ⟨b, off, Option.none⟩) xss.length c ∧ xss[k]? = some xs ∧ wr.cell? ⟨b, off + k, Option.none⟩ = some u ∧ El wr B u xs := by
  obtain ⟨⟨us, h1, h2, h3⟩, h4, h5⟩ := h
  obtain ⟨_, A, c, hv, _, _, h6⟩ := rd_of_owns h3 (fun k hk => (h3.lt k hk).2)
  obtain ⟨b, off, rfl, hb, hc⟩ := h6 (by omega)
  have hu : us[k]? = some us[k] := by simp [show k < us.length by omega]
  exact ⟨b, off, c, us[k], xss[k], hv, by simp [hk], hc k _ hu, h2 k _ _ hu (by simp [hk])⟩
theorem RdI.dropLe {w : World} {hi c : Nat} {b off : Nat} {xs : List Int} (h : RdI w hi (.slice (some ⟨b, off, Option.none⟩) xs.length c) xs) {k : Nat} (hk : k ≤ xs.length) :
    RdI w hi (.slice (some ⟨b, off + k, Option.none⟩) (xs.length - k) (c - k)) (xs.drop k) := by
  rcases Nat.lt_or_ge k xs.length with hlt | hge
  · exact h.drop hlt
  · obtain rfl : k = xs.length := by omega
    obtain ⟨h0, A', c', hv, h1, h2, _⟩ := h
    cases hv
    refine ⟨by simp, some ⟨b, off + xs.length, Option.none⟩, c - xs.length, by rw [List.length_drop], by rw [List.length_drop]; omega, by omega, fun h => ?_⟩
    rw [List.length_drop] at h
    omega
theorem El.drop {w : World} {B : Nat} {c : Nat} {b off : Nat} {xs : List Int} (h : El w B (.slice (some ⟨b, off, Option.none⟩) xs.length c) xs) {k : Nat} (hk : k ≤ xs.length) :
    El w B (.slice (some ⟨b, off + k, Option.none⟩) (xs.length - k) (c - k)) (xs.drop k) := by
  refine ⟨h.1.dropLe hk, fun b' off' n' c' hu hn => ?_⟩
  cases hu
  exact h.2 b off xs.length c rfl (by omega)
end Go.Proofs.Ytjnkdjokbamibaa
/- Contracts: the table of the reference, newly made. -/
namespace Go.Proofs.Ytjnkdjokbamibaa
open Go.RowKit
abbrev slN (g n : Nat) : Value := .slice (some ⟨g, 0, Option.none⟩) n n
/-- What is left of the weights from each index on. -/
def restL (Z : List Int) : List Int := (List.range (Z.length + 1)).map fun j => sumW (Z.drop j)
/-- Blocks of other types than some have not turned. -/
structure Frs (ts : List TypeId) (w w' : World) : Prop where
  os : w'.os = w.os
  tape : w'.tape = w.tape
  output : w'.output = w.output
  size : w.heap.size ≤ w'.heap.size
  block : ∀ (k : Nat) (c : Array Value) (e : TypeId) (fz : Nat × Nat), w.heap[k]? = some (.cells c e fz) → e ∉ ts → w'.heap[k]? = some (.cells c e fz)
theorem Frs.refl (ts : List TypeId) (w : World) : Frs ts w w := ⟨rfl, rfl, rfl, Nat.le_refl _, fun _ _ _ _ h _ => h⟩
theorem Frs.trans {ts : List TypeId} {a b c : World} (h : Frs ts a b) (k : Frs ts b c) : Frs ts a c :=
  ⟨k.os.trans h.os, k.tape.trans h.tape, k.output.trans h.output, Nat.le_trans h.size k.size, fun i x e fz h1 h2 => k.block i x e fz (h.block i x e fz h1 h2) h2⟩
/-- One level of the table: its rows lie in the blocks gs. -/
structure LevOk (w : World) (n1 : Nat) (x : Nat × Nat × List Nat) : Prop where
  len : x.2.2.length = n1
  row : ∃ cur : Array Value, w.heap[x.1]? = some (.cells cur 35 (0, 0)) ∧ cur.toList.take n1 = x.2.2.map fun g => slN g n1
  zero : ∀ g ∈ x.2.2, Blk w g 3 (ints (List.replicate n1 0))
theorem LevOk.below {B : Nat} {w w' : World} {n1 : Nat} {x : Nat × Nat × List Nat} (h : LevOk w n1 x) (hb : Below B w w') (hx : w.heap.size ≤ B) : LevOk w' n1 x := by
  obtain ⟨cur, hc, ht⟩ := h.row
  exact ⟨h.len, ⟨cur, (hb.block _ (by have := (Array.getElem?_eq_some_iff.1 hc).1; omega)).trans hc, ht⟩, fun g hg => (h.zero g hg).below hb (by have := (h.zero g hg).lt; omega)⟩
def lvV (n1 : Nat) (x : Nat × Nat × List Nat) : Value := .slice (some ⟨x.1, 0, Option.none⟩) n1 x.2.1
def flatG (lev : List (Nat × Nat × List Nat)) : List Nat := lev.flatMap fun x => x.2.2
structure Levs (w : World) (T n1 : Nat) (lev : List (Nat × Nat × List Nat)) : Prop where
  ok : ∀ x ∈ lev, LevOk w n1 x
  nodup : (flatG lev).Nodup
  range : ∀ g ∈ flatG lev, T < g ∧ g < w.heap.size
theorem Levs.nil (w : World) (T n1 : Nat) : Levs w T n1 [] := ⟨by simp, by simp [flatG], by simp [flatG]⟩
theorem flatG_snoc (lev : List (Nat × Nat × List Nat)) (x : Nat × Nat × List Nat) : flatG (lev ++ [x]) = flatG lev ++ x.2.2 := by simp [flatG]
theorem Levs.snoc {w w' : World} {T n1 : Nat} {lev : List (Nat × Nat × List Nat)} {x : Nat × Nat × List Nat} (h : Levs w T n1 lev) (hT : T < w.heap.size) (hb : Below w.heap.size w w') (hx : LevOk w' n1 x) (hn : x.2.2.Nodup) (hr : ∀ g ∈ x.2.2, w.heap.size ≤ g) : Levs w' T n1 (lev ++ [x]) := by
  refine ⟨fun y hy => ?_, ?_, fun g hg => ?_⟩
  · rcases List.mem_append.1 hy with h1 | h1
    · exact (h.ok y h1).below hb (Nat.le_refl _)
    · rw [List.mem_singleton] at h1; rw [h1]; exact hx
  · rw [flatG_snoc, List.nodup_append]
    refine ⟨h.nodup, hn, fun a ha b hbb e => ?_⟩
    have h1 := (h.range a ha).2
    have h2 := hr b hbb
    omega
  · rw [flatG_snoc, List.mem_append] at hg
    rcases hg with h1 | h1
    · have := h.range g h1
      have := hb.size
      omega
    · have := hr g h1
      have := (hx.zero g h1).lt
      omega
theorem Blk.heap_ne {w : World} {g h : Nat} {t t' : TypeId} {cs : List Value} {cur : Array Value} {fz : Nat × Nat} (hb : Blk w g t cs) (hh : w.heap[h]? = some (.cells cur t' fz)) (ht : t ≠ t') : g ≠ h := by
  rintro rfl
  unfold Blk at hb
  rw [hb] at hh
  cases hh
  exact ht rfl
end Go.Proofs.Ytjnkdjokbamibaa
/- Contracts: the reference makes its table. -/
namespace Go.Proofs.Ytjnkdjokbamibaa
open Go.RowKit
/-- What cmNew hands back. -/
def TabNew (Z : List Int) (r L : Nat) (w0 w : World) (T : Nat) : Prop := ∃ (K : Option Addr) (ck : Nat) (lev : List (Nat × Nat × List Nat)), w0.heap.size < T ∧ Blk w T 149 [slN w0.heap.size (Z.length + 1), .int .i64 (r : Int), .int .i64 (L : Int), .slice K (L + 1) ck] ∧
  Blk w w0.heap.size 3 (ints (restL Z)) ∧ lev.length = L + 1 ∧ w.ownsRow (T + 1) 61 1 (.slice K (L + 1) ck) (L + 1) (lev.map (lvV (Z.length + 1))) ∧ Levs w T (Z.length + 1) lev ∧ Below w0.heap.size w0 w
end Go.Proofs.Ytjnkdjokbamibaa
/- Contracts: the least cost by the table of the reference. -/
namespace Go.Proofs.Ytjnkdjokbamibaa
open Go.RowKit
def levAt (lev : List (Nat × Nat × List Nat)) (l : Nat) : Nat × Nat × List Nat := lev.getD l (0, 0, [])
def gAt (lev : List (Nat × Nat × List Nat)) (l d : Nat) : Nat := (levAt lev l).2.2.getD d 0
/-- Only blocks of the table's rows have turned. -/
structure FrG (gs : List Nat) (w w' : World) : Prop where
  os : w'.os = w.os
  tape : w'.tape = w.tape
  output : w'.output = w.output
  size : w'.heap.size = w.heap.size
  block : ∀ k, k ∉ gs → w'.heap[k]? = w.heap[k]?
theorem FrG.refl (gs : List Nat) (w : World) : FrG gs w w := ⟨rfl, rfl, rfl, rfl, fun _ _ => rfl⟩
theorem FrG.trans {gs : List Nat} {a b c : World} (h : FrG gs a b) (k : FrG gs b c) : FrG gs a c :=
  ⟨k.os.trans h.os, k.tape.trans h.tape, k.output.trans h.output, k.size.trans h.size, fun i hi => (k.block i hi).trans (h.block i hi)⟩
structure Tbl (w : World) (T Rb k0 ck : Nat) (Z : List Int) (r L : Nat) (lev : List (Nat × Nat × List Nat)) (f : Nat → Nat → Nat → Int) : Prop where
  blk : Blk w T 149 [slN Rb (Z.length + 1), .int .i64 (r : Int), .int .i64 (L : Int), .slice (some ⟨k0, 0, Option.none⟩) (L + 1) ck]
  rest : Blk w Rb 3 (ints (restL Z))
  outer : ∀ l, l ≤ L → w.cell? ⟨k0, l, Option.none⟩ = some (lvV (Z.length + 1) (levAt lev l))
  mid : ∀ l d, l ≤ L → d ≤ Z.length → w.cell? ⟨(levAt lev l).1, d, Option.none⟩ = some (slN (gAt lev l d) (Z.length + 1))
  rows : ∀ l d, l ≤ L → d ≤ Z.length → Blk w (gAt lev l d) 3 (ints ((List.range (Z.length + 1)).map (f l d)))
  mem : ∀ l d, l ≤ L → d ≤ Z.length → gAt lev l d ∈ flatG lev
  inj : ∀ l d l' d', l ≤ L → d ≤ Z.length → l' ≤ L → d' ≤ Z.length → gAt lev l d = gAt lev l' d' → l = l' ∧ d = d'
  far : ∀ g ∈ flatG lev, g ≠ T ∧ g ≠ Rb ∧ g ≠ k0 ∧ ∀ l, l ≤ L → g ≠ (levAt lev l).1
def upd (f : Nat → Nat → Nat → Int) (l d i : Nat) (v : Int) : Nat → Nat → Nat → Int := fun l' d' i' => if l' = l ∧ d' = d ∧ i' = i then v else f l' d' i'
theorem map_upd {f : Nat → Int} {n i : Nat} {v : Int} : ((List.range n).map f).set i v = (List.range n).map fun j => if j = i then v else f j := by
  refine List.ext_getElem (by simp) fun j h1 h2 => ?_
  rw [List.getElem_set]
  simp only [List.getElem_map, List.getElem_range]
  by_cases e : i = j
  · rw [if_pos e, if_pos e.symm]
  · rw [if_neg e, if_neg (fun h => e h.symm)]
theorem cell_far {w : World} {g i b o : Nat} {u v : Value} (h : w.cell? ⟨b, o, Option.none⟩ = some v) (hne : g ≠ b) : (w.setCell ⟨g, i, Option.none⟩ u).cell? ⟨b, o, Option.none⟩ = some v := by
  unfold World.cell? at h ⊢
  rw [Below.heap_setCell w _ u b (fun e => hne e.symm)]
  exact h
theorem Tbl.set {w : World} {T Rb k0 ck : Nat} {Z : List Int} {r L : Nat} {lev : List (Nat × Nat × List Nat)} {f : Nat → Nat → Nat → Int} (h : Tbl w T Rb k0 ck Z r L lev f) {l d i : Nat} (hl : l ≤ L) (hd : d ≤ Z.length) (v : Int) :
    Tbl (w.setCell ⟨gAt lev l d, i, Option.none⟩ (.int .i64 v)) T Rb k0 ck Z r L lev (upd f l d i v) := by
  have hg := h.far _ (h.mem l d hl hd)
  refine ⟨h.blk.far (p := ⟨gAt lev l d, i, Option.none⟩) (fun e => hg.1 e.symm) _, h.rest.far (p := ⟨gAt lev l d, i, Option.none⟩) (fun e => hg.2.1 e.symm) _, fun l' hl' => cell_far (h.outer l' hl') hg.2.2.1, fun l' d' hl' hd' => cell_far (h.mid l' d' hl' hd') (hg.2.2.2 l' hl'), fun l' d' hl' hd' => ?_, h.mem, h.inj, h.far⟩
  by_cases e : l' = l ∧ d' = d
  · obtain ⟨rfl, rfl⟩ := e
    have h1 := (h.rows l' d' hl' hd').set_ i (.int .i64 v)
    have h2 : (ints ((List.range (Z.length + 1)).map (f l' d'))).set i (.int .i64 v) = ints ((List.range (Z.length + 1)).map (upd f l' d' i v l' d')) := by
      unfold ints
      rw [← List.map_set, map_upd]
      simp [upd]
    rw [h2] at h1
    exact h1
  · have h1 := (h.rows l' d' hl' hd').far (p := ⟨gAt lev l d, i, Option.none⟩) (fun e2 => e (h.inj l' d' l d hl' hd' hl hd e2)) (.int .i64 v)
    have h2 : upd f l d i v l' d' = f l' d' := by
      funext j
      unfold upd
      rw [if_neg (fun h => e ⟨h.1, h.2.1⟩)]
    rw [h2]
    exact h1
theorem Tbl.cell {w : World} {T Rb k0 ck : Nat} {Z : List Int} {r L : Nat} {lev : List (Nat × Nat × List Nat)} {f : Nat → Nat → Nat → Int} (h : Tbl w T Rb k0 ck Z r L lev f) {l d i : Nat} (hl : l ≤ L) (hd : d ≤ Z.length) (hi : i ≤ Z.length) :
    w.cell? ⟨gAt lev l d, i, Option.none⟩ = some (.int .i64 (f l d i)) := by
  rw [(h.rows l d hl hd).cell i]
  unfold ints
  rw [List.getElem?_map, List.getElem?_map, List.getElem?_range (by omega)]; rfl
/-- What stands in the table is right. -/
def InvT (Z : List Int) (r L : Nat) (f : Nat → Nat → Nat → Int) : Prop := ∀ l d i, 1 ≤ l → l ≤ L → d ≤ Z.length → i ≤ Z.length - d → f l d i = 0 ∨ f l d i = relC r L (Z.drop d) l i + 1
theorem InvT.set {Z : List Int} {r L : Nat} {f : Nat → Nat → Nat → Int} (h : InvT Z r L f) {l d i : Nat} {v : Int} (hv : v = relC r L (Z.drop d) l i + 1) : InvT Z r L (upd f l d i v) := by
  intro l' d' i' h1 h2 h3 h4
  unfold upd
  split
  · rename_i e
    obtain ⟨rfl, rfl, rfl⟩ := e
    exact .inr hv
  · exact h l' d' i' h1 h2 h3 h4
/-- Worlds behind calls that fill the table. -/
structure LaterX (w : World) (T Rb k0 ck : Nat) (Z : List Int) (r L : Nat) (lev : List (Nat × Nat × List Nat)) where
  val : World
  f : Nat → Nat → Nat → Int
  tbl : Tbl val T Rb k0 ck Z r L lev f
  inv : InvT Z r L f
  fr : FrG (flatG lev) w val
theorem Tbl.drewN {w : World} {T Rb k0 ck : Nat} {Z : List Int} {r L : Nat} {lev : List (Nat × Nat × List Nat)} {f : Nat → Nat → Nat → Int} (h : Tbl w T Rb k0 ck Z r L lev f) (n : Nat) : Tbl (w.drewN n) T Rb k0 ck Z r L lev f :=
  ⟨h.blk, h.rest, h.outer, h.mid, h.rows, h.mem, h.inj, h.far⟩
section
variable {w : World} {T Rb k0 ck : Nat} {Z : List Int} {r L : Nat} {lev : List (Nat × Nat × List Nat)}
end
end Go.Proofs.Ytjnkdjokbamibaa
/- Contracts: LeastLengths and LeastCost of the reference. -/
namespace Go.Proofs.Ytjnkdjokbamibaa
open Go.RowKit
theorem flat_inj : ∀ (lev : List (Nat × Nat × List Nat)), (flatG lev).Nodup → ∀ (l d l' d' : Nat) (x x' : Nat × Nat × List Nat) (g : Nat), lev[l]? = some x → lev[l']? = some x' → x.2.2[d]? = some g → x'.2.2[d']? = some g → l = l' ∧ d = d'
  | [], _, l, d, l', d', x, x', g, h, _, _, _ => by simp at h
  | y :: lev, hn, l, d, l', d', x, x', g, h1, h2, h3, h4 => by
    have hf : flatG (y :: lev) = y.2.2 ++ flatG lev := by simp [flatG]
    rw [hf, List.nodup_append] at hn
    have hmem : ∀ (k : Nat) (z : Nat × Nat × List Nat), lev[k]? = some z → ∀ b ∈ z.2.2, b ∈ flatG lev := fun k z hz b hb => by
      unfold flatG; rw [List.mem_flatMap]; exact ⟨z, List.mem_of_getElem? hz, hb⟩
    cases l with
    | zero =>
      rw [List.getElem?_cons_zero] at h1; cases h1
      cases l' with
      | zero =>
        rw [List.getElem?_cons_zero] at h2; cases h2
        have := (List.getElem?_inj (i := d) (j := d') (List.getElem?_eq_some_iff.1 h3).1 hn.1).1 (by rw [h3, h4])
        exact ⟨rfl, this⟩
      | succ l' =>
        rw [List.getElem?_cons_succ] at h2
        exact absurd rfl (hn.2.2 g (List.mem_of_getElem? h3) g (hmem l' x' h2 g (List.mem_of_getElem? h4)))
    | succ l =>
      rw [List.getElem?_cons_succ] at h1
      cases l' with
      | zero =>
        rw [List.getElem?_cons_zero] at h2; cases h2
        exact absurd rfl (hn.2.2 g (List.mem_of_getElem? h4) g (hmem l x h1 g (List.mem_of_getElem? h3)))
      | succ l' =>
        rw [List.getElem?_cons_succ] at h2
        have := flat_inj lev hn.2.1 l d l' d' x x' g h1 h2 h3 h4
        exact ⟨by omega, this.2⟩
/-- A newly made table holds noughts. -/
theorem TabNew.tbl {Z : List Int} {r L : Nat} {w0 w : World} {T : Nat} (h : TabNew Z r L w0 w T) : ∃ k0 ck lev, Tbl w T w0.heap.size k0 ck Z r L lev (fun _ _ _ => 0) ∧ (∀ g ∈ flatG lev, T < g ∧ g < w.heap.size) ∧ w0.heap.size < T ∧ Below w0.heap.size w0 w := by
  obtain ⟨K, ck, lev, hT, hblk, hrest, hll, how, hlv, hbl⟩ := h
  obtain ⟨k0, rfl, cur0, hcur0⟩ : ∃ k0, K = some ⟨k0, 0, Option.none⟩ ∧ ∃ cur, w.heap[k0]? = some (.cells cur 61 (0, 0)) := by
    rcases how.2 with ⟨_, e⟩ | ⟨g, cap, cur, e, _, hg, _⟩
    · omega
    · cases e; exact ⟨g, rfl, cur, hg⟩
  have hlev : ∀ l, l ≤ L → ∃ x, lev[l]? = some x ∧ levAt lev l = x := by
    intro l hl
    have h1 := List.getElem?_eq_getElem (l := lev) (i := l) (by omega)
    exact ⟨lev[l], h1, by unfold levAt; rw [List.getD_eq_getElem?_getD, h1]; rfl⟩
  have hg : ∀ l d, l ≤ L → d ≤ Z.length → ∃ x g, lev[l]? = some x ∧ levAt lev l = x ∧ x.2.2[d]? = some g ∧ gAt lev l d = g := by
    intro l d hl hd
    obtain ⟨x, h1, h2⟩ := hlev l hl
    have hlen := (hlv.ok x (List.mem_of_getElem? h1)).len
    have h3 := List.getElem?_eq_getElem (l := x.2.2) (i := d) (by omega)
    exact ⟨x, x.2.2[d], h1, h2, h3, by unfold gAt; rw [h2, List.getD_eq_getElem?_getD, h3]; rfl⟩
  have hmem : ∀ l d, l ≤ L → d ≤ Z.length → gAt lev l d ∈ flatG lev := by
    intro l d hl hd
    obtain ⟨x, g, h1, _, h3, h4⟩ := hg l d hl hd
    rw [h4]; unfold flatG; rw [List.mem_flatMap]
    exact ⟨x, List.mem_of_getElem? h1, List.mem_of_getElem? h3⟩
  have hzero : ∀ g ∈ flatG lev, Blk w g 3 (ints (List.replicate (Z.length + 1) 0)) := by
    intro g hgm
    unfold flatG at hgm
    rw [List.mem_flatMap] at hgm
    obtain ⟨x, hx, hgx⟩ := hgm
    exact (hlv.ok x hx).zero g hgx
  refine ⟨k0, ck, lev, ⟨hblk, hrest, fun l hl => ?_, fun l d hl hd => ?_, fun l d hl hd => ?_, hmem, fun l d l' d' hl hd hl' hd' e => ?_, fun g hgm => ?_⟩, hlv.range, hT, hbl⟩
  · obtain ⟨x, h1, h2⟩ := hlev l hl
    have h3 := how.cells (g := k0) rfl l (lvV (Z.length + 1) x) (by rw [List.getElem?_map, h1]; rfl)
    have hadd : (⟨k0, 0, Option.none⟩ : Addr).add l = ⟨k0, 0 + l, Option.none⟩ := by unfold Addr.add; split <;> simp_all
    rw [hadd, Nat.zero_add] at h3
    rw [h2]; exact h3
  · obtain ⟨x, g, h1, h2, h3, h4⟩ := hg l d hl hd
    obtain ⟨cur, hc, ht⟩ := (hlv.ok x (List.mem_of_getElem? h1)).row
    rw [h2, h4]
    have h5 := congrArg (fun l : List Value => l[d]?) ht
    simp only [List.getElem?_map, h3, List.getElem?_take] at h5
    rw [if_pos (by omega)] at h5
    rw [cell_of_row w x.1 d cur 35 (0, 0) hc]
    simpa using h5
  · have := hzero _ (hmem l d hl hd)
    rw [show (List.range (Z.length + 1)).map (fun _ => (0 : Int)) = List.replicate (Z.length + 1) 0 by rw [List.map_const']; simp]
    exact this
  · obtain ⟨x, g, h1, _, h3, h4⟩ := hg l d hl hd
    obtain ⟨x', g', h1', _, h3', h4'⟩ := hg l' d' hl' hd'
    rw [h4, h4'] at e
    subst e
    exact flat_inj lev hlv.nodup l d l' d' x x' g h1 h1' h3 h3'
  · have hz := hzero g hgm
    have hr := hlv.range g hgm
    refine ⟨by omega, by omega, hz.heap_ne hcur0 (by decide), fun l hl => ?_⟩
    obtain ⟨x, h1, h2⟩ := hlev l hl
    obtain ⟨cur, hc, _⟩ := (hlv.ok x (List.mem_of_getElem? h1)).row
    rw [h2]
    exact hz.heap_ne hc (by decide)
/-- All blocks of the table lie below N. -/
structure TLt (N T Rb k0 : Nat) (Z : List Int) (L : Nat) (lev : List (Nat × Nat × List Nat)) : Prop where
  t : T < N
  rb : Rb < N
  k : k0 < N
  lv : ∀ l, l ≤ L → (levAt lev l).1 < N
  g : ∀ l d, l ≤ L → d ≤ Z.length → gAt lev l d < N
theorem Tbl.same {w w' : World} {T Rb k0 ck N : Nat} {Z : List Int} {r L : Nat} {lev : List (Nat × Nat × List Nat)} {f : Nat → Nat → Nat → Int} (h : Tbl w T Rb k0 ck Z r L lev f) (hl : TLt N T Rb k0 Z L lev) (hb : Below N w w') : Tbl w' T Rb k0 ck Z r L lev f :=
  ⟨h.blk.below hb hl.t, h.rest.below hb hl.rb, fun l h1 => (hb.cell (p := ⟨k0, l, Option.none⟩) hl.k).trans (h.outer l h1), fun l d h1 h2 => (hb.cell (p := ⟨(levAt lev l).1, d, Option.none⟩) (hl.lv l h1)).trans (h.mid l d h1 h2), fun l d h1 h2 => (h.rows l d h1 h2).below hb (hl.g l d h1 h2), h.mem, h.inj, h.far⟩
theorem FrG.bel {gs : List Nat} {w w' : World} {B : Nat} (h : FrG gs w w') (hg : ∀ g ∈ gs, B ≤ g) : Below B w w' := ⟨h.os, h.tape, h.output, Nat.le_of_eq h.size.symm, fun k hk => h.block k (fun hm => by have := hg k hm; omega)⟩
end Go.Proofs.Ytjnkdjokbamibaa
/- Contracts: LeastLengths and LeastCost of the reference. -/
namespace Go.Proofs.Ytjnkdjokbamibaa
open Go.RowKit
/-- What is still to be laid out: the list found for what is left. -/
def Left (r L : Nat) (Z : List Int) (X : List Nat) (level done free : Nat) : Prop := ∃ y, lvl r L (Z.drop done) level free = some y ∧ X.drop done = y.1
theorem Left.start {r L : Nat} {Z : List Int} {x : List Nat × Int} (hr : 1 ≤ r) (hL : 1 ≤ L) (hZ : ∀ w ∈ Z, 0 ≤ w) (h : bst r L Z 1 (r ^ L) = some x) : Left r L Z x.1 1 0 (min r Z.length) := by
  refine ⟨x, ?_, by simp⟩
  rw [List.drop_zero, lvl_min hr hZ]
  unfold lvl
  rw [show r * r ^ (L - 1) = r ^ L by rw [Nat.mul_comm, ← Nat.pow_succ]; congr 1; omega]
  exact h
/-- One level is laid out. -/
theorem Left.step {r L : Nat} {Z : List Int} {X : List Nat} {level done free : Nat} (hr : 1 ≤ r) (hZ : ∀ w ∈ Z, 0 ≤ w) (hb : (L : Int) * sumW (Z.drop done) < 1000000000) (h : Left r L Z X level done free) (hf : free ≤ Z.length - done) (h1 : 1 ≤ level) (hd : done < Z.length) :
    level ≤ L ∧ ∃ t, t ≤ free ∧ withC r L (Z.drop done) level free t = relC r L (Z.drop done) level free ∧ (∀ s, t < s → s ≤ free → relC r L (Z.drop done) level free < withC r L (Z.drop done) level free s) ∧
      (∀ k, k < t → X[done + k]? = some level) ∧ Left r L Z X (level + 1) (done + t) (min ((free - t) * r) (Z.length - (done + t))) := by
  obtain ⟨y, hy, hX⟩ := h
  have hne : Z.drop done ≠ [] := by intro e; have := congrArg List.length e; rw [List.length_drop, List.length_nil] at this; omega
  have hlL : level ≤ L := by
    rcases Nat.lt_or_ge L level with h2 | h2
    · rw [lvl_end hne h2] at hy; cases hy
    · exact h2
  have hZd : ∀ w ∈ Z.drop done, 0 ≤ w := fun w hw => hZ w (List.mem_of_mem_drop hw)
  obtain ⟨t, z, ht, hw, hs, hz, he⟩ := lvl_greedy hr hZd (by rw [List.length_drop]; exact hf) h1 hlL hb hy
  refine ⟨hlL, t, ht, hw, hs, fun k hk => ?_, z, ?_, ?_⟩
  · have h2 : (X.drop done)[k]? = some level := by
      rw [hX, he, List.getElem?_append_left (by simp; exact hk), List.getElem?_replicate, if_pos hk]
    rwa [List.getElem?_drop] at h2
  · rw [List.drop_drop] at hz
    have h3 := lvl_min (r := r) (L := L) hr (ws := Z.drop (done + t)) (fun w hw => hZ w (List.mem_of_mem_drop hw)) (level := level + 1) (f := (free - t) * r)
    rw [List.length_drop] at h3
    rw [h3]; exact hz
  · rw [← List.drop_drop, hX, he]
    simp
end Go.Proofs.Ytjnkdjokbamibaa
/- Contracts: drawn lists of numbers: weights, lengths; numbers of digits. -/
namespace Go.Proofs.Ytjnkdjokbamibaa
open Go.RowKit
theorem KeepG.fresh {C D : Nat} {w0 w w' : World} (h : KeepG C D w0 w) (hb : Below w0.heap.size w w') : KeepG C D w0 w' :=
  ⟨hb.os.trans h.os, hb.tape.trans h.tape, hb.output.trans h.output, Nat.le_trans h.size hb.size, fun k hk hn => (hb.block k hk).trans (h.block k hk hn)⟩
theorem KeepG.alloc {C D : Nat} {w0 w : World} (h : KeepG C D w0 w) (o : Obj) : KeepG C D w0 (w.alloc o) := h.trans (below_g ((Below.refl _ w).alloc (Nat.le_refl _) o))
theorem Cur.fresh {w w' : World} {C m B : Nat} (h : Cur w C m) (hb : Below B w w') (hC : C < B) : Cur w' C m := by
  obtain ⟨v, zs, p, s, h1, h2, h3⟩ := h
  exact ⟨v, zs, p, s, h1.below hb hC, Rd.below h2 hb (by omega), h3⟩
theorem owns_keepG {w w' : World} {lo C size n : Nat} {e : TypeId} {v : Value} {xs : List Value} (h : w.ownsRow lo e size v n xs) (hk : KeepG C (C + 1) w w') (hC : C < lo) : w'.ownsRow lo e size v n xs := by
  refine ⟨h.1, ?_⟩
  rcases h.2 with hn | ⟨g, cap, cur, rfl, hl, hg, rest⟩
  · exact .inl hn
  · exact .inr ⟨g, cap, cur, rfl, hl, (hk.block g (Array.getElem?_eq_some_iff.1 hg).1 (by omega)).trans hg, rest⟩
/-- A row of numbers drawn since the world w0; the cursor at C. -/
def DrL (w0 : World) (C m : Nat) (wr : World) (v : Value) (xs : List Int) : Prop := wr.ownsRow w0.heap.size 3 1 v xs.length (ints xs) ∧ Cur wr C m ∧ KeepG C (C + 1) w0 wr
theorem DrL.start {w : World} {C m : Nat} (h : Cur w C m) : DrL w C m w (.slice Option.none 0 0) [] := ⟨World.ownsRow_nil _ _ _ _, h, KeepG.refl _ _ _⟩
theorem DrL.step {w0 wr w' : World} {C m m' : Nat} {v : Value} {xs : List Int} (h : DrL w0 C m wr v xs) (hC : C < w0.heap.size) (hc : Cur w' C m') (hk : KeepG C (C + 1) wr w') : DrL w0 C m' w' v xs :=
  ⟨owns_keepG h.1 hk hC, hc, h.2.2.trans hk⟩
theorem DrL.alloc {w0 wr : World} {C m : Nat} {v : Value} {xs : List Int} (h : DrL w0 C m wr v xs) (o : Obj) : DrL w0 C m (wr.alloc o) v xs :=
  ⟨h.1.alloc o, h.2.1.alloc o, h.2.2.trans (below_g ((Below.refl _ wr).alloc (Nat.le_refl _) o))⟩
theorem DrL.mono {w0 wr : World} {C m m' : Nat} {v : Value} {xs : List Int} (h : DrL w0 C m wr v xs) (hm : m ≤ m') : DrL w0 C m' wr v xs := ⟨h.1, h.2.1.mono hm, h.2.2⟩
theorem DrL.own {w0 wr : World} {C m : Nat} {v : Value} {xs : List Int} (h : DrL w0 C m wr v xs) : OwI wr w0.heap.size wr.heap.size v xs := ⟨h.1, fun k hk => (h.1.lt k hk).2⟩
theorem DrL.rd {w0 wr : World} {C m : Nat} {v : Value} {xs : List Int} (h : DrL w0 C m wr v xs) : RdI wr wr.heap.size v xs := h.own.rd
theorem DrL.form {w0 wr : World} {C m : Nat} {v : Value} {xs : List Int} (h : DrL w0 C m wr v xs) : ∃ A c, v = .slice A xs.length c := by
  obtain ⟨A, c, hv, _⟩ := Rd.form h.rd
  exact ⟨A, c, hv⟩
theorem DrL.cell {w0 wr : World} {C m g c : Nat} {xs : List Int} (h : DrL w0 C m wr (.slice (some ⟨g, 0, Option.none⟩) xs.length c) xs) {j : Nat} (hj : j < xs.length) : wr.cell? ⟨g, j, Option.none⟩ = some (.int .i64 xs[j]) ∧ wr.frozen? ⟨g, j, Option.none⟩ = false := by
  refine ⟨?_, h.1.frozenAt j⟩
  rw [h.1.cellAt j (by omega)]
  simp [ints, hj]
theorem DrL.put {w0 wr : World} {C m g c : Nat} {xs : List Int} (h : DrL w0 C m wr (.slice (some ⟨g, 0, Option.none⟩) xs.length c) xs) (hC : C < w0.heap.size) (hg : w0.heap.size ≤ g) (j : Nat) (y : Int) :
    DrL w0 C m (wr.setCell ⟨g, j, Option.none⟩ (.int .i64 y)) (.slice (some ⟨g, 0, Option.none⟩) xs.length c) (xs.set j y) := by
  have h1 := (h.1.stored j (.int .i64 y)).1
  have hb : Below w0.heap.size wr (wr.setCell ⟨g, j, Option.none⟩ (.int .i64 y)) := (Below.refl _ _).setCell hg _
  refine ⟨?_, h.2.1.fresh hb hC, h.2.2.fresh hb⟩
  have h2 : ints (xs.set j y) = (ints xs).set j (.int .i64 y) := by unfold ints; rw [List.map_set]
  rw [h2, List.length_set]
  exact h1
end Go.Proofs.Ytjnkdjokbamibaa
/- Typed rows: slices of numbers and phrases of a drawn book, of which only the kind of the cells is known. -/
namespace Go.Proofs.Ytjnkdjokbamibaa
open Go.RowKit
/-- A slice of p to 1000 numbers in a row of numbers from block lo on; what it holds is of no matter. -/
def IntSl (w : World) (lo p : Nat) (u : Value) : Prop :=
  (u = .slice Option.none 0 0 ∧ p = 0) ∨ ∃ (b n c : Nat) (cur : Array Value), u = .slice (some ⟨b, 0, Option.none⟩) n c ∧ lo ≤ b ∧ (p ≤ n ∧ n ≤ 1000 ∧ n ≤ c) ∧ c ≤ 9223372036854775807 ∧ w.heap[b]? = some (.cells cur 3 (0, 0)) ∧ ∀ j, j < n → ∃ z : Int, cur[j]? = some (.int .i64 z)
/-- Rows of numbers stay rows of numbers. -/
def IntsKept (lo : Nat) (w w' : World) : Prop := ∀ (b : Nat) (cur : Array Value), lo ≤ b → w.heap[b]? = some (.cells cur 3 (0, 0)) → ∃ cur' : Array Value, w'.heap[b]? = some (.cells cur' 3 (0, 0)) ∧ ∀ (j : Nat) (z : Int), cur[j]? = some (.int .i64 z) → ∃ z' : Int, cur'[j]? = some (.int .i64 z')
theorem IntsKept.same {lo : Nat} {w w' : World} (h : ∀ (b : Nat) (cur : Array Value), lo ≤ b → w.heap[b]? = some (.cells cur 3 (0, 0)) → w'.heap[b]? = w.heap[b]?) : IntsKept lo w w' := fun b cur hb hg => ⟨cur, (h b cur hb hg).trans hg, fun _ z hz => ⟨z, hz⟩⟩
theorem IntsKept.refl (lo : Nat) (w : World) : IntsKept lo w w := .same fun _ _ _ _ => rfl
theorem IntsKept.trans {lo : Nat} {a b c : World} (h : IntsKept lo a b) (g : IntsKept lo b c) : IntsKept lo a c := fun k cur hk hg => by
  obtain ⟨c1, h1, h2⟩ := h k cur hk hg
  obtain ⟨c2, g1, g2⟩ := g k c1 hk h1
  refine ⟨c2, g1, fun j z hz => ?_⟩
  obtain ⟨z1, hz1⟩ := h2 j z hz
  exact g2 j z1 hz1
theorem IntsKept.keepG {lo C : Nat} {w w' : World} (h : KeepG C (C + 1) w w') (hC : C < lo) : IntsKept lo w w' := .same fun b _ hb hg => h.block b (Array.getElem?_eq_some_iff.1 hg).1 (by omega)
theorem IntsKept.below {lo : Nat} {w w' : World} (h : Below w.heap.size w w') : IntsKept lo w w' := .same fun b _ _ hg => h.block b (Array.getElem?_eq_some_iff.1 hg).1
theorem IntsKept.alloc {lo : Nat} {w w' : World} (h : IntsKept lo w w') (o : Obj) : IntsKept lo w (w'.alloc o) := h.trans (.below ((Below.refl _ _).alloc (Nat.le_refl _) _))
/-- A store into a row of another kind. -/
theorem IntsKept.far {lo : Nat} {w : World} {p : Addr} {u : Value} (h : ∀ cur, w.heap[p.block]? ≠ some (.cells cur 3 (0, 0))) : IntsKept lo w (w.setCell p u) := .same fun b cur _ hg => Below.heap_setCell w p u b (fun e => h cur (by rw [← e]; exact hg))
theorem IntSl.kept {lo p : Nat} {w w' : World} {u : Value} (h : IntSl w lo p u) (hk : IntsKept lo w w') : IntSl w' lo p u := by
  rcases h with h0 | ⟨b, n, c, cur, rfl, hb, hn, hc, hg, hz⟩
  · exact .inl h0
  · obtain ⟨cur', h1, h2⟩ := hk b cur hb hg
    refine .inr ⟨b, n, c, cur', rfl, hb, hn, hc, h1, fun j hj => ?_⟩
    obtain ⟨z, hz1⟩ := hz j hj
    exact h2 j z hz1
theorem IntSl.nil (w : World) (lo : Nat) : IntSl w lo 0 (.slice Option.none 0 0) := .inl ⟨rfl, rfl⟩
theorem IntSl.own {w : World} {lo p : Nat} {v : Value} {xs : List Int} (h : w.ownsRow lo 3 1 v xs.length (ints xs)) (hp : p ≤ xs.length) (hx : xs.length ≤ 1000) : IntSl w lo p v := by
  rcases h.2 with ⟨rfl, hz⟩ | ⟨g, cap, cur, rfl, hl, hg, hn, hm, hs, ht⟩
  · exact .inl ⟨rfl, by omega⟩
  · refine .inr ⟨g, xs.length, cap, cur, rfl, hl, ⟨hp, hx, hn⟩, by unfold maxLen at hm; omega, hg, fun j hj => ⟨xs[j], ?_⟩⟩
    have h1 : (ints xs)[j]? = some (.int .i64 xs[j]) := by simp [ints, hj]
    rw [← ht, List.getElem?_take, if_pos (by omega)] at h1
    simpa using h1
theorem IntSl.zero {w : World} {lo p : Nat} {u : Value} (h : IntSl w lo p u) : IntSl w lo 0 u := by
  rcases h with ⟨rfl, _⟩ | ⟨b, n, c, cur, h1, h2, h3, h4⟩
  · exact .inl ⟨rfl, rfl⟩
  · exact .inr ⟨b, n, c, cur, h1, h2, ⟨Nat.zero_le _, h3.2⟩, h4⟩
theorem IntSl.form {w : World} {lo p : Nat} {u : Value} (h : IntSl w lo p u) : ∃ A n c, u = .slice A n c ∧ p ≤ n ∧ n ≤ 1000 := by
  rcases h with ⟨rfl, h0⟩ | ⟨b, n, c, cur, rfl, _, h3, _⟩
  · exact ⟨_, _, _, rfl, by omega, by omega⟩
  · exact ⟨_, _, _, rfl, h3.1, h3.2.1⟩
theorem IntSl.rd {w : World} {lo p : Nat} {u : Value} (h : IntSl w lo p u) : ∃ xs : List Int, RdI w w.heap.size u xs := by
  rcases h with ⟨rfl, _⟩ | ⟨b, n, c, cur, rfl, hb, hn, hc, hg, hz⟩
  · exact ⟨[], (owI_nil w 0 w.heap.size).rd⟩
  · have hz' : ∃ f : Nat → Int, ∀ j, j < n → cur[j]? = some (.int .i64 (f j)) := by
      refine ⟨fun j => if h : j < n then Classical.choose (hz j h) else 0, fun j hj => ?_⟩
      dsimp only
      rw [dif_pos hj]
      exact Classical.choose_spec (hz j hj)
    obtain ⟨f, hf⟩ := hz'
    have hl : ((List.range n).map f).length = n := by simp
    refine ⟨(List.range n).map f, by simp, some ⟨b, 0, Option.none⟩, c, by rw [hl], by rw [hl]; exact hn.2.2, by unfold maxLen; omega, fun _ => ⟨b, 0, rfl, (Array.getElem?_eq_some_iff.1 hg).1, fun j x hx => ?_⟩⟩
    rw [show (0 : Nat) + j = j by omega, cell_of_row w b j cur 3 (0, 0) hg]
    unfold ints at hx
    rw [List.map_map, List.getElem?_map] at hx
    by_cases hj : j < n
    · rw [List.getElem?_range hj] at hx
      rw [hf j hj]
      exact hx
    · rw [List.getElem?_eq_none (by simp; omega)] at hx; cases hx
/-- A row of n phrases of the call's own, of which only the kind is known. -/
def BookR (w : World) (lo p : Nat) (v : Value) (n : Nat) : Prop := ∃ (ts : List ByteArray) (us : List Value), ts.length = n ∧ us.length = n ∧ w.ownsRow lo 40 2 v n (zipC ts us) ∧ (∀ t ∈ ts, t.size ≤ 1000) ∧ ∀ u ∈ us, IntSl w lo p u
theorem BookR.nil (w : World) (lo p : Nat) : BookR w lo p (.slice Option.none 0 0) 0 := ⟨[], [], rfl, rfl, World.ownsRow_nil _ _ _ _, by simp, by simp⟩
theorem BookR.step {w w' : World} {lo p C n : Nat} {v : Value} (h : BookR w lo p v n) (hk : KeepG C (C + 1) w w') (hC : C < lo) : BookR w' lo p v n := by
  obtain ⟨ts, us, h1, h2, h3, h4, h5⟩ := h
  exact ⟨ts, us, h1, h2, owns_keepG h3 hk hC, h4, fun u hu => (h5 u hu).kept (.keepG hk hC)⟩
theorem BookR.zero {w : World} {lo p n : Nat} {v : Value} (h : BookR w lo p v n) : BookR w lo 0 v n := by
  obtain ⟨ts, us, h1, h2, h3, h4, h5⟩ := h
  exact ⟨ts, us, h1, h2, h3, h4, fun u hu => (h5 u hu).zero⟩
theorem BookR.rd {w : World} {lo p n : Nat} {v : Value} (h : BookR w lo p v n) : ∃ ps : List Phr, ps.length = n ∧ RdPS w w.heap.size v ps := by
  classical
  obtain ⟨ts, us, h1, h2, h3, h4, h5⟩ := h
  have hx : ∃ f : Value → List Int, ∀ u ∈ us, RdI w w.heap.size u (f u) := by
    refine ⟨fun u => if h : u ∈ us then Classical.choose (h5 u h).rd else [], fun u hu => ?_⟩
    dsimp only
    rw [dif_pos hu]
    exact Classical.choose_spec (h5 u hu).rd
  obtain ⟨f, hf⟩ := hx
  have ht : txts (ts.zip (us.map f)) = ts := by unfold txts; rw [List.map_fst_zip]; simp; omega
  have hs : sigs (ts.zip (us.map f)) = us.map f := by unfold sigs; rw [List.map_snd_zip]; simp; omega
  have hl : (ts.zip (us.map f)).length = n := by simp; omega
  refine ⟨ts.zip (us.map f), hl, us, ⟨by rw [hs]; simp, fun i u xs hu hx => ?_⟩, ?_, fun p hp => ?_⟩
  · rw [hs, List.getElem?_map, hu] at hx
    cases hx
    exact hf u (List.mem_of_getElem? hu)
  · rw [ht, hl]
    exact rd_of_owns h3 (fun k hk => (h3.lt k hk).2)
  · have := h4 p.1 (List.of_mem_zip hp).1
    omega
end Go.Proofs.Ytjnkdjokbamibaa
/- A drawn book's row: a phrase is appended; a text, a slice of signals is stored. -/
namespace Go.Proofs.Ytjnkdjokbamibaa
open Go.RowKit
/-- Blocks that are no rows of phrases stand. -/
def FrP (w w' : World) : Prop := ∀ (k : Nat) (c : Array Value) (e : TypeId) (fz : Nat × Nat), w.heap[k]? = some (.cells c e fz) → e ≠ 40 → w'.heap[k]? = some (.cells c e fz)
theorem Blk.frP {w w' : World} {g : Nat} {t : TypeId} {cs : List Value} (h : Blk w g t cs) (hf : FrP w w') (h1 : t ≠ 40) : Blk w' g t cs := hf _ _ _ _ h h1
theorem FrP.ints {w w' : World} (h : FrP w w') (lo : Nat) : IntsKept lo w w' := .same fun b cur _ hg => (h b cur 3 (0, 0) hg (by decide)).trans hg.symm
theorem BookR.form {w : World} {lo p n : Nat} {v : Value} (h : BookR w lo p v n) : ∃ A c, v = .slice A n c := by
  obtain ⟨ps, h1, h2⟩ := h.rd
  obtain ⟨A, c, h3, _⟩ := h2.form
  exact ⟨A, c, by rw [h3, h1]⟩
theorem BookR.at_ {w : World} {lo p n g c : Nat} (h : BookR w lo p (.slice (some ⟨g, 0, Option.none⟩) n c) n) {j : Nat} (hj : j < n) :
    ∃ (t : ByteArray) (u : Value), w.cell? ⟨g, j * 2, Option.none⟩ = some (.string t) ∧ w.cell? ⟨g, j * 2 + 1, Option.none⟩ = some u ∧ IntSl w lo p u ∧ t.size ≤ 1000 ∧ w.frozen? ⟨g, j * 2, Option.none⟩ = false ∧ w.frozen? ⟨g, j * 2 + 1, Option.none⟩ = false := by
  obtain ⟨ts, us, h1, h2, h3, h4, h5⟩ := h
  have ht : ts[j]? = some ts[j] := by simp [show j < ts.length by omega]
  have hu : us[j]? = some us[j] := by simp [show j < us.length by omega]
  have hz := zipC_at ts us j _ _ ht hu
  exact ⟨ts[j], us[j], (h3.cellAt _ (by omega)).trans hz.1, (h3.cellAt _ (by omega)).trans hz.2, h5 _ (List.mem_of_getElem? hu), h4 _ (List.mem_of_getElem? ht), h3.frozenAt _, h3.frozenAt _⟩
/-- A store elsewhere. -/
theorem BookR.far {w : World} {lo k n : Nat} {v : Value} (h : BookR w lo k v n) {p : Addr} {u : Value} {cur : Array Value} {e : TypeId} {fz : Nat × Nat} (hg : w.heap[p.block]? = some (.cells cur e fz)) (he : e ≠ 40 ∨ v.ownBlock ≠ some p.block) (hk : IntsKept lo w (w.setCell p u)) : BookR (w.setCell p u) lo k v n := by
  obtain ⟨ts, us, h1, h2, h3, h4, h5⟩ := h
  refine ⟨ts, us, h1, h2, ⟨h3.1, ?_⟩, h4, fun u' hu' => (h5 u' hu').kept hk⟩
  rcases h3.2 with h6 | ⟨g, cap, cur', rfl, hl, hg', rest⟩
  · exact .inl h6
  · have hne : g ≠ p.block := by
      rintro rfl
      rcases he with he | he
      · rw [hg] at hg'; cases hg'; exact he rfl
      · exact he rfl
    exact .inr ⟨g, cap, cur', rfl, hl, (Below.heap_setCell w p u g hne).trans hg', rest⟩
end Go.Proofs.Ytjnkdjokbamibaa
/- A row of phrases that the call appends to: one phrase more, a slice of phrases more. -/
namespace Go.Proofs.Ytjnkdjokbamibaa
open Go.RowKit
theorem OwI.frP {w w' : World} {lo hi : Nat} {v : Value} {xs : List Int} (h : OwI w lo hi v xs) (hf : FrP w w') : OwI w' lo hi v xs := by
  refine ⟨⟨h.1.1, ?_⟩, h.2⟩
  rcases h.1.2 with hn | ⟨g, cap, cur, rfl, hl, hg, rest⟩
  · exact .inl hn
  · exact .inr ⟨g, cap, cur, rfl, hl, hf _ _ _ _ hg (by decide), rest⟩
theorem RowsO.frP {w w' : World} {lo hi : Nat} {us : List Value} {xss : List (List Int)} (h : RowsO w lo hi us xss) (hf : FrP w w') : RowsO w' lo hi us xss :=
  ⟨h.1, fun i u xs hu hx => (h.2.1 i u xs hu hx).frP hf, h.2.2⟩
theorem El.frP {a w w' : World} {B : Nat} {u : Value} {xs : List Int} (h : El w B u xs) (hb : Below B a w) (hb' : Below B a w') (hs : w.heap.size ≤ w'.heap.size) (hf : FrP w w') : El w' B u xs := by
  obtain ⟨⟨h0, A, c, h1, h2, h3, h4⟩, h5⟩ := h
  refine ⟨⟨h0, A, c, h1, h2, h3, fun hn => ?_⟩, fun b off n c hu hn => ?_⟩
  · obtain ⟨b, off, hA, hbl, hc⟩ := h4 hn
    refine ⟨b, off, hA, by omega, fun j u hu => ?_⟩
    rcases h5 b off _ _ (by rw [h1, hA]) hn with h6 | ⟨cur, fz, h6⟩
    · rw [hb'.cell (p := ⟨b, off + j, Option.none⟩) h6, ← hb.cell (p := ⟨b, off + j, Option.none⟩) h6]
      exact hc j u hu
    · have h7 := hf _ _ _ _ h6 (by decide)
      rw [← hc j u hu, cell_of_row w b (off + j) cur _ fz h6, cell_of_row w' b (off + j) cur _ fz h7]
  · rcases h5 b off n c hu hn with h6 | ⟨cur, fz, h6⟩
    · exact .inl h6
    · exact .inr ⟨cur, fz, hf _ _ _ _ h6 (by decide)⟩
/-- The slice values us read as the signals of ps. -/
def Els (w : World) (B : Nat) (us : List Value) (ps : List Phr) : Prop := us.length = ps.length ∧ ∀ (i : Nat) (u : Value) (p : Phr), us[i]? = some u → ps[i]? = some p → El w B u p.2
theorem Els.nil (w : World) (B : Nat) : Els w B [] [] := ⟨rfl, fun i u p hu _ => by simp at hu⟩
theorem Els.append {w : World} {B : Nat} {us vs : List Value} {ps qs : List Phr} (h : Els w B us ps) (g : Els w B vs qs) : Els w B (us ++ vs) (ps ++ qs) := by
  refine ⟨by simp [h.1, g.1], fun i u p hu hp => ?_⟩
  rcases Nat.lt_or_ge i us.length with hi | hi
  · rw [List.getElem?_append_left hi] at hu
    rw [List.getElem?_append_left (by have := h.1; omega)] at hp
    exact h.2 i u p hu hp
  · rw [List.getElem?_append_right hi] at hu
    rw [List.getElem?_append_right (by have := h.1; omega), ← h.1] at hp
    exact g.2 _ u p hu hp
theorem Els.one {w : World} {B : Nat} {u : Value} {p : Phr} (h : El w B u p.2) : Els w B [u] [p] := by
  refine ⟨rfl, fun i u' p' hu hp => ?_⟩
  cases i with
  | zero => simp at hu hp; subst hu hp; exact h
  | succ i => simp at hu
theorem Els.frP {a w w' : World} {B : Nat} {us : List Value} {ps : List Phr} (h : Els w B us ps) (hb : Below B a w) (hb' : Below B a w') (hs : w.heap.size ≤ w'.heap.size) (hf : FrP w w') : Els w' B us ps :=
  ⟨h.1, fun i u p hu hp => (h.2 i u p hu hp).frP hb hb' hs hf⟩
theorem Els.below {w w' : World} {B : Nat} {us : List Value} {ps : List Phr} (h : Els w B us ps) (hB : B ≤ w.heap.size) (hb : Below w.heap.size w w') : Els w' B us ps :=
  ⟨h.1, fun i u p hu hp => (h.2 i u p hu hp).below hB hb⟩
theorem zipC_app : ∀ (ts : List ByteArray) (us : List Value) (tt : List ByteArray) (vs : List Value), us.length = ts.length → zipC (ts ++ tt) (us ++ vs) = zipC ts us ++ zipC tt vs
  | [], [], _, _, _ => rfl
  | [], _ :: _, _, _, h => by simp at h
  | _ :: _, [], _, _, h => by simp at h
  | t :: ts, u :: us, tt, vs, h => by
    simp only [List.cons_append, zipC, zipC_app ts us tt vs (by simpa using h)]
theorem zipC_flat {ts : List ByteArray} {us : List Value} : ∀ u ∈ zipC ts us, (∃ t : ByteArray, u = .string t) ∨ u ∈ us := by
  induction ts generalizing us with
  | nil => intro u h; simp [zipC] at h
  | cons t ts ih =>
    cases us with
    | nil => intro u h; simp [zipC] at h
    | cons v us =>
      intro u h
      simp only [zipC, List.mem_cons] at h
      rcases h with rfl | rfl | h
      · exact .inl ⟨t, rfl⟩
      · exact .inr (by simp)
      · rcases ih u h with h | h
        · exact .inl h
        · exact .inr (by simp [h])
/-- v is a row of phrases, appended to since the world w; below block number B nothing has turned. -/
def GrowP (w : World) (B : Nat) (wr : World) (v : Value) (ps : List Phr) : Prop :=
  (∃ us : List Value, Els wr B us ps ∧ wr.ownsRow B 40 2 v ps.length (zipC (txts ps) us)) ∧ TxtOk ps ∧ Below B w wr ∧ B ≤ wr.heap.size
theorem TxtOk.nil : TxtOk [] := fun p hp => by cases hp
theorem TxtOk.append {ps qs : List Phr} (h : TxtOk ps) (g : TxtOk qs) : TxtOk (ps ++ qs) := fun p hp => by
  rcases List.mem_append.1 hp with hp | hp
  · exact h p hp
  · exact g p hp
theorem GrowP.start (w : World) {B : Nat} (hB : B = w.heap.size) : GrowP w B w (.slice Option.none 0 0) [] := by
  subst hB
  exact ⟨⟨[], Els.nil _ _, World.ownsRow_nil _ _ _ _⟩, TxtOk.nil, Below.refl _ _, Nat.le_refl _⟩
theorem GrowP.belowR {w wr wr' : World} {B : Nat} {v : Value} {ps : List Phr} (h : GrowP w B wr v ps) (hb : Below wr.heap.size wr wr') : GrowP w B wr' v ps := by
  obtain ⟨⟨us, h1, h3⟩, h4, h5, h6⟩ := h
  exact ⟨⟨us, h1.below h6 hb, owns_below h3 (fun k hk => (h3.lt k hk).2) hb (Nat.le_refl _)⟩, h4, h5.trans (hb.mono h6), Nat.le_trans h6 hb.size⟩
theorem GrowP.alloc {w wr : World} {B : Nat} {v : Value} {ps : List Phr} (h : GrowP w B wr v ps) (o : Obj) : GrowP w B (wr.alloc o) v ps := h.belowR ((Below.refl _ _).alloc (Nat.le_refl _) _)
theorem GrowP.rd {w wr : World} {B : Nat} {v : Value} {ps : List Phr} (h : GrowP w B wr v ps) : RdPS wr wr.heap.size v ps := by
  obtain ⟨⟨us, h1, h3⟩, h4, h5, h6⟩ := h
  refine ⟨us, ⟨by simp [sigs, h1.1], fun i u xs hu hx => ?_⟩, rd_of_owns h3 (fun k hk => (h3.lt k hk).2), h4⟩
  unfold sigs at hx
  rw [List.getElem?_map] at hx
  cases hp : ps[i]? with
  | none => rw [hp] at hx; cases hx
  | some p => rw [hp] at hx; cases hx; exact (h1.2 i u p hu hp).1
theorem GrowP.form {w wr : World} {B : Nat} {v : Value} {ps : List Phr} (h : GrowP w B wr v ps) : ∃ A c, v = .slice A ps.length c ∧ ps.length ≤ 9223372036854775807 := by
  obtain ⟨A, c, hv, _, hm⟩ := h.rd.form
  exact ⟨A, c, hv, hm⟩
theorem growP_own {w wr : World} {lo B : Nat} {v : Value} {ps : List Phr} (h : OwPS wr lo wr.heap.size v ps) (hl : B ≤ lo) (hb : Below B w wr) (hB : B ≤ wr.heap.size) : GrowP w B wr v ps := by
  obtain ⟨us, h1, h2, h3, h4⟩ := h
  refine ⟨⟨us, ⟨by simpa [sigs] using h1.1, fun i u p hu hp => ?_⟩, ⟨h2.1, ?_⟩⟩, h3, hb, hB⟩
  · exact el_own (h1.2.1 i u p.2 hu (by simp [sigs, hp]))
  · rcases h2.2 with hn | ⟨g, cap, cur, rfl, hg, rest⟩
    · exact .inl hn
    · exact .inr ⟨g, cap, cur, rfl, by omega, rest⟩
theorem grow_frP {wr wr1 w' : World} {B n : Nat} {v : Value} {cs : List Value} (h3 : wr.ownsRow B 40 2 v n cs) (hb : Below wr.heap.size wr wr1) (hgr : World.grownBy wr1 w' v.ownBlock) : FrP wr w' := by
  intro k c e fz hk e1
  have hlt := (Array.getElem?_eq_some_iff.1 hk).1
  rw [hgr.block k (by have := hb.size; omega) (fun hv => ?_), hb.block k hlt]
  · exact hk
  · rcases h3.2 with ⟨rfl, _⟩ | ⟨g, cap, cur, rfl, _, hg, _⟩
    · cases hv
    · cases hv
      rw [hk] at hg
      cases hg
      exact e1 rfl
theorem els_old {w : World} {hi B : Nat} {us : List Value} {ps : List Phr} (h : RowsR w hi us (sigs ps)) (hB : hi ≤ B) (hs : B ≤ w.heap.size) : Els w B us ps :=
  ⟨by simpa [sigs] using h.1, fun i u p hu hp => el_old ((h.2 i u p.2 hu (by simp [sigs, hp])).mono hB) hs⟩
theorem rows_one {w : World} {hi : Nat} {us : List Value} {xss : List (List Int)} (h : RowsR w hi us xss) : ∀ u ∈ us, u.oneCell' = true := fun u hu => by
  obtain ⟨j, hj⟩ := List.getElem?_of_mem hu
  have hl := (List.getElem?_eq_some_iff.1 hj).1
  have hjl : j < xss.length := by have := h.1; omega
  have hx : xss[j]? = some xss[j] := List.getElem?_eq_getElem hjl
  obtain ⟨_, A, c, rfl, _⟩ := h.2 j u _ hj hx
  rfl
theorem zip_one {ts : List ByteArray} {us : List Value} (h : ∀ u ∈ us, u.oneCell' = true) : ∀ u ∈ zipC ts us, u.oneCell' = true := fun u hu => by
  rcases zipC_flat u hu with ⟨t, rfl⟩ | hu
  · rfl
  · exact h u hu
/-- A row of phrases of the call's own, each with signals of its own. -/
def GrowO (w : World) (B : Nat) (wr : World) (v : Value) (ps : List Phr) : Prop :=
  (∃ us : List Value, RowsO wr B wr.heap.size us (sigs ps) ∧ wr.ownsRow B 40 2 v ps.length (zipC (txts ps) us)) ∧ TxtOk ps ∧ Below B w wr ∧ B ≤ wr.heap.size
theorem GrowO.start (w : World) {B : Nat} (hB : B = w.heap.size) : GrowO w B w (.slice Option.none 0 0) [] := by
  subst hB
  exact ⟨⟨[], RowsO.nil _ _ _, World.ownsRow_nil _ _ _ _⟩, TxtOk.nil, Below.refl _ _, Nat.le_refl _⟩
theorem GrowO.own {w wr : World} {B : Nat} {v : Value} {ps : List Phr} (h : GrowO w B wr v ps) : OwPS wr B wr.heap.size v ps := by
  obtain ⟨⟨us, h1, h3⟩, h4, h5, h6⟩ := h
  exact ⟨us, h1, h3, h4, fun k hk => (h3.lt k hk).2⟩
theorem GrowO.form {w wr : World} {B : Nat} {v : Value} {ps : List Phr} (h : GrowO w B wr v ps) : ∃ A c, v = .slice A ps.length c ∧ ps.length ≤ 9223372036854775807 := by
  obtain ⟨A, c, hv, _, hm⟩ := h.own.rd.form
  exact ⟨A, c, hv, hm⟩
/-- Where phrases come from: their signals lie in old memory or in blocks of ints. -/
def SrcP (w : World) (B : Nat) (u : Value) (qs : List Phr) : Prop := ∃ vs hi, Els w B vs qs ∧ Rd w hi 2 u qs.length (zipC (txts qs) vs) ∧ TxtOk qs ∧ ∀ x ∈ vs, x.oneCell' = true
theorem src_old {w : World} {hi B : Nat} {u : Value} {qs : List Phr} (h : RdPS w hi u qs) (hB : hi ≤ B) (hs : B ≤ w.heap.size) : SrcP w B u qs := by
  obtain ⟨vs, h1, h2, h3⟩ := h
  exact ⟨vs, hi, els_old h1 hB hs, h2, h3, rows_one h1⟩
theorem src_one {w : World} {B g : Nat} {t : ByteArray} {xs : List Int} {A : Option Addr} {n c : Nat} (h : El w B (.slice A n c) xs) (hs : B ≤ w.heap.size) (hg : g = w.heap.size) (ht : t.size ≤ 9223372036854775807) :
    SrcP (w.alloc (.cells #[.string t, .slice A n c] 40)) B (.slice (some ⟨g, 0, Option.none⟩) 1 1) [(t, xs)] := by
  subst hg
  refine ⟨[.slice A n c], w.heap.size + 1, Els.one (h.below hs ((Below.refl _ _).alloc (Nat.le_refl _) _)), ⟨rfl, _, 1, rfl, Nat.le_refl _, by decide, fun _ => ⟨w.heap.size, 0, rfl, by omega, fun j u hj => ?_⟩⟩, fun p hp => by simp at hp; subst hp; exact ht, fun x hx => by simp at hx; subst hx; rfl⟩
  rw [show (0 : Nat) + j = j by omega, (Blk.new w 40 #[.string t, .slice A n c]).cell j]
  exact hj
/-- Phrases are appended to a row of the call's own: the run. -/
theorem run_appPS {w : World} {B : Nat} {v u : Value} {n : Nat} {cs : List Value} {qs : List Phr} (ty : TypeId) (hown : w.ownsRow B 40 2 v n cs) (hB : B ≤ w.heap.size) {vs : List Value} {hi : Nat} (hR : Rd w hi 2 u qs.length (zipC (txts qs) vs)) (h1c : ∀ x ∈ vs, x.oneCell' = true) (hlen : n + qs.length ≤ 1048577) :
    ∃ v' w', (Builtin.append_ #[26, 26] ty #[v, u]).run Try.prog w = .ok v' w' ∧ w'.ownsRow B 40 2 v' (n + qs.length) (cs ++ zipC (txts qs) vs) ∧ w.grownBy w' v.ownBlock := by
  obtain ⟨i, hi0, hz0, hz1, hz2⟩ := info_parts info_phr
  obtain ⟨hl, A, c, rfl, hc1, hc2, hcell⟩ := hR
  rcases A with _ | ad
  · have h0 : qs = [] := by
      rcases Nat.eq_zero_or_pos qs.length with h | h
      · exact List.eq_nil_of_length_eq_zero h
      · obtain ⟨b, off, e, _⟩ := hcell h; cases e
    subst h0
    exact ⟨v, w, run_append_nil B 26 ty 40 i 2 Try.underlying26 hi0 v n cs hown c, by simpa [txts, zipC] using hown, World.grownBy.refl _ _⟩
  · have hnews : ∀ j u, (zipC (txts qs) vs)[j]? = some u → w.cell? (ad.add j) = some u := by
      intro j u hj
      rcases Nat.eq_zero_or_pos qs.length with h | h
      · have hz : zipC (txts qs) vs = [] := List.eq_nil_of_length_eq_zero (by rw [h] at hl; omega)
        rw [hz] at hj; simp at hj
      · obtain ⟨b, off, e, _, hcc⟩ := hcell h
        cases e
        rw [Go.WideShapes.add_plain]; exact hcc j u hj
    obtain ⟨v', w', hr, ho, hg, _⟩ := run_append_own (P := Try.prog) w B 26 ty 40 i (.agg #[.string { data := #[] }, .slice Option.none 0 0]) 2 40 Try.underlying26 hi0 hz0 hz1 hz2 rfl (by decide) v n cs hown ad qs.length c (zipC (txts qs) vs) (by simpa using hl) hnews
      (zip_one h1c) (by unfold maxLen; omega) (by omega) hB
    exact ⟨v', w', hr, ho, hg⟩
/-- The same at a step of a region that draws its order. -/
theorem step_GrowP {w0 w : World} {B : Nat} {v u : Value} {ps qs : List Phr} {ops : Array Oper} {o : Oper} {a : Act} {K : Act → World → Prop} {Q : Exit → Act → World → Prop} {E : Prop} (hgd : o.guard = Option.none) (s x : Operand)
    (ho : o.op = .call { callee := .builtin .append, args := #[s, x], argTypes := #[26, 26] }) (hG : GrowP w0 B w v ps) (hS : SrcP w B u qs) (hlen : ps.length + qs.length ≤ 1048577) (hs : a.eval s = v) (hx : a.eval x = u)
    (h : ∀ v' w', GrowP w0 B w' v' (ps ++ qs) → w.heap.size ≤ w'.heap.size → K (a.put o.dst v') w') : if Region.wanted o (yielded ops a.tmps) = true then Oper.wp Try.prog o a w K Q else E := by
  have hw : Region.wanted o (yielded ops a.tmps) = true := by simp [Region.wanted, hgd]
  rw [if_pos hw]
  obtain ⟨⟨us, h1, h3⟩, h2, h4, h5⟩ := hG
  obtain ⟨vs, hi, g1, g2, g3, g4⟩ := hS
  obtain ⟨v', w', hr, k1, k2⟩ := run_appPS o.type h3 h5 g2 g4 hlen
  unfold Oper.wp execOp
  simp only [ho, resolve, invoke, builtin, Sem.run_bind, Sem.run_pure, Result.andThen_ok, List.map_toArray, List.map_cons, List.map_nil, hs, hx, hr]
  have hfr : FrP w w' := grow_frP h3 (Below.refl _ _) k2
  have hsz := k2.size
  have hb' : Below B w0 w' := h4.grown k2 h5 (fun k hk => (h3.lt k hk).1)
  refine h v' w' ⟨⟨us ++ vs, (h1.frP h4 hb' hsz hfr).append (g1.frP h4 hb' hsz hfr), ?_⟩, h2.append g3, hb', by omega⟩ hsz
  unfold txts
  rw [List.map_append, zipC_app _ _ _ _ (by simp [h1.1]), List.length_append]
  simpa [txts] using k1
theorem step_GrowO {w0 w1 w : World} {B g : Nat} {v : Value} {ps : List Phr} {t : ByteArray} {xs : List Int} {ops : Array Oper} {o : Oper} {a : Act} {K : Act → World → Prop} {Q : Exit → Act → World → Prop} {E : Prop} {A : Option Addr} {n c : Nat} (hgd : o.guard = Option.none) (s x : Operand)
    (ho : o.op = .call { callee := .builtin .append, args := #[s, x], argTypes := #[26, 26] }) (hG : GrowO w0 B w1 v ps) (hb0 : Below w1.heap.size w1 w) (hu : OwI w w1.heap.size w.heap.size (.slice A n c) xs) (ht : t.size ≤ 9223372036854775807) (hlen : ps.length < 1048577)
    (hs : a.eval s = v) (hg : g = w.heap.size) (hx : a.eval x = .slice (some ⟨g, 0, Option.none⟩) 1 1)
    (h : ∀ v' w', GrowO w0 B w' v' (ps ++ [(t, xs)]) → FrP w w' → w.heap.size ≤ w'.heap.size → K (a.put o.dst v') w') : if Region.wanted o (yielded ops a.tmps) = true then Oper.wp Try.prog o a (w.alloc (.cells #[.string t, .slice A n c] 40)) K Q else E := by
  have hw : Region.wanted o (yielded ops a.tmps) = true := by simp [Region.wanted, hgd]
  rw [if_pos hw]
  subst hg
  obtain ⟨⟨us, h1, h3⟩, h2, h4, h5⟩ := hG
  have hs0 := hb0.size
  have h3r := owns_below h3 (fun k hk => (h3.lt k hk).2) hb0 (Nat.le_refl _)
  have hel : El w B (.slice A n c) xs := el_own hu
  obtain ⟨vs, hi, g1, g2, g3, g4⟩ := src_one (t := t) hel (by omega) rfl ht
  obtain ⟨v', w', hr, k1, k2⟩ := run_appPS (u := .slice (some ⟨w.heap.size, 0, Option.none⟩) 1 1) (qs := [(t, xs)]) o.type (h3r.alloc (.cells #[.string t, .slice A n c] 40)) (by simp; omega) (hi := w.heap.size + 1) (vs := [.slice A n c]) ⟨rfl, _, 1, rfl, Nat.le_refl _, by decide, fun _ => ⟨w.heap.size, 0, rfl, by omega, fun j u hj => by
    rw [show (0 : Nat) + j = j by omega, (Blk.new w 40 #[.string t, .slice A n c]).cell j]; exact hj⟩⟩ (fun x hx => by simp at hx; subst hx; rfl) (by simp; omega)
  unfold Oper.wp execOp
  simp only [ho, resolve, invoke, builtin, Sem.run_bind, Sem.run_pure, Result.andThen_ok, List.map_toArray, List.map_cons, List.map_nil, hs, hx, hr]
  have hsz := k2.size
  have hsz2 : w.heap.size + 1 ≤ w'.heap.size := by simpa using hsz
  have hfr : FrP w w' := grow_frP h3r ((Below.refl _ _).alloc (Nat.le_refl _) _) k2
  have hb' : Below B w0 w' := ((h4.trans (hb0.mono h5)).alloc (by omega) _).grown k2 (by simp; omega) (fun k hk => ((h3r.alloc (.cells #[.string t, .slice A n c] 40)).lt k hk).1)
  refine h v' w' ⟨⟨us ++ [.slice A n c], ?_, ?_⟩, h2.append (fun p hp => by simp at hp; subst hp; exact ht), hb', by omega⟩ hfr (by omega)
  · have h6 := ((h1.below hb0 (Nat.le_refl _)).snoc hu h5 hs0).frP hfr
    have h7 := h6.mono (lo' := B) (hi' := w'.heap.size) (Nat.le_refl _) (by omega)
    simpa [sigs] using h7
  · unfold txts
    have hul : us.length = ps.length := by simpa [sigs] using h1.1
    rw [List.map_append, List.map_cons, List.map_nil, zipC_append _ _ _ _ (by simp [hul])]
    simpa [txts, zipC] using k1
end Go.Proofs.Ytjnkdjokbamibaa
/- Contracts: phrases with no memory shared; a book of phrases, if it is valid; of the reference. -/
namespace Go.Proofs.Ytjnkdjokbamibaa
open Go.RowKit
set_option maxRecDepth 100000 in
set_option maxHeartbeats 4000000 in
theorem bkOwn_any (ps : List Phr) (v : Value) (hi : Nat) (w : World) (h : RdPS w hi v ps) (hh : hi ≤ w.heap.size) (hn : ps.length ≤ 1048576) (hsz : ∀ p ∈ ps, p.2.length ≤ 1048576) :
    Calls Try.prog 61 #[v] w (RetOwPS ps w) := by
  obtain ⟨A, c, rfl, hc, hm⟩ := h.form
  have H := Lib.hid h
  have HSZ := Lib.hid hsz
  clear h hsz
  go_enter Try.func61, Try.ntmps61
  go_wp2_with fail
  go_loopw [3, 8] (fun o i wr => ∃ (k : Nat) (A2 : Option Addr) (c2 : Nat), k ≤ ps.length ∧ o = .slice A2 k c2 ∧ i = .int .i64 (k : Int) ∧ Hid (GrowO w w.heap.size wr (.slice A2 k c2) (ps.take k))) (fun _ i _ => ps.length - (intOf i).toNat)
  case atStart => exact ⟨0, Option.none, 0, Nat.zero_le _, rfl, rfl, GrowO.start w rfl⟩
  case round =>
    obtain ⟨k, A2, c2, hk, rfl, rfl, hg⟩ := hrel
    by_cases hlt : k < ps.length
    · have hbr := hg.out.2.2.1
      have hs := hg.out.2.2.2
      obtain ⟨b1, o1, c1, a, t, xs, hv, _, hx, hcell1, hcell2, hra, hts⟩ := (H.out.below hbr hh).at_ hlt
      cases hv
      have hxl := HSZ.out (t, xs) (List.mem_of_getElem? hx)
      have HX := Lib.hid hx
      obtain ⟨A3, c3, rfl, hc3, hm3⟩ := Rd.form hra
      have hbx : Below wr.heap.size wr (wr.alloc (.cells #[.string t, .slice A3 xs.length c3] 40)) := (Below.refl _ _).alloc (Nat.le_refl _) _
      have HRA := Lib.hid hra
      have q0 : (wr.alloc (.cells #[.string t, .slice A3 xs.length c3] 40)).cell? ⟨wr.heap.size, 0, Option.none⟩ = some (.string t) := (Blk.new wr 40 #[.string t, .slice A3 xs.length c3]).cell 0
      have q1 : (wr.alloc (.cells #[.string t, .slice A3 xs.length c3] 40)).cell? ⟨wr.heap.size, 1, Option.none⟩ = some (.slice A3 xs.length c3) := (Blk.new wr 40 #[.string t, .slice A3 xs.length c3]).cell 1
      have hzx : (wr.alloc (.cells #[.string t, .slice A3 xs.length c3] 40)).heap.size = wr.heap.size + 1 := by simp
      clear hx hra hbr
      go_wp2_with fail
      generalize wr.alloc (.cells #[.string t, .slice A3 xs.length c3] 40) = wx at hbx q0 q1 hzx ⊢
      have hbd : Below wr.heap.size wr wx.drew := hbx.drew
      have hzd : wx.drew.heap.size = wr.heap.size + 1 := hzx
      have hra2 : RdI wx.drew hi (.slice A3 xs.length c3) xs := HRA.out.below hbd (by omega)
      go_region_law (first
        | ((refine step_GrowO (by rfl) (.tmp 12) (.tmp 19) (by rfl) hg.out hb6 hu6 hts (by rw [List.length_take]; omega) (by rfl) (by rfl) (by rfl) ?_; intro v8 w8 hg8 hf8 hs8; obtain ⟨A8, c8, hv8, _⟩ := hg8.form; have HG8 := Lib.hid hg8))
        | ((go_simp; go_at_call 122; refine (l1Own_any xs _ hi _ hra2 (by omega) (by omega)).mono ?_; rintro e w5 ⟨v5, rfl, hu5, hb5⟩; obtain ⟨A5, c5, hv5, _⟩ := hu5.form; subst hv5; have hb6 : Below wr.heap.size wr w5 := hbd.trans (hb5.mono (by omega)); have hu6 := hu5.mono (show wr.heap.size ≤ wx.drew.heap.size by omega) (Nat.le_refl _); have r0 := (hb5.cell (p := ⟨wr.heap.size, 0, Option.none⟩) (by show wr.heap.size < _; omega)).trans q0; have r1 := (hb5.cell (p := ⟨wr.heap.size, 1, Option.none⟩) (by show wr.heap.size < _; omega)).trans q1)))
      all_goals
        subst hv8
        clear hg8 hg
        have hlen : (ps.take k ++ [(t, xs)]).length = k + 1 := by rw [List.length_append, List.length_take]; simp; omega
        rw [hlen] at HG8
        try rw [hlen]
        go_wp2_with fail
        go_roundw
        case rel => exact ⟨k + 1, A8, c8, by omega, rfl, by go_num, by show GrowO _ _ _ _ _; rw [take_snocN HX.out]; exact HG8.out⟩
        case measure => (simp [intOf]; try omega)
    · obtain rfl : k = ps.length := by omega
      have hg2 := hg.out
      rw [List.take_of_length_le (Nat.le_refl _)] at hg2
      go_wp2_with fail
      go_ret
      exact ⟨_, rfl, hg2.own, hg2.2.2.1⟩
/-- A book of the call's own, and a bool. -/
def RetOwBT (ps : List Phr) (b : Bool) (w : World) (e : Ending) (w' : World) : Prop := ∃ u, e = .returned (.tuple #[.agg #[u], .bool b]) ∧ OwPS w' w.heap.size w'.heap.size u ps ∧ Below w.heap.size w w'
theorem owPS_nil (w : World) (lo hi : Nat) : OwPS w lo hi (.slice Option.none 0 0) [] := ⟨[], RowsO.nil _ _ _, World.ownsRow_nil _ _ _ _, TxtOk.nil, fun k hk => by cases hk⟩
def ifO (ps : List Phr) : Option (List Phr) := if bookB ps then some ps else Option.none
theorem OwPS.mono {w : World} {lo hi lo' hi' : Nat} {v : Value} {ps : List Phr} (h : OwPS w lo hi v ps) (h1 : lo' ≤ lo) (h2 : hi ≤ hi') : OwPS w lo' hi' v ps := by
  obtain ⟨us, g1, g2, g3, g4⟩ := h
  refine ⟨us, g1.mono h1 h2, ⟨g2.1, ?_⟩, g3, fun k hk => by have := g4 k hk; omega⟩
  rcases g2.2 with hn | ⟨g, cap, cur, e1, hl, rest⟩
  · exact .inl hn
  · exact .inr ⟨g, cap, cur, e1, by omega, rest⟩
set_option maxRecDepth 100000 in
set_option maxHeartbeats 2000000 in
theorem bkIf_any (ps : List Phr) (v : Value) (hi : Nat) (w : World) (h : RdPS w hi v ps) (hh : hi ≤ w.heap.size) (hn : ps.length ≤ 1048576) (hsz : ∀ p ∈ ps, p.2.length ≤ 1048576) :
    Calls Try.prog 60 #[v] w (RetOwBT ((ifO ps).getD []) (bookB ps) w) := by
  obtain ⟨A, c, rfl, hc, hm⟩ := h.form
  have hR0 : Blk (w.alloc (.cells #[.slice Option.none 0 0] 28)) w.heap.size 28 [.slice Option.none 0 0] := Blk.new w _ _
  have hb0 : Below w.heap.size w (w.alloc (.cells #[.slice Option.none 0 0] 28)) := (Below.refl _ _).alloc (Nat.le_refl _) _
  have hz0 : (w.alloc (.cells #[.slice Option.none 0 0] 28)).heap.size = w.heap.size + 1 := by simp
  have H := Lib.hid (h.below hb0 hh)
  have HSZ := Lib.hid hsz
  clear h hsz
  go_enter Try.func60, Try.ntmps60
  go_wp2_with fail
  generalize w.alloc (.cells #[.slice Option.none 0 0] 28) = wa at hR0 hb0 hz0 H ⊢
  refine (bkOwn_any ps _ hi wa H.out (by omega) hn HSZ.out).mono ?_
  rintro e w1 ⟨u, rfl, hu, hb1⟩
  obtain ⟨A1, c1, rfl, _, _⟩ := hu.rd.form
  have hs1 := hb1.size
  have hR1 := hR0.below hb1 (by omega)
  have hb2 : Below w1.heap.size w1 (w1.alloc (.cells #[.slice A1 ps.length c1] 28)) := (Below.refl _ _).alloc (Nat.le_refl _) _
  have hX2 : Blk (w1.alloc (.cells #[.slice A1 ps.length c1] 28)) w1.heap.size 28 [.slice A1 ps.length c1] := Blk.new w1 _ _
  have hz2 : (w1.alloc (.cells #[.slice A1 ps.length c1] 28)).heap.size = w1.heap.size + 1 := by simp
  have HR2 := Lib.hid (hR1.below hb2 (by omega))
  have HU2 := Lib.hid (hu.below hb2 (Nat.le_refl _))
  have HB2 := Lib.hid ((hb0.trans (hb1.mono (by omega))).trans (hb2.mono (by omega)))
  have hxc := hX2.cell 0
  clear hu hb1 hR1 hR0 hb0 H
  go_wp2_with fail
  generalize w1.alloc (.cells #[.slice A1 ps.length c1] 28) = wb at hb2 hX2 hz2 HR2 HU2 HB2 hxc ⊢
  have cB := bkGood_any ps (.agg #[.slice A1 ps.length c1]) w1.heap.size wb ⟨_, rfl, HU2.out.rd⟩ (by omega)
  have HX2 := Lib.hid hX2
  clear hX2 hb2
  cases hbk : bookB ps
  · rw [hbk] at cB
    have CB := Lib.hid cB
    have HBK := Lib.hid hbk
    clear cB hbk
    refine CB.out.mono ?_
    rintro e w3 ⟨rfl, hb3⟩
    have hr3 := HR2.out.below hb3 (by omega)
    have hrc := hr3.cell 0
    have hrf := hr3.frozen 0
    have c10 := (hr3.set_ 0 (.slice Option.none 0 0)).cell 0
    have HL := Lib.hid ((HB2.out.trans (hb3.mono (by omega))).setCell (p := ⟨w.heap.size, 0, Option.none⟩) (Nat.le_refl _) (.slice Option.none 0 0))
    clear hb3 hr3
    go_wp2_with fail
    refine bodyPost_ret (v := .tuple #[.agg #[.slice Option.none 0 0], .bool false]) (by simp [results, Try.results60, go_sem, c10]) rfl ?_
    exact ⟨_, by rw [HBK.out], by unfold ifO; rw [HBK.out]; exact owPS_nil _ _ _, HL.out⟩
  · rw [hbk] at cB
    have CB := Lib.hid cB
    have HBK := Lib.hid hbk
    clear cB hbk
    refine CB.out.mono ?_
    rintro e w3 ⟨rfl, hb3⟩
    have hr3 := HR2.out.below hb3 (by omega)
    have hx3 := (HX2.out.below hb3 (by omega)).cell 0
    have hu3 := HU2.out.below hb3 (by omega)
    have hs3 := hb3.size
    have hrc := hr3.cell 0
    have hrf := hr3.frozen 0
    have c10 := (hr3.set_ 0 (.slice A1 ps.length c1)).cell 0
    have HL := Lib.hid ((HB2.out.trans (hb3.mono (by omega))).setCell (p := ⟨w.heap.size, 0, Option.none⟩) (Nat.le_refl _) (.slice A1 ps.length c1))
    have hk : Keep w.heap.size (w.heap.size + 1) w3 (w3.setCell ⟨w.heap.size, 0, Option.none⟩ (.slice A1 ps.length c1)) := (Keep.refl _ _ _).setCell (p := ⟨w.heap.size, 0, Option.none⟩) (Nat.le_refl _) (by show w.heap.size < _; omega) _
    have HU := Lib.hid ((hu3.keep hk (.inr (by omega))).mono (show w.heap.size ≤ wa.heap.size by omega) (show w1.heap.size ≤ (w3.setCell ⟨w.heap.size, 0, Option.none⟩ (.slice A1 ps.length c1)).heap.size by rw [hk.size]; omega))
    clear hb3 hr3 hu3 hk
    go_wp2_with fail
    refine bodyPost_ret (v := .tuple #[.agg #[.slice A1 ps.length c1], .bool true]) (by simp [results, Try.results60, go_sem, c10]) rfl ?_
    exact ⟨_, by rw [HBK.out], by unfold ifO; rw [HBK.out]; exact HU.out, HL.out⟩
end Go.Proofs.Ytjnkdjokbamibaa
/- Contracts: AddPhrase, DropPhrase of the reference. -/
namespace Go.Proofs.Ytjnkdjokbamibaa
open Go.RowKit
theorem ifO_get {ps : List Phr} : ((ifO ps).getD []) = if bookB ps then ps else [] := by unfold ifO; cases bookB ps <;> rfl
theorem owB_of {w w' : World} {e : Ending} {ps : List Phr} {b : Bool} (h : RetOwBT ps b w e w') : ∃ v, e = .returned (.tuple #[v, .bool b]) ∧ OwB w' w.heap.size w'.heap.size v ps ∧ Below w.heap.size w w' := by
  obtain ⟨u, h1, h2, h3⟩ := h
  exact ⟨_, h1, ⟨u, rfl, h2⟩, h3⟩
theorem book_len2 {ps : List Phr} (h : bookB ps = true) : ∀ p ∈ ps, p.2.length ≤ 1048576 := fun p hp => by have := (phrOk_sig (bookB_phr h hp)).2.1; omega
theorem src_oneB {w w' : World} {B g : Nat} {t : ByteArray} {xs : List Int} {A : Option Addr} {n c : Nat} (h : El w B (.slice A n c) xs) (hs : B ≤ w.heap.size) (hg : g = w.heap.size) (ht : t.size ≤ 9223372036854775807)
    (hb : Below (w.heap.size + 1) (w.alloc (.cells #[.string t, .slice A n c] 40)) w') : SrcP w' B (.slice (some ⟨g, 0, Option.none⟩) 1 1) [(t, xs)] := by
  subst hg
  have hbw : Below w.heap.size w w' := ((Below.refl _ _).alloc (Nat.le_refl _) _).trans (hb.mono (by omega))
  have hblk := (Blk.new w 40 #[.string t, .slice A n c]).below hb (by omega)
  refine ⟨[.slice A n c], w.heap.size + 1, Els.one (h.below hs hbw), ⟨rfl, _, 1, rfl, Nat.le_refl _, by decide, fun _ => ⟨w.heap.size, 0, rfl, by omega, fun j u hj => ?_⟩⟩, fun p hp => by simp at hp; subst hp; exact ht, fun x hx => by simp at hx; subst hx; rfl⟩
  rw [show (0 : Nat) + j = j by omega, hblk.cell j]
  exact hj
theorem add_is {ps : List Phr} {x : Phr} (h : bookB ps = true) : addO ps x = ifO (addL ps x) ∧ (addO ps x).isSome = bookB (addL ps x) := by
  have h1 : addO ps x = ifO (addL ps x) := by unfold addO ifO; rw [h, Bool.true_and]
  refine ⟨h1, ?_⟩
  rw [h1]; unfold ifO; cases bookB (addL ps x) <;> rfl
set_option maxRecDepth 100000 in
set_option maxHeartbeats 8000000 in
theorem sAddPhrase_any (ps : List Phr) (x : Phr) (v u : Value) (hi : Nat) (w : World) (h : RdB w hi v ps) (g : RdP w hi u x) (hh : hi ≤ w.heap.size) (hxs : x.2.length ≤ 1048576) :
    Calls Try.prog 15 #[v, u] w (RetOwBT ((addO ps x).getD []) (addO ps x).isSome w) := by
  obtain ⟨a, rfl, ha⟩ := h
  obtain ⟨A, c, rfl, hc, hm⟩ := ha.form
  obtain ⟨a2, rfl, ha2, hts⟩ := g
  obtain ⟨A2, c2, rfl, hc2, hm2⟩ := Rd.form ha2
  have HXS : Hid (x.2.length ≤ 1048576) := hxs
  have hba : Below w.heap.size w (((w.alloc (.cells #[.slice A ps.length c] 28)).alloc (.cells #[.string x.1, .slice A2 x.2.length c2] 40)).alloc (.cells #[.slice Option.none 0 0] 28)) := (((Below.refl _ _).alloc (Nat.le_refl _) _).alloc (by simp) _).alloc (by simp; omega) _
  have hX : Blk (((w.alloc (.cells #[.slice A ps.length c] 28)).alloc (.cells #[.string x.1, .slice A2 x.2.length c2] 40)).alloc (.cells #[.slice Option.none 0 0] 28)) w.heap.size 28 [.slice A ps.length c] := ((Blk.new w 28 #[.slice A ps.length c]).alloc _).alloc _
  have hY : Blk (((w.alloc (.cells #[.slice A ps.length c] 28)).alloc (.cells #[.string x.1, .slice A2 x.2.length c2] 40)).alloc (.cells #[.slice Option.none 0 0] 28)) (w.heap.size + 1) 40 [.string x.1, .slice A2 x.2.length c2] := by
    have := (Blk.new (w.alloc (.cells #[.slice A ps.length c] 28)) 40 #[.string x.1, .slice A2 x.2.length c2]).alloc (.cells #[.slice Option.none 0 0] 28)
    simpa using this
  have hR : Blk (((w.alloc (.cells #[.slice A ps.length c] 28)).alloc (.cells #[.string x.1, .slice A2 x.2.length c2] 40)).alloc (.cells #[.slice Option.none 0 0] 28)) (w.heap.size + 2) 28 [.slice Option.none 0 0] := by
    have := Blk.new ((w.alloc (.cells #[.slice A ps.length c] 28)).alloc (.cells #[.string x.1, .slice A2 x.2.length c2] 40)) 28 #[.slice Option.none 0 0]
    simpa using this
  have hz : ((((w.alloc (.cells #[.slice A ps.length c] 28)).alloc (.cells #[.string x.1, .slice A2 x.2.length c2] 40)).alloc (.cells #[.slice Option.none 0 0] 28))).heap.size = w.heap.size + 3 := by simp
  have HA := Lib.hid (ha.below hba hh)
  have HRX := Lib.hid (ha2.below hba hh)
  have hxc := hX.cell 0
  clear ha ha2
  go_enter Try.func15, Try.ntmps15
  go_wp2_with fail
  generalize (((w.alloc (.cells #[.slice A ps.length c] 28)).alloc (.cells #[.string x.1, .slice A2 x.2.length c2] 40)).alloc (.cells #[.slice Option.none 0 0] 28)) = wa at hba hX hY hR hz HA HRX hxc ⊢
  have c2' := bkGood_any ps (.agg #[.slice A ps.length c]) hi wa ⟨_, rfl, HA.out⟩ (by omega)
  cases hbk : bookB ps
  · rw [hbk] at c2'
    have C2 := Lib.hid c2'
    have HBK := Lib.hid hbk
    have HR1 := Lib.hid hR
    have HB1 := Lib.hid hba
    clear c2' hbk hX hY hR hba
    refine C2.out.mono ?_
    rintro e w3 ⟨rfl, hb3⟩
    have HR3 := Lib.hid (HR1.out.below hb3 (by omega))
    have HB3 := Lib.hid (HB1.out.trans (hb3.mono (by omega)))
    clear hb3 hxc HR1 HB1 C2
    have hr3 := HR3.out
    have hrc := hr3.cell 0
    have hrf := hr3.frozen 0
    have c10 := (hr3.set_ 0 (.slice Option.none 0 0)).cell 0
    have HL := Lib.hid (HB3.out.setCell (p := ⟨w.heap.size + 2, 0, Option.none⟩) (by show w.heap.size ≤ w.heap.size + 2; omega) (.slice Option.none 0 0))
    clear hr3
    go_wp2_with fail
    refine bodyPost_ret (v := .tuple #[.agg #[.slice Option.none 0 0], .bool false]) (by simp [results, Try.results15, go_sem, c10]) rfl ?_
    exact ⟨_, by rw [addO_no x HBK.out]; rfl, by rw [addO_no x HBK.out]; exact owPS_nil _ _ _, HL.out⟩
  · rw [hbk] at c2'
    have C2 := Lib.hid c2'
    have HBK := Lib.hid hbk
    have HR1 := Lib.hid hR
    have HX1 := Lib.hid hX
    have HY1 := Lib.hid hY
    have HB1 := Lib.hid hba
    clear c2' hbk hX hY hR hba hxc
    refine C2.out.mono ?_
    rintro e w3 ⟨rfl, hb3⟩
    have hs3 := hb3.size
    have HX3 := Lib.hid (HX1.out.below hb3 (by omega))
    have HY3 := Lib.hid (HY1.out.below hb3 (by omega))
    have HR3 := Lib.hid (HR1.out.below hb3 (by omega))
    have HA3 := Lib.hid (HA.out.below hb3 (by omega))
    have HRX3 := Lib.hid (RdI.below HRX.out hb3 (by omega))
    have HB3 := Lib.hid (HB1.out.trans (hb3.mono (by omega)))
    have hs3h : hi ≤ w3.heap.size := by omega
    clear hb3 HX1 HR1 HY1 HA HRX HB1 C2
    have hbl := bookB_len HBK.out
    obtain ⟨b, off, rfl⟩ : ∃ b off, A = some ⟨b, off, Option.none⟩ := by
      obtain ⟨b, off, c1, _, _, _, hv, _⟩ := HA3.out.at_ (show 0 < ps.length by omega)
      cases hv
      exact ⟨b, off, rfl⟩
    have hxc3 := HX3.out.cell 0
    have hyc3 := HY3.out.cell 0
    go_upto_block 0 with fail
    go_cut [6] (fun i wx => ∃ k : Nat, i = .int .i64 (k : Int) ∧ k ≤ ps.length ∧ Hid (posA ps x.1 = k) ∧ ∃ n, Hid (wx = w3.drewN n))
    case first =>
      go_wp2_with fail
      go_loopw [6] (fun i wr => ∃ k : Nat, k ≤ ps.length ∧ i = .int .i64 (k : Int) ∧ Hid (∀ j, j < k → ∀ p, ps[j]? = some p → ltT p.1 x.1 = true) ∧ ∃ n, wr = w3.drewN n) (fun i _ => ps.length - (intOf i).toNat)
      case atStart => exact ⟨0, Nat.zero_le _, rfl, fun j hj => by omega, 0, rfl⟩
      case round =>
        obtain ⟨k, hk, rfl, hlo, nd, hwq⟩ := hrel
        rename World => wq
        have hxcN : wq.cell? ⟨w.heap.size, 0, Option.none⟩ = some (.slice (some ⟨b, off, Option.none⟩) ps.length c) := by rw [hwq]; exact hxc3
        have hycN : wq.cell? ⟨w.heap.size + 1, 0, Option.none⟩ = some (.string x.1) := by rw [hwq]; exact hyc3
        have HAq : Hid (RdPS wq hi (.slice (some ⟨b, off, Option.none⟩) ps.length c) ps) := by show RdPS _ _ _ _; rw [hwq]; exact HA3.out
        have HWQ := Lib.hid hwq
        clear hxc3 hyc3 hwq HX3 HY3 HR3 HA3 HRX3 HB3
        have hxcD : wq.drew.cell? ⟨w.heap.size, 0, Option.none⟩ = some (.slice (some ⟨b, off, Option.none⟩) ps.length c) := hxcN
        have hycD : wq.drew.cell? ⟨w.heap.size + 1, 0, Option.none⟩ = some (.string x.1) := hycN
        by_cases hlt : k < ps.length
        · obtain ⟨b1, o1, c1, a, t, xs, hv, _, hx, hcell1, _, _, _⟩ := HAq.out.at_ hlt
          cases hv
          have HX := Lib.hid hx
          have hcellD : wq.drew.cell? ⟨b, off + k * 2, Option.none⟩ = some (.string t) := hcell1
          clear hx
          cases hlx : ltT t x.1
          · have hl1 : Op.bytesLess t.toList x.1.toList = false := hlx
            have HPO : Hid (posA ps x.1 = k) := posA_is hk hlo.out (fun p hp => by rw [HX.out] at hp; cases hp; exact hlx)
            have HL1 := Lib.hid hlx
            clear hlx
            go_wp2_with fail
            go_region
            go_wp2_with fail
            go_meet
            exact ⟨k, rfl, hk, HPO, nd + 1, by show _ = _; rw [HWQ.out]; rfl⟩
          · have hl1 : Op.bytesLess t.toList x.1.toList = true := hlx
            have HL1 := Lib.hid hlx
            clear hlx
            go_wp2_with fail
            go_region
            go_wp2_with fail
            go_roundw
            case rel => exact ⟨k + 1, by omega, by go_num, fun j hj p hp => by
              rcases Nat.lt_or_ge j k with h1 | h1
              · exact hlo.out j h1 p hp
              · obtain rfl : j = k := by omega
                rw [HX.out] at hp; cases hp; exact HL1.out, nd + 1, by rw [HWQ.out]; rfl⟩
            case measure => (simp [intOf]; try omega)
        · obtain rfl : k = ps.length := by omega
          have HPO : Hid (posA ps x.1 = ps.length) := posA_is hk hlo.out (fun p hp => by rw [List.getElem?_eq_none (Nat.le_refl _)] at hp; cases hp)
          go_wp2_with fail
          go_region
          go_wp2_with fail
          go_meet
          exact ⟨ps.length, rfl, Nat.le_refl _, HPO, nd + 1, by show _ = _; rw [HWQ.out]; rfl⟩
    case rest =>
      clear hxc3 hyc3
      obtain ⟨k, rfl, hk, HPO, nd, HWQ⟩ := hcut
      rename World => wz
      have HXz : Hid (Blk wz w.heap.size 28 [.slice (some ⟨b, off, Option.none⟩) ps.length c]) := by show Blk _ _ _ _; rw [HWQ.out]; exact HX3.out
      have HYz : Hid (Blk wz (w.heap.size + 1) 40 [.string x.1, .slice A2 x.2.length c2]) := by show Blk _ _ _ _; rw [HWQ.out]; exact HY3.out
      have HRz : Hid (Blk wz (w.heap.size + 2) 28 [.slice Option.none 0 0]) := by show Blk _ _ _ _; rw [HWQ.out]; exact HR3.out
      have HAz : Hid (RdPS wz hi (.slice (some ⟨b, off, Option.none⟩) ps.length c) ps) := by show RdPS _ _ _ _; rw [HWQ.out]; exact HA3.out
      have HRXz : Hid (RdI wz hi (.slice A2 x.2.length c2) x.2) := by show RdI _ _ _ _; rw [HWQ.out]; exact HRX3.out
      have HBz : Hid (Below w.heap.size w wz) := by show Below _ _ _; rw [HWQ.out]; exact HB3.out.trans (bel_drewN _ _ _)
      have hszz : wz.heap.size = w3.heap.size := by rw [HWQ.out]; rfl
      have hszh : hi ≤ wz.heap.size := by omega
      have hsw : w.heap.size + 3 ≤ wz.heap.size := by omega
      clear hszz HWQ HX3 HY3 HR3 HA3 HRX3 HB3
      have hSr : ∀ w', Below wz.heap.size wz w' → SrcP w' wz.heap.size (.slice (if c = k then some ⟨b, off, Option.none⟩ else some ⟨b, off + k * 2, Option.none⟩) (ps.length - k) (c - k)) (ps.drop k) := fun w' hb => by
        have h := (HAz.out.drop (k := k) (by omega)).below hb hszh
        rw [show k = k from rfl] at h
        exact src_old h hszh hb.size
      have HSR := Lib.hid hSr
      clear hSr
      have hcut : RdPS wz.drew hi (.slice (some ⟨b, off, Option.none⟩) k (c)) (ps.take k) := (HAz.out.below ((Below.refl _ _).drew : Below wz.heap.size wz wz.drew) hszh).cut (by omega)
      have hln : (ps.take k).length ≤ 1048576 := by rw [List.length_take]; omega
      have hl0 : (ps.take k).length ≤ 40 := by rw [List.length_take]; omega
      have hl1 : (ps.take k ++ [(x.1, x.2)]).length + (ps.drop k).length ≤ 1048576 := by rw [List.length_append, List.length_take, List.length_drop]; simp; omega
      have hsl : ∀ p ∈ ps.take k, p.2.length ≤ 1048576 := fun p hp => book_len2 HBK.out p (List.mem_of_mem_take hp)
      have hLL : ps.take k ++ [(x.1, x.2)] ++ ps.drop k = addL ps x := by unfold addL; rw [HPO.out]; simp
      have HLL := Lib.hid hLL
      have hLn : (addL ps x).length ≤ 1048576 := by rw [addL_len]; omega
      have hsl2 : ∀ p ∈ addL ps x, p.2.length ≤ 1048576 := fun p hp => by
        rw [← HLL.out] at hp
        simp only [List.mem_append, List.mem_singleton] at hp
        rcases hp with (hp | hp) | hp
        · exact book_len2 HBK.out p (List.mem_of_mem_take hp)
        · subst hp; exact HXS.out
        · exact book_len2 HBK.out p (List.mem_of_mem_drop hp)
      have hxD : Blk wz.drew w.heap.size 28 [.slice (some ⟨b, off, Option.none⟩) ps.length (c)] := HXz.out
      have hyD : Blk wz.drew (w.heap.size + 1) 40 [.string x.1, .slice A2 x.2.length c2] := HYz.out
      have hrD : Blk wz.drew (w.heap.size + 2) 28 [.slice Option.none 0 0] := HRz.out
      have hxc := hxD.cell 0
      have hyc0 := hyD.cell 0
      have hyc1 := hyD.cell 1
      have hbD : Below wz.heap.size wz wz.drew := (Below.refl _ _).drew
      have HK := Lib.hid hsl
      have HK2 := Lib.hid hsl2
      have hic : k ≤ c := by omega
      have HCUT := Lib.hid hcut
      have hszd : hi ≤ wz.drew.heap.size := hszh
      have HXD := Lib.hid hxD
      have HYD := Lib.hid hyD
      have HRD := Lib.hid hrD
      have HBD := Lib.hid hbD
      have HXR := Lib.hid (RdI.below HRXz.out hbD hszh)
      have hbb : Below wz.heap.size wz.drew (wz.alloc (.cells #[.string x.1, .slice A2 x.2.length c2] 40)).drew := by
        have hb0 : Below wz.heap.size wz (wz.alloc (.cells #[.string x.1, .slice A2 x.2.length c2] 40)).drew := ((Below.refl _ _).alloc (Nat.le_refl _) _).drew
        exact ⟨hb0.os, hb0.tape, hb0.output, hb0.size, hb0.block⟩
      have HBB : Hid (Below wz.drew.heap.size wz.drew (wz.alloc (.cells #[.string x.1, .slice A2 x.2.length c2] 40)).drew) := hbb
      have hsbb : wz.drew.heap.size ≤ (wz.alloc (.cells #[.string x.1, .slice A2 x.2.length c2] 40)).drew.heap.size := HBB.out.size
      have hs3b : hi ≤ (wz.alloc (.cells #[.string x.1, .slice A2 x.2.length c2] 40)).drew.heap.size := Nat.le_trans hszh hsbb
      have HCUTB : Hid (RdPS (wz.alloc (.cells #[.string x.1, .slice A2 x.2.length c2] 40)).drew hi (.slice (some ⟨b, off, Option.none⟩) k (c)) (ps.take k)) := hcut.below hbb hszh
      have HEB : Hid (El wz wz.heap.size (.slice A2 x.2.length c2) x.2) := el_old (B := wz.heap.size) (HRXz.out.mono hszh) (Nat.le_refl _)
      have HBC : Hid (Below (wz.heap.size + 1) (wz.alloc (.cells #[.string x.1, .slice A2 x.2.length c2] 40)) (wz.alloc (.cells #[.string x.1, .slice A2 x.2.length c2] 40)).drew) := (Below.refl _ _).drew
      have hxA : (wz.alloc (.cells #[.string x.1, .slice A2 x.2.length c2] 40)).drew.cell? ⟨w.heap.size, 0, Option.none⟩ = some (.slice (some ⟨b, off, Option.none⟩) ps.length (c)) := (hxD.below hbb (by omega)).cell 0
      have hsbc : wz.heap.size + 1 ≤ (wz.alloc (.cells #[.string x.1, .slice A2 x.2.length c2] 40)).drew.heap.size := by simp
      clear hbb
      clear hsl hsl2 hcut hxD hrD hyD hbD hLL
      go_wp2_with fail
      go_region_law (first
        | ((refine step_GrowP (by rfl) (.tmp 33) (.tmp 35) (by rfl) HG4.out HS1.out (by rw [List.length_singleton]; omega) (by rfl) (by rfl) ?_; intro v5 w5 hG5 hs5; have hz3 : wz.drew.heap.size = wz.heap.size := rfl; have hx5 := (HXD.out.below hG5.2.2.1 (by omega)).cell 0; have HS5 := Lib.hid (HSR.out w5 (HBD.out.trans hG5.2.2.1))))
        | ((refine step_GrowP (by rfl) (.tmp 36) (.tmp 40) (by rfl) hG5 HS5.out (by omega) (by rfl) (by rfl) ?_; intro v7 w7 hG7 hs7; rw [HLL.out] at hG7))
        | ((go_simp; go_at_call 61; (with_reducible refine (bkOwn_any (ps.take k) _ hi _ HCUT.out hszd hln HK.out).mono ?_); rintro e w4 ⟨u4, rfl, hu4, hb4⟩; have hz3 : wz.drew.heap.size = wz.heap.size := rfl; have hx4c := (HXD.out.below hb4 (by omega)).cell 0; have hx4a := ((HXD.out.below hb4 (by omega)).alloc (.cells #[.string x.1, .slice A2 x.2.length c2] 40)).cell 0; have hy4c := (HYD.out.below hb4 (by omega)).cell 0; have hy4d := (HYD.out.below hb4 (by omega)).cell 1; have HEL := Lib.hid (el_old (B := wz.drew.heap.size) ((RdI.below HXR.out hb4 hszd).mono hszd) hb4.size); have HG4 := Lib.hid ((growP_own hu4 (Nat.le_refl _) hb4 hb4.size).alloc (.cells #[.string x.1, .slice A2 x.2.length c2] 40)); have HS1 := Lib.hid (src_one (t := x.1) HEL.out hb4.size rfl hts)))
        | ((go_simp; go_at_call 61; (with_reducible refine (bkOwn_any (ps.take k) _ hi _ HCUTB.out hs3b hln HK.out).mono ?_); rintro e w4 ⟨u4, rfl, hu4, hb4⟩; have hz3 : wz.drew.heap.size = wz.heap.size := rfl; have hb4b := HBB.out.trans (hb4.mono hsbb); have hx4c := (HXD.out.below hb4b (by omega)).cell 0; have hx4a := hx4c; have HG4 := Lib.hid (growP_own hu4 hsbb hb4b hb4b.size); have HS1 := Lib.hid (src_oneB (t := x.1) HEB.out (Nat.le_refl _) rfl hts (HBC.out.trans (hb4.mono hsbc)))))
        | ((go_simp; go_at_call 60; (with_reducible refine (bkIf_any (addL ps x) v7 w7.heap.size w7 hG7.rd (Nat.le_refl _) hLn HK2.out).mono ?_); rintro e w6 ⟨u6, rfl, hu6, hb6⟩; obtain ⟨A6, c6, hv6, _, _⟩ := hu6.rd.form; subst hv6; have hz3 : wz.drew.heap.size = wz.heap.size := rfl; have hr6 := ((HRD.out.below hG7.2.2.1 (by omega)).below hb6 (by have := hG7.2.2.2; omega)); have hr6c := hr6.cell 0; have hr6f := hr6.frozen 0)))
      all_goals
        generalize (if c = k then some (⟨b, off, Option.none⟩ : Addr) else some ⟨b, off + k * 2, Option.none⟩) = SA
        have HU6 := Lib.hid hu6
        have HB6 := Lib.hid hb6
        have HR6 := Lib.hid hr6
        have hs6 := hb6.size
        have c10 := (hr6.set_ 0 (.slice A6 ((ifO (addL ps x)).getD []).length c6)).cell 0
        have hs45 := hG7.2.2.2
        have hzD : wz.drew.heap.size = wz.heap.size := rfl
        have HG7 := Lib.hid hG7.2.2.1
        clear hu6 hb6 hr6 hG7
        go_wp2_with fail
        refine bodyPost_ret (v := .tuple #[.agg #[.slice A6 ((ifO (addL ps x)).getD []).length c6], .bool (bookB (addL ps x))]) (by simp [results, Try.results15, go_sem, c10]) rfl ?_
        have hk : Keep (w.heap.size + 2) (w.heap.size + 2 + 1) w6 (w6.setCell ⟨w.heap.size + 2, 0, Option.none⟩ (.slice A6 ((ifO (addL ps x)).getD []).length c6)) := (Keep.refl _ _ _).setCell (p := ⟨w.heap.size + 2, 0, Option.none⟩) (Nat.le_refl _) (by show w.heap.size + 2 < _; omega) _
        refine ⟨_, by rw [(add_is HBK.out).2], ?_, ((HBz.out.trans ((show Below wz.heap.size wz w7 from HBD.out.trans HG7.out).mono (by omega))).trans (HB6.out.mono (by omega))).trans (hk.bel.mono (by omega))⟩
        rw [(add_is HBK.out).1]
        exact (HU6.out.keep hk (.inr (by omega))).mono (show w.heap.size ≤ w7.heap.size by omega) (show w6.heap.size ≤ (w6.setCell ⟨w.heap.size + 2, 0, Option.none⟩ (.slice A6 ((ifO (addL ps x)).getD []).length c6)).heap.size by rw [hk.size]; omega)
end Go.Proofs.Ytjnkdjokbamibaa
