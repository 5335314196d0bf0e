/- Plain laws: an order by insertion; the indices in groups of one length each; the words of a canonical code. -/
import Derived.Test.YtabiobjcfopakaaM3
namespace Go.Proofs.Ytabiobjcfopakaa
open Go.RowKit
/-- x goes into L ahead of the longest end of L whose members all stand behind it. -/
def insAt (p : Nat → Nat → Bool) (L : List Nat) (x : Nat) : Nat := L.length - (L.reverse.takeWhile (p x)).length
def insBy (p : Nat → Nat → Bool) (L : List Nat) (x : Nat) : List Nat := L.take (insAt p L x) ++ x :: L.drop (insAt p L x)
/-- The indices below n, each put in its place among the earlier ones. -/
def orderBy (p : Nat → Nat → Bool) (n : Nat) : List Nat := (List.range n).foldl (insBy p) []
theorem insBy_mid {p : Nat → Nat → Bool} {A B : List Nat} {x : Nat} (hB : ∀ y ∈ B, p x y = true) (hA : ∀ a, A.getLast? = some a → p x a = false) : insBy p (A ++ B) x = A ++ x :: B := by
  have e : ((A ++ B).reverse.takeWhile (p x)) = B.reverse := by
    rw [List.reverse_append, List.takeWhile_append_of_pos (fun y hy => hB y (List.mem_reverse.1 hy))]
    have : A.reverse.takeWhile (p x) = [] := by
      cases h : A.reverse with
      | nil => rfl
      | cons a r =>
        rw [List.takeWhile_cons, hA a (by rw [← List.head?_reverse, h]; rfl)]; rfl
    rw [this, List.append_nil]
  have e2 : insAt p (A ++ B) x = A.length := by unfold insAt; rw [e]; simp
  unfold insBy; rw [e2]; simp
theorem insBy_at {p : Nat → Nat → Bool} {L : List Nat} {x j : Nat} (hj : j ≤ L.length) (hB : ∀ y ∈ L.drop j, p x y = true) (hA : j = 0 ∨ ∃ a, L[j - 1]? = some a ∧ p x a = false) : insBy p L x = L.take j ++ x :: L.drop j := by
  have := insBy_mid (p := p) (A := L.take j) (B := L.drop j) (x := x) hB (fun a ha => by
    rcases hA with rfl | ⟨b, hb, hp⟩
    · simp at ha
    · have hj0 : 0 < j := by
        rcases Nat.eq_zero_or_pos j with rfl | h
        · simp at ha
        · exact h
      rw [List.getLast?_eq_getElem?, List.length_take, Nat.min_eq_left hj, List.getElem?_take_of_lt (by omega), hb] at ha
      cases ha; exact hp)
  rwa [List.take_append_drop] at this
theorem insBy_perm {p : Nat → Nat → Bool} {L : List Nat} {x : Nat} : (insBy p L x).Perm (x :: L) := by
  unfold insBy
  have h : (L.take (insAt p L x) ++ x :: L.drop (insAt p L x)).Perm (x :: (L.take (insAt p L x) ++ L.drop (insAt p L x))) := List.perm_middle
  rwa [List.take_append_drop] at h
theorem orderBy_succ {p : Nat → Nat → Bool} {n : Nat} : orderBy p (n + 1) = insBy p (orderBy p n) n := by
  unfold orderBy; rw [List.range_succ, List.foldl_append]; rfl
theorem orderBy_perm (p : Nat → Nat → Bool) : ∀ n, (orderBy p n).Perm (List.range n)
  | 0 => List.Perm.refl _
  | n + 1 => by
    rw [orderBy_succ, List.range_succ]
    exact insBy_perm.trans (((orderBy_perm p n).cons n).trans (List.perm_append_singleton n _).symm)
theorem orderBy_len (p : Nat → Nat → Bool) (n : Nat) : (orderBy p n).length = n := by rw [(orderBy_perm p n).length_eq]; simp
theorem orderBy_lt {p : Nat → Nat → Bool} {n i : Nat} (h : i ∈ orderBy p n) : i < n := by have := (orderBy_perm p n).mem_iff.1 h; simpa using this
theorem orderBy_mem {p : Nat → Nat → Bool} {n i : Nat} (h : i < n) : i ∈ orderBy p n := (orderBy_perm p n).mem_iff.2 (by simpa using h)
theorem orderBy_nodup (p : Nat → Nat → Bool) (n : Nat) : (orderBy p n).Nodup := (orderBy_perm p n).nodup_iff.2 List.nodup_range
/-- The order of lengths: the shorter ones stand first. -/
def pLen (ls : List Int) (x y : Nat) : Bool := decide (ls.getD x 0 < ls.getD y 0)
/-- The order of weights: the heavier ones stand first. -/
def pWei (ws : List Int) (x y : Nat) : Bool := decide (ws.getD y 0 < ws.getD x 0)
/-- The first m indices, those with length l. -/
def grpF (ls : List Int) (m l : Nat) : List Nat := (List.range m).filter fun i => ls.getD i 0 == (l : Int)
/-- The same for k lengths from a on. -/
def grpN (ls : List Int) (m a k : Nat) : List Nat := (List.range' a k).flatMap (grpF ls m)
theorem grpN_split {ls : List Int} {m a k j : Nat} : grpN ls m a (k + j) = grpN ls m a k ++ grpN ls m (a + k) j := by
  unfold grpN
  have h := List.range'_append (s := a) (m := k) (n := j) (step := 1)
  rw [Nat.one_mul] at h
  rw [← h, List.flatMap_append]
theorem grpN_one {ls : List Int} {m a : Nat} : grpN ls m a 1 = grpF ls m a := by
  unfold grpN; rw [show List.range' a 1 = [a] from rfl]; simp
theorem grpF_no {ls : List Int} {m l : Nat} (h : ls.getD m 0 ≠ (l : Int)) : grpF ls (m + 1) l = grpF ls m l := by
  unfold grpF; rw [List.range_succ, List.filter_append]
  have : (ls.getD m 0 == (l : Int)) = false := by rw [beq_eq_false_iff_ne]; exact h
  simp only [List.filter_cons, this, List.filter_nil]; simp
theorem grpF_yes {ls : List Int} {m l : Nat} (h : ls.getD m 0 = (l : Int)) : grpF ls (m + 1) l = grpF ls m l ++ [m] := by
  unfold grpF; rw [List.range_succ, List.filter_append]
  have : (ls.getD m 0 == (l : Int)) = true := by rw [beq_iff_eq]; exact h
  simp only [List.filter_cons, this, List.filter_nil]; simp
theorem grpN_no {ls : List Int} {m a k : Nat} (h : ∀ l, a ≤ l → l < a + k → ls.getD m 0 ≠ (l : Int)) : grpN ls (m + 1) a k = grpN ls m a k := by
  induction k with
  | zero => rfl
  | succ k ih =>
    rw [grpN_split, grpN_split (k := k), ih (fun l h1 h2 => h l h1 (by omega)), grpN_one, grpN_one, grpF_no (h (a + k) (by omega) (by omega))]
theorem grpF_mem {ls : List Int} {m l i : Nat} (h : i ∈ grpF ls m l) : i < m ∧ ls.getD i 0 = (l : Int) := by
  unfold grpF at h; rw [List.mem_filter] at h
  exact ⟨by simpa using h.1, by simpa using h.2⟩
theorem grpN_mem {ls : List Int} {m a k i : Nat} (h : i ∈ grpN ls m a k) : i < m ∧ (a : Int) ≤ ls.getD i 0 ∧ ls.getD i 0 < ((a + k : Nat) : Int) := by
  unfold grpN at h
  rw [List.mem_flatMap] at h
  obtain ⟨l, hl, hi⟩ := h
  rw [List.mem_range'_1] at hl
  have := grpF_mem hi
  omega
theorem allB_at {ls : List Int} {a b : Int} (h : allB ls a b = true) {i : Nat} (hi : i < ls.length) : a ≤ ls.getD i 0 ∧ ls.getD i 0 ≤ b := by
  unfold allB at h
  rw [List.all_eq_true] at h
  have := h ls[i] (List.getElem_mem hi)
  rw [List.getD_eq_getElem?_getD, List.getElem?_eq_getElem hi]
  exact inB_iff.1 this
/-- The order of the program is the order of the reference. -/
theorem order_grp {ls : List Int} (h : allB ls 1 6 = true) : ∀ m, m ≤ ls.length → orderBy (pLen ls) m = grpN ls m 1 6
  | 0, _ => by
    have : ∀ a k, grpN ls 0 a k = [] := fun a k => by unfold grpN grpF; simp
    rw [this]; rfl
  | m + 1, hm => by
    obtain ⟨h1, h6⟩ := allB_at h (i := m) (by omega)
    obtain ⟨d, hd⟩ : ∃ d : Nat, ls.getD m 0 = (d : Int) := ⟨(ls.getD m 0).toNat, by omega⟩
    have e : ∀ q, grpN ls q 1 6 = grpN ls q 1 (d - 1) ++ grpF ls q d ++ grpN ls q (d + 1) (6 - d) := fun q => by
      rw [show 6 = (d - 1) + (1 + (6 - d)) by omega, grpN_split, grpN_split (k := 1), grpN_one, show 1 + (d - 1) = d by omega, List.append_assoc, show (d - 1) + (1 + (6 - d)) - d = 6 - d by omega]
    rw [orderBy_succ, order_grp h m (by omega), e, e, grpF_yes hd, grpN_no (a := 1) (fun l _ h2 => by omega), grpN_no (a := d + 1) (fun l _ h2 => by omega)]
    rw [insBy_mid]
    · simp
    · intro y hy
      have := grpN_mem hy
      unfold pLen; rw [decide_eq_true_eq]; omega
    · intro y hy
      have hy2 := List.mem_of_getLast? hy
      unfold pLen; rw [decide_eq_false_iff_not]
      rcases List.mem_append.1 hy2 with h3 | h3
      · have := grpN_mem h3; omega
      · have := grpF_mem h3; omega
theorem grpN_sorted (ls : List Int) (m a : Nat) : ∀ k, (grpN ls m a k).Pairwise fun x y => ls.getD x 0 ≤ ls.getD y 0
  | 0 => List.Pairwise.nil
  | k + 1 => by
    rw [grpN_split, grpN_one, List.pairwise_append]
    refine ⟨grpN_sorted ls m a k, ?_, fun x hx y hy => ?_⟩
    · rw [List.pairwise_iff_forall_sublist]
      intro x y hxy
      have h1 := grpF_mem (hxy.subset (by simp : x ∈ [x, y]))
      have h2 := grpF_mem (hxy.subset (by simp : y ∈ [x, y]))
      omega
    · have h1 := grpN_mem hx
      have h2 := grpF_mem hy
      omega
/-- A number's digits to the base r, as many as told. -/
def digL (r : Nat) : Nat → Nat → List Int
  | _, 0 => []
  | n, k + 1 => digL r (n / r) k ++ [((n % r : Nat) : Int)]
theorem digL_len (r : Nat) : ∀ n k, (digL r n k).length = k
  | _, 0 => rfl
  | n, k + 1 => by rw [digL, List.length_append, digL_len]; rfl
/-- The next word, the last length, the words so far. -/
structure CanS where
  next : Nat
  last : Nat
  rows : List (List Int)
def canStep (ls : List Int) (r : Nat) (s : CanS) (i : Nat) : CanS :=
  ⟨s.next * r ^ ((ls.getD i 0).toNat - s.last) + 1, (ls.getD i 0).toNat, s.rows.set i (digL r (s.next * r ^ ((ls.getD i 0).toNat - s.last)) (ls.getD i 0).toNat)⟩
def canRun (ls : List Int) (r : Nat) (is : List Nat) : CanS := is.foldl (canStep ls r) ⟨0, 1, List.replicate ls.length []⟩
theorem canRun_snoc {ls : List Int} {r : Nat} {is : List Nat} {i : Nat} : canRun ls r (is ++ [i]) = canStep ls r (canRun ls r is) i := by unfold canRun; rw [List.foldl_append]; rfl
theorem canRun_nil {ls : List Int} {r : Nat} : canRun ls r [] = ⟨0, 1, List.replicate ls.length []⟩ := rfl
/-- The words of the canonical code. -/
def canonL (ls : List Int) (r : Nat) : List (List Int) := (canRun ls r (grpN ls ls.length 1 6)).rows
theorem canRun_rows (ls : List Int) (r : Nat) (is : List Nat) : (canRun ls r is).rows.length = ls.length := by
  unfold canRun
  have : ∀ (is : List Nat) (s : CanS), (is.foldl (canStep ls r) s).rows.length = s.rows.length := by
    intro is
    induction is with
    | nil => intro s; rfl
    | cons i l ih => intro s; rw [List.foldl_cons, ih]; unfold canStep; simp
  rw [this]; simp
theorem canonL_len (ls : List Int) (r : Nat) : (canonL ls r).length = ls.length := canRun_rows ls r _
/-- How great the next word is. -/
theorem canRun_bd {ls : List Int} {r : Nat} (hr : 1 ≤ r) : ∀ (n : Nat) (is : List Nat), is.length = n → is.Pairwise (fun x y => ls.getD x 0 ≤ ls.getD y 0) → (∀ i ∈ is, 1 ≤ ls.getD i 0) →
    (canRun ls r is).next ≤ is.length * r ^ (canRun ls r is).last ∧ 1 ≤ (canRun ls r is).last ∧ (is = [] ∨ ∃ i, is.getLast? = some i ∧ (canRun ls r is).last = (ls.getD i 0).toNat)
  | 0, is, hl, _, _ => by
    obtain rfl := List.eq_nil_of_length_eq_zero hl
    exact ⟨by simp [canRun_nil], by simp [canRun_nil], .inl rfl⟩
  | n + 1, is, hl, hs, h1 => by
    obtain ⟨js, j, rfl⟩ : ∃ js j, is = js ++ [j] := by
      refine ⟨is.dropLast, is.getLast (by intro e; rw [e] at hl; simp at hl), (List.dropLast_concat_getLast _).symm⟩
    rw [List.pairwise_append] at hs
    have ih := canRun_bd hr n js (by simpa using hl) hs.1 (fun i hi => h1 i (by simp [hi]))
    have hj := h1 j (by simp)
    rw [canRun_snoc]
    obtain ⟨s, hsd⟩ : ∃ s, s = canRun ls r js := ⟨_, rfl⟩
    rw [← hsd] at ih ⊢
    have hlast : s.last ≤ (ls.getD j 0).toNat := by
      rcases ih.2.2 with rfl | ⟨i, hi, hl2⟩
      · rw [hsd, canRun_nil]; show 1 ≤ _; omega
      · have := hs.2.2 i (List.mem_of_getLast? hi) j (by simp)
        omega
    refine ⟨?_, by show 1 ≤ (ls.getD j 0).toNat; omega, .inr ⟨j, by simp, rfl⟩⟩
    show s.next * r ^ ((ls.getD j 0).toNat - s.last) + 1 ≤ (js ++ [j]).length * r ^ (ls.getD j 0).toNat
    have e : r ^ (ls.getD j 0).toNat = r ^ s.last * r ^ ((ls.getD j 0).toNat - s.last) := by rw [← Nat.pow_add]; congr 1; omega
    have h2 := Nat.mul_le_mul_right (r ^ ((ls.getD j 0).toNat - s.last)) ih.1
    have h3 : 1 ≤ r ^ (ls.getD j 0).toNat := Nat.one_le_pow _ _ hr
    rw [Nat.mul_assoc, ← e] at h2
    rw [List.length_append, List.length_singleton, Nat.add_mul, Nat.one_mul]
    omega
end Go.Proofs.Ytabiobjcfopakaa
