/- Texts of one claim, joined: Y1, Y3, Y5. -/
import Derived.Lib.SplitLaws
import Derived.Lib.AtoiAll
import Derived.Lib.ItoaMem
import Derived.Lib.Join
import Derived.Test.YtjnkdjokbamibaaDoorShelf
import Derived.Laws.OwnMore
import Derived.Laws.IdiomStrings
import Derived.Deep.RegionLaw
import Derived.Lib.ItoaLen
import Derived.Test.YtjnkdjokbamibaaDoorP1ReadSignals
/- Plain laws on texts: what is cut at a byte and joined again; numbers in decimal. -/
namespace Go.Proofs.YtjnkdjokbamibaaDoor
/-- A text cut at each byte c. -/
def splitC (c : UInt8) : List UInt8 → List (List UInt8)
  | [] => [[]]
  | b :: r => if b = c then [] :: splitC c r else match splitC c r with
    | [] => [[b]]
    | a :: q => (b :: a) :: q
/-- Texts joined by a byte. -/
def joinC (c : UInt8) : List (List UInt8) → List UInt8
  | [] => []
  | [a] => a
  | a :: b :: r => a ++ c :: joinC c (b :: r)
theorem splitC_ne (c : UInt8) (l : List UInt8) : splitC c l ≠ [] := by
  cases l with
  | nil => simp [splitC]
  | cons b r => rw [splitC]; split
                · simp
                · split <;> simp
theorem splitC_len (c : UInt8) : ∀ l : List UInt8, 1 ≤ (splitC c l).length ∧ (splitC c l).length ≤ l.length + 1
  | [] => by simp [splitC]
  | b :: r => by
    have ih := splitC_len c r
    rw [splitC]
    split
    · simp; omega
    · split
      · simp
      · rename_i a q h; rw [h] at ih; simp at ih ⊢; omega
theorem joinC_cons (c : UInt8) (a : List UInt8) {r : List (List UInt8)} (h : r ≠ []) : joinC c (a :: r) = a ++ c :: joinC c r := by
  cases r with
  | nil => exact absurd rfl h
  | cons b q => rfl
theorem joinC_head (c b : UInt8) (a : List UInt8) (q : List (List UInt8)) : joinC c ((b :: a) :: q) = b :: joinC c (a :: q) := by
  cases q with
  | nil => rfl
  | cons x r => rfl
theorem join_split (c : UInt8) : ∀ l : List UInt8, joinC c (splitC c l) = l
  | [] => rfl
  | b :: r => by
    have ih := join_split c r
    rw [splitC]
    split
    · rename_i h; rw [joinC_cons _ _ (splitC_ne c r), ih, h]; rfl
    · split
      · rename_i h; exact absurd h (splitC_ne c r)
      · rename_i a q h; rw [joinC_head, ← h, ih]
theorem splitC_no {c : UInt8} : ∀ {l : List UInt8}, c ∉ l → splitC c l = [l]
  | [], _ => rfl
  | b :: r, h => by
    have hb : b ≠ c := fun e => h (by simp [e])
    rw [splitC, if_neg hb, splitC_no (fun m => h (by simp [m]))]
theorem splitC_hit {c : UInt8} (r : List UInt8) : ∀ {a : List UInt8}, c ∉ a → splitC c (a ++ c :: r) = a :: splitC c r
  | [], _ => by simp [splitC]
  | b :: a, h => by
    have hb : b ≠ c := fun e => h (by simp [e])
    rw [List.cons_append, splitC, if_neg hb, splitC_hit r (fun m => h (by simp [m]))]
theorem split_join {c : UInt8} : ∀ {xs : List (List UInt8)}, xs ≠ [] → (∀ a ∈ xs, c ∉ a) → splitC c (joinC c xs) = xs
  | [], h, _ => absurd rfl h
  | [a], _, h => splitC_no (h a (by simp))
  | a :: b :: r, _, h => by
    rw [joinC, splitC_hit _ (h a (by simp)), split_join (by simp) (fun x hx => h x (by simp [List.mem_cons.1 hx]))]
/-- A byte more at the end. -/
theorem splitC_snoc {c b : UInt8} : ∀ {l : List UInt8} {o : List (List UInt8)} {z : List UInt8}, splitC c l = o ++ [z] → splitC c (l ++ [b]) = if b = c then (o ++ [z]) ++ [[]] else o ++ [z ++ [b]]
  | [], o, z, h => by
    have : o = [] ∧ z = [] := by
      cases o with
      | nil => simp [splitC] at h; exact ⟨rfl, h⟩
      | cons x q => simp [splitC] at h
    obtain ⟨rfl, rfl⟩ := this
    simp only [List.nil_append, splitC]
    split <;> rfl
  | x :: l, o, z, h => by
    rw [List.cons_append, splitC]
    rw [splitC] at h
    split
    · rename_i hx
      rw [if_pos hx] at h
      cases o with
      | nil => simp at h; exact absurd h.2 (splitC_ne c l)
      | cons y q =>
        simp at h
        obtain ⟨rfl, h⟩ := h
        rw [splitC_snoc (b := b) h]
        split <;> simp
    · rename_i hx
      rw [if_neg hx] at h
      cases hs : splitC c l with
      | nil => exact absurd hs (splitC_ne c l)
      | cons a q =>
        rw [hs] at h
        cases o with
        | nil =>
          simp at h
          obtain ⟨rfl, rfl⟩ := h
          rw [splitC_snoc (b := b) (o := []) (z := a) hs]
          by_cases hb : b = c <;> simp [hb]
        | cons y r =>
          simp at h
          obtain ⟨rfl, h⟩ := h
          rw [h] at hs
          rw [splitC_snoc (b := b) (o := a :: r) (z := z) hs]
          by_cases hb : b = c <;> simp [hb]
theorem splitK_cons {b c : UInt8} (hb : b ≠ c) (l : List UInt8) (k : Nat) : Lib.splitK [c] 0 k (b :: l) = match Lib.splitK [c] 0 k l with
    | [] => [[b]]
    | a :: q => (b :: a) :: q := by
  have hp : ([c] : List UInt8).isPrefixOf (b :: l) = false := by simp [List.isPrefixOf, Ne.symm hb]
  have hix : Lib.index (b :: l) [c] = if Lib.index l [c] == -1 then -1 else Lib.index l [c] + 1 := by rw [Lib.index, hp]; simp
  cases k with
  | zero => rfl
  | succ k =>
    have hge := Lib.index_ge l [c]
    by_cases hm : Lib.index l [c] = -1
    · rw [Lib.splitK, hix, hm, Lib.splitK, hm]; rfl
    · obtain ⟨j, hj⟩ : ∃ j : Nat, Lib.index l [c] = j := ⟨(Lib.index l [c]).toNat, by omega⟩
      have h1 : ((j : Int) == -1) = false := by rw [beq_eq_false_iff_ne]; omega
      have h2 : ((j : Int) + 1 == -1) = false := by rw [beq_eq_false_iff_ne]; omega
      have h3 : ((j : Int) + 1).toNat = j + 1 := by omega
      rw [Lib.splitK, hix, hj, Lib.splitK, hj]
      simp [h1, h2, h3]
theorem splitK_C (c : UInt8) : ∀ l : List UInt8, Lib.splitK [c] 0 (Lib.count l [c]) l = splitC c l
  | [] => by rw [Lib.count_miss (by simp [Lib.index])]; rfl
  | b :: l => by
    rw [splitC]
    split
    · rename_i h
      subst h
      have hix : Lib.index (b :: l) [b] = ((0 : Nat) : Int) := by rw [Lib.index]; simp [List.isPrefixOf]
      rw [Lib.count_cons_eq, show 1 + Lib.count l [b] = Lib.count l [b] + 1 by omega, Lib.splitK, hix]
      simp
      exact splitK_C b l
    · rename_i h
      rw [Lib.count_cons_ne b c l h, splitK_cons h, splitK_C c l]
/-- Numbers in decimal, joined. -/
def numsT (c : UInt8) (l : List Int) : List UInt8 := joinC c (l.map Lib.itoa)
/-- A number without leading zeros. -/
def readN (a : List UInt8) : Option Int := match Lib.atoiAll a with
  | .ok n => if 0 ≤ n ∧ Lib.itoa n = a then some n else Option.none
  | _ => Option.none
theorem readN_itoa {a : List UInt8} {n : Int} (h : readN a = some n) : 0 ≤ n ∧ Lib.itoa n = a := by
  unfold readN at h
  split at h
  · split at h
    · rename_i hh; cases h; exact hh
    · cases h
  · cases h
theorem readN_small {n : Int} (h0 : 0 ≤ n) (h1 : n ≤ 63) : readN (Lib.itoa n) = some n := by
  have : ∀ m : Fin 64, readN (Lib.itoa ((m.val : Nat) : Int)) = some ((m.val : Nat) : Int) := by decide +kernel
  have h := this ⟨n.toNat, by omega⟩
  rwa [show ((n.toNat : Nat) : Int) = n by omega] at h
theorem itoa_digits {n : Int} (h0 : 0 ≤ n) (h1 : n ≤ 63) : ∀ b ∈ Lib.itoa n, 48 ≤ b.toNat ∧ b.toNat ≤ 57 := by
  have : ∀ m : Fin 64, ∀ b ∈ Lib.itoa ((m.val : Nat) : Int), 48 ≤ b.toNat ∧ b.toNat ≤ 57 := by decide +kernel
  have h := this ⟨n.toNat, by omega⟩
  rwa [show ((n.toNat : Nat) : Int) = n by omega] at h
theorem itoa_len {n : Int} (h0 : 0 ≤ n) (h1 : n ≤ 63) : 1 ≤ (Lib.itoa n).length ∧ (Lib.itoa n).length ≤ 2 := by
  have : ∀ m : Fin 64, 1 ≤ (Lib.itoa ((m.val : Nat) : Int)).length ∧ (Lib.itoa ((m.val : Nat) : Int)).length ≤ 2 := by decide +kernel
  have h := this ⟨n.toNat, by omega⟩
  rwa [show ((n.toNat : Nat) : Int) = n by omega] at h
/-- All are read, or none. -/
def allO {α β : Type} (f : α → Option β) : List α → Option (List β)
  | [] => some []
  | a :: r => match f a, allO f r with
    | some n, some l => some (n :: l)
    | _, _ => Option.none
theorem allO_no {α β : Type} {f : α → Option β} {p : List α} {k : Nat} {a : α} (hp : p[k]? = some a) (h : f a = Option.none) : allO f p = Option.none := by
  induction p generalizing k with
  | nil => simp at hp
  | cons x r ih =>
    rw [allO]
    cases k with
    | zero => simp at hp; subst hp; rw [h]
    | succ k => rw [ih (by simpa using hp)]; split <;> simp_all
theorem allO_snoc {α β : Type} {f : α → Option β} : ∀ {p : List α} {a : α} {l : List β} {n : β}, allO f p = some l → f a = some n → allO f (p ++ [a]) = some (l ++ [n])
  | [], a, l, n, h, h1 => by cases h; rw [List.nil_append, allO, h1]; rfl
  | x :: r, a, l, n, h, h1 => by
    rw [allO] at h
    cases h2 : f x with
    | none => rw [h2] at h; cases h
    | some m =>
      cases h3 : allO f r with
      | none => rw [h2, h3] at h; cases h
      | some q =>
        rw [h2, h3] at h
        cases h
        rw [List.cons_append, allO, h2, allO_snoc h3 h1]; rfl
theorem allO_inv {α β : Type} {f : α → Option β} {g : β → α} {P : β → Prop} (hf : ∀ a n, f a = some n → g n = a ∧ P n) : ∀ {p : List α} {l : List β}, allO f p = some l → l.map g = p ∧ ∀ n ∈ l, P n
  | [], l, h => by cases h; exact ⟨rfl, by simp⟩
  | a :: r, l, h => by
    rw [allO] at h
    cases h1 : f a with
    | none => rw [h1] at h; cases h
    | some n =>
      cases h2 : allO f r with
      | none => rw [h1, h2] at h; cases h
      | some q =>
        rw [h1, h2] at h
        cases h
        have h3 := hf a n h1
        have h4 := allO_inv hf h2
        exact ⟨by rw [List.map_cons, h3.1, h4.1], fun x hx => by rcases List.mem_cons.1 hx with rfl | hx; exact h3.2; exact h4.2 x hx⟩
theorem allO_map {α β : Type} {f : α → Option β} {g : β → α} : ∀ {l : List β}, (∀ n ∈ l, f (g n) = some n) → allO f (l.map g) = some l
  | [], _ => rfl
  | n :: r, h => by
    rw [List.map_cons, allO, h n (by simp), allO_map (fun x hx => h x (by simp [hx]))]
abbrev allN : List (List UInt8) → Option (List Int) := allO readN
theorem allN_itoa {p : List (List UInt8)} {l : List Int} (h : allN p = some l) : l.map Lib.itoa = p ∧ ∀ n ∈ l, 0 ≤ n := allO_inv (fun _ _ hn => ⟨(readN_itoa hn).2, (readN_itoa hn).1⟩) h
theorem allN_small {l : List Int} (h : ∀ n ∈ l, 0 ≤ n ∧ n ≤ 63) : allN (l.map Lib.itoa) = some l := allO_map fun n hn => readN_small (h n hn).1 (h n hn).2
/-- The numbers of a text. -/
def numsO (c : UInt8) (s : List UInt8) : Option (List Int) := allN (splitC c s)
theorem nums_text {c : UInt8} {s : List UInt8} {l : List Int} (h : numsO c s = some l) : numsT c l = s := by
  have := (allN_itoa h).1
  unfold numsT
  rw [this, join_split]
theorem nums_parts {c : UInt8} {l : List Int} (hc : c.toNat < 48) (hl : l ≠ []) (h : ∀ n ∈ l, 0 ≤ n ∧ n ≤ 63) : splitC c (numsT c l) = l.map Lib.itoa := by
  refine split_join (by simpa using hl) (fun a ha hca => ?_)
  obtain ⟨n, hn, rfl⟩ := List.mem_map.1 ha
  have := itoa_digits (h n hn).1 (h n hn).2 c hca
  omega
theorem text_nums {c : UInt8} {l : List Int} (hc : c.toNat < 48) (hl : l ≠ []) (h : ∀ n ∈ l, 0 ≤ n ∧ n ≤ 63) : numsO c (numsT c l) = some l := by
  unfold numsO
  rw [nums_parts hc hl h, allN_small h]
theorem numsT_len {c : UInt8} {l : List Int} (h : ∀ n ∈ l, 0 ≤ n ∧ n ≤ 63) : (numsT c l).length ≤ 3 * l.length := by
  unfold numsT
  induction l with
  | nil => simp [joinC]
  | cons n r ih =>
    have h1 := itoa_len (h n (by simp)).1 (h n (by simp)).2
    have ih := ih (fun x hx => h x (by simp [hx]))
    cases r with
    | nil => simp [joinC]; omega
    | cons m q =>
      rw [List.map_cons, joinC_cons _ _ (by simp)]
      simp only [List.length_append, List.length_cons] at ih ⊢
      omega
/-- As the texts are written: a number more. -/
theorem joinC_snoc (c : UInt8) : ∀ (xs : List (List UInt8)) (a : List UInt8), joinC c (xs ++ [a]) = if xs = [] then a else joinC c xs ++ c :: a
  | [], a => rfl
  | [x], a => by simp [joinC]
  | x :: y :: r, a => by
    have ih := joinC_snoc c (y :: r) a
    rw [if_neg (by simp)] at ih ⊢
    rw [List.cons_append, joinC_cons c x (by simp), ih]
    show x ++ c :: (joinC c (y :: r) ++ c :: a) = (x ++ c :: joinC c (y :: r)) ++ c :: a
    simp
theorem numsT_snoc (c : UInt8) (l : List Int) (n : Int) : numsT c (l ++ [n]) = if l = [] then Lib.itoa n else numsT c l ++ c :: Lib.itoa n := by
  unfold numsT
  rw [List.map_append, List.map_cons, List.map_nil, joinC_snoc]
  by_cases h : l = []
  · subst h; rfl
  · rw [if_neg h, if_neg (by simpa using h)]
def isDig (b : UInt8) : Bool := decide (48 ≤ b.toNat) && decide (b.toNat ≤ 57)
def decV (a : List UInt8) : Int := a.foldl (fun n b => 10 * n + ((b.toNat : Int) - 48)) 0
theorem decV_snoc (a : List UInt8) (b : UInt8) : decV (a ++ [b]) = 10 * decV a + ((b.toNat : Int) - 48) := by unfold decV; rw [List.foldl_append]; rfl
/-- A canonical number of at most six digits, else -1. -/
def readR (a : List UInt8) : Int := if inB a.length 1 6 && !(decide (a.head? = some 48) && decide (1 < a.length)) && a.all isDig then decV a else -1
theorem readR_small {n : Int} (h0 : 0 ≤ n) (h1 : n ≤ 63) : readR (Lib.itoa n) = n := by
  have : ∀ m : Fin 64, readR (Lib.itoa ((m.val : Nat) : Int)) = ((m.val : Nat) : Int) := by decide +kernel
  have h := this ⟨n.toNat, by omega⟩
  rwa [show ((n.toNat : Nat) : Int) = n by omega] at h
theorem decV_bd : ∀ (k : Nat) (a : List UInt8), a.length ≤ k → a.all isDig = true → 0 ≤ decV a ∧ decV a < 10 ^ a.length := by
  intro k
  induction k with
  | zero => intro a h _; have : a = [] := List.eq_nil_of_length_eq_zero (by omega)
            subst this; simp [decV]
  | succ k ih =>
    intro a h hd
    rcases List.eq_nil_or_concat a with rfl | ⟨q, b, rfl⟩
    · simp [decV]
    · rw [List.concat_eq_append] at *
      rw [List.all_append, Bool.and_eq_true] at hd
      have h1 := ih q (by simp at h; omega) hd.1
      have h2 : isDig b = true := by simpa using hd.2
      unfold isDig at h2
      rw [Bool.and_eq_true, decide_eq_true_eq, decide_eq_true_eq] at h2
      rw [decV_snoc, List.length_append, List.length_singleton, Int.pow_succ]
      omega
/-- The numbers of a list of signals are read back. -/
theorem sigL_iff {l : List Int} : sigsB l = true ↔ l.length ≤ 100 ∧ ∀ n ∈ l, 0 ≤ n ∧ n ≤ 63 := by
  rw [sigsB_iff]
  unfold allB
  rw [List.all_eq_true]
  refine and_congr Iff.rfl ⟨fun h n hn => inB_iff.1 (h n hn), fun h n hn => inB_iff.2 (h n hn)⟩
def readO (s : List UInt8) : Option (List Int) := if s = [] then some [] else match numsO 32 s with
  | some l => if sigsB l then some l else Option.none
  | Option.none => Option.none
theorem readO_iff {s : List UInt8} {l : List Int} : readO s = some l ↔ sigsB l = true ∧ numsT 32 l = s := by
  constructor
  · intro h
    unfold readO at h
    split at h
    · rename_i hs; cases h; exact ⟨rfl, hs ▸ rfl⟩
    · split at h
      · rename_i q hq
        split at h
        · rename_i hg; cases h; exact ⟨hg, nums_text hq⟩
        · cases h
      · cases h
  · rintro ⟨h1, rfl⟩
    have h2 := (sigL_iff.1 h1).2
    unfold readO
    by_cases hl : l = []
    · subst hl; rfl
    · have h3 := text_nums (c := 32) (by decide) hl h2
      rw [if_neg (fun e => by rw [e] at h3; simp [numsO, splitC, allO, readN, Lib.atoiAll] at h3), h3]
      simp only [h1, if_true]
/-- As the reference reads a list. -/
def refO (s : List UInt8) : Option (List Int) := if s = [] then some [] else
  if sigsB ((splitC 32 s).map readR) && decide (numsT 32 ((splitC 32 s).map readR) = s) then some ((splitC 32 s).map readR) else Option.none
theorem map_readR {l : List Int} (h : ∀ n ∈ l, 0 ≤ n ∧ n ≤ 63) : (l.map Lib.itoa).map readR = l := by
  rw [List.map_map]
  conv => rhs; rw [← List.map_id l]
  exact List.map_congr_left fun n hn => readR_small (h n hn).1 (h n hn).2
theorem refO_eq (s : List UInt8) : refO s = readO s := by
  apply Option.ext
  intro l
  rw [readO_iff]
  unfold refO
  by_cases hs : s = []
  · subst hs
    rw [if_pos rfl]
    constructor
    · intro h; cases h; exact ⟨rfl, rfl⟩
    · rintro ⟨h1, h2⟩
      have h3 := (readO_iff (s := [])).2 ⟨h1, h2⟩
      unfold readO at h3
      rw [if_pos rfl] at h3; exact h3
  · rw [if_neg hs]
    constructor
    · intro h
      split at h
      · rename_i hc
        rw [Bool.and_eq_true, decide_eq_true_eq] at hc
        cases h; exact hc
      · cases h
    · rintro ⟨h1, h2⟩
      have h3 := (sigL_iff.1 h1).2
      have hl : l ≠ [] := fun e => hs (by rw [← h2, e]; rfl)
      have h4 : (splitC 32 s).map readR = l := by rw [← h2, nums_parts (by decide) hl h3, map_readR h3]
      rw [h4, h1, h2]
      simp
end Go.Proofs.YtjnkdjokbamibaaDoor
/- Contracts: numbers in decimal, lists of numbers as texts; of the reference and of the program. -/
namespace Go.Proofs.YtjnkdjokbamibaaDoor
open Go.RowKit
/-- A slice of one byte as a text, wherever the byte lies. -/
theorem conv_at {w : World} {b : Nat} (z : Int) (h0 : 0 ≤ z) (h1 : z < 256) (hc : w.cell? ⟨b, 0, Option.none⟩ = some (.int .u8 z)) : (convert 79 9 (.slice (some ⟨b, 0, Option.none⟩) 1 1)).run Tryd.prog w = .ok (.string ⟨#[UInt8.ofNat z.toNat]⟩) w := by
  have := run_convert_bytes_back (P := Tryd.prog) w 79 9 5 ⟨b, 0, Option.none⟩ 1 [UInt8.ofNat z.toNat] Tryd.underlying79 Tryd.underlying5 Tryd.underlying9 (fun j hj => by
    obtain rfl : j = 0 := by simp at hj; omega
    rw [Go.WideShapes.add_plain, Nat.zero_add, hc]
    simp
    omega)
  exact this
theorem conv_new (z : Int) (h0 : 0 ≤ z) (h1 : z < 256) (wr : World) : (convert 79 9 (.slice (some ⟨wr.heap.size, 0, Option.none⟩) 1 1)).run Tryd.prog (wr.alloc (.cells #[.int .u8 z] 5)) = .ok (.string ⟨#[UInt8.ofNat z.toNat]⟩) (wr.alloc (.cells #[.int .u8 z] 5)) :=
  conv_at z h0 h1 ((Blk.new wr 5 #[.int .u8 z]).cell 0)
theorem dig_lt {u : Nat} (h : u < 10) : Lib.decDigits u = [UInt8.ofNat (48 + u)] := by rw [Lib.decDigits, dif_pos h]
theorem dig_ge {u : Nat} (h : ¬ u < 10) : Lib.decDigits u = Lib.decDigits (u / 10) ++ [UInt8.ofNat (48 + u % 10)] := by rw [Lib.decDigits, dif_neg h]
set_option maxRecDepth 100000 in
set_option maxHeartbeats 2000000 in
theorem l1Num_any : ∀ (u : Nat), u < 1000000 → ∀ (w : World), Calls Tryd.prog 47 #[.int .i64 (u : Int)] w fun e w' => e = .returned (.string ⟨(Lib.decDigits u).toArray⟩) ∧ Below w.heap.size w w' := by
  intro u
  induction u using Nat.strongRecOn with
  | _ u ih =>
    intro hu w
    by_cases h10 : u < 10
    · have hcv := fun wr' => conv_new (48 + (u : Int)) (by omega) (by omega) wr'
      have HD := Lib.hid (dig_lt h10)
      have hbx : Below w.heap.size w (w.alloc (.cells #[.int .u8 (48 + (u : Int))] 5)) := (Below.refl _ _).alloc (Nat.le_refl _) _
      clear ih
      go_enter Tryd.func47, Tryd.ntmps47
      go_wp2
      go_ret
      exact ⟨ret_val (by rw [HD.out]; simp), hbx⟩
    · obtain ⟨q, hq⟩ : ∃ q, q = u / 10 := ⟨_, rfl⟩
      obtain ⟨r, hr⟩ : ∃ r, r = u % 10 := ⟨_, rfl⟩
      have hrl : r < 10 := by omega
      have hw1 : IntKind.i64.wrap ((u : Int) / 10) = (q : Int) := by rw [IntKind.wrap_i64]; omega
      have hm1 : (u : Int).tmod 10 = (r : Int) := by rw [Int.tmod_eq_emod_of_nonneg (by omega)]; omega
      have hw2 : IntKind.i64.wrap (48 + (r : Int)) = 48 + (r : Int) := by rw [IntKind.wrap_i64]; omega
      have hw3 : IntKind.u8.wrap (48 + (r : Int)) = 48 + (r : Int) := by rw [IntKind.wrap_u8]; omega
      have hc2 := fun (wr : World) (b : Nat) (hc : wr.cell? ⟨b, 0, Option.none⟩ = some (.int .u8 (48 + (r : Int)))) => conv_at (48 + (r : Int)) (by omega) (by omega) hc
      have hcv := fun wr' => conv_new (48 + (r : Int)) (by omega) (by omega) wr'
      have HC2 := Lib.hid hc2
      have hdd := dig_ge h10
      rw [← hq, ← hr] at hdd
      have HD := Lib.hid hdd
      have IH := Lib.hid (ih q (by omega) (by omega))
      have hcell : (w.alloc (.cells #[.int .u8 (48 + (r : Int))] 5)).drew.cell? ⟨w.heap.size, 0, Option.none⟩ = some (.int .u8 (48 + (r : Int))) := (Blk.new w 5 #[.int .u8 (48 + (r : Int))]).cell 0
      have HCELL := Lib.hid hcell
      have h10n : ¬ ((u : Int) < 10) := by omega
      have hdl : (Lib.decDigits q).length ≤ 20 := by rw [Lib.decDigits_length]; exact Lib.nDigits_le20 q (by omega)
      have hlen : ¬ (9223372036854775807 < (Lib.decDigits q).length + 1) := by omega
      have hcd := HC2.out _ _ HCELL.out
      have HSTR : Hid ((⟨(Lib.decDigits q).toArray⟩ : ByteArray) ++ ⟨#[UInt8.ofNat (48 + (r : Int)).toNat]⟩ = ⟨(Lib.decDigits u).toArray⟩) := by
        show _ = _
        rw [HD.out, show (48 + (r : Int)).toNat = 48 + r by omega]; simp [ByteArray.ext_iff]
      have hbd : Below w.heap.size w w.drew := (Below.refl _ _).drew
      have hbe : Below w.heap.size w (w.alloc (.cells #[.int .u8 (48 + (r : Int))] 5)).drew := ((Below.refl _ _).alloc (Nat.le_refl _) _).drew
      clear ih hc2 hcell hdd hq hr
      go_enter Tryd.func47, Tryd.ntmps47
      go_wp2_with fail
      go_region_law (first
        | ((go_simp; go_at_call 47; (with_reducible refine (IH.out _).mono ?_); rintro e w2 ⟨rfl, hb2⟩; (first | (have hcv2 := HC2.out w2 w.heap.size ((hb2.cell (p := ⟨w.heap.size, 0, Option.none⟩) (by simp)).trans HCELL.out)) | skip))))
      all_goals
        go_wp2_with fail
        go_ret
        refine ⟨ret_val (congrArg Value.string HSTR.out), ?_⟩
        first
          | exact (hbd.trans (hb2.mono (Nat.le_refl _))).alloc (Nat.le_trans hbd.size hb2.size) _
          | exact hbe.trans (hb2.mono hbe.size)
theorem info_str : (Tryd.prog.info? 9).map (fun i => (i.zero, i.size, i.bytes)) = some (some (.string { data := #[] }), 1, 16) := by kernel_rfl
set_option maxRecDepth 100000 in
set_option maxHeartbeats 2000000 in
theorem sgLine_any (l : List Int) (v : Value) (hi : Nat) (w : World) (h : RdI w hi v l) (hh : hi ≤ w.heap.size) (hl : l.length ≤ 1000) (hr : ∀ n ∈ l, 0 ≤ n ∧ n ≤ 63) :
    Calls Tryd.prog 36 #[v] w fun e w' => e = .returned (.string ⟨(numsT 32 l).toArray⟩) ∧ Below w.heap.size w w' := by
  obtain ⟨A, cc, rfl, hc, hm⟩ := Rd.form h
  have H := Lib.hid h
  have HR := Lib.hid hr
  clear h hr
  go_enter Tryd.func36, Tryd.ntmps36
  go_wp2
  go_loopw [3, 8] (fun s i wr => ∃ k : Nat, k ≤ l.length ∧ i = .int .i64 (k : Int) ∧ s = .string ⟨(numsT 32 (l.take k)).toArray⟩ ∧ Hid (Below w.heap.size w wr)) (fun _ i _ => l.length - (intOf i).toNat)
  case atStart => exact ⟨0, Nat.zero_le _, rfl, rfl, Below.refl _ _⟩
  case round =>
    obtain ⟨k, hk, rfl, rfl, hbr⟩ := hrel
    by_cases hlt : k < l.length
    · obtain ⟨b1, o1, c1, y, hv, _, hx, hcell1⟩ := Rd.at_ (RdI.below H.out hbr.out hh) hlt
      cases hv
      have hy := HR.out y (List.mem_of_getElem? hx)
      obtain ⟨m, rfl⟩ : ∃ m : Nat, y = (m : Int) := ⟨y.toNat, by omega⟩
      have HX := Lib.hid hx
      have hnl := numsT_len (c := 32) (l := l.take k) (fun n hn => HR.out n (List.mem_of_mem_take hn))
      rw [List.length_take] at hnl
      have hil := itoa_len hy.1 hy.2
      rw [Lib.itoa_nonneg] at hil
      have CN := Lib.hid (l1Num_any m (by omega) wr)
      obtain ⟨T, hT⟩ : ∃ T, T = numsT 32 (l.take k) := ⟨_, rfl⟩
      obtain ⟨D, hD⟩ : ∃ D, D = Lib.decDigits m := ⟨_, rfl⟩
      rw [← hT] at hnl ⊢
      rw [← hD] at CN hil
      have HT := Lib.hid hT
      have HD := Lib.hid hD
      have hT1 : T.length ≤ 3000 := by omega
      have hD1 : D.length ≤ 2 := hil.2
      clear hx hT hD hnl hil
      rcases Nat.eq_zero_or_pos k with h0 | h0
      · have hg : decide (0 < k) = false := decide_eq_false (by omega)
        have H0 := Lib.hid h0
        clear h0
        go_wp2_with fail
        refine CN.out.mono ?_
        rintro e w2 ⟨rfl, hb2⟩
        have HB := Lib.hid (hbr.out.trans (hb2.mono hbr.out.size))
        clear hb2
        go_wp2_with fail
        go_roundw
        case rel =>
          refine ⟨k + 1, by omega, by go_num, ?_, HB.out⟩
          have e1 : T = [] := by rw [HT.out, H0.out]; rfl
          rw [take_snocI HX.out, numsT_snoc, if_pos (by rw [H0.out]; rfl), Lib.itoa_nonneg, ← HD.out, e1]
          simp [ByteArray.ext_iff]
        case measure => (simp [intOf]; try omega)
      · have hg : decide (0 < k) = true := decide_eq_true (by omega)
        go_wp2_with fail
        refine CN.out.mono ?_
        rintro e w2 ⟨rfl, hb2⟩
        have HB := Lib.hid (hbr.out.trans (hb2.mono hbr.out.size))
        clear hb2
        go_wp2_with fail
        go_roundw
        case rel =>
          refine ⟨k + 1, by omega, by go_num, ?_, HB.out⟩
          have e1 : l.take k ≠ [] := by intro e; have := congrArg List.length e; rw [List.length_take, List.length_nil] at this; omega
          rw [take_snocI HX.out, numsT_snoc, if_neg e1, Lib.itoa_nonneg, ← HD.out, ← HT.out]
          simp [ByteArray.ext_iff]
        case measure => (simp [intOf]; try omega)
    · obtain rfl : k = l.length := by omega
      go_wp2_with fail
      go_ret
      exact ⟨ret_val (by rw [List.take_of_length_le (Nat.le_refl _)]; rfl), hbr.out⟩
end Go.Proofs.YtjnkdjokbamibaaDoor
/- Contracts: a text cut at a byte, a number read, ReadSignals; of the reference. -/
namespace Go.Proofs.YtjnkdjokbamibaaDoor
open Go.RowKit
abbrev strsT (xs : List (List UInt8)) : List Value := xs.map fun a => Value.string ⟨a.toArray⟩
/-- v is a row of texts that has been appended to since the world w. -/
def GrowS (w : World) (B : Nat) (wr : World) (v : Value) (xs : List (List UInt8)) : Prop := wr.ownsRow B 9 1 v xs.length (strsT xs) ∧ Below B w wr ∧ B ≤ wr.heap.size
theorem GrowS.start (w : World) : GrowS w w.heap.size w (.slice Option.none 0 0) [] := ⟨World.ownsRow_nil _ _ _ _, Below.refl _ _, Nat.le_refl _⟩
theorem GrowS.rd {w wr : World} {B : Nat} {v : Value} {xs : List (List UInt8)} (h : GrowS w B wr v xs) : Rd wr wr.heap.size 1 v xs.length (strsT xs) := rd_of_owns h.1 fun k hk => (h.1.lt k hk).2
theorem GrowS.app {w wr : World} {B : Nat} {v : Value} {xs : List (List UInt8)} {ops : Array Oper} {rest : List Oper} {o : Oper} {a : Act} {Q : Exit → Act → World → Prop} {y : ByteArray} (hgd : o.guard = Option.none) (s x : Operand)
    (ho : o.op = .call { callee := .builtin .append, args := #[s, x], argTypes := #[46, 46] }) (hG : GrowS w B wr v xs) (hlen : xs.length < 1099511627776)
    (hs : a.eval s = v) (hx : a.eval x = .slice (some ⟨wr.heap.size, 0, Option.none⟩) 1 1)
    (h : ∀ v' w', GrowS w B w' v' (xs ++ [y.data.toList]) → wpList Tryd.prog ops Q rest (a.put o.dst v') w') : wpList Tryd.prog ops Q (o :: rest) a (wr.alloc (.cells #[.string y] 9)) := by
  obtain ⟨i, hi, hz0, hz1, hz2⟩ := info_parts info_str
  refine wpList_append_own _ hgd s x 46 ho B 9 i (.string { data := #[] }) 1 16 Tryd.underlying46 hi hz0 hz1 hz2 rfl (by decide) v xs.length (strsT xs) hs (hG.1.alloc _) ⟨wr.heap.size, 0, Option.none⟩ 1 1 [.string y] hx rfl
    (one_cell _ _ _) (by intro u hu; simp at hu; subst hu; rfl) (by unfold maxLen; omega) (by omega) (by simp; have := hG.2.2; omega) ?_
  intro v' w' hown hgr _
  refine h v' w' ⟨?_, ?_, ?_⟩
  · simpa [strsT] using hown
  · exact (hG.2.1.alloc hG.2.2 _).grown hgr (by simp; have := hG.2.2; omega) (fun k hk => ((hG.1.alloc (.cells #[.string y] 9)).lt k hk).1)
  · have h1 := hgr.size; have h2 := hG.2.2; simp at h1; omega
def RetRdS (xs : List (List UInt8)) (w : World) (e : Ending) (w' : World) : Prop := ∃ v, e = .returned v ∧ Rd w' w'.heap.size 1 v xs.length (strsT xs) ∧ Below w.heap.size w w'
def RetGrS (xs : List (List UInt8)) (w : World) (e : Ending) (w' : World) : Prop := ∃ v, e = .returned v ∧ GrowS w w.heap.size w' v xs
theorem Rd.atS {w : World} {hi : Nat} {v : Value} {n : Nat} {xs : List (List UInt8)} (h : Rd w hi 1 v n (strsT xs)) {k : Nat} (hk : k < n) :
    ∃ b off c y, v = .slice (some ⟨b, off, Option.none⟩) n c ∧ b < hi ∧ xs[k]? = some y ∧ w.cell? ⟨b, off + k, Option.none⟩ = some (.string ⟨y.toArray⟩) := by
  obtain ⟨h0, A, c, h1, _, _, h4⟩ := h
  obtain ⟨b, off, rfl, hb, hc⟩ := h4 (by omega)
  have hl : xs.length = n := by simpa using h0
  have hx : xs[k]? = some (xs[k]'(by omega)) := List.getElem?_eq_getElem (by omega)
  exact ⟨b, off, c, _, h1, hb, hx, hc k _ (by rw [List.getElem?_map, hx]; rfl)⟩
theorem ext_mid (s : ByteArray) (m k : Nat) : (s.extract m k).data.toList = (s.data.toList.take k).drop m := by
  simp [ByteArray.data_extract, List.drop_take]
theorem split_hit {s : ByteArray} {c : UInt8} {k m : Nat} {o : List (List UInt8)} (hk : k < s.size) (h : splitC c (s.data.toList.take k) = o ++ [(s.data.toList.take k).drop m]) (hc : s[k].toNat = c.toNat) :
    splitC c (s.data.toList.take (k + 1)) = (o ++ [(s.extract m k).data.toList]) ++ [(s.data.toList.take (k + 1)).drop (k + 1)] := by
  have h1 := splitC_snoc (b := s[k]) h
  rw [if_pos (UInt8.toNat_inj.1 hc)] at h1
  have e : (s.data.toList.take (k + 1)).drop (k + 1) = [] := List.drop_eq_nil_of_le (by rw [List.length_take]; omega)
  rw [e, take_snoc s k hk, h1, ext_mid]
theorem split_miss {s : ByteArray} {c : UInt8} {k m : Nat} {o : List (List UInt8)} (hk : k < s.size) (hm : m ≤ k) (h : splitC c (s.data.toList.take k) = o ++ [(s.data.toList.take k).drop m]) (hc : ¬ s[k].toNat = c.toNat) :
    splitC c (s.data.toList.take (k + 1)) = o ++ [(s.data.toList.take (k + 1)).drop m] := by
  have h1 := splitC_snoc (b := s[k]) h
  rw [if_neg (fun e => hc (by rw [e]))] at h1
  have hl : k ≤ s.data.toList.length := by simp; omega
  rw [take_snoc s k hk, h1, List.drop_append_of_le_length (by rw [List.length_take]; omega)]
theorem split_end {s : ByteArray} {c : UInt8} {k m : Nat} {o : List (List UInt8)} (hk : ¬ k < s.size) (h : splitC c (s.data.toList.take k) = o ++ [(s.data.toList.take k).drop m]) :
    splitC c s.data.toList = o ++ [(s.extract m s.size).data.toList] := by
  rw [ext_mid, List.take_of_length_le (by simp)]
  rwa [List.take_of_length_le (by simp; omega)] at h
set_option maxRecDepth 100000 in
set_option maxHeartbeats 2000000 in
theorem l1Split_own (s : ByteArray) (c : UInt8) (hs : s.size ≤ 1099511627000) (w : World) : Calls Tryd.prog 24 #[.string s, .int .u8 (c.toNat : Int)] w (RetGrS (splitC c s.data.toList) w) := by
  go_enter Tryd.func24, Tryd.ntmps24
  go_wp2
  go_loopw [5, 6, 7] (fun q f i wr => ∃ (k m : Nat) (o : List (List UInt8)), k ≤ s.size ∧ m ≤ k ∧ f = .int .i64 (m : Int) ∧ i = .int .i64 (k : Int) ∧ o.length ≤ k ∧ Hid (splitC c (s.data.toList.take k) = o ++ [(s.data.toList.take k).drop m]) ∧ Hid (GrowS w w.heap.size wr q o)) (fun _ _ i _ => s.size - (intOf i).toNat)
  case atStart => exact ⟨0, 0, [], Nat.zero_le _, Nat.le_refl _, rfl, rfl, Nat.le_refl _, rfl, GrowS.start w⟩
  case round =>
    obtain ⟨k, m, o, hk, hm, rfl, rfl, ho, HS, HG⟩ := hrel
    by_cases hlt : k < s.size
    · by_cases hc : s[k].toNat = c.toNat
      · have hcz : ((s[k].toNat : Int) == (c.toNat : Int)) = true := by rw [hc]; exact beq_self_eq_true _
        have HC := Lib.hid hc
        clear hc
        go_wp2_with (at_builtin; refine GrowS.app rfl (.tmp 19) (.tmp 24) rfl HG.out (by omega) rfl rfl ?_; intro v' w1 hG'; have HG1 := Lib.hid hG'; clear hG')
        go_roundw
        case rel => exact ⟨k + 1, k + 1, _, by omega, Nat.le_refl _, by go_num, by go_num, by rw [List.length_append]; exact Nat.succ_le_succ ho, split_hit hlt HS.out HC.out, HG1.out⟩
        case measure => (simp [intOf]; try omega)
      · have hcz : ((s[k].toNat : Int) == (c.toNat : Int)) = false := by rw [beq_eq_false_iff_ne]; omega
        have HC := Lib.hid hc
        clear hc
        go_wp2_with fail
        go_roundw
        case rel => exact ⟨k + 1, m, o, by omega, by omega, rfl, by go_num, by omega, split_miss hlt hm HS.out HC.out, HG.out⟩
        case measure => (simp [intOf]; try omega)
    · have HE := Lib.hid (split_end hlt HS.out)
      go_wp2_with (at_builtin; refine GrowS.app rfl (.tmp 28) (.tmp 32) rfl HG.out (by omega) rfl rfl ?_; intro v' w1 hG'; have HG1 := Lib.hid hG'; clear hG')
      go_ret
      exact ⟨_, rfl, by rw [HE.out]; exact HG1.out⟩
theorem l1Split_any (s : ByteArray) (c : UInt8) (hs : s.size ≤ 1099511627000) (w : World) : Calls Tryd.prog 24 #[.string s, .int .u8 (c.toNat : Int)] w (RetRdS (splitC c s.data.toList) w) :=
  (l1Split_own s c hs w).mono fun _ _ ⟨v, h1, h2⟩ => ⟨v, h1, h2.rd, h2.2.1⟩
theorem readR_out {a : List UInt8} (h : ¬ (1 ≤ a.length ∧ a.length ≤ 6)) : readR a = -1 := by
  unfold readR
  rw [inB_false (by omega)]
  rfl
theorem readR_lead {a : List UInt8} (h : a.head? = some 48) (h1 : 1 < a.length) : readR a = -1 := by
  unfold readR
  rw [decide_eq_true h, decide_eq_true h1]
  simp
theorem readR_no {s : ByteArray} {k : Nat} (h : k < s.size) (h1 : ¬ (48 ≤ s[k].toNat ∧ s[k].toNat ≤ 57)) : readR s.data.toList = -1 := by
  have : s.data.toList.all isDig = false := by
    rw [List.all_eq_false]
    refine ⟨s[k], List.getElem_mem (l := s.data.toList) (by simpa using h), ?_⟩
    unfold isDig
    rw [Bool.and_eq_true, decide_eq_true_eq, decide_eq_true_eq]
    exact h1
  unfold readR
  rw [this]
  simp
theorem readR_yes {a : List UInt8} (h : 1 ≤ a.length ∧ a.length ≤ 6) (h0 : ¬ (a.head? = some 48 ∧ 1 < a.length)) (hd : a.all isDig = true) : readR a = decV a := by
  unfold readR
  rw [inB_iff.2 (by omega), hd]
  have : (decide (a.head? = some 48) && decide (1 < a.length)) = false := by
    rw [Bool.and_eq_false_iff, decide_eq_false_iff_not, decide_eq_false_iff_not]
    exact Decidable.not_and_iff_or_not.1 h0
  rw [this]
  rfl
theorem head_byte {s : ByteArray} (h : 0 < s.size) : s.data.toList.head? = some s[0] := by
  rw [List.head?_eq_getElem?, List.getElem?_eq_getElem (by simpa using h)]; rfl
set_option maxRecDepth 100000 in
set_option maxHeartbeats 2000000 in
theorem l1Read_any (s : ByteArray) (hs : s.size ≤ 1099511627000) (w : World) : Calls Tryd.prog 25 #[.string s] w fun e w' => e = .returned (.int .i64 (readR s.data.toList)) ∧ w = w' := by
  by_cases h1 : 1 ≤ s.size ∧ s.size ≤ 6
  · have cI := l1In_any (s.size : Int) 1 6 w
    rw [inB_iff.2 (by omega)] at cI
    have CI := Lib.hid cI
    clear cI
    by_cases h0 : s[0].toNat = 48 ∧ 1 < s.size
    · have HR : Hid (readR s.data.toList = -1) := readR_lead (by rw [head_byte (by omega)]; exact congrArg some (UInt8.toNat_inj.1 h0.1)) (by simpa using h0.2)
      have hz : ((s[0].toNat : Int) == 48) = true := by rw [h0.1]; rfl
      have hl : decide (1 < s.size) = true := decide_eq_true h0.2
      obtain ⟨h00, h01⟩ := h0
      obtain ⟨h10, h11⟩ := h1
      go_enter Tryd.func25, Tryd.ntmps25
      go_wp2_with (go_at_call 43; refine (CI.out).mono ?_; rintro e w' ⟨rfl, rfl⟩)
      go_ret
      exact ⟨ret_int HR.out.symm, rfl⟩
    · have HY : Hid (s.data.toList.all isDig = true → readR s.data.toList = decV s.data.toList) := fun hd => readR_yes (by simpa using h1) (by
        rw [head_byte (by omega)]
        rintro ⟨e1, e2⟩
        injection e1 with e1
        exact h0 ⟨by rw [e1]; rfl, by simpa using e2⟩) hd
      obtain ⟨h10, h11⟩ := h1
      go_enter Tryd.func25, Tryd.ntmps25
      go_wp2_with (go_at_call 43; refine (CI.out).mono ?_; rintro e w' ⟨rfl, rfl⟩)
      all_goals
        go_loop [3, 4] (fun n i => ∃ k : Nat, k ≤ s.size ∧ i = .int .i64 (k : Int) ∧ n = .int .i64 (decV (s.data.toList.take k)) ∧ Hid ((s.data.toList.take k).all isDig = true)) (fun _ i => s.size - (intOf i).toNat)
        case atStart => exact ⟨0, Nat.zero_le _, rfl, rfl, rfl⟩
        case round =>
          obtain ⟨k, hk, rfl, rfl, HD⟩ := hrel
          have hbd := decV_bd k (s.data.toList.take k) (by rw [List.length_take]; omega) HD.out
          have hle : (10 : Int) ^ (s.data.toList.take k).length ≤ 10 ^ 6 := by
            exact_mod_cast Nat.pow_le_pow_right (by omega) (by rw [List.length_take]; omega)
          obtain ⟨z, hz⟩ : ∃ z, z = decV (s.data.toList.take k) := ⟨_, rfl⟩
          rw [← hz] at hbd ⊢
          have HZ := Lib.hid hz
          have hz0 := hbd.1
          have hz1 : z < 1000000 := by omega
          clear hz hbd hle
          by_cases hlt : k < s.size
          · by_cases hd : 48 ≤ s[k].toNat ∧ s[k].toNat ≤ 57
            · have HS : Hid ((s.data.toList.take (k + 1)).all isDig = true ∧ 10 * z + ((s[k].toNat : Int) - 48) = decV (s.data.toList.take (k + 1))) := by
                constructor
                · rw [take_snoc s k hlt, List.all_append, HD.out]
                  simp [isDig, hd.1, hd.2]
                · rw [take_snoc s k hlt, decV_snoc, ← HZ.out]
              obtain ⟨hd0, hd1⟩ := hd
              have hw3 : IntKind.u8.wrap ((s[k].toNat : Int) - 48) = (s[k].toNat : Int) - 48 := by rw [IntKind.wrap_u8]; omega
              go_wp2_with fail
              go_round
              case rel => exact ⟨k + 1, by omega, by go_num, by rw [← HS.out.2], HS.out.1⟩
              case measure => (simp [intOf]; try omega)
            · have HN := Lib.hid (readR_no hlt hd)
              go_wp2_with fail
              all_goals first
                | (exfalso; omega)
                | (go_ret; exact ⟨ret_int HN.out.symm, rfl⟩)
          · have HE : Hid (readR s.data.toList = z) := by
              have h2 := HD.out
              have h3 := HZ.out
              rw [List.take_of_length_le (by simp; omega)] at h2 h3
              exact (HY.out h2).trans h3.symm
            go_wp2_with fail
            go_ret
            exact ⟨ret_int HE.out.symm, rfl⟩
  · have cI := l1In_any (s.size : Int) 1 6 w
    rw [inB_false (by omega)] at cI
    have CI := Lib.hid cI
    clear cI
    have HR : Hid (readR s.data.toList = -1) := readR_out (by simpa using h1)
    clear h1
    go_enter Tryd.func25, Tryd.ntmps25
    go_wp2_with (go_at_call 43; refine (CI.out).mono ?_; rintro e w' ⟨rfl, rfl⟩)
    go_ret
    exact ⟨ret_int HR.out.symm, rfl⟩
theorem refO_in {s : List UInt8} (h : s ≠ []) {q : List Int} (hq : q = (splitC 32 s).map readR) {g t : Bool} (hg : sigsB q = g) (ht : g = true → decide (numsT 32 q = s) = t) :
    refO s = if g && t then some q else Option.none := by
  unfold refO
  rw [if_neg h, ← hq, hg]
  cases g
  · rfl
  · rw [ht rfl]
theorem split_take {α β : Type} (f : α → β) {xs : List α} {k : Nat} {y : α} (h : xs[k]? = some y) : (xs.take (k + 1)).map f = (xs.take k).map f ++ [f y] := by rw [take_snocN h, List.map_append]; rfl
theorem dec_of_beq {a b : List UInt8} {t : Bool} (h : (a == b) = t) : decide (a = b) = t := by
  cases t
  · exact decide_eq_false (ne_of_beq_false h)
  · exact decide_eq_true (eq_of_beq h)
theorem splitC_le {c : UInt8} : ∀ {l : List UInt8} {a : List UInt8}, a ∈ splitC c l → a.length ≤ l.length := by
  intro l
  induction l with
  | nil => intro a h; simp [splitC] at h; subst h; exact Nat.le_refl _
  | cons b r ih =>
    intro a h
    unfold splitC at h
    split at h
    · rcases List.mem_cons.1 h with rfl | h
      · exact Nat.zero_le _
      · have := ih h; simp; omega
    · split at h
      · rename_i hs; exact absurd hs (splitC_ne c r)
      · rename_i x q hs
        rcases List.mem_cons.1 h with rfl | h
        · have := ih (a := x) (by rw [hs]; exact List.mem_cons_self)
          simp; omega
        · have := ih (a := a) (by rw [hs]; exact List.mem_cons_of_mem _ h)
          simp; omega
set_option maxRecDepth 100000 in
set_option maxHeartbeats 2000000 in
theorem sgParse_any (s : ByteArray) (hs : s.size ≤ 1048576) (w : World) : Calls Tryd.prog 42 #[.string s] w (RetOwT ((refO s.data.toList).getD []) (refO s.data.toList).isSome w) := by
  have hs1 : (splitC 32 s.data.toList).length ≤ s.data.toList.length + 1 := (splitC_len 32 _).2
  have hs2 : s.data.toList.length = s.size := by simp
  have hml : ∀ a ∈ splitC 32 s.data.toList, a.length ≤ s.data.toList.length := fun a h => splitC_le h
  have cS := l1Split_any s 32 (by omega) w
  obtain ⟨P, hP⟩ : ∃ P, P = splitC 32 s.data.toList := ⟨_, rfl⟩
  rw [← hP] at hs1 cS hml
  have HP := Lib.hid hP
  have HM := Lib.hid hml
  have CS : Hid (Calls Tryd.prog 24 #[.string s, .int .u8 32] w (RetRdS P w)) := cS
  clear hP hml cS
  cases hse : s.toList.isEmpty
  · have HN : Hid (s.data.toList ≠ []) := fun e => by rw [ByteArray.toList_eq, e] at hse; cases hse
    go_enter Tryd.func42, Tryd.ntmps42
    go_wp2_with fail
    refine CS.out.mono ?_
    rintro e w1 ⟨vp, rfl, hrd, hb1⟩
    obtain ⟨A, c, rfl, hc, hm⟩ := Rd.form hrd
    have HR := Lib.hid hrd
    have HB1 := Lib.hid hb1
    clear hrd hb1
    go_wp2_with fail
    go_loopw [4, 12] (fun q i wr => ∃ k : Nat, k ≤ P.length ∧ i = .int .i64 (k : Int) ∧ Hid (GrowI w1 w1.heap.size wr q ((P.take k).map readR))) (fun _ i _ => P.length - (intOf i).toNat)
    case atStart => exact ⟨0, Nat.zero_le _, rfl, GrowI.start w1⟩
    case round =>
      obtain ⟨k, hk, rfl, HG⟩ := hrel
      by_cases hlt : k < P.length
      · obtain ⟨b1, o1, c1, y, hv, _, hx, hcell1⟩ := Rd.atS (Rd.below HR.out HG.out.2.1 (Nat.le_refl _)) hlt
        injection hv with hv1 hv2 hv3; cases hv1; clear hv2 hv3
        have hy := HM.out y (List.mem_of_getElem? hx)
        have HS := Lib.hid (split_take readR hx)
        have cR : Calls Tryd.prog 25 #[.string ⟨y.toArray⟩] wr fun e w' => e = .returned (.int .i64 (readR y)) ∧ wr = w' := l1Read_any ⟨y.toArray⟩ (by show y.toArray.size ≤ _; simp; omega) wr
        have CR := Lib.hid cR
        have hln : ((P.take k).map readR).length ≤ P.length := by simp; omega
        clear hx cR
        go_wp2_with (first | (go_at_call 25; refine (CR.out).mono ?_; rintro e w' ⟨rfl, rfl⟩) | (at_builtin; refine GrowI.app rfl (.tmp 16) (.tmp 19) rfl HG.out (by omega) rfl rfl ?_; intro v' w2 hG'; have HG1 := Lib.hid hG'; clear hG'))
        go_roundw
        case rel => exact ⟨k + 1, by omega, by go_num, by rw [HS.out]; exact HG1.out⟩
        case measure => (simp [intOf]; try omega)
      · have hg := HG.out
        rw [List.take_of_length_le (by omega)] at hg
        obtain ⟨q, hq⟩ : ∃ q, q = P.map readR := ⟨_, rfl⟩
        rw [← hq] at hg
        have hql : q.length ≤ P.length := by rw [hq, List.length_map]; exact Nat.le_refl _
        rw [HP.out] at hq
        have HQ := Lib.hid hq
        have hrd := hg.own.rd
        have how := hg.own
        have hbw : Below w.heap.size w wr := HB1.out.trans (hg.2.1.mono HB1.out.size)
        have HBW := Lib.hid hbw
        have HOW := Lib.hid (how.mono HB1.out.size (Nat.le_refl _))
        obtain ⟨A2, c2, rfl, hc2, hm2⟩ := Rd.form hrd
        have HRD := Lib.hid hrd
        clear hg hq hrd how hbw HG
        have cL := sgList_any q _ _ _ HRD.out
        cases hg : sigsB q
        · rw [hg] at cL
          have HO := Lib.hid (refO_in HN.out HQ.out (t := true) hg (fun h => by cases h))
          have CL := Lib.hid cL
          clear cL hg
          go_wp2_with (go_at_call 35; refine (CL.out).mono ?_; rintro e w' ⟨rfl, rfl⟩)
          go_ret2
          rw [HO.out]
          exact retOwT _ (GrowI.nil HBW.out)
        · rw [hg] at cL
          have hsl := sigL_iff.1 hg
          have cN := sgLine_any q _ _ _ HRD.out (Nat.le_refl _) (by omega) hsl.2
          have CL := Lib.hid cL
          have CN := Lib.hid cN
          cases ht : (numsT 32 q == s.toList)
          all_goals
            have hd := ht
            rw [ByteArray.toList_eq] at hd
            have hd := dec_of_beq hd
            have HO := Lib.hid (refO_in HN.out HQ.out hg (fun _ => hd))
            clear hd cL cN hg hsl
            go_wp2_with (first | (go_at_call 35; refine (CL.out).mono ?_; rintro e w' ⟨rfl, rfl⟩) | (go_at_call 36; refine CN.out.mono ?_; rintro e w3 ⟨rfl, hb3⟩; have HB3 := Lib.hid hb3; clear hb3))
            go_ret2
            rw [HO.out]
            first
              | exact retOwT _ (GrowI.nil (HBW.out.trans (HB3.out.mono HBW.out.size)))
              | exact ⟨_, rfl, ((HOW.out.below HB3.out (Nat.le_refl _)).mono (Nat.le_refl _) HB3.out.size), HBW.out.trans (HB3.out.mono HBW.out.size)⟩
  · have HN : Hid (s.data.toList = []) := by
      have := List.isEmpty_iff.1 hse
      rwa [ByteArray.toList_eq] at this
    go_enter Tryd.func42, Tryd.ntmps42
    go_wp2_with fail
    go_ret2
    rw [HN.out]
    exact retOwT_nil w true
set_option maxRecDepth 100000 in
set_option maxHeartbeats 2000000 in
theorem sReadSignals_any (s : ByteArray) (hs : s.size ≤ 1048576) (w : World) : Calls Tryd.prog 20 #[.string s] w (RetOwT ((readO s.data.toList).getD []) (readO s.data.toList).isSome w) := by
  rw [← refO_eq]
  obtain ⟨xs, hxs⟩ : ∃ xs, xs = (refO s.data.toList).getD [] := ⟨_, rfl⟩
  obtain ⟨b, hb⟩ : ∃ b, b = (refO s.data.toList).isSome := ⟨_, rfl⟩
  have cP := sgParse_any s hs w
  rw [← hxs, ← hb] at cP ⊢
  have CP := Lib.hid cP
  clear cP hxs hb
  go_enter Tryd.func20, Tryd.ntmps20
  go_wp2_with fail
  refine CP.out.mono ?_
  rintro e w1 ⟨v, rfl, how, hbw⟩
  obtain ⟨A, c, rfl, hc⟩ := how.form
  have HOW := Lib.hid how
  clear how
  go_wp2_with fail
  go_ret2
  exact ⟨_, rfl, HOW.out, hbw⟩
end Go.Proofs.YtjnkdjokbamibaaDoor
