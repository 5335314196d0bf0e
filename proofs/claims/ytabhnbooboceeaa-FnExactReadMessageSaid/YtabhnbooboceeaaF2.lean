/- Plain laws: the two tables of the program's search for the first list of the least cost. -/
import Derived.Test.YtabhnbooboceeaaF1
namespace Go.Proofs.Ytabhnbooboceeaa
/-- The least, as the program writes it: 2^30 for none. -/
def bigI : Option Nat → Int
  | some m => (m : Int)
  | Option.none => 1073741824
abbrev bigs (l : List (Option Nat)) : List Value := l.map fun m => Value.int .i64 (bigI m)
def bigZ (m : Nat) (tb : List (Option Nat)) : List Value := List.replicate m (Value.int .i64 0) ++ bigs tb
theorem bigZ_at {m : Nat} {a : Option Nat} {tb : List (Option Nat)} : (bigZ m (a :: tb))[m]? = some (.int .i64 (bigI a)) := by
  unfold bigZ; rw [List.getElem?_append_right (by simp)]; simp
theorem bigZ_on {m d : Nat} {a b : Option Nat} {tb : List (Option Nat)} (h : tb[d]? = some b) : (bigZ m (a :: tb))[m + 1 + d]? = some (.int .i64 (bigI b)) := by
  unfold bigZ; rw [List.getElem?_append_right (by simp; omega)]; simp [show m + 1 + d - m = d + 1 by omega, h]
theorem bigZ_set {m : Nat} {a b : Option Nat} {tb : List (Option Nat)} : (bigZ m (a :: tb)).set m (.int .i64 (bigI b)) = bigZ m (b :: tb) := by
  unfold bigZ
  rw [List.set_append_right _ _ (by simp)]; simp
theorem bigZ_down {m : Nat} {tb : List (Option Nat)} : (bigZ (m + 1) tb).set m (.int .i64 1073741824) = bigZ m (Option.none :: tb) := by
  unfold bigZ
  rw [List.replicate_succ', List.append_assoc, List.set_append_right _ _ (by simp)]; simp [bigI]
theorem bigZ_below {m : Nat} {tb : List (Option Nat)} : (bigZ (m + 1) tb)[m]? = some (.int .i64 0) := by
  unfold bigZ; rw [List.getElem?_append_left (by simp)]; simp
theorem bigZ_start (n : Nat) : (zeros (n + 1)).toList = bigZ n [some 0] := by
  unfold bigZ zeros
  simp [bigI, List.replicate_succ']
theorem tblZ_zero (n : Nat) : (zeros (n + 1)).toList = tblZ n [0] := by
  unfold tblZ zeros
  simp [List.replicate_succ']
/-- The table of the first phrases that reach the least. -/
def fstD (fit : Nat → Phr → Bool) (len cost : Phr → Nat) (ps : List Phr) (n : Nat) : Nat → List Nat
  | 0 => [0]
  | k + 1 => ((fstAt (valP (fit (n - (k + 1))) len cost (dpL fit len cost ps n k)) ps (lsAt (fit (n - (k + 1))) len cost ps (dpL fit len cost ps n k))).getD 0) :: fstD fit len cost ps n k
theorem fstD_len (fit : Nat → Phr → Bool) (len cost : Phr → Nat) (ps : List Phr) (n k : Nat) : (fstD fit len cost ps n k).length = k + 1 := by
  induction k with
  | zero => rfl
  | succ k ih => simp [fstD, ih]
theorem fstD_drop (fit : Nat → Phr → Bool) (len cost : Phr → Nat) (ps : List Phr) (n : Nat) : ∀ k j, j ≤ k → (fstD fit len cost ps n k).drop j = fstD fit len cost ps n (k - j)
  | 0, j, h => by obtain rfl : j = 0 := by omega
                  rfl
  | k + 1, 0, _ => rfl
  | k + 1, j + 1, h => by rw [fstD, List.drop_succ_cons, fstD_drop fit len cost ps n k j (by omega), show k + 1 - (j + 1) = k - j by omega]
theorem fstD_at {fit : Nat → Phr → Bool} {len cost : Phr → Nat} {ps : List Phr} {n m : Nat} (h : m < n) : (fstD fit len cost ps n n)[m]? = some ((nextL fit len cost ps n m).getD 0) := by
  have h1 := fstD_drop fit len cost ps n n m (by omega)
  obtain ⟨k, hk⟩ : ∃ k, n - m = k + 1 := ⟨n - m - 1, by omega⟩
  rw [hk, fstD] at h1
  have h2 : ((fstD fit len cost ps n n).drop m)[0]? = some ((fstAt (valP (fit (n - (k + 1))) len cost (dpL fit len cost ps n k)) ps (lsAt (fit (n - (k + 1))) len cost ps (dpL fit len cost ps n k))).getD 0) := by rw [h1]; rfl
  rw [List.getElem?_drop, Nat.add_zero] at h2
  have h3 := dpL_at (fit := fit) (len := len) (cost := cost) (ps := ps) h
  rw [h2, show n - (k + 1) = m by omega, show k = n - (m + 1) by omega]
  unfold nextL
  rw [List.getD_eq_getElem?_getD, h3]; rfl
/-- What the program holds of a place, the first j phrases seen. -/
def lsJ (fit : Phr → Bool) (len cost : Phr → Nat) (ps : List Phr) (tb : List (Option Nat)) (j : Nat) : Option Nat := lsAt fit len cost (ps.take j) tb
def fsJ (fit : Phr → Bool) (len cost : Phr → Nat) (ps : List Phr) (tb : List (Option Nat)) (j : Nat) : Nat := (fstAt (valP fit len cost tb) (ps.take j) (lsJ fit len cost ps tb j)).getD 0
theorem lsJ_keep {fit : Phr → Bool} {len cost : Phr → Nat} {ps : List Phr} {tb : List (Option Nat)} {j : Nat} {p : Phr} (hp : ps[j]? = some p) (h : ∀ v, valP fit len cost tb p = some v → ∃ c, lsJ fit len cost ps tb j = some c ∧ c ≤ v) :
    lsJ fit len cost ps tb (j + 1) = lsJ fit len cost ps tb j ∧ fsJ fit len cost ps tb (j + 1) = fsJ fit len cost ps tb j := by
  have hj := (List.getElem?_eq_some_iff.1 hp).1
  have h1 : lsJ fit len cost ps tb (j + 1) = lsJ fit len cost ps tb j := by
    unfold lsJ at h ⊢
    rw [lsAt_snoc hp, lsStep_val]
    cases hv : valP fit len cost tb p with
    | none => rfl
    | some v =>
      obtain ⟨c, hc, hcv⟩ := h v hv
      rw [hc]
      simp only [lsUpd]
      rw [if_neg (by omega)]
  refine ⟨h1, ?_⟩
  unfold fsJ
  rw [h1, take_snocN hp, fstAt_keep (show Least _ _ (lsJ fit len cost ps tb j) from least_lsAt j (by omega))]
theorem lsJ_new {fit : Phr → Bool} {len cost : Phr → Nat} {ps : List Phr} {tb : List (Option Nat)} {j : Nat} {p : Phr} {v : Nat} (hp : ps[j]? = some p) (hv : valP fit len cost tb p = some v) (h : ∀ c, lsJ fit len cost ps tb j = some c → v < c) :
    lsJ fit len cost ps tb (j + 1) = some v ∧ fsJ fit len cost ps tb (j + 1) = j := by
  have hj := (List.getElem?_eq_some_iff.1 hp).1
  have h1 : lsJ fit len cost ps tb (j + 1) = some v := by
    unfold lsJ at h ⊢
    rw [lsAt_snoc hp, lsStep_val, hv]
    generalize lsAt fit len cost (ps.take j) tb = cur at h ⊢
    cases cur with
    | none => rfl
    | some c => simp only [lsUpd]; rw [if_pos (h c rfl)]
  refine ⟨h1, ?_⟩
  unfold fsJ
  rw [h1, take_snocN hp, fstAt_new (least_lsAt j (by omega)) hv h, List.length_take, Nat.min_eq_left (by omega)]
  rfl
theorem lsJ_end {fit : Nat → Phr → Bool} {len cost : Phr → Nat} {ps : List Phr} {n k m : Nat} (h : m + (k + 1) = n) :
    lsJ (fit m) len cost ps (dpL fit len cost ps n k) ps.length :: dpL fit len cost ps n k = dpL fit len cost ps n (k + 1) ∧ fsJ (fit m) len cost ps (dpL fit len cost ps n k) ps.length :: fstD fit len cost ps n k = fstD fit len cost ps n (k + 1) := by
  have e : n - (k + 1) = m := by omega
  unfold fsJ lsJ
  rw [List.take_length, dpL, fstD, e]
  exact ⟨rfl, rfl⟩
theorem lsJ_zero {fit : Phr → Bool} {len cost : Phr → Nat} {ps : List Phr} {tb : List (Option Nat)} : lsJ fit len cost ps tb 0 = Option.none ∧ fsJ fit len cost ps tb 0 = 0 := ⟨rfl, rfl⟩
theorem valP_no {fit : Phr → Bool} {len cost : Phr → Nat} {tb : List (Option Nat)} {p : Phr} (h : fit p = false) : valP fit len cost tb p = Option.none := by unfold valP; rw [h]; rfl
theorem valP_none {fit : Phr → Bool} {len cost : Phr → Nat} {tb : List (Option Nat)} {p : Phr} (ht : tb[len p - 1]? = some Option.none) : valP fit len cost tb p = Option.none := by
  unfold valP; rw [List.getD_eq_getElem?_getD, ht]; split <;> rfl
theorem valP_yes {fit : Phr → Bool} {len cost : Phr → Nat} {tb : List (Option Nat)} {p : Phr} {v : Nat} (h : fit p = true) (ht : tb[len p - 1]? = some (some v)) : valP fit len cost tb p = some (cost p + v) := by
  unfold valP; rw [h, List.getD_eq_getElem?_getD, ht]; rfl
/-- The first of the first j phrases that a test holds for. -/
def fstJ (t : Phr → Bool) (ps : List Phr) (j : Nat) : Option Nat := (ps.take j).findIdx? t
theorem fstJ_old {t : Phr → Bool} {ps : List Phr} {j i : Nat} {p : Phr} (hp : ps[j]? = some p) (h : fstJ t ps j = some i) : fstJ t ps (j + 1) = some i := by
  unfold fstJ at h ⊢; rw [take_snocN hp, List.findIdx?_append, h]; rfl
theorem fstJ_no {t : Phr → Bool} {ps : List Phr} {j : Nat} {p : Phr} (hp : ps[j]? = some p) (h : fstJ t ps j = Option.none) (hf : t p = false) : fstJ t ps (j + 1) = Option.none := by
  unfold fstJ at h ⊢; rw [take_snocN hp, List.findIdx?_append, h]; simp [hf]
theorem fstJ_yes {t : Phr → Bool} {ps : List Phr} {j : Nat} {p : Phr} (hp : ps[j]? = some p) (h : fstJ t ps j = Option.none) (hf : t p = true) : fstJ t ps (j + 1) = some j := by
  have hj := (List.getElem?_eq_some_iff.1 hp).1
  unfold fstJ at h ⊢; rw [take_snocN hp, List.findIdx?_append, h]; simp [hf]; omega
theorem fstJ_end {t : Phr → Bool} {ps : List Phr} : fstJ t ps ps.length = ps.findIdx? t := by unfold fstJ; rw [List.take_length]
/-- The test of the reference at place m, where the least is c. -/
def okL (fit : Nat → Phr → Bool) (len cost : Phr → Nat) (ps : List Phr) (n m c : Nat) (p : Phr) : Bool := valP (fit m) len cost (dpL fit len cost ps n (n - (m + 1))) p == some c
theorem nextL_ok {fit : Nat → Phr → Bool} {len cost : Phr → Nat} {ps : List Phr} {n m c : Nat} (h : (dpL fit len cost ps n n).getD m Option.none = some c) : ps.findIdx? (okL fit len cost ps n m c) = nextL fit len cost ps n m := by
  unfold nextL; rw [h]; rfl
theorem okL_no {fit : Nat → Phr → Bool} {len cost : Phr → Nat} {ps : List Phr} {n m c : Nat} {p : Phr} (h : fit m p = false) : okL fit len cost ps n m c p = false := by unfold okL; rw [valP_no h]; rfl
theorem okL_none {fit : Nat → Phr → Bool} {len cost : Phr → Nat} {ps : List Phr} {n m c : Nat} {p : Phr} (hm : m < n) (hl : 1 ≤ len p) (h : (dpL fit len cost ps n n)[m + len p]? = some Option.none) : okL fit len cost ps n m c p = false := by
  have h2 := dpL_rest (fit := fit) (len := len) (cost := cost) (ps := ps) (d := len p - 1) hm
  rw [show m + 1 + (len p - 1) = m + len p by omega, h] at h2
  unfold okL; rw [valP_none h2]; rfl
theorem okL_some {fit : Nat → Phr → Bool} {len cost : Phr → Nat} {ps : List Phr} {n m c v : Nat} {p : Phr} (hm : m < n) (hf : fit m p = true) (hl : 1 ≤ len p) (h : (dpL fit len cost ps n n)[m + len p]? = some (some v)) : okL fit len cost ps n m c p = decide (cost p + v = c) := by
  have h2 := dpL_rest (fit := fit) (len := len) (cost := cost) (ps := ps) (d := len p - 1) hm
  rw [show m + 1 + (len p - 1) = m + len p by omega, h] at h2
  unfold okL; rw [valP_yes hf h2]; simp only [Option.some_beq_some]; by_cases e : cost p + v = c <;> simp [e]
end Go.Proofs.Ytabhnbooboceeaa
