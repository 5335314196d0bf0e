/- Texts of one claim, joined: J4, R1, R2, B3, C1, K, D3, E1, R4, B6. -/
import Derived.Deep.QuietTactic
import Derived.BigQuiet
import Derived.BigRegion
import Derived.Test.YtabiobjcfopakaaC2LeastCodes
/- Contracts: comparison of lists of numbers in a law, the bound on a law's inputs; what a list of bytes is; plain laws of signals. -/
namespace Go.Proofs.Ytabiobjcfopakaa
open Go.RowKit Go.ChangeShapes Go.WideShapes Go.ChangeAt Go.Deep
theorem u8_of (vs : List Value) (h : ∀ (i : Nat) (u : Value), vs[i]? = some u → ∃ n, u = Value.int .u8 n ∧ 0 ≤ n ∧ n ≤ 255) : ∃ zs, vs = bytesV zs := by
  induction vs with
  | nil => exact ⟨[], rfl⟩
  | cons v r ih =>
    obtain ⟨n, hn, h0, h1⟩ := h 0 v rfl
    obtain ⟨zs, hzs⟩ := ih (fun i u hu => h (i + 1) u (by simpa using hu))
    refine ⟨UInt8.ofNat n.toNat :: zs, ?_⟩
    rw [hn, hzs]
    have : ((UInt8.ofNat n.toNat).toNat : Int) = n := by
      rw [UInt8.toNat_ofNat']
      omega
    simp [bytesV]
    omega
theorem trod_u8 {H : Type} {enc : TypeId × Value → H} {P : Program} {w : World} {base : Nat} {spare : Nat → Bool} {held : Bool} {fuel : Nat} {t : TypeId} {v : Value} {x : DataW H × List MemPlace}
    (ht : P.underlying t = some (.int .u8)) (h : DataW.trod enc P w base spare held fuel t [v] = some x) : ∃ n, v = .int .u8 n ∧ 0 ≤ n ∧ n ≤ 255 := by
  obtain ⟨n, e1, _, e3⟩ := DataW.trod_int ht h
  refine ⟨n, by simpa using e1, ?_⟩
  simp [Lit.wf] at e3
  have a0 : IntKind.u8.min = 0 := by decide
  have a1 : IntKind.u8.max = 255 := by decide
  omega
theorem open_byteS {H : Type} {enc : TypeId × Value → H} {w : World} {spare : Nat → Bool} {held : Bool} {fuel : Nat} {v : Value} {x : DataW H × List MemPlace}
    (h : DataW.trod enc Try.prog w 0 spare held fuel 22 [v] = some x) : ∃ zs, RdU w w.heap.size v zs := by
  obtain ⟨n, vs, hr, hl, hk⟩ := open_row Try.underlying22 (by kernel_rfl) h
  obtain ⟨zs, rfl⟩ := u8_of vs (fun i u hu => by
    obtain ⟨f, y, hy⟩ := hk i u hu
    exact trod_u8 Try.underlying5 hy)
  have : zs.length = n := by simpa [bytesV] using hl
  subst this
  exact ⟨zs, hr⟩
theorem RdU.below {w w' : World} {hi : Nat} {v : Value} {zs : List UInt8} (h : RdU w hi v zs) {B : Nat} (hb : Below B w w') (hB : hi ≤ B) : RdU w' hi v zs := Rd.below h hb hB
set_option maxHeartbeats 400000 in
theorem sameInts_same (xs : List Int) (v u : Value) (hi hj : Nat) (w : World) (h : RdI w hi v xs) (g : RdI w hj u xs) : Calls Try.prog 25 #[v, u] w fun e w' => e = .returned (.bool true) ∧ ∃ n, w' = w.drewN n := by
  obtain ⟨A, c, rfl, hc, hm⟩ := Rd.form h
  obtain ⟨A', c', rfl, hc', hm'⟩ := Rd.form g
  have H := Lib.hid h
  have G := Lib.hid g
  clear h g
  go_enter Try.func25, Try.ntmps25
  go_wp2
  go_loopw [13] (fun i wr => ∃ k : Nat, k ≤ xs.length ∧ i = .int .i64 k ∧ ∃ n, wr = w.drewN n) (fun i _ => xs.length - (intOf i).toNat)
  case atStart => exact ⟨0, Nat.zero_le _, rfl, 0, rfl⟩
  case round =>
    obtain ⟨k, hk, rfl, n, rfl⟩ := hrel
    by_cases hlt : k < xs.length
    · obtain ⟨b1, o1, c1, x, hv, _, hx, hcell1⟩ := Rd.at_ H.out hlt
      cases hv
      obtain ⟨b2, o2, c2, y, hv, _, hy, hcell2⟩ := Rd.at_ G.out hlt
      injection hv with hv1 hv2 hv3
      subst hv1
      rw [hx] at hy
      cases hy
      clear hx hv2 hv3
      go_wp2
      go_quiet (fail)
      go_wp2
      go_roundw
      case rel => exact ⟨k + 1, by omega, by go_num, _, rfl⟩
      case measure => simp [intOf]; omega
    · go_wp2
      go_ret
      exact ⟨rfl, _, rfl⟩
set_option maxHeartbeats 400000 in
theorem qInts_same (xs : List Int) (v u : Value) (hi hj : Nat) (w : World) (h : RdI w hi v xs) (g : RdI w hj u xs) : Calls Try.prog 51 #[v, u] w fun e w' => e = .returned (.bool true) ∧ ∃ n, w' = w.drewN n := by
  obtain ⟨A, c, rfl, hc, hm⟩ := Rd.form h
  obtain ⟨A', c', rfl, hc', hm'⟩ := Rd.form g
  have H := Lib.hid h
  have G := Lib.hid g
  clear h g
  go_enter Try.func51, Try.ntmps51
  go_wp2
  go_loopw [13] (fun i wr => ∃ k : Nat, k ≤ xs.length ∧ i = .int .i64 k ∧ ∃ n, wr = w.drewN n) (fun i _ => xs.length - (intOf i).toNat)
  case atStart => exact ⟨0, Nat.zero_le _, rfl, 0, rfl⟩
  case round =>
    obtain ⟨k, hk, rfl, n, rfl⟩ := hrel
    by_cases hlt : k < xs.length
    · obtain ⟨b1, o1, c1, x, hv, _, hx, hcell1⟩ := Rd.at_ H.out hlt
      cases hv
      obtain ⟨b2, o2, c2, y, hv, _, hy, hcell2⟩ := Rd.at_ G.out hlt
      injection hv with hv1 hv2 hv3
      subst hv1
      rw [hx] at hy
      cases hy
      clear hx hv2 hv3
      go_wp2
      go_quiet (fail)
      go_wp2
      go_roundw
      case rel => exact ⟨k + 1, by omega, by go_num, _, rfl⟩
      case measure => simp [intOf]; omega
    · go_wp2
      go_ret
      exact ⟨rfl, _, rfl⟩
theorem big_any (a b : List UInt8) (v u : Value) (hi hj : Nat) (w : World) (h : RdU w hi v a) (g : RdU w hj u b) : Calls Try.prog 15 #[v, u] w fun e w' => e = .returned (.bool (decide (1048576 < a.length) || decide (1048576 - (a.length : Int) < b.length))) ∧ w = w' := by
  obtain ⟨A, c, rfl, hc, hm⟩ := Rd.form h
  obtain ⟨A', c', rfl, hc', hm'⟩ := Rd.form g
  clear h g
  by_cases h1 : 1048576 < a.length
  · go_enter Try.func15, Try.ntmps15
    go_wp2
    go_ret
    exact ⟨ret_bool (by simp), rfl⟩
  · by_cases h2 : 1048576 - (a.length : Int) < b.length
    · go_enter Try.func15, Try.ntmps15
      go_wp2
      go_ret
      exact ⟨ret_bool (by simp [h2]), rfl⟩
    · go_enter Try.func15, Try.ntmps15
      go_wp2
      go_ret
      exact ⟨ret_bool (by simp; omega), rfl⟩
theorem read_text : ∀ n, n < 64 → readM (sgT n 6) = some n := by decide +kernel
theorem mir_mir : ∀ n, n < 64 → (n / 8 + n % 8 * 8) / 8 + (n / 8 + n % 8 * 8) % 8 * 8 = n := by decide +kernel
theorem mir_lt : ∀ n, n < 64 → n / 8 + n % 8 * 8 < 64 := by decide +kernel
theorem open_closed : ∀ n, n < 64 → (shutM (63 - n) 6).length + (shutM n 6).length = 6 := by decide +kernel
theorem dist_sym : ∀ n, n < 64 → ∀ m, m < 64 → distM m n = distM n m := by decide +kernel
theorem dist_mir : ∀ n, n < 64 → ∀ m, m < 64 → distM (n / 8 + n % 8 * 8) (m / 8 + m % 8 * 8) = distM n m := by decide +kernel
end Go.Proofs.Ytabiobjcfopakaa
/- Plain laws: an order by insertion; the indices in groups of one length each; the words of a canonical code. -/
namespace Go.Proofs.Ytabiobjcfopakaa
open Go.RowKit
/-- x goes into L ahead of the longest end of L whose members all stand behind it. -/
def insAt (p : Nat → Nat → Bool) (L : List Nat) (x : Nat) : Nat := L.length - (L.reverse.takeWhile (p x)).length
def insBy (p : Nat → Nat → Bool) (L : List Nat) (x : Nat) : List Nat := L.take (insAt p L x) ++ x :: L.drop (insAt p L x)
/-- The indices below n, each put in its place among the earlier ones. -/
def orderBy (p : Nat → Nat → Bool) (n : Nat) : List Nat := (List.range n).foldl (insBy p) []
theorem insBy_mid {p : Nat → Nat → Bool} {A B : List Nat} {x : Nat} (hB : ∀ y ∈ B, p x y = true) (hA : ∀ a, A.getLast? = some a → p x a = false) : insBy p (A ++ B) x = A ++ x :: B := by
  have e : ((A ++ B).reverse.takeWhile (p x)) = B.reverse := by
    rw [List.reverse_append, List.takeWhile_append_of_pos (fun y hy => hB y (List.mem_reverse.1 hy))]
    have : A.reverse.takeWhile (p x) = [] := by
      cases h : A.reverse with
      | nil => rfl
      | cons a r =>
        rw [List.takeWhile_cons, hA a (by rw [← List.head?_reverse, h]; rfl)]; rfl
    rw [this, List.append_nil]
  have e2 : insAt p (A ++ B) x = A.length := by unfold insAt; rw [e]; simp
  unfold insBy; rw [e2]; simp
theorem insBy_at {p : Nat → Nat → Bool} {L : List Nat} {x j : Nat} (hj : j ≤ L.length) (hB : ∀ y ∈ L.drop j, p x y = true) (hA : j = 0 ∨ ∃ a, L[j - 1]? = some a ∧ p x a = false) : insBy p L x = L.take j ++ x :: L.drop j := by
  have := insBy_mid (p := p) (A := L.take j) (B := L.drop j) (x := x) hB (fun a ha => by
    rcases hA with rfl | ⟨b, hb, hp⟩
    · simp at ha
    · have hj0 : 0 < j := by
        rcases Nat.eq_zero_or_pos j with rfl | h
        · simp at ha
        · exact h
      rw [List.getLast?_eq_getElem?, List.length_take, Nat.min_eq_left hj, List.getElem?_take_of_lt (by omega), hb] at ha
      cases ha; exact hp)
  rwa [List.take_append_drop] at this
theorem insBy_perm {p : Nat → Nat → Bool} {L : List Nat} {x : Nat} : (insBy p L x).Perm (x :: L) := by
  unfold insBy
  have h : (L.take (insAt p L x) ++ x :: L.drop (insAt p L x)).Perm (x :: (L.take (insAt p L x) ++ L.drop (insAt p L x))) := List.perm_middle
  rwa [List.take_append_drop] at h
theorem orderBy_succ {p : Nat → Nat → Bool} {n : Nat} : orderBy p (n + 1) = insBy p (orderBy p n) n := by
  unfold orderBy; rw [List.range_succ, List.foldl_append]; rfl
theorem orderBy_perm (p : Nat → Nat → Bool) : ∀ n, (orderBy p n).Perm (List.range n)
  | 0 => List.Perm.refl _
  | n + 1 => by
    rw [orderBy_succ, List.range_succ]
    exact insBy_perm.trans (((orderBy_perm p n).cons n).trans (List.perm_append_singleton n _).symm)
theorem orderBy_len (p : Nat → Nat → Bool) (n : Nat) : (orderBy p n).length = n := by rw [(orderBy_perm p n).length_eq]; simp
theorem orderBy_lt {p : Nat → Nat → Bool} {n i : Nat} (h : i ∈ orderBy p n) : i < n := by have := (orderBy_perm p n).mem_iff.1 h; simpa using this
theorem orderBy_mem {p : Nat → Nat → Bool} {n i : Nat} (h : i < n) : i ∈ orderBy p n := (orderBy_perm p n).mem_iff.2 (by simpa using h)
theorem orderBy_nodup (p : Nat → Nat → Bool) (n : Nat) : (orderBy p n).Nodup := (orderBy_perm p n).nodup_iff.2 List.nodup_range
/-- The order of lengths: the shorter ones stand first. -/
def pLen (ls : List Int) (x y : Nat) : Bool := decide (ls.getD x 0 < ls.getD y 0)
/-- The order of weights: the heavier ones stand first. -/
def pWei (ws : List Int) (x y : Nat) : Bool := decide (ws.getD y 0 < ws.getD x 0)
/-- The first m indices, those with length l. -/
def grpF (ls : List Int) (m l : Nat) : List Nat := (List.range m).filter fun i => ls.getD i 0 == (l : Int)
/-- The same for k lengths from a on. -/
def grpN (ls : List Int) (m a k : Nat) : List Nat := (List.range' a k).flatMap (grpF ls m)
theorem grpN_split {ls : List Int} {m a k j : Nat} : grpN ls m a (k + j) = grpN ls m a k ++ grpN ls m (a + k) j := by
  unfold grpN
  have h := List.range'_append (s := a) (m := k) (n := j) (step := 1)
  rw [Nat.one_mul] at h
  rw [← h, List.flatMap_append]
theorem grpN_one {ls : List Int} {m a : Nat} : grpN ls m a 1 = grpF ls m a := by
  unfold grpN; rw [show List.range' a 1 = [a] from rfl]; simp
theorem grpF_no {ls : List Int} {m l : Nat} (h : ls.getD m 0 ≠ (l : Int)) : grpF ls (m + 1) l = grpF ls m l := by
  unfold grpF; rw [List.range_succ, List.filter_append]
  have : (ls.getD m 0 == (l : Int)) = false := by rw [beq_eq_false_iff_ne]; exact h
  simp only [List.filter_cons, this, List.filter_nil]; simp
theorem grpF_yes {ls : List Int} {m l : Nat} (h : ls.getD m 0 = (l : Int)) : grpF ls (m + 1) l = grpF ls m l ++ [m] := by
  unfold grpF; rw [List.range_succ, List.filter_append]
  have : (ls.getD m 0 == (l : Int)) = true := by rw [beq_iff_eq]; exact h
  simp only [List.filter_cons, this, List.filter_nil]; simp
theorem grpN_no {ls : List Int} {m a k : Nat} (h : ∀ l, a ≤ l → l < a + k → ls.getD m 0 ≠ (l : Int)) : grpN ls (m + 1) a k = grpN ls m a k := by
  induction k with
  | zero => rfl
  | succ k ih =>
    rw [grpN_split, grpN_split (k := k), ih (fun l h1 h2 => h l h1 (by omega)), grpN_one, grpN_one, grpF_no (h (a + k) (by omega) (by omega))]
theorem grpF_mem {ls : List Int} {m l i : Nat} (h : i ∈ grpF ls m l) : i < m ∧ ls.getD i 0 = (l : Int) := by
  unfold grpF at h; rw [List.mem_filter] at h
  exact ⟨by simpa using h.1, by simpa using h.2⟩
theorem grpN_mem {ls : List Int} {m a k i : Nat} (h : i ∈ grpN ls m a k) : i < m ∧ (a : Int) ≤ ls.getD i 0 ∧ ls.getD i 0 < ((a + k : Nat) : Int) := by
  unfold grpN at h
  rw [List.mem_flatMap] at h
  obtain ⟨l, hl, hi⟩ := h
  rw [List.mem_range'_1] at hl
  have := grpF_mem hi
  omega
theorem allB_at {ls : List Int} {a b : Int} (h : allB ls a b = true) {i : Nat} (hi : i < ls.length) : a ≤ ls.getD i 0 ∧ ls.getD i 0 ≤ b := by
  unfold allB at h
  rw [List.all_eq_true] at h
  have := h ls[i] (List.getElem_mem hi)
  rw [List.getD_eq_getElem?_getD, List.getElem?_eq_getElem hi]
  exact inB_iff.1 this
/-- The order of the program is the order of the reference. -/
theorem order_grp {ls : List Int} (h : allB ls 1 6 = true) : ∀ m, m ≤ ls.length → orderBy (pLen ls) m = grpN ls m 1 6
  | 0, _ => by
    have : ∀ a k, grpN ls 0 a k = [] := fun a k => by unfold grpN grpF; simp
    rw [this]; rfl
  | m + 1, hm => by
    obtain ⟨h1, h6⟩ := allB_at h (i := m) (by omega)
    obtain ⟨d, hd⟩ : ∃ d : Nat, ls.getD m 0 = (d : Int) := ⟨(ls.getD m 0).toNat, by omega⟩
    have e : ∀ q, grpN ls q 1 6 = grpN ls q 1 (d - 1) ++ grpF ls q d ++ grpN ls q (d + 1) (6 - d) := fun q => by
      rw [show 6 = (d - 1) + (1 + (6 - d)) by omega, grpN_split, grpN_split (k := 1), grpN_one, show 1 + (d - 1) = d by omega, List.append_assoc, show (d - 1) + (1 + (6 - d)) - d = 6 - d by omega]
    rw [orderBy_succ, order_grp h m (by omega), e, e, grpF_yes hd, grpN_no (a := 1) (fun l _ h2 => by omega), grpN_no (a := d + 1) (fun l _ h2 => by omega)]
    rw [insBy_mid]
    · simp
    · intro y hy
      have := grpN_mem hy
      unfold pLen; rw [decide_eq_true_eq]; omega
    · intro y hy
      have hy2 := List.mem_of_getLast? hy
      unfold pLen; rw [decide_eq_false_iff_not]
      rcases List.mem_append.1 hy2 with h3 | h3
      · have := grpN_mem h3; omega
      · have := grpF_mem h3; omega
theorem grpN_sorted (ls : List Int) (m a : Nat) : ∀ k, (grpN ls m a k).Pairwise fun x y => ls.getD x 0 ≤ ls.getD y 0
  | 0 => List.Pairwise.nil
  | k + 1 => by
    rw [grpN_split, grpN_one, List.pairwise_append]
    refine ⟨grpN_sorted ls m a k, ?_, fun x hx y hy => ?_⟩
    · rw [List.pairwise_iff_forall_sublist]
      intro x y hxy
      have h1 := grpF_mem (hxy.subset (by simp : x ∈ [x, y]))
      have h2 := grpF_mem (hxy.subset (by simp : y ∈ [x, y]))
      omega
    · have h1 := grpN_mem hx
      have h2 := grpF_mem hy
      omega
/-- A number's digits to the base r, as many as told. -/
def digL (r : Nat) : Nat → Nat → List Int
  | _, 0 => []
  | n, k + 1 => digL r (n / r) k ++ [((n % r : Nat) : Int)]
theorem digL_len (r : Nat) : ∀ n k, (digL r n k).length = k
  | _, 0 => rfl
  | n, k + 1 => by rw [digL, List.length_append, digL_len]; rfl
/-- The next word, the last length, the words so far. -/
structure CanS where
  next : Nat
  last : Nat
  rows : List (List Int)
def canStep (ls : List Int) (r : Nat) (s : CanS) (i : Nat) : CanS :=
  ⟨s.next * r ^ ((ls.getD i 0).toNat - s.last) + 1, (ls.getD i 0).toNat, s.rows.set i (digL r (s.next * r ^ ((ls.getD i 0).toNat - s.last)) (ls.getD i 0).toNat)⟩
def canRun (ls : List Int) (r : Nat) (is : List Nat) : CanS := is.foldl (canStep ls r) ⟨0, 1, List.replicate ls.length []⟩
theorem canRun_snoc {ls : List Int} {r : Nat} {is : List Nat} {i : Nat} : canRun ls r (is ++ [i]) = canStep ls r (canRun ls r is) i := by unfold canRun; rw [List.foldl_append]; rfl
theorem canRun_nil {ls : List Int} {r : Nat} : canRun ls r [] = ⟨0, 1, List.replicate ls.length []⟩ := rfl
/-- The words of the canonical code. -/
def canonL (ls : List Int) (r : Nat) : List (List Int) := (canRun ls r (grpN ls ls.length 1 6)).rows
theorem canRun_rows (ls : List Int) (r : Nat) (is : List Nat) : (canRun ls r is).rows.length = ls.length := by
  unfold canRun
  have : ∀ (is : List Nat) (s : CanS), (is.foldl (canStep ls r) s).rows.length = s.rows.length := by
    intro is
    induction is with
    | nil => intro s; rfl
    | cons i l ih => intro s; rw [List.foldl_cons, ih]; unfold canStep; simp
  rw [this]; simp
theorem canonL_len (ls : List Int) (r : Nat) : (canonL ls r).length = ls.length := canRun_rows ls r _
/-- How great the next word is. -/
theorem canRun_bd {ls : List Int} {r : Nat} (hr : 1 ≤ r) : ∀ (n : Nat) (is : List Nat), is.length = n → is.Pairwise (fun x y => ls.getD x 0 ≤ ls.getD y 0) → (∀ i ∈ is, 1 ≤ ls.getD i 0) →
    (canRun ls r is).next ≤ is.length * r ^ (canRun ls r is).last ∧ 1 ≤ (canRun ls r is).last ∧ (is = [] ∨ ∃ i, is.getLast? = some i ∧ (canRun ls r is).last = (ls.getD i 0).toNat)
  | 0, is, hl, _, _ => by
    obtain rfl := List.eq_nil_of_length_eq_zero hl
    exact ⟨by simp [canRun_nil], by simp [canRun_nil], .inl rfl⟩
  | n + 1, is, hl, hs, h1 => by
    obtain ⟨js, j, rfl⟩ : ∃ js j, is = js ++ [j] := by
      refine ⟨is.dropLast, is.getLast (by intro e; rw [e] at hl; simp at hl), (List.dropLast_concat_getLast _).symm⟩
    rw [List.pairwise_append] at hs
    have ih := canRun_bd hr n js (by simpa using hl) hs.1 (fun i hi => h1 i (by simp [hi]))
    have hj := h1 j (by simp)
    rw [canRun_snoc]
    obtain ⟨s, hsd⟩ : ∃ s, s = canRun ls r js := ⟨_, rfl⟩
    rw [← hsd] at ih ⊢
    have hlast : s.last ≤ (ls.getD j 0).toNat := by
      rcases ih.2.2 with rfl | ⟨i, hi, hl2⟩
      · rw [hsd, canRun_nil]; show 1 ≤ _; omega
      · have := hs.2.2 i (List.mem_of_getLast? hi) j (by simp)
        omega
    refine ⟨?_, by show 1 ≤ (ls.getD j 0).toNat; omega, .inr ⟨j, by simp, rfl⟩⟩
    show s.next * r ^ ((ls.getD j 0).toNat - s.last) + 1 ≤ (js ++ [j]).length * r ^ (ls.getD j 0).toNat
    have e : r ^ (ls.getD j 0).toNat = r ^ s.last * r ^ ((ls.getD j 0).toNat - s.last) := by rw [← Nat.pow_add]; congr 1; omega
    have h2 := Nat.mul_le_mul_right (r ^ ((ls.getD j 0).toNat - s.last)) ih.1
    have h3 : 1 ≤ r ^ (ls.getD j 0).toNat := Nat.one_le_pow _ _ hr
    rw [Nat.mul_assoc, ← e] at h2
    rw [List.length_append, List.length_singleton, Nat.add_mul, Nat.one_mul]
    omega
end Go.Proofs.Ytabiobjcfopakaa
/- Plain laws: the search of the least lengths, and the table of least costs level by level. -/
namespace Go.Proofs.Ytabiobjcfopakaa
open Go.RowKit
/-- A list of lengths with its cost, or none. -/
abbrev Cand := Option (List Nat × Int)
/-- The first one, unless the second one costs less. -/
def pickC : Cand → Cand → Cand
  | Option.none, b => b
  | some x, Option.none => some x
  | some x, some y => if y.2 < x.2 then some y else some x
def addC (l : List Nat) (k : Int) (c : Cand) : Cand := c.map fun x => (l ++ x.1, k + x.2)
theorem pickC_none (a : Cand) : pickC a Option.none = a := by cases a <;> rfl
theorem pickC_assoc (a b c : Cand) : pickC (pickC a b) c = pickC a (pickC b c) := by
  cases a with
  | none => rfl
  | some x =>
    cases b with
    | none => rfl
    | some y =>
      cases c with
      | none => rw [pickC_none, pickC_none]
      | some z =>
        simp only [pickC]
        by_cases h1 : y.2 < x.2
        · by_cases h2 : z.2 < y.2
          · simp only [h1, h2, if_true]; rw [if_pos (by omega)]
          · simp only [h1, h2, if_true, if_false]
        · by_cases h2 : z.2 < y.2
          · simp only [h1, h2, if_true, if_false]
          · simp only [h1, h2, if_false]; rw [if_neg (by omega)]
theorem addC_pick (l : List Nat) (k : Int) (a b : Cand) : addC l k (pickC a b) = pickC (addC l k a) (addC l k b) := by
  cases a with
  | none => rfl
  | some x =>
    cases b with
    | none => rfl
    | some y =>
      simp only [pickC, addC, Option.map]
      by_cases h : y.2 < x.2
      · rw [if_pos h, if_pos (by omega)]
      · rw [if_neg h, if_neg (by omega)]
theorem addC_add (l m : List Nat) (k j : Int) (c : Cand) : addC l k (addC m j c) = addC (l ++ m) (k + j) c := by
  cases c with
  | none => rfl
  | some x => simp only [addC, Option.map, List.append_assoc, Int.add_assoc]
theorem addC_nil (c : Cand) : addC [] 0 c = c := by
  cases c with
  | none => rfl
  | some x => simp [addC]
/-- Of all lists of lengths that 1000000000er fall, from one length on, for which there is room: the first one of the least cost. -/
def bst (r L : Nat) : List Int → Nat → Nat → Cand
  | [], _, _ => some ([], 0)
  | w :: ws, fr, room => (List.range' fr (L + 1 - fr)).foldl (fun c n => pickC c (if r ^ (L - n) ≤ room then addC [n] (w * (n : Int)) (bst r L ws n (room - r ^ (L - n))) else Option.none)) Option.none
/-- The part of it with lengths from fr to below fr + k. -/
def bstTo (r L : Nat) (w : Int) (ws : List Int) (fr room k : Nat) : Cand :=
  (List.range' fr k).foldl (fun c n => pickC c (if r ^ (L - n) ≤ room then addC [n] (w * (n : Int)) (bst r L ws n (room - r ^ (L - n))) else Option.none)) Option.none
theorem bst_to {r L : Nat} {w : Int} {ws : List Int} {fr room : Nat} : bst r L (w :: ws) fr room = bstTo r L w ws fr room (L + 1 - fr) := by rw [bst]; rfl
theorem bstTo_zero {r L : Nat} {w : Int} {ws : List Int} {fr room : Nat} : bstTo r L w ws fr room 0 = Option.none := rfl
theorem bstTo_no {r L : Nat} {w : Int} {ws : List Int} {fr room k : Nat} (h : ¬ r ^ (L - (fr + k)) ≤ room) : bstTo r L w ws fr room (k + 1) = bstTo r L w ws fr room k := by
  unfold bstTo
  rw [List.range'_concat, List.foldl_append]
  simp only [Nat.one_mul, List.foldl_cons, List.foldl_nil]
  rw [if_neg h, pickC_none]
theorem bstTo_yes {r L : Nat} {w : Int} {ws : List Int} {fr room k : Nat} (h : r ^ (L - (fr + k)) ≤ room) :
    bstTo r L w ws fr room (k + 1) = pickC (bstTo r L w ws fr room k) (addC [fr + k] (w * ((fr + k : Nat) : Int)) (bst r L ws (fr + k) (room - r ^ (L - (fr + k))))) := by
  unfold bstTo
  rw [List.range'_concat, List.foldl_append]
  simp only [Nat.one_mul, List.foldl_cons, List.foldl_nil]
  rw [if_pos h]
theorem pick_fold {f : Nat → Cand} : ∀ (l : List Nat) (a : Cand), l.foldl (fun c n => pickC c (f n)) a = pickC a (l.foldl (fun c n => pickC c (f n)) Option.none)
  | [], a => (pickC_none a).symm
  | n :: l, a => by
    rw [List.foldl_cons, List.foldl_cons, pick_fold l (pickC a (f n)), pick_fold l (pickC Option.none (f n)), pickC_assoc]; rfl
theorem bst_end {r L : Nat} {w : Int} {ws : List Int} {fr room : Nat} (h : L < fr) : bst r L (w :: ws) fr room = Option.none := by
  rw [bst, show L + 1 - fr = 0 by omega]; rfl
theorem bst_step {r L : Nat} {w : Int} {ws : List Int} {fr room : Nat} (h : fr ≤ L) :
    bst r L (w :: ws) fr room = pickC (if r ^ (L - fr) ≤ room then addC [fr] (w * (fr : Int)) (bst r L ws fr (room - r ^ (L - fr))) else Option.none) (bst r L (w :: ws) (fr + 1) room) := by
  rw [bst, bst, show L + 1 - fr = (L + 1 - (fr + 1)) + 1 by omega, List.range'_succ, List.foldl_cons, pick_fold]
  rfl
/-- All weights together. -/
def sumW : List Int → Int
  | [] => 0
  | w :: ws => w + sumW ws
theorem sumW_nonneg {ws : List Int} (h : ∀ w ∈ ws, 0 ≤ w) : 0 ≤ sumW ws := by
  induction ws with
  | nil => exact Int.le_refl _
  | cons w ws ih =>
    have h1 := h w (by simp)
    have h2 := ih (fun x hx => h x (by simp [hx]))
    simp only [sumW]; omega
theorem sumW_app (a b : List Int) : sumW (a ++ b) = sumW a + sumW b := by
  induction a with
  | nil => simp [sumW]
  | cons w ws ih => simp only [List.cons_append, sumW, ih]; omega
theorem pickC_some {a b : Cand} {x : List Nat × Int} (h : pickC a b = some x) : a = some x ∨ b = some x := by
  cases a with
  | none => exact .inr h
  | some y =>
    cases b with
    | none => exact .inl h
    | some z =>
      simp only [pickC] at h
      split at h
      · exact .inr h
      · exact .inl h
theorem addC_some {l : List Nat} {k : Int} {c : Cand} {x : List Nat × Int} (h : addC l k c = some x) : ∃ y, c = some y ∧ x = (l ++ y.1, k + y.2) := by
  cases c with
  | none => cases h
  | some y => exact ⟨y, rfl, by unfold addC at h; simp at h; exact h.symm⟩
/-- Induction over what is found: the lists are as long as the weights, and the cost lies between that of the least and that of the greatest length. -/
theorem bst_bd {r L : Nat} : ∀ (ws : List Int), (∀ w ∈ ws, 0 ≤ w) → ∀ (q fr room : Nat), q = L + 1 - fr → ∀ x, bst r L ws fr room = some x →
    x.1.length = ws.length ∧ (fr : Int) * sumW ws ≤ x.2 ∧ x.2 ≤ (L : Int) * sumW ws ∧ ∀ n ∈ x.1, fr ≤ n ∧ n ≤ L
  | [], _, q, fr, room, _, x, hx => by
    rw [bst] at hx; cases hx
    refine ⟨rfl, by simp [sumW], by simp [sumW], by simp⟩
  | w :: ws, hw, 0, fr, room, hq, x, hx => by
    rw [bst_end (by omega)] at hx; cases hx
  | w :: ws, hw, q + 1, fr, room, hq, x, hx => by
    have hw0 := hw w (by simp)
    have hws : ∀ x ∈ ws, 0 ≤ x := fun x hx => hw x (by simp [hx])
    have hs := sumW_nonneg hws
    rw [bst_step (by omega)] at hx
    rcases pickC_some hx with h | h
    · split at h
      · obtain ⟨y, hy, rfl⟩ := addC_some h
        have ih := bst_bd ws hws _ fr _ rfl y hy
        have hL : (fr : Int) ≤ (L : Int) := by omega
        have h5 : w * (fr : Int) ≤ w * (L : Int) := Int.mul_le_mul_of_nonneg_left hL hw0
        have e1 : (fr : Int) * (w + sumW ws) = w * (fr : Int) + (fr : Int) * sumW ws := by rw [Int.mul_add, Int.mul_comm]
        have e2 : (L : Int) * (w + sumW ws) = w * (L : Int) + (L : Int) * sumW ws := by rw [Int.mul_add, Int.mul_comm]
        refine ⟨by simp [ih.1], ?_, ?_, ?_⟩
        · simp only [sumW]; rw [e1]; have := ih.2.1; omega
        · simp only [sumW]; rw [e2]; have := ih.2.2.1; omega
        · intro n hn
          rcases List.mem_append.1 hn with h1 | h1
          · simp at h1; subst h1; exact ⟨Nat.le_refl _, by omega⟩
          · exact ih.2.2.2 n h1
      · cases h
    · have ih := bst_bd (w :: ws) hw q (fr + 1) room (by omega) x h
      have h0 := sumW_nonneg hw
      have e : ((fr + 1 : Nat) : Int) * sumW (w :: ws) = (fr : Int) * sumW (w :: ws) + sumW (w :: ws) := by rw [Int.natCast_add, Int.add_mul]; simp
      refine ⟨ih.1, by have := ih.2.1; omega, ih.2.2.1, fun n hn => ?_⟩
      have := ih.2.2.2 n hn
      omega
/-- With some free places at a level. -/
def lvl (r L : Nat) (ws : List Int) (level free : Nat) : Cand := bst r L ws level (free * r ^ (L - level))
theorem lvl_nil {r L level free : Nat} : lvl r L [] level free = some ([], 0) := by unfold lvl; rw [bst]
theorem lvl_end {r L level free : Nat} {ws : List Int} (hw : ws ≠ []) (h : L < level) : lvl r L ws level free = Option.none := by
  cases ws with
  | nil => exact absurd rfl hw
  | cons w ws => exact bst_end h
theorem lvl_next {r L level free : Nat} {w : Int} {ws : List Int} (h : level ≤ L) : bst r L (w :: ws) (level + 1) (free * r ^ (L - level)) = lvl r L (w :: ws) (level + 1) (free * r) := by
  rcases Nat.lt_or_ge level L with h1 | h1
  · unfold lvl
    rw [show L - level = (L - (level + 1)) + 1 by omega, Nat.pow_succ, Nat.mul_assoc, Nat.mul_comm (r ^ (L - (level + 1))) r]
  · rw [lvl_end (by simp) (by omega), bst_end (by omega)]
theorem lvl_step {r L level free : Nat} {w : Int} {ws : List Int} (hr : 1 ≤ r) (h : level ≤ L) :
    lvl r L (w :: ws) level (free + 1) = pickC (addC [level] (w * (level : Int)) (lvl r L ws level free)) (lvl r L (w :: ws) (level + 1) ((free + 1) * r)) := by
  have hp : 1 ≤ r ^ (L - level) := Nat.one_le_pow _ _ hr
  conv => lhs; unfold lvl
  rw [bst_step h, lvl_next h, if_pos (by rw [Nat.add_mul]; omega)]
  unfold lvl
  rw [show (free + 1) * r ^ (L - level) - r ^ (L - level) = free * r ^ (L - level) by rw [Nat.add_mul]; omega]
theorem lvl_none {r L : Nat} {w : Int} {ws : List Int} (hr : 1 ≤ r) : ∀ (q level : Nat), q = L + 1 - level → lvl r L (w :: ws) level 0 = Option.none
  | 0, level, hq => lvl_end (by simp) (by omega)
  | q + 1, level, hq => by
    have hp : 1 ≤ r ^ (L - level) := Nat.one_le_pow _ _ hr
    have ih := lvl_none (L := L) (w := w) (ws := ws) hr q (level + 1) (by omega)
    have h2 := lvl_next (r := r) (L := L) (free := 0) (w := w) (ws := ws) (show level ≤ L by omega)
    unfold lvl
    rw [Nat.zero_mul] at h2 ⊢
    rw [bst_step (by omega), if_neg (by omega), h2, Nat.zero_mul, ih]; rfl
/-- Enough places for all. -/
theorem lvl_all {r L : Nat} (hr : 1 ≤ r) : ∀ (ws : List Int), (∀ w ∈ ws, 0 ≤ w) → ∀ (level free : Nat), level ≤ L → ws.length ≤ free →
    lvl r L ws level free = some (List.replicate ws.length level, (level : Int) * sumW ws)
  | [], _, level, free, _, _ => by rw [lvl_nil]; simp [sumW]
  | w :: ws, hw, level, free, hl, hf => by
    obtain ⟨f, rfl⟩ : ∃ f, free = f + 1 := ⟨free - 1, by simp at hf; omega⟩
    have hws : ∀ x ∈ ws, 0 ≤ x := fun x hx => hw x (by simp [hx])
    rw [lvl_step hr hl, lvl_all hr ws hws level f hl (by simp at hf; omega)]
    have e1 : (level : Int) * (w + sumW ws) = w * (level : Int) + (level : Int) * sumW ws := by rw [Int.mul_add, Int.mul_comm]
    have e2 : addC [level] (w * (level : Int)) (some (List.replicate ws.length level, (level : Int) * sumW ws)) = some (List.replicate (w :: ws).length level, (level : Int) * sumW (w :: ws)) := by
      simp only [addC, Option.map, sumW, e1]; rfl
    rw [e2]
    cases hc : lvl r L (w :: ws) (level + 1) ((f + 1) * r) with
    | none => rfl
    | some y =>
      have hb := (bst_bd (w :: ws) hw _ (level + 1) _ rfl y hc).2.1
      have h0 := sumW_nonneg hw
      have e : ((level + 1 : Nat) : Int) * sumW (w :: ws) = (level : Int) * sumW (w :: ws) + sumW (w :: ws) := by rw [Int.natCast_add, Int.add_mul]; simp
      simp only [pickC]
      rw [if_neg (by omega)]
/-- More places than words help no more. -/
theorem lvl_clip {r L : Nat} (hr : 1 ≤ r) {ws : List Int} (hw : ∀ w ∈ ws, 0 ≤ w) {level f g : Nat} (hf : ws.length ≤ f) (hg : ws.length ≤ g) : lvl r L ws level f = lvl r L ws level g := by
  rcases Nat.lt_or_ge L level with h | h
  · cases ws with
    | nil => rw [lvl_nil, lvl_nil]
    | cons w ws => rw [lvl_end (by simp) h, lvl_end (by simp) h]
  · rw [lvl_all hr ws hw level f h hf, lvl_all hr ws hw level g h hg]
theorem lvl_min {r L : Nat} (hr : 1 ≤ r) {ws : List Int} (hw : ∀ w ∈ ws, 0 ≤ w) {level f : Nat} : lvl r L ws level (min f ws.length) = lvl r L ws level f := by
  rcases Nat.le_total f ws.length with h | h
  · rw [Nat.min_eq_left h]
  · exact lvl_clip hr hw (by omega) h
/-- The first of the least ones from f down to 0. -/
def pickDown (g : Nat → Cand) : Nat → Cand
  | 0 => g 0
  | f + 1 => pickC (g (f + 1)) (pickDown g f)
theorem pickDown_congr {g h : Nat → Cand} : ∀ f, (∀ t, t ≤ f → g t = h t) → pickDown g f = pickDown h f
  | 0, e => e 0 (Nat.le_refl _)
  | f + 1, e => by rw [pickDown, pickDown, e (f + 1) (Nat.le_refl _), pickDown_congr f (fun t ht => e t (by omega))]
theorem pickDown_add {g : Nat → Cand} {l : List Nat} {k : Int} : ∀ f, addC l k (pickDown g f) = pickDown (fun t => addC l k (g t)) f
  | 0 => rfl
  | f + 1 => by rw [pickDown, pickDown, addC_pick, pickDown_add f]
theorem pickDown_up {g : Nat → Cand} : ∀ f, pickDown g (f + 1) = pickC (pickDown (fun t => g (t + 1)) f) (g 0)
  | 0 => rfl
  | f + 1 => by
    rw [pickDown, pickDown_up f, pickDown, ← pickC_assoc]
/-- As many words as told end at a level. -/
def cand (r L : Nat) (ws : List Int) (level f take : Nat) : Cand := addC (List.replicate take level) ((level : Int) * sumW (ws.take take)) (lvl r L (ws.drop take) (level + 1) ((f - take) * r))
theorem lvl_take {r L : Nat} (hr : 1 ≤ r) {level : Nat} (hl : level ≤ L) : ∀ (ws : List Int) (f : Nat), f ≤ ws.length → lvl r L ws level f = pickDown (cand r L ws level f) f
  | [], f, hf => by
    obtain rfl : f = 0 := by simpa using hf
    simp only [pickDown, cand]
    rw [List.take_nil, List.drop_nil, lvl_nil, lvl_nil]; simp [addC, sumW]
  | w :: ws, 0, _ => by
    simp only [pickDown, cand]
    rw [List.take_zero, List.drop_zero, Nat.zero_mul, lvl_none hr _ _ rfl, lvl_none hr _ _ rfl]; rfl
  | w :: ws, f + 1, hf => by
    rw [lvl_step hr hl, lvl_take hr hl ws f (by simp at hf; omega), pickDown_add, pickDown_up]
    have e0 : cand r L (w :: ws) level (f + 1) 0 = lvl r L (w :: ws) (level + 1) ((f + 1) * r) := by
      simp only [cand]
      rw [List.take_zero, List.drop_zero, Nat.sub_zero]
      simp only [List.replicate_zero, sumW, Int.mul_zero]
      exact addC_nil _
    rw [e0]
    congr 1
    refine pickDown_congr f (fun t _ => ?_)
    simp only [cand]
    rw [addC_add, List.take_succ_cons, List.drop_succ_cons, show f + 1 - (t + 1) = f - t by omega]
    have e1 : (level : Int) * (w + sumW (ws.take t)) = w * (level : Int) + (level : Int) * sumW (ws.take t) := by rw [Int.mul_add, Int.mul_comm]
    rw [show List.replicate (t + 1) level = [level] ++ List.replicate t level from rfl]
    simp only [sumW]
    rw [e1]
/-- The cost of what is still to be given lengths of at least some level, if each weight costs its own for each level. -/
def relC (r L : Nat) (ws : List Int) (level free : Nat) : Int := match lvl r L ws level free with
  | Option.none => 1000000000
  | some x => x.2 - ((level : Int) - 1) * sumW ws
def withC (r L : Nat) (ws : List Int) (level f take : Nat) : Int := min 1000000000 (sumW ws + relC r L (ws.drop take) (level + 1) ((f - take) * r))
theorem relC_nil {r L level free : Nat} : relC r L [] level free = 0 := by unfold relC; rw [lvl_nil]; simp [sumW]
theorem relC_end {r L level free : Nat} {ws : List Int} (hw : ws ≠ []) (h : L < level) : relC r L ws level free = 1000000000 := by unfold relC; rw [lvl_end hw h]
theorem relC_zero {r L level : Nat} {ws : List Int} (hr : 1 ≤ r) (hw : ws ≠ []) : relC r L ws level 0 = 1000000000 := by
  cases ws with
  | nil => exact absurd rfl hw
  | cons w ws => unfold relC; rw [lvl_none hr _ _ rfl]
theorem relC_min {r L : Nat} (hr : 1 ≤ r) {ws : List Int} (hw : ∀ w ∈ ws, 0 ≤ w) {level f : Nat} : relC r L ws level (min f ws.length) = relC r L ws level f := by unfold relC; rw [lvl_min hr hw]
/-- What is found is cheap. -/
theorem lvl_cheap {r L : Nat} {ws : List Int} (hw : ∀ w ∈ ws, 0 ≤ w) {level free : Nat} {x : List Nat × Int} (h : lvl r L ws level free = some x) : (level : Int) * sumW ws ≤ x.2 ∧ x.2 ≤ (L : Int) * sumW ws :=
  ⟨(bst_bd ws hw _ level _ rfl x h).2.1, (bst_bd ws hw _ level _ rfl x h).2.2.1⟩
theorem relC_bd {r L : Nat} {ws : List Int} (hw : ∀ w ∈ ws, 0 ≤ w) {level free : Nat} (h1 : 1 ≤ level) (hL : (L : Int) * sumW ws < 1000000000) : 0 ≤ relC r L ws level free ∧ relC r L ws level free ≤ 1000000000 := by
  unfold relC
  split
  · exact ⟨by decide, Int.le_refl _⟩
  · rename_i x hx
    have hb := lvl_cheap hw hx
    have h0 := sumW_nonneg hw
    have e : ((level : Int) - 1) * sumW ws = (level : Int) * sumW ws - sumW ws := by rw [Int.sub_mul, Int.one_mul]
    have h2 : 0 ≤ ((level : Int) - 1) * sumW ws := Int.mul_nonneg (by omega) h0
    constructor <;> omega
theorem sum_split (ws : List Int) (t : Nat) : sumW ws = sumW (ws.take t) + sumW (ws.drop t) := by rw [← sumW_app, List.take_append_drop]
/-- The cost of a candidate. -/
theorem cand_cost {r L : Nat} {ws : List Int} (hw : ∀ w ∈ ws, 0 ≤ w) {level f t : Nat} (h1 : 1 ≤ level) (hl : 1 ≤ L) (hL : (L : Int) * sumW ws < 1000000000) :
    withC r L ws level f t = match cand r L ws level f t with
      | Option.none => 1000000000
      | some x => x.2 - ((level : Int) - 1) * sumW ws := by
  have hwd : ∀ w ∈ ws.drop t, 0 ≤ w := fun w hm => hw w (List.mem_of_mem_drop hm)
  have hwt : ∀ w ∈ ws.take t, 0 ≤ w := fun w hm => hw w (List.mem_of_mem_take hm)
  have h0 := sumW_nonneg hw
  have hd0 := sumW_nonneg hwd
  have ht0 := sumW_nonneg hwt
  have hsp := sum_split ws t
  unfold withC relC cand
  cases hc : lvl r L (ws.drop t) (level + 1) ((f - t) * r) with
  | none =>
    show min 1000000000 (sumW ws + 1000000000) = 1000000000
    omega
  | some y =>
    have hb := lvl_cheap hwd hc
    simp only [addC, Option.map]
    have e1 : (((level + 1 : Nat) : Int) - 1) * sumW (ws.drop t) = (level : Int) * sumW (ws.drop t) := by congr 1; omega
    have e2 : ((level : Int) - 1) * sumW ws = (level : Int) * sumW (ws.take t) + (level : Int) * sumW (ws.drop t) - sumW ws := by rw [Int.sub_mul, Int.one_mul, hsp, Int.mul_add]
    have e3 : ((level + 1 : Nat) : Int) * sumW (ws.drop t) = (level : Int) * sumW (ws.drop t) + sumW (ws.drop t) := by rw [Int.natCast_add, Int.add_mul]; simp
    have h3 : (L : Int) * sumW ws = (L : Int) * sumW (ws.take t) + (L : Int) * sumW (ws.drop t) := by rw [hsp, Int.mul_add]
    have h4 : 0 ≤ (L : Int) * sumW (ws.take t) := Int.mul_nonneg (by omega) ht0
    have h5 : 0 ≤ (level : Int) * sumW (ws.drop t) := Int.mul_nonneg (by omega) hd0
    have h6 : sumW (ws.take t) ≤ (L : Int) * sumW (ws.take t) := by
      have := Int.mul_le_mul_of_nonneg_right (show (1 : Int) ≤ (L : Int) by omega) ht0
      omega
    have h7 : sumW (ws.drop t) ≤ (level : Int) * sumW (ws.drop t) := by
      have := Int.mul_le_mul_of_nonneg_right (show (1 : Int) ≤ (level : Int) by omega) hd0
      omega
    rw [e1, e2, Int.min_eq_right (by omega)]
    show _ = (level : Int) * sumW (ws.take t) + y.2 - ((level : Int) * sumW (ws.take t) + (level : Int) * sumW (ws.drop t) - sumW ws)
    omega
theorem pickDown_some {g : Nat → Cand} : ∀ (f : Nat) (x : List Nat × Int), pickDown g f = some x →
    ∃ t, t ≤ f ∧ g t = some x ∧ (∀ s, s ≤ f → ∀ y, g s = some y → x.2 ≤ y.2) ∧ (∀ s, t < s → s ≤ f → ∀ y, g s = some y → x.2 < y.2)
  | 0, x, h => ⟨0, Nat.le_refl _, h, fun s hs y hy => by
      obtain rfl : s = 0 := by omega
      rw [pickDown] at h; rw [h] at hy; cases hy; exact Int.le_refl _, fun s h1 h2 => by omega⟩
  | f + 1, x, h => by
    rw [pickDown] at h
    cases hg : g (f + 1) with
    | none =>
      rw [hg] at h
      obtain ⟨t, h1, h2, h3, h4⟩ := pickDown_some f x h
      refine ⟨t, by omega, h2, fun s hs y hy => ?_, fun s h5 h6 y hy => ?_⟩
      · rcases Nat.lt_or_ge f s with h7 | h7
        · obtain rfl : s = f + 1 := by omega
          rw [hg] at hy; cases hy
        · exact h3 s h7 y hy
      · rcases Nat.lt_or_ge f s with h7 | h7
        · obtain rfl : s = f + 1 := by omega
          rw [hg] at hy; cases hy
        · exact h4 s h5 h7 y hy
    | some z =>
      rw [hg] at h
      cases hp : pickDown g f with
      | none =>
        rw [hp] at h
        cases h
        refine ⟨f + 1, Nat.le_refl _, hg, fun s hs y hy => ?_, fun s h5 h6 => by omega⟩
        rcases Nat.lt_or_ge f s with h7 | h7
        · obtain rfl : s = f + 1 := by omega
          rw [hg] at hy; cases hy; exact Int.le_refl _
        · exact absurd hy (by rw [pickDown_none f hp s h7]; simp)
      | some u =>
        rw [hp] at h
        obtain ⟨t, h1, h2, h3, h4⟩ := pickDown_some f u hp
        simp only [pickC] at h
        split at h
        · rename_i hlt
          cases h
          refine ⟨t, by omega, h2, fun s hs y hy => ?_, fun s h5 h6 y hy => ?_⟩
          · rcases Nat.lt_or_ge f s with h7 | h7
            · obtain rfl : s = f + 1 := by omega
              rw [hg] at hy; cases hy; omega
            · exact h3 s h7 y hy
          · rcases Nat.lt_or_ge f s with h7 | h7
            · obtain rfl : s = f + 1 := by omega
              rw [hg] at hy; cases hy; omega
            · exact h4 s h5 h7 y hy
        · rename_i hlt
          cases h
          refine ⟨f + 1, Nat.le_refl _, hg, fun s hs y hy => ?_, fun s h5 h6 => by omega⟩
          rcases Nat.lt_or_ge f s with h7 | h7
          · obtain rfl : s = f + 1 := by omega
            rw [hg] at hy; cases hy; exact Int.le_refl _
          · have := h3 s h7 y hy
            omega
where pickDown_none {g : Nat → Cand} : ∀ (f : Nat), pickDown g f = Option.none → ∀ s, s ≤ f → g s = Option.none
  | 0, h, s, hs => by obtain rfl : s = 0 := by omega
                      exact h
  | f + 1, h, s, hs => by
    rw [pickDown] at h
    cases hg : g (f + 1) with
    | none =>
      rw [hg] at h
      rcases Nat.lt_or_ge f s with h7 | h7
      · obtain rfl : s = f + 1 := by omega
        exact hg
      · exact pickDown_none f h s h7
    | some z =>
      rw [hg] at h
      cases hp : pickDown g f with
      | none => rw [hp] at h; cases h
      | some u =>
        rw [hp] at h
        simp only [pickC] at h
        split at h <;> cases h
/-- The least of the first k costs, from f down. -/
def lowDown (g : Nat → Int) (f : Nat) : Nat → Int
  | 0 => 1000000000
  | k + 1 => min (lowDown g f k) (g (f - k))
/-- The least cost of a level by the least costs of the next one. -/
theorem relC_low {r L : Nat} (hr : 1 ≤ r) {ws : List Int} (hw : ∀ w ∈ ws, 0 ≤ w) {level f : Nat} (hf : f ≤ ws.length) (h1 : 1 ≤ level) (h2 : level ≤ L) (hL : (L : Int) * sumW ws < 1000000000) :
    lowDown (withC r L ws level f) f (f + 1) = relC r L ws level f := by
  have hle : ∀ k, k ≤ f + 1 → lowDown (withC r L ws level f) f k ≤ 1000000000 ∧ (∀ s, f < s + k → s ≤ f → lowDown (withC r L ws level f) f k ≤ withC r L ws level f s) ∧
      (lowDown (withC r L ws level f) f k = 1000000000 ∨ ∃ s, f < s + k ∧ s ≤ f ∧ lowDown (withC r L ws level f) f k = withC r L ws level f s) := by
    intro k
    induction k with
    | zero => intro _; exact ⟨Int.le_refl _, fun s h3 h4 => by omega, .inl rfl⟩
    | succ k ih =>
      intro hk
      obtain ⟨i1, i2, i3⟩ := ih (by omega)
      rw [lowDown]
      refine ⟨by omega, fun s h3 h4 => ?_, ?_⟩
      · by_cases e : s = f - k
        · subst e; omega
        · have := i2 s (by omega) h4; omega
      · rcases Int.le_total (lowDown (withC r L ws level f) f k) (withC r L ws level f (f - k)) with h5 | h5
        · rw [Int.min_eq_left h5]
          rcases i3 with h6 | ⟨s, h6, h7, h8⟩
          · exact .inl h6
          · exact .inr ⟨s, by omega, h7, h8⟩
        · rw [Int.min_eq_right h5]
          exact .inr ⟨f - k, by omega, by omega, rfl⟩
  obtain ⟨b1, b2, b3⟩ := hle (f + 1) (Nat.le_refl _)
  have hcc := fun t => cand_cost (r := r) (f := f) (t := t) hw h1 (show 1 ≤ L by omega) hL
  have hrb := relC_bd (r := r) (free := f) hw h1 hL
  unfold relC at hrb ⊢
  rw [lvl_take hr h2 ws f hf] at hrb ⊢
  cases hp : pickDown (cand r L ws level f) f with
  | none =>
    rcases b3 with h | ⟨s, _, hs, h⟩
    · exact h
    · rw [h, hcc s, pickDown_some.pickDown_none f hp s hs]
  | some x =>
    rw [hp] at hrb
    simp only at hrb ⊢
    obtain ⟨t, ht, hx, hmin, _⟩ := pickDown_some f x hp
    have e1 := b2 t (by omega) ht
    rw [hcc t, hx] at e1
    simp only at e1
    rcases b3 with h | ⟨s, _, hs, h⟩
    · omega
    · rw [hcc s] at h
      cases hc : cand r L ws level f s with
      | none => rw [hc] at h; simp only at h; omega
      | some y =>
        rw [hc] at h
        simp only at h
        have := hmin s hs y hc
        omega
/-- One level of the list: as many words as can end there at the least cost. -/
theorem lvl_greedy {r L : Nat} (hr : 1 ≤ r) {ws : List Int} (hw : ∀ w ∈ ws, 0 ≤ w) {level f : Nat} (hf : f ≤ ws.length) (h1 : 1 ≤ level) (h2 : level ≤ L) (hL : (L : Int) * sumW ws < 1000000000)
    {x : List Nat × Int} (hx : lvl r L ws level f = some x) :
    ∃ t y, t ≤ f ∧ withC r L ws level f t = relC r L ws level f ∧ (∀ s, t < s → s ≤ f → relC r L ws level f < withC r L ws level f s) ∧ lvl r L (ws.drop t) (level + 1) ((f - t) * r) = some y ∧ x.1 = List.replicate t level ++ y.1 := by
  have hcc := fun t => cand_cost (r := r) (f := f) (t := t) hw h1 (show 1 ≤ L by omega) hL
  have hb := lvl_cheap hw hx
  have h0 := sumW_nonneg hw
  have hrel : relC r L ws level f = x.2 - ((level : Int) - 1) * sumW ws := by unfold relC; rw [hx]
  have hp := hx
  rw [lvl_take hr h2 ws f hf] at hp
  obtain ⟨t, ht, hc, hmin, hlt⟩ := pickDown_some f x hp
  have hy := hc
  unfold cand at hy
  obtain ⟨y, hy1, hy2⟩ := addC_some hy
  refine ⟨t, y, ht, ?_, fun s hs1 hs2 => ?_, hy1, by rw [hy2]⟩
  · rw [hcc t, hc, hrel]
  · rw [hcc s, hrel]
    have h3 : 0 ≤ ((level : Int) - 1) * sumW ws := Int.mul_nonneg (by omega) h0
    cases hd : cand r L ws level f s with
    | none => show _ < (1000000000 : Int); omega
    | some z =>
      have := hlt s hs1 hs2 z hd
      show _ < z.2 - ((level : Int) - 1) * sumW ws
      omega
end Go.Proofs.Ytabiobjcfopakaa
/- Contracts of the sums of a word, of the cost of lengths and of their bounds. -/
namespace Go.Proofs.Ytabiobjcfopakaa
open Go.RowKit
theorem allB_mem {xs : List Int} {k : Nat} {y a b : Int} (h : xs[k]? = some y) (hb : allB xs a b = true) : a ≤ y ∧ y ≤ b := by
  unfold allB at hb; rw [List.all_eq_true] at hb
  exact inB_iff.1 (hb y (List.mem_of_getElem? h))
theorem allB_takeT {xs : List Int} {a b : Int} (hb : allB xs a b = true) (k : Nat) : allB (xs.take k) a b = true := by
  unfold allB at *; rw [List.all_eq_true] at *
  intro x hx; exact hb x (List.mem_of_mem_take hx)
theorem sum_bd (xs : List Int) (b : Int) (hb : allB xs 0 b = true) : 0 ≤ xs.sum ∧ xs.sum ≤ b * xs.length := by
  induction xs with
  | nil => simp
  | cons x r ih =>
    unfold allB at hb ih
    simp only [List.all_cons, Bool.and_eq_true] at hb
    have h1 := inB_iff.1 hb.1
    have h2 := ih hb.2
    simp only [List.sum_cons, List.length_cons]
    have e : b * ((r.length + 1 : Nat) : Int) = b * r.length + b := by rw [Int.natCast_add, Int.mul_add]; simp
    rw [e]; omega
theorem allB_mono {xs : List Int} {a b a' b' : Int} (h : allB xs a b = true) (h1 : a' ≤ a) (h2 : b ≤ b') : allB xs a' b' = true := by
  unfold allB at *; rw [List.all_eq_true] at *
  intro x hx; have := inB_iff.1 (h x hx); exact inB_iff.2 ⟨by omega, by omega⟩
/-- The sum of the numbers, each times its place, from place i + 1 on. -/
def wsumI : Nat → List Int → Int
  | _, [] => 0
  | i, x :: r => ((i : Int) + 1) * x + wsumI (i + 1) r
theorem wsumI_snoc (i : Nat) (l : List Int) (y : Int) : wsumI i (l ++ [y]) = wsumI i l + ((i : Int) + l.length + 1) * y := by
  induction l generalizing i with
  | nil => simp [wsumI]
  | cons x r ih =>
    simp only [List.cons_append, wsumI, ih, List.length_cons]
    have e : ((i + 1 : Nat) : Int) + r.length + 1 = (i : Int) + ((r.length + 1 : Nat) : Int) + 1 := by omega
    rw [e]; omega
theorem wsum_bd (k : Nat) (xs : List Int) (hb : allB xs 1 61 = true) (hk : k ≤ xs.length) (hl : xs.length ≤ 50) : 0 ≤ wsumI 0 (xs.take k) ∧ wsumI 0 (xs.take k) ≤ 3050 * k := by
  induction k with
  | zero => simp [wsumI]
  | succ k ih =>
    have ih := ih (by omega)
    have hy : xs[k]? = some xs[k] := by simp [show k < xs.length by omega]
    rw [take_snocI hy, wsumI_snoc]
    have hm := allB_mem hy hb
    have hlen : (xs.take k).length = k := by simp; omega
    rw [hlen]
    have h0 : 0 ≤ ((0 : Nat) : Int) + k + 1 := by omega
    have h1 : (((0 : Nat) : Int) + k + 1) * xs[k] ≤ 50 * 61 := Int.mul_le_mul (by omega) hm.2 (by omega) (by omega)
    have h2 : 0 ≤ (((0 : Nat) : Int) + k + 1) * xs[k] := Int.mul_nonneg h0 (by omega)
    omega
theorem w_step {k : Nat} {xs : List Int} {y : Int} (h : xs[k]? = some y) (hb : allB xs 1 61 = true) (hl : xs.length ≤ 50) :
    wrap64 ((k + 1 : Int) * y) = (k + 1 : Int) * y ∧ wsumI 0 (xs.take k) + (k + 1 : Int) * y = wsumI 0 (xs.take (k + 1)) ∧ 0 ≤ (k + 1 : Int) * y ∧ (k + 1 : Int) * y ≤ 3050 := by
  have hk : k < xs.length := (List.getElem?_eq_some_iff.1 h).1
  have hm := allB_mem h hb
  have h1 : ((k : Int) + 1) * y ≤ 50 * 61 := Int.mul_le_mul (by omega) hm.2 (by omega) (by omega)
  have h2 : 0 ≤ ((k : Int) + 1) * y := Int.mul_nonneg (by omega) (by omega)
  refine ⟨wrap_id (by omega) (by omega), ?_, h2, by omega⟩
  have hlen : (xs.take k).length = k := by simp; omega
  rw [take_snocI h, wsumI_snoc, hlen]; simp
theorem sum_takeI {xs : List Int} {k : Nat} {y : Int} (h : xs[k]? = some y) : (xs.take (k + 1)).sum = (xs.take k).sum + y := by rw [take_snocI h, List.sum_append]; simp

def lenB (xs : List Int) (n : Nat) : Bool := decide (xs.length ≤ n)
def wordB (xs : List Int) : Bool := lenB xs 50 && allB xs 1 61
theorem wordB_iff {xs : List Int} : wordB xs = true ↔ xs.length ≤ 50 ∧ allB xs 1 61 = true := by simp [wordB, lenB]
def sumHoldsT (xs : List Int) : Value := if wordB xs then .tuple #[.bool (xs.sum % 61 == 0), .bool true] else .tuple #[.bool false, .bool false]
def synOfT (xs : List Int) : Value := if wordB xs then .tuple #[.int .i64 (xs.sum % 61), .int .i64 (wsumI 0 xs % 61), .bool true] else .tuple #[.int .i64 0, .int .i64 0, .bool false]
end Go.Proofs.Ytabiobjcfopakaa
/- Contracts of the comparisons of lists and of their beginnings, of the program and of the reference. -/
namespace Go.Proofs.Ytabiobjcfopakaa
open Go.RowKit
/-- A slice cut off at its end. -/
theorem Rd.cut {w : World} {hi n c : Nat} {A : Option Addr} {xs : List Value} (h : Rd w hi 1 (.slice A n c) n xs) {k : Nat} (hk : k ≤ n) : Rd w hi 1 (.slice A k c) k (xs.take k) := by
  obtain ⟨h0, A', c', hv, h1, h2, h3⟩ := h
  cases hv
  refine ⟨by rw [List.length_take]; omega, A, c, rfl, by omega, h2, fun hp => ?_⟩
  obtain ⟨b, off, hA, hb, hc⟩ := h3 (by omega)
  refine ⟨b, off, hA, hb, fun j u hu => hc j u ?_⟩
  rw [List.getElem?_take] at hu
  split at hu
  · exact hu
  · cases hu
theorem RdI.cut {w : World} {hi c : Nat} {A : Option Addr} {xs : List Int} (h : RdI w hi (.slice A xs.length c) xs) {k : Nat} (hk : k ≤ xs.length) : RdI w hi (.slice A k c) (xs.take k) := by
  have h1 := Rd.cut h hk
  have hl : (xs.take k).length = k := by rw [List.length_take]; omega
  unfold RdI
  rw [hl]
  simpa [ints] using h1
/-- Does the first list begin the second? -/
def begB (xs ys : List Int) : Bool := decide (xs.length ≤ ys.length) && decide (xs = ys.take xs.length)
theorem begB_iff {xs ys : List Int} : begB xs ys = true ↔ xs <+: ys := by
  unfold begB
  rw [Bool.and_eq_true, decide_eq_true_eq, decide_eq_true_eq, List.prefix_iff_eq_take]
  constructor
  · rintro ⟨_, h⟩; exact h
  · intro h
    refine ⟨?_, h⟩
    have := congrArg List.length h
    rw [List.length_take] at this
    omega
set_option maxHeartbeats 400000 in
theorem l1Same_any (xs ys : List Int) (v u : Value) (hi hj : Nat) (w : World) (h : RdI w hi v xs) (g : RdI w hj u ys) : Calls Try.prog 249 #[v, u] w fun e w' => e = .returned (.bool (decide (xs = ys))) ∧ ∃ n, w' = w.drewN n := by
  obtain ⟨A, c, rfl, hc, hm⟩ := Rd.form h
  obtain ⟨A', c', rfl, hc', hm'⟩ := Rd.form g
  have H := Lib.hid h
  have G := Lib.hid g
  clear h g
  by_cases hl : xs.length = ys.length
  · have HL := Lib.hid hl
    rw [← hl]
    rw [← hl] at hc' hm'
    clear hl
    go_enter Try.func249, Try.ntmps249
    go_wp2
    go_loopw [13] (fun i wr => ∃ k : Nat, k ≤ xs.length ∧ i = .int .i64 k ∧ Hid (xs.take k = ys.take k) ∧ ∃ n, wr = w.drewN n) (fun i _ => xs.length - (intOf i).toNat)
    case atStart => exact ⟨0, Nat.zero_le _, rfl, rfl, 0, rfl⟩
    case round =>
      obtain ⟨k, hk, rfl, heq, n, rfl⟩ := hrel
      by_cases hlt : k < xs.length
      · obtain ⟨b1, o1, c1, x, hv, _, hx, hcell1⟩ := Rd.at_ H.out hlt
        cases hv
        obtain ⟨b2, o2, c2, y, hv, _, hy, hcell2⟩ := Rd.at_ G.out (by rw [← HL.out]; exact hlt)
        have HX := Lib.hid hx
        have HY := Lib.hid hy
        injection hv with hv1 hv2 hv3
        subst hv1
        clear hx hy hv2 hv3
        by_cases hxy : x = y
        · subst hxy
          go_wp2
          go_quiet (fail)
          go_wp2
          go_roundw
          case rel => exact ⟨k + 1, by omega, by go_num, eq_take HX.out HY.out heq.out, _, rfl⟩
          case measure => simp [intOf]; omega
        · have hbe : (x == y) = false := by simpa using hxy
          have hbn : (x != y) = true := by simpa using hxy
          go_wp2
          go_quiet (fail)
          go_wp2
          go_ret
          exact ⟨ret_bool (eq_no HX.out HY.out hxy).symm, _, World.drewN_drewN _ _ _⟩
      · go_wp2
        go_ret
        exact ⟨ret_bool (eq_full hlt HL.out heq.out).symm, _, rfl⟩
  · have hne : (((xs.length : Nat) : Int) != ((ys.length : Nat) : Int)) = true := by rw [bne_iff_ne]; omega
    go_enter Try.func249, Try.ntmps249
    go_wp2
    go_ret
    refine ⟨ret_bool ?_, 0, rfl⟩
    symm; rw [decide_eq_false_iff_not]; rintro rfl; exact hl rfl
set_option maxHeartbeats 400000 in
theorem slicesEqual_any (xs ys : List Int) (v u : Value) (hi hj : Nat) (w : World) (h : RdI w hi v xs) (g : RdI w hj u ys) : Calls Try.prog 221 #[v, u] w fun e w' => e = .returned (.bool (decide (xs = ys))) ∧ ∃ n, w' = w.drewN n := by
  obtain ⟨A, c, rfl, hc, hm⟩ := Rd.form h
  obtain ⟨A', c', rfl, hc', hm'⟩ := Rd.form g
  have H := Lib.hid h
  have G := Lib.hid g
  clear h g
  by_cases hl : xs.length = ys.length
  · have HL := Lib.hid hl
    rw [← hl]
    rw [← hl] at hc' hm'
    clear hl
    go_enter Try.func221, Try.ntmps221
    go_wp2
    go_loopw [13] (fun i wr => ∃ k : Nat, k ≤ xs.length ∧ i = .int .i64 k ∧ Hid (xs.take k = ys.take k) ∧ ∃ n, wr = w.drewN n) (fun i _ => xs.length - (intOf i).toNat)
    case atStart => exact ⟨0, Nat.zero_le _, rfl, rfl, 0, rfl⟩
    case round =>
      obtain ⟨k, hk, rfl, heq, n, rfl⟩ := hrel
      by_cases hlt : k < xs.length
      · obtain ⟨b1, o1, c1, x, hv, _, hx, hcell1⟩ := Rd.at_ H.out hlt
        cases hv
        obtain ⟨b2, o2, c2, y, hv, _, hy, hcell2⟩ := Rd.at_ G.out (by rw [← HL.out]; exact hlt)
        have HX := Lib.hid hx
        have HY := Lib.hid hy
        injection hv with hv1 hv2 hv3
        subst hv1
        clear hx hy hv2 hv3
        by_cases hxy : x = y
        · subst hxy
          go_wp2
          go_quiet (fail)
          go_wp2
          go_roundw
          case rel => exact ⟨k + 1, by omega, by go_num, eq_take HX.out HY.out heq.out, _, rfl⟩
          case measure => simp [intOf]; omega
        · have hbe : (x == y) = false := by simpa using hxy
          have hbn : (x != y) = true := by simpa using hxy
          go_wp2
          go_quiet (fail)
          go_wp2
          go_ret
          exact ⟨ret_bool (eq_no HX.out HY.out hxy).symm, _, World.drewN_drewN _ _ _⟩
      · go_wp2
        go_ret
        exact ⟨ret_bool (eq_full hlt HL.out heq.out).symm, _, rfl⟩
  · have hne : (((xs.length : Nat) : Int) != ((ys.length : Nat) : Int)) = true := by rw [bne_iff_ne]; omega
    go_enter Try.func221, Try.ntmps221
    go_wp2
    go_ret
    refine ⟨ret_bool ?_, 0, rfl⟩
    symm; rw [decide_eq_false_iff_not]; rintro rfl; exact hl rfl
theorem bkBegins_any (xs ys : List Int) (v u : Value) (hi hj : Nat) (w : World) (h : RdI w hi v xs) (g : RdI w hj u ys) : Calls Try.prog 209 #[v, u] w fun e w' => e = .returned (.bool (begB xs ys)) ∧ ∃ n, w' = w.drewN n := by
  obtain ⟨A, c, rfl, hc, hm⟩ := Rd.form h
  obtain ⟨A', c', rfl, hc', hm'⟩ := Rd.form g
  unfold begB
  by_cases hl : xs.length ≤ ys.length
  · rw [decide_eq_true hl, Bool.true_and]
    have H := Lib.hid h
    have G := Lib.hid (RdI.cut g hl)
    clear h g
    go_enter Try.func209, Try.ntmps209
    go_wp2_with fail
    refine (l1Same_any xs (ys.take xs.length) _ _ hi hj _ H.out G.out).mono ?_
    rintro e w' ⟨rfl, n, rfl⟩
    go_wp2
    go_ret
    exact ⟨rfl, n, rfl⟩
  · rw [decide_eq_false hl, Bool.false_and]
    clear h g
    go_enter Try.func209, Try.ntmps209
    go_wp2_with fail
    go_ret
    exact ⟨rfl, 0, rfl⟩
theorem begins_any (xs ys : List Int) (v u : Value) (hi hj : Nat) (w : World) (h : RdI w hi v xs) (g : RdI w hj u ys) : Calls Try.prog 208 #[v, u] w fun e w' => e = .returned (.bool (begB xs ys)) ∧ ∃ n, w' = w.drewN n := by
  obtain ⟨A, c, rfl, hc, hm⟩ := Rd.form h
  obtain ⟨A', c', rfl, hc', hm'⟩ := Rd.form g
  unfold begB
  by_cases hl : xs.length ≤ ys.length
  · rw [decide_eq_true hl, Bool.true_and]
    have H := Lib.hid h
    have G := Lib.hid (RdI.cut g hl)
    clear h g
    go_enter Try.func208, Try.ntmps208
    go_wp2_with fail
    refine (slicesEqual_any xs (ys.take xs.length) _ _ hi hj _ H.out G.out).mono ?_
    rintro e w' ⟨rfl, n, rfl⟩
    go_wp2
    go_ret
    exact ⟨rfl, n, rfl⟩
  · rw [decide_eq_false hl, Bool.false_and]
    clear h g
    go_enter Try.func208, Try.ntmps208
    go_wp2_with fail
    go_ret
    exact ⟨rfl, 0, rfl⟩
end Go.Proofs.Ytabiobjcfopakaa
/- A drawn region whose operations only read old memory and whose calls may lay new memory: one walk in the order of the text serves every order. Facts on worlds that came later. -/
namespace Go.Proofs.Ytabiobjcfopakaa
open Go Go.RowKit
/-- A world in which all below block B is as in w. -/
structure LaterW (B : Nat) (w : World) where
  val : World
  bel : Below B w val
instance laterSome {B : Nat} {w : World} : Nonempty (LaterW B w) := ⟨⟨w, Below.refl _ _⟩⟩
theorem wp_region_later {P : Program} {id : Nat} {Q : Exit → Act → World → Prop} {a : Act} {w : World} {l : List Oper} (B : Nat) (hm : P.follows .mixedOrders = true) (hB : Region.lexB .any l.toArray = true)
    (h : wpQuiet P l.toArray (fun w' => ∃ x : LaterW B w, w' = x.val) (fun a' => ∀ w', (∃ x : LaterW B w, w' = x.val) → Q .normal a' w') l a) : (Code.region id l.toArray true).wp P Q a w :=
  wp_region_quiet (C := fun w' => ∃ x : LaterW B w, w' = x.val) hm hB ⟨⟨_, bel_drewN B w 1⟩, rfl⟩ (by simpa using h)
theorem later_nil {P : Program} {ops : Array Oper} {C : World → Prop} {B : Nat} {w : World} {a : Act} {Q : Act → World → Prop}
    (h : ∀ w', Below B w w' → Q a w') : wpQuiet P ops C (fun a' => ∀ w', (∃ x : LaterW B w, w' = x.val) → Q a' w') [] a :=
  wpQuiet_nil fun _ ⟨x, e⟩ => e ▸ h _ x.bel
theorem later_of {P : Program} {f : FuncId} {args : Array Value} {B : Nat} {w : World} {x : LaterW B w} {v : Value} (hB : B ≤ w.heap.size)
    (h : Calls P f args x.val fun e w' => e = .returned v ∧ Below x.val.heap.size x.val w') : Calls P f args x.val fun e w'' => e = .returned v ∧ ∃ y : LaterW B w, w'' = y.val :=
  h.mono fun _ w' ⟨he, hb⟩ => ⟨he, ⟨w', x.bel.trans (hb.mono (by have := x.bel.size; omega))⟩, rfl⟩
theorem later_same {P : Program} {f : FuncId} {args : Array Value} {B : Nat} {w : World} {x : LaterW B w} {v : Value}
    (h : Calls P f args x.val fun e w' => e = .returned v ∧ x.val = w') : Calls P f args x.val fun e w'' => e = .returned v ∧ ∃ y : LaterW B w, w'' = y.val :=
  h.mono fun _ _ ⟨he, hb⟩ => ⟨he, x, hb.symm⟩
theorem later_drawn {P : Program} {f : FuncId} {args : Array Value} {B : Nat} {w : World} {x : LaterW B w} {v : Value}
    (h : Calls P f args x.val fun e w' => e = .returned v ∧ ∃ n, w' = x.val.drewN n) : Calls P f args x.val fun e w'' => e = .returned v ∧ ∃ y : LaterW B w, w'' = y.val :=
  h.mono fun _ w' ⟨he, n, hb⟩ => ⟨he, ⟨w', by rw [hb]; exact x.bel.trans (bel_drewN _ _ _)⟩, rfl⟩
theorem later_cell {B : Nat} {w : World} {b o : Nat} {v : Value} (h : w.cell? ⟨b, o, Option.none⟩ = some v) (hb : b < B) : ∀ x : LaterW B w, x.val.cell? ⟨b, o, Option.none⟩ = some v :=
  fun x => (x.bel.cell (p := ⟨b, o, Option.none⟩) hb).trans h
theorem later_fact {B : Nat} {w : World} {p : World → Prop} (h : ∀ w', Below B w w' → p w') : ∀ x : LaterW B w, p x.val := fun x => h _ x.bel
end Go.Proofs.Ytabiobjcfopakaa
/- Contracts of the tests whether a book is valid, of the reference. -/
namespace Go.Proofs.Ytabiobjcfopakaa
open Go.RowKit
def sigOk (xs : List Int) : Bool := inB xs.length 1 3 && allB xs 1 60
theorem bkSignals_any (xs : List Int) (v : Value) (hi : Nat) (w : World) (h : RdI w hi v xs) : Calls Try.prog 214 #[v] w fun e w' => e = .returned (.bool (sigOk xs)) ∧ w = w' := by
  obtain ⟨A, c, hv, hc, hm⟩ := Rd.form h
  have H := Lib.hid h
  clear h
  unfold sigOk
  cases hl : inB xs.length 1 3
  · rw [Bool.false_and]
    subst hv
    go_enter Try.func214, Try.ntmps214
    go_wp2_with (first | (go_at_call 191; refine (l1In_any _ _ _ _).mono ?_; rintro e w' ⟨rfl, rfl⟩) | (go_at_call 184; refine (l1All_any xs _ _ _ hi _ H.out).mono ?_; rintro e w' ⟨rfl, rfl⟩))
    go_ret
    exact ⟨rfl, rfl⟩
  · rw [Bool.true_and]
    subst hv
    go_enter Try.func214, Try.ntmps214
    go_wp2_with (first | (go_at_call 191; refine (l1In_any _ _ _ _).mono ?_; rintro e w' ⟨rfl, rfl⟩) | (go_at_call 184; refine (l1All_any xs _ _ _ hi _ H.out).mono ?_; rintro e w' ⟨rfl, rfl⟩))
    go_ret
    exact ⟨rfl, rfl⟩
/-- The place of the phrase with some signals. -/
def sigIx (ps : List Phr) (xs : List Int) : Option Nat := ps.findIdx? fun p => decide (p.2 = xs)
def ixI : Option Nat → Int
  | some i => (i : Int)
  | Option.none => -1
theorem findIdx_take {α : Type} {f : α → Bool} {l : List α} {k : Nat} (h : ∀ j, j < k → ∀ x, l[j]? = some x → f x = false) {x : α} (hx : l[k]? = some x) (hf : f x = true) : l.findIdx? f = some k := by
  induction l generalizing k with
  | nil => simp at hx
  | cons a r ih =>
    rw [List.findIdx?_cons]
    cases k with
    | zero => simp at hx; subst hx; rw [hf]; rfl
    | succ k =>
      have ha : f a = false := h 0 (by omega) a rfl
      rw [ha]
      have := ih (k := k) (fun j hj x hx => h (j + 1) (by omega) x (by simpa using hx)) (by simpa using hx)
      rw [this]; rfl
theorem findIdx_none {α : Type} {f : α → Bool} {l : List α} (h : ∀ (j : Nat) (x : α), l[j]? = some x → f x = false) : l.findIdx? f = Option.none := by
  rw [List.findIdx?_eq_none_iff]
  intro x hx
  obtain ⟨j, hj⟩ := List.getElem?_of_mem hx
  exact h j x hj
set_option maxHeartbeats 800000 in
theorem bkOf_any (ps : List Phr) (xs : List Int) (v u : Value) (hi hj : Nat) (w : World) (h : RdB w hi v ps) (g : RdI w hj u xs) (hh : hi ≤ w.heap.size) (hg : hj ≤ w.heap.size) :
    Calls Try.prog 215 #[v, u] w fun e w' => e = .returned (.int .i64 (ixI (sigIx ps xs))) ∧ Below w.heap.size w w' := by
  obtain ⟨a, rfl, ha⟩ := h
  obtain ⟨A, c, rfl, hc, hm⟩ := ha.form
  have hba : Below w.heap.size w (w.alloc (.cells #[.slice A ps.length c] 48)) := (Below.refl _ _).alloc (Nat.le_refl _) _
  have H := Lib.hid ha
  have G := Lib.hid g
  clear ha g
  go_enter Try.func215, Try.ntmps215
  go_wp2_with fail
  go_loopw [10] (fun i wr => ∃ k : Nat, k ≤ ps.length ∧ i = .int .i64 k ∧ Hid (∀ j, j < k → ∀ x, ps[j]? = some x → decide (x.2 = xs) = false) ∧ Below w.heap.size w wr) (fun i _ => ps.length - (intOf i).toNat)
  case atStart => exact ⟨0, Nat.zero_le _, rfl, fun j hj => by omega, hba⟩
  case round =>
    obtain ⟨k, hk, rfl, hno, hbr⟩ := hrel
    by_cases hlt : k < ps.length
    · obtain ⟨b1, o1, c1, a, t, ys, hv, hb1, hx, hcell1, hcell2, hra, hta⟩ := (H.out.below hbr hh).at_ hlt
      cases hv
      obtain ⟨A2, c2, rfl, hc2, hm2⟩ := Rd.form hra
      have hs := hbr.size
      have hb2 : Below w.heap.size w (wr.alloc (.cells #[.string t, .slice A2 ys.length c2] 60)) := hbr.alloc hs _
      have HA := Lib.hid (hra.below ((Below.refl wr.heap.size wr).alloc (Nat.le_refl _) (.cells #[.string t, .slice A2 ys.length c2] 60)) (by omega))
      have HX := Lib.hid hx
      clear hra hx
      by_cases hys : ys = xs
      · have HYS := Lib.hid hys
        clear hys
        go_wp2_with fail
        refine (l1Same_any ys xs _ _ hi hj _ HA.out (Rd.below G.out hb2 hg)).mono ?_
        rw [decide_eq_true HYS.out]
        rintro e w' ⟨rfl, n, rfl⟩
        go_wp2_with fail
        go_ret
        refine ⟨ret_int ?_, hb2.trans (bel_drewN _ _ _)⟩
        unfold sigIx
        rw [findIdx_take (fun j hj x hx => hno.out j hj x hx) HX.out (decide_eq_true HYS.out)]
        rfl
      · have HYS : Hid (decide (ys = xs) = false) := decide_eq_false hys
        clear hys
        go_wp2_with fail
        refine (l1Same_any ys xs _ _ hi hj _ HA.out (Rd.below G.out hb2 hg)).mono ?_
        rw [HYS.out]
        rintro e w' ⟨rfl, n, rfl⟩
        go_wp2_with fail
        go_roundw
        case rel => exact ⟨k + 1, by omega, by go_num, fun j hj x hx => by
          by_cases e : j = k
          · subst e; rw [HX.out] at hx; cases hx; exact HYS.out
          · exact hno.out j (by omega) x hx, hb2.trans (bel_drewN _ _ _)⟩
        case measure => simp [intOf]; omega
    · obtain rfl : k = ps.length := by omega
      go_wp2_with fail
      go_ret
      refine ⟨ret_int ?_, hbr⟩
      unfold sigIx
      rw [findIdx_none (fun j x hx => hno.out j (List.getElem?_eq_some_iff.1 hx).1 x hx)]
      rfl
theorem still_of {P : Program} {f : FuncId} {args : Array Value} {w : World} {v : Value} (h : Calls P f args w fun e w' => e = .returned v ∧ w = w') : Calls P f args w fun e w' => e = .returned v ∧ w' = w :=
  h.mono fun _ _ ⟨he, hw⟩ => ⟨he, hw.symm⟩
def ltT (a b : ByteArray) : Bool := Op.bytesLess a.toList b.toList
def phrOk (p : Phr) : Bool := phraseB p.1.data.toList && sigOk p.2
/-- Is the phrase at j fine, and fine behind those before it? -/
def goodAt (ps : List Phr) (j : Nat) : Bool := match ps[j]? with
  | some p => phrOk p && ((match j with | 0 => true | i + 1 => match ps[i]? with | some q => ltT q.1 p.1 | Option.none => true) && (sigIx ps p.2 == some j))
  | Option.none => true
def goodB (ps : List Phr) : Bool := (List.range ps.length).all fun j => goodAt ps j
def bookB (ps : List Phr) : Bool := inB ps.length 1 40 && goodB ps
theorem goodB_no {ps : List Phr} {k : Nat} (hk : k < ps.length) (h : goodAt ps k = false) : goodB ps = false := by
  unfold goodB; rw [List.all_eq_false]; exact ⟨k, List.mem_range.2 hk, by simp [h]⟩
theorem goodB_yes {ps : List Phr} (h : ∀ j, j < ps.length → goodAt ps j = true) : goodB ps = true := by
  unfold goodB; rw [List.all_eq_true]; intro j hj; exact h j (List.mem_range.1 hj)
theorem goodAt_phr {ps : List Phr} {k : Nat} {p : Phr} (hp : ps[k]? = some p) (h : phrOk p = false) : goodAt ps k = false := by unfold goodAt; rw [hp]; simp [h]
theorem goodAt_lt {ps : List Phr} {k : Nat} {p q : Phr} (hp : ps[k + 1]? = some p) (hq : ps[k]? = some q) (h : ltT q.1 p.1 = false) : goodAt ps (k + 1) = false := by unfold goodAt; rw [hp]; simp [hq, h]
theorem goodAt_ix {ps : List Phr} {k : Nat} {p : Phr} (hp : ps[k]? = some p) (h : sigIx ps p.2 ≠ some k) : goodAt ps k = false := by unfold goodAt; rw [hp]; simp [h]
theorem goodAt_0 {ps : List Phr} {p : Phr} (hp : ps[0]? = some p) (h : phrOk p = true) (h2 : sigIx ps p.2 = some 0) : goodAt ps 0 = true := by unfold goodAt; rw [hp]; simp [h, h2]
theorem goodAt_s {ps : List Phr} {k : Nat} {p q : Phr} (hp : ps[k + 1]? = some p) (hq : ps[k]? = some q) (h : phrOk p = true) (h1 : ltT q.1 p.1 = true) (h2 : sigIx ps p.2 = some (k + 1)) : goodAt ps (k + 1) = true := by unfold goodAt; rw [hp]; simp [h, h1, h2, hq]
theorem ixI_ne {o : Option Nat} {k : Nat} (h : o ≠ some k) : (ixI o != (k : Int)) = true := by
  rw [bne_iff_ne]; intro e; apply h
  cases o with
  | none => simp only [ixI] at e; omega
  | some i => simp only [ixI] at e; congr 1; omega
theorem ixI_eq {o : Option Nat} {k : Nat} (h : o = some k) : (ixI o != (k : Int)) = false := by subst h; simp [ixI]
end Go.Proofs.Ytabiobjcfopakaa
/- Plain laws: the tables of how many ways there are from each place on; their bounds. -/
namespace Go.Proofs.Ytabiobjcfopakaa
theorem sum_perm {a b : List Nat} (h : a.Perm b) : a.sum = b.sum := by
  induction h with
  | nil => rfl
  | cons x _ ih => simp [ih]
  | swap x y l => simp; omega
  | trans _ _ h1 h2 => exact h1.trans h2
theorem sum_pow_lt : ∀ (r : Nat) (L : List Nat), L.Nodup → (∀ e ∈ L, e < r) → (L.map fun e => 2 ^ e).sum < 2 ^ r
  | 0, L, _, h => by
    cases L with
    | nil => simp
    | cons a l => have := h a (by simp); omega
  | r + 1, L, hn, h => by
    by_cases hr : r ∈ L
    · have hp := List.perm_cons_erase hr
      have h1 := sum_perm (hp.map fun e => 2 ^ e)
      have h2 := sum_pow_lt r (L.erase r) (hn.erase r) (fun e he => by
        have h3 := h e (List.mem_of_mem_erase he)
        have h4 : e ≠ r := by rintro rfl; exact (hn.mem_erase_iff.1 he).1 rfl
        omega)
      rw [h1, List.map_cons, List.sum_cons, Nat.pow_succ]
      omega
    · have h2 := sum_pow_lt r L hn (fun e he => by
        have h3 := h e he
        have h4 : e ≠ r := by rintro rfl; exact hr he
        omega)
      rw [Nat.pow_succ]
      omega
/-- The ways at a place: of each phrase that fits there the ways behind it. -/
def wayAt (fit : Phr → Bool) (len : Phr → Nat) (ps : List Phr) (tb : List Nat) : Nat := (ps.map fun p => if fit p then tb.getD (len p - 1) 0 else 0).sum
/-- The ways from the last k places on. -/
def dpW (fit : Nat → Phr → Bool) (len : Phr → Nat) (ps : List Phr) (n : Nat) : Nat → List Nat
  | 0 => [1]
  | k + 1 => wayAt (fit (n - (k + 1))) len ps (dpW fit len ps n k) :: dpW fit len ps n k
theorem dpW_len (fit : Nat → Phr → Bool) (len : Phr → Nat) (ps : List Phr) (n k : Nat) : (dpW fit len ps n k).length = k + 1 := by
  induction k with
  | zero => rfl
  | succ k ih => simp [dpW, ih]
theorem wayAt_snoc {fit : Phr → Bool} {len : Phr → Nat} {ps : List Phr} {tb : List Nat} {j : Nat} {p : Phr} (h : ps[j]? = some p) : wayAt fit len (ps.take (j + 1)) tb = wayAt fit len (ps.take j) tb + if fit p then tb.getD (len p - 1) 0 else 0 := by
  unfold wayAt; rw [take_snocN h, List.map_append, List.sum_append]; simp
theorem wayAt_nil {fit : Phr → Bool} {len : Phr → Nat} {tb : List Nat} : wayAt fit len [] tb = 0 := rfl
/-- Phrases that fit at one place have lengths of their own. -/
def Apart (fit : Phr → Bool) (len : Phr → Nat) (r : Nat) (ps : List Phr) : Prop :=
  ps.Pairwise (fun p q => fit p = true → fit q = true → len p ≠ len q) ∧ ∀ p ∈ ps, fit p = true → 1 ≤ len p ∧ len p ≤ r
theorem Apart.take {fit : Phr → Bool} {len : Phr → Nat} {r : Nat} {ps : List Phr} (h : Apart fit len r ps) (j : Nat) : Apart fit len r (ps.take j) :=
  ⟨h.1.sublist (List.take_sublist j ps), fun p hp => h.2 p (List.mem_of_mem_take hp)⟩
theorem wayAt_lt {fit : Phr → Bool} {len : Phr → Nat} {r : Nat} {ps : List Phr} {tb : List Nat} (h : Apart fit len r ps) (ht : ∀ i m, tb[i]? = some m → m ≤ 2 ^ (r - (i + 1))) : wayAt fit len ps tb < 2 ^ r := by
  have h1 : wayAt fit len ps tb ≤ (((ps.filter fit).map fun p => r - len p).map fun e => 2 ^ e).sum := by
    have h2 := h.2
    clear h
    induction ps with
    | nil => simp [wayAt]
    | cons p l ih =>
      have hi := ih (fun q hq => h2 q (List.mem_cons_of_mem _ hq))
      unfold wayAt at *
      cases hf : fit p
      · simpa [hf] using hi
      · have hl := h2 p (by simp) hf
        have hv : tb.getD (len p - 1) 0 ≤ 2 ^ (r - len p) := by
          rw [List.getD_eq_getElem?_getD]
          cases hg : tb[len p - 1]? with
          | none => simp
          | some m => have := ht _ _ hg; rw [show len p - 1 + 1 = len p by omega] at this; simpa using this
        simp only [List.map_cons, hf, if_true, List.sum_cons, List.filter_cons_of_pos] at hi ⊢
        omega
  refine Nat.lt_of_le_of_lt h1 (sum_pow_lt r _ ?_ ?_)
  · obtain ⟨h1, h2⟩ := h
    rw [List.Nodup, List.pairwise_map, List.pairwise_filter]
    refine h1.imp_of_mem ?_
    intro p q hp hq hne fp fq
    have := hne fp fq
    have := h2 p hp fp
    have := h2 q hq fq
    omega
  · intro e he
    rw [List.mem_map] at he
    obtain ⟨p, hp, rfl⟩ := he
    rw [List.mem_filter] at hp
    have := h.2 p hp.1 hp.2
    omega
theorem dpW_le {fit : Nat → Phr → Bool} {len : Phr → Nat} {ps : List Phr} {n : Nat} (h : ∀ k, k < n → Apart (fit (n - (k + 1))) len (k + 1) ps) :
    ∀ k, k ≤ n → ∀ i m, (dpW fit len ps n k)[i]? = some m → m ≤ 2 ^ (k - i)
  | 0, _, i, m, hi => by
    cases i with
    | zero => simp [dpW] at hi; subst hi; simp
    | succ i => simp [dpW] at hi
  | k + 1, hk, i, m, hi => by
    have ih := dpW_le h k (by omega)
    cases i with
    | zero =>
      simp only [dpW, List.getElem?_cons_zero, Option.some.injEq] at hi
      subst hi
      exact Nat.le_of_lt (wayAt_lt (h k (by omega)) (fun i m hm => by have := ih i m hm; rwa [show k + 1 - 0 - (i + 1) = k - i by omega]))
    | succ i =>
      simp only [dpW, List.getElem?_cons_succ] at hi
      have := ih i m hi
      rwa [show k + 1 - (i + 1) = k - i by omega]
/-- Numbers as cells. -/
abbrev nats (l : List Nat) : List Value := l.map fun m : Nat => Value.int .i64 (m : Int)
/-- The table's cells, j phrases seen at a place: those ahead still empty. -/
def tblC (at_ : Nat) (sofar : Nat) (tb : List Nat) : List Value := List.replicate at_ (Value.int .i64 0) ++ nats (sofar :: tb)
theorem tblC_at {at_ sofar : Nat} {tb : List Nat} : (tblC at_ sofar tb)[at_]? = some (.int .i64 (sofar : Int)) := by
  unfold tblC; rw [List.getElem?_append_right (by simp)]; simp
theorem tblC_on {at_ sofar d : Nat} {tb : List Nat} {m : Nat} (h : tb[d]? = some m) : (tblC at_ sofar tb)[at_ + 1 + d]? = some (.int .i64 (m : Int)) := by
  unfold tblC; rw [List.getElem?_append_right (by simp; omega)]; simp [show at_ + 1 + d - at_ = d + 1 by omega, h]
theorem tblC_set {at_ a b : Nat} {tb : List Nat} : (tblC at_ a tb).set at_ (.int .i64 (b : Int)) = tblC at_ b tb := by
  unfold tblC
  rw [List.set_append_right _ _ (by simp)]; simp
theorem tblC_down {at_ m : Nat} {tb : List Nat} : tblC (at_ + 1) m tb = tblC at_ 0 (m :: tb) := by
  unfold tblC
  rw [List.replicate_succ']; simp
end Go.Proofs.Ytabiobjcfopakaa
/- Contracts: a stable sort of at most twenty indices by a comparison that only reads. -/
namespace Go.Proofs.Ytabiobjcfopakaa
open Go.RowKit
/-- What is asked of a comparison while block g is sorted. -/
def CmpI (f : Nat) (lb : Array Value) (g N : Nat) (c : Nat → Nat → Int) (w : World) : Prop :=
  ∀ (w' : World), Only (some g) w w' → ∀ x y : Nat, x < N → y < N → Calls Try.prog f (#[.int .i64 (x : Int), .int .i64 (y : Int)] ++ lb) w' fun e w'' => e = .returned (.int .i64 (c x y)) ∧ ∃ m, w'' = w'.drewN m
abbrev pOf (c : Nat → Nat → Int) (x y : Nat) : Bool := decide (c x y < 0)
theorem only_drewN (b : Option Nat) (w : World) (n : Nat) : Only b w (w.drewN n) := ⟨rfl, rfl, rfl, rfl, fun _ _ => rfl⟩
theorem Only.trans {b : Option Nat} {a v w : World} (h : Only b a v) (k : Only b v w) : Only b a w :=
  ⟨k.os.trans h.os, k.tape.trans h.tape, k.output.trans h.output, k.size.trans h.size, fun i hi => (k.block i hi).trans (h.block i hi)⟩
/-- The numbers while x is put in its place at q. -/
def insL (L : List Nat) (x q : Nat) (R : List Nat) : List Nat := L.take q ++ x :: (L.drop q ++ R)
theorem insL_at {L R : List Nat} {x q : Nat} (h : q ≤ L.length) : (nats (insL L x q R))[q]? = some (.int .i64 (x : Int)) := by
  unfold insL nats
  rw [List.map_append, List.getElem?_append_right (by simp; omega), List.length_map, List.length_take, Nat.min_eq_left h, Nat.sub_self]; rfl
theorem insL_ahead {L R : List Nat} {x s y : Nat} (h : L[s]? = some y) : (nats (insL L x (s + 1) R))[s]? = some (.int .i64 (y : Int)) := by
  have hs := (List.getElem?_eq_some_iff.1 h).1
  unfold insL nats
  rw [List.map_append, List.getElem?_append_left (by simp; omega), List.getElem?_map, List.getElem?_take_of_lt (by omega), h]; rfl
theorem insL_swap {L R : List Nat} {x s y : Nat} (h : L[s]? = some y) : ((nats (insL L x (s + 1) R)).set (s + 1) (.int .i64 (y : Int))).set s (.int .i64 (x : Int)) = nats (insL L x s R) := by
  have hs := (List.getElem?_eq_some_iff.1 h).1
  have hd : L.drop s = y :: L.drop (s + 1) := by rw [List.drop_eq_getElem_cons hs]; rw [List.getElem?_eq_getElem hs] at h; cases h; rfl
  have ht : L.take (s + 1) = L.take s ++ [y] := take_snocN h
  have hl : (L.take s).length = s := by rw [List.length_take]; omega
  unfold insL nats
  rw [ht, hd]
  simp only [List.map_append, List.map_cons, List.append_assoc, List.cons_append, List.nil_append]
  have e1 : (List.map (fun m : Nat => Value.int .i64 (m : Int)) (L.take s) ++ Value.int .i64 (y : Int) :: Value.int .i64 (x : Int) :: (List.map (fun m : Nat => Value.int .i64 (m : Int)) (L.drop (s + 1)) ++ List.map (fun m : Nat => Value.int .i64 (m : Int)) R)).set (s + 1) (.int .i64 (y : Int)) =
      List.map (fun m : Nat => Value.int .i64 (m : Int)) (L.take s) ++ Value.int .i64 (y : Int) :: Value.int .i64 (y : Int) :: (List.map (fun m : Nat => Value.int .i64 (m : Int)) (L.drop (s + 1)) ++ List.map (fun m : Nat => Value.int .i64 (m : Int)) R) := by
    rw [List.set_append_right _ _ (by simp; omega), List.length_map, hl, show s + 1 - s = 1 by omega]; rfl
  rw [e1, List.set_append_right _ _ (by simp; omega), List.length_map, hl, Nat.sub_self]; rfl
theorem insL_start {p : Nat → Nat → Bool} {k n : Nat} (h : k < n) : orderBy p k ++ List.range' k (n - k) = insL (orderBy p k) k k (List.range' (k + 1) (n - (k + 1))) := by
  have hl := orderBy_len p k
  unfold insL
  rw [List.take_of_length_le (by omega), List.drop_of_length_le (by omega), List.nil_append, show n - k = (n - (k + 1)) + 1 by omega, List.range'_succ]
theorem insL_end {p : Nat → Nat → Bool} {k n q : Nat} (hq : q ≤ k) (hB : ∀ y ∈ (orderBy p k).drop q, p k y = true) (hA : q = 0 ∨ ∃ a, (orderBy p k)[q - 1]? = some a ∧ p k a = false) :
    insL (orderBy p k) k q (List.range' (k + 1) (n - (k + 1))) = orderBy p (k + 1) ++ List.range' (k + 1) (n - (k + 1)) := by
  rw [orderBy_succ, insBy_at (by rw [orderBy_len]; exact hq) hB hA]
  unfold insL; simp
theorem insL_next {p : Nat → Nat → Bool} {L : List Nat} {x s y : Nat} (h : L[s]? = some y) (hp : p x y = true) (hB : ∀ z ∈ L.drop (s + 1), p x z = true) : ∀ z ∈ L.drop s, p x z = true := by
  have hs := (List.getElem?_eq_some_iff.1 h).1
  have hd : L.drop s = y :: L.drop (s + 1) := by rw [List.drop_eq_getElem_cons hs]; rw [List.getElem?_eq_getElem hs] at h; cases h; rfl
  rw [hd]
  intro z hz
  rcases List.mem_cons.1 hz with rfl | hz
  · exact hp
  · exact hB z hz
set_option maxRecDepth 1000000 in
set_option maxHeartbeats 4000000 in
theorem insSort_any (n cp g f : Nat) (lb : Array Value) (c : Nat → Nat → Int) (w : World) (hn1 : 1 ≤ n) (hn : n ≤ 20) (hcp : n ≤ cp) (h : Blk w g 3 (nats (List.range n))) (hp : CmpI f lb g n c w)
    (eg : ∀ args w, (callFunc f args).run Try.prog w = .ok (.enter f args) w) :
    Calls Try.prog 252 #[.slice (some ⟨g, 0, Option.none⟩) n cp, .int .i64 0, .int .i64 (n : Int), .func (.func f) #[] lb] w fun e w' => (∃ z, e = .returned z) ∧ Blk w' g 3 (nats (orderBy (pOf c) n)) ∧ Only (some g) w w' := by
  have H := Lib.hid h
  have HP := Lib.hid hp
  clear h hp
  go_enter Try.func252, Try.ntmps252
  go_wp2
  go_loopw [8] (fun i wr => ∃ k : Nat, 1 ≤ k ∧ k ≤ n ∧ i = .int .i64 k ∧ Hid (Blk wr g 3 (nats (orderBy (pOf c) k ++ List.range' k (n - k)))) ∧ Hid (Only (some g) w wr)) (fun i _ => n - (intOf i).toNat)
  case atStart =>
    refine ⟨1, Nat.le_refl _, hn1, rfl, ?_, Only.refl _ _⟩
    have e : orderBy (pOf c) 1 ++ List.range' 1 (n - 1) = List.range n := by
      rw [List.range_eq_range', show n = (n - 1) + 1 by omega, List.range'_succ]; rfl
    show Blk _ _ _ _
    rw [e]; exact H.out
  case round =>
    obtain ⟨k, hk1, hk, rfl, hb, ho⟩ := hrel
    by_cases hlt : k < n
    · obtain ⟨L, hL⟩ : ∃ L, L = orderBy (pOf c) k := ⟨_, rfl⟩
      obtain ⟨R, hR⟩ : ∃ R, R = List.range' (k + 1) (n - (k + 1)) := ⟨_, rfl⟩
      have hLl : L.length = k := by rw [hL, orderBy_len]
      have HLL := Lib.hid hLl
      have HLM : Hid (∀ y ∈ L, y < k) := by show ∀ y ∈ L, y < k; rw [hL]; exact fun y hy => orderBy_lt hy
      have HB : Hid (Blk wr g 3 (nats (insL L k k R))) := by show Blk _ _ _ _; rw [hL, hR, ← insL_start hlt]; exact hb.out
      have HEL := Lib.hid hL
      have HER := Lib.hid hR
      clear hb hL hR hLl
      rename World => wo
      go_wp2_with fail
      go_loopw [9] (fun j wr => ∃ q : Nat, q ≤ k ∧ j = .int .i64 q ∧ Hid (Blk wr g 3 (nats (insL L k q R))) ∧ Hid (∀ y ∈ L.drop q, pOf c k y = true) ∧ Hid (Only (some g) w wr)) (fun j _ => (intOf j).toNat)
      case atStart => exact ⟨k, Nat.le_refl _, rfl, HB.out, by intro y hy; rw [List.drop_of_length_le (by rw [HLL.out]; exact Nat.le_refl _)] at hy; simp at hy, ho.out⟩
      case round =>
        obtain ⟨q, hq, rfl, hb2, hall, ho2⟩ := hrel
        rcases Nat.eq_zero_or_pos q with hq0 | hq0
        · have hgd : decide (0 < q) = false := decide_eq_false (by omega)
          have HQ := Lib.hid hq0
          clear hq0
          go_wp2_with fail
          go_quiet (fail)
          go_wp2_with fail
          have HBF : Hid (Blk (wr.drewN nq) g 3 (nats (orderBy (pOf c) (k + 1) ++ List.range' (k + 1) (n - (k + 1))))) := by
            show Blk _ _ _ _
            rw [← insL_end (q := q) hq (by rw [← HEL.out]; exact hall.out) (.inl HQ.out), ← HEL.out, ← HER.out]
            exact hb2.out
          go_roundw
          case rel => exact ⟨k + 1, by omega, by omega, by go_num, HBF.out, ho2.out.trans (only_drewN _ _ _)⟩
          case measure => simp [intOf]; omega
        · obtain ⟨s, rfl⟩ : ∃ s, q = s + 1 := ⟨q - 1, by omega⟩
          obtain ⟨y, hy⟩ : ∃ y, L[s]? = some y := ⟨_, List.getElem?_eq_getElem (by rw [HLL.out]; omega)⟩
          have hyk := HLM.out y (List.mem_of_getElem? hy)
          have hgd : decide ((0 : Int) < ((s + 1 : Nat) : Int)) = true := decide_eq_true (by omega)
          have hgd2 : decide ((0 : Int) < (s : Int) + 1) = true := decide_eq_true (by omega)
          have hc1 := hb2.out.cell (s + 1)
          have hc0 := hb2.out.cell s
          rw [insL_at (by rw [HLL.out]; omega)] at hc1
          rw [insL_ahead hy] at hc0
          have HY := Lib.hid hy
          have HCM := Lib.hid fun nq => HP.out (wr.drewN nq) (ho2.out.trans (only_drewN _ _ _)) k y (by omega) (by omega)
          have hsn : (s : Int) + 1 < (n : Int) := by omega
          have hsn2 : (s : Int) < (n : Int) := by omega
          clear hy
          cases hcy : pOf c k y
          · have hcc : decide (c k y < 0) = false := hcy
            go_wp2_with fail
            go_quiet ((go_at_fn f; exact Calls.quiet_of (HCM.out _)))
            go_wp2_with fail
            have HBF : Hid (Blk (wr.drewN nq) g 3 (nats (orderBy (pOf c) (k + 1) ++ List.range' (k + 1) (n - (k + 1))))) := by
              show Blk _ _ _ _
              rw [← insL_end (q := s + 1) hq (by rw [← HEL.out]; exact hall.out) (.inr ⟨y, by rw [← HEL.out]; exact HY.out, hcy⟩), ← HEL.out, ← HER.out]
              exact hb2.out
            go_roundw
            case rel => exact ⟨k + 1, by omega, by omega, by go_num, HBF.out, ho2.out.trans (only_drewN _ _ _)⟩
            case measure => simp [intOf]; omega
          · have hcc : decide (c k y < 0) = true := hcy
            go_wp2_with fail
            go_quiet ((go_at_fn f; exact Calls.quiet_of (HCM.out _)))
            have HBD : Hid (Blk (wr.drewN nq) g 3 (nats (insL L k (s + 1) R))) := hb2.out
            have HOD : Hid (Only (some g) w (wr.drewN nq)) := ho2.out.trans (only_drewN _ _ _)
            have hd1 : (wr.drewN nq).cell? ⟨g, s + 1, Option.none⟩ = some (.int .i64 (k : Int)) := hc1
            have hd0 : (wr.drewN nq).cell? ⟨g, s, Option.none⟩ = some (.int .i64 (y : Int)) := hc0
            have hfz : ∀ i, (wr.drewN nq).frozen? ⟨g, i, Option.none⟩ = false := fun i => HBD.out.frozen i
            clear hc1 hc0
            generalize (wr.drewN nq) = wq at HBD HOD hd1 hd0 hfz ⊢
            go_wp2_with fail
            go_region
            have hBS : Blk ((wq.setCell ⟨g, s + 1, Option.none⟩ (.int .i64 (y : Int))).setCell ⟨g, s, Option.none⟩ (.int .i64 (k : Int))) g 3 (nats (insL L k s R)) := by
              rw [← insL_swap HY.out]; exact (HBD.out.set_ _ _).set_ _ _
            have hOS : Only (some g) w ((wq.setCell ⟨g, s + 1, Option.none⟩ (.int .i64 (y : Int))).setCell ⟨g, s, Option.none⟩ (.int .i64 (k : Int))) := (HOD.out.setCell (p := ⟨g, s + 1, Option.none⟩) rfl _).setCell (p := ⟨g, s, Option.none⟩) rfl _
            have HBS := Lib.hid hBS
            have HOS := Lib.hid hOS
            clear hBS hOS
            go_wp2_with fail
            go_roundw
            case rel => exact ⟨s, by omega, by go_num, HBS.out, insL_next HY.out hcy hall.out, HOS.out.trans (only_drewN _ _ 1)⟩
            case measure => simp [intOf]
    · obtain rfl : k = n := by omega
      have hb3 : Blk wr g 3 (nats (orderBy (pOf c) k)) := by have := hb.out; rwa [Nat.sub_self, List.range'_zero, List.append_nil] at this
      go_wp2_with fail
      refine bodyPost_end (results_none Try.results252 _ _ _) rfl ?_
      exact ⟨⟨_, rfl⟩, hb3, ho.out⟩
end Go.Proofs.Ytabiobjcfopakaa
/- Contracts of the costs and the Kraft sums of lengths, of the program and of the reference. -/
namespace Go.Proofs.Ytabiobjcfopakaa
open Go.RowKit
def weightsB (xs : List Int) : Bool := inB xs.length 1 20 && allB xs 0 10000
def lengthsB (xs : List Int) : Bool := inB xs.length 1 20 && allB xs 1 6
theorem weightsB_iff {xs : List Int} : weightsB xs = true ↔ (1 ≤ xs.length ∧ xs.length ≤ 20) ∧ allB xs 0 10000 = true := by
  unfold weightsB; rw [Bool.and_eq_true, inB_iff]
  constructor
  · rintro ⟨⟨h1, h2⟩, h3⟩; exact ⟨⟨by omega, by omega⟩, h3⟩
  · rintro ⟨⟨h1, h2⟩, h3⟩; exact ⟨⟨by omega, by omega⟩, h3⟩
theorem lengthsB_iff {xs : List Int} : lengthsB xs = true ↔ (1 ≤ xs.length ∧ xs.length ≤ 20) ∧ allB xs 1 6 = true := by
  unfold lengthsB; rw [Bool.and_eq_true, inB_iff]
  constructor
  · rintro ⟨⟨h1, h2⟩, h3⟩; exact ⟨⟨by omega, by omega⟩, h3⟩
  · rintro ⟨⟨h1, h2⟩, h3⟩; exact ⟨⟨by omega, by omega⟩, h3⟩
theorem areWeights_any (xs : List Int) (v : Value) (hi : Nat) (w : World) (h : RdI w hi v xs) : Calls Try.prog 189 #[v] w fun e w' => e = .returned (.bool (weightsB xs)) ∧ w = w' := by
  obtain ⟨A, c, hv, hc, hm⟩ := Rd.form h
  have H := Lib.hid h
  clear h
  unfold weightsB
  cases hl : inB xs.length 1 20
  · rw [Bool.false_and]
    subst hv
    go_enter Try.func189, Try.ntmps189
    go_wp2_with (first | (go_at_call 125; refine (within_any _ _ _ _).mono ?_; rintro e w' ⟨rfl, rfl⟩) | (go_at_call 181; refine (allWithin_any xs _ _ _ hi _ H.out).mono ?_; rintro e w' ⟨rfl, rfl⟩))
    go_ret
    exact ⟨rfl, rfl⟩
  · rw [Bool.true_and]
    subst hv
    go_enter Try.func189, Try.ntmps189
    go_wp2_with (first | (go_at_call 125; refine (within_any _ _ _ _).mono ?_; rintro e w' ⟨rfl, rfl⟩) | (go_at_call 181; refine (allWithin_any xs _ _ _ hi _ H.out).mono ?_; rintro e w' ⟨rfl, rfl⟩))
    go_ret
    exact ⟨rfl, rfl⟩
theorem cmWeights_any (xs : List Int) (v : Value) (hi : Nat) (w : World) (h : RdI w hi v xs) : Calls Try.prog 190 #[v] w fun e w' => e = .returned (.bool (weightsB xs)) ∧ w = w' := by
  obtain ⟨A, c, hv, hc, hm⟩ := Rd.form h
  have H := Lib.hid h
  clear h
  unfold weightsB
  cases hl : inB xs.length 1 20
  · rw [Bool.false_and]
    subst hv
    go_enter Try.func190, Try.ntmps190
    go_wp2_with (first | (go_at_call 191; refine (l1In_any _ _ _ _).mono ?_; rintro e w' ⟨rfl, rfl⟩) | (go_at_call 184; refine (l1All_any xs _ _ _ hi _ H.out).mono ?_; rintro e w' ⟨rfl, rfl⟩))
    go_ret
    exact ⟨rfl, rfl⟩
  · rw [Bool.true_and]
    subst hv
    go_enter Try.func190, Try.ntmps190
    go_wp2_with (first | (go_at_call 191; refine (l1In_any _ _ _ _).mono ?_; rintro e w' ⟨rfl, rfl⟩) | (go_at_call 184; refine (l1All_any xs _ _ _ hi _ H.out).mono ?_; rintro e w' ⟨rfl, rfl⟩))
    go_ret
    exact ⟨rfl, rfl⟩
theorem areLengths_any (xs : List Int) (v : Value) (hi : Nat) (w : World) (h : RdI w hi v xs) : Calls Try.prog 156 #[v] w fun e w' => e = .returned (.bool (lengthsB xs)) ∧ w = w' := by
  obtain ⟨A, c, hv, hc, hm⟩ := Rd.form h
  have H := Lib.hid h
  clear h
  unfold lengthsB
  cases hl : inB xs.length 1 20
  · rw [Bool.false_and]
    subst hv
    go_enter Try.func156, Try.ntmps156
    go_wp2_with (first | (go_at_call 125; refine (within_any _ _ _ _).mono ?_; rintro e w' ⟨rfl, rfl⟩) | (go_at_call 181; refine (allWithin_any xs _ _ _ hi _ H.out).mono ?_; rintro e w' ⟨rfl, rfl⟩))
    go_ret
    exact ⟨rfl, rfl⟩
  · rw [Bool.true_and]
    subst hv
    go_enter Try.func156, Try.ntmps156
    go_wp2_with (first | (go_at_call 125; refine (within_any _ _ _ _).mono ?_; rintro e w' ⟨rfl, rfl⟩) | (go_at_call 181; refine (allWithin_any xs _ _ _ hi _ H.out).mono ?_; rintro e w' ⟨rfl, rfl⟩))
    go_ret
    exact ⟨rfl, rfl⟩
theorem cmGood_any (xs : List Int) (v : Value) (hi : Nat) (w : World) (h : RdI w hi v xs) : Calls Try.prog 151 #[v] w fun e w' => e = .returned (.bool (lengthsB xs)) ∧ w = w' := by
  obtain ⟨A, c, hv, hc, hm⟩ := Rd.form h
  have H := Lib.hid h
  clear h
  unfold lengthsB
  cases hl : inB xs.length 1 20
  · rw [Bool.false_and]
    subst hv
    go_enter Try.func151, Try.ntmps151
    go_wp2_with (first | (go_at_call 191; refine (l1In_any _ _ _ _).mono ?_; rintro e w' ⟨rfl, rfl⟩) | (go_at_call 184; refine (l1All_any xs _ _ _ hi _ H.out).mono ?_; rintro e w' ⟨rfl, rfl⟩))
    go_ret
    exact ⟨rfl, rfl⟩
  · rw [Bool.true_and]
    subst hv
    go_enter Try.func151, Try.ntmps151
    go_wp2_with (first | (go_at_call 191; refine (l1In_any _ _ _ _).mono ?_; rintro e w' ⟨rfl, rfl⟩) | (go_at_call 184; refine (l1All_any xs _ _ _ hi _ H.out).mono ?_; rintro e w' ⟨rfl, rfl⟩))
    go_ret
    exact ⟨rfl, rfl⟩
/-- The sum of the products. -/
def dotI : List Int → List Int → Int
  | x :: r, y :: s => x * y + dotI r s
  | _, _ => 0
theorem dotI_snoc (l m : List Int) (x y : Int) (h : l.length = m.length) : dotI (l ++ [x]) (m ++ [y]) = dotI l m + x * y := by
  induction l generalizing m with
  | nil => cases m with
    | nil => simp [dotI]
    | cons a r => simp at h
  | cons a r ih =>
    cases m with
    | nil => simp at h
    | cons b s =>
      simp only [List.cons_append, dotI, ih s (by simpa using h)]
      omega
theorem dot_step {xs ys : List Int} {k : Nat} {x y : Int} (hx : xs[k]? = some x) (hy : ys[k]? = some y) : dotI (xs.take (k + 1)) (ys.take (k + 1)) = dotI (xs.take k) (ys.take k) + x * y := by
  have h1 := (List.getElem?_eq_some_iff.1 hx).1
  have h2 := (List.getElem?_eq_some_iff.1 hy).1
  rw [take_snocI hx, take_snocI hy, dotI_snoc _ _ _ _ (by simp; omega)]
theorem prod_bd {x y : Int} (hx : 0 ≤ x ∧ x ≤ 10000) (hy : 1 ≤ y ∧ y ≤ 6) : 0 ≤ x * y ∧ x * y ≤ 60000 := by
  refine ⟨Int.mul_nonneg (by omega) (by omega), ?_⟩
  have : x * y ≤ 10000 * 6 := Int.mul_le_mul (by omega) (by omega) (by omega) (by omega)
  omega
def costT (ws ls : List Int) : Value := if weightsB ws && lengthsB ls && decide (ws.length = ls.length) then .tuple #[.int .i64 (dotI ws ls), .bool true] else .tuple #[.int .i64 0, .bool false]
theorem costT_yes {ws ls : List Int} (h1 : weightsB ws = true) (h2 : lengthsB ls = true) (h3 : ws.length = ls.length) : costT ws ls = .tuple #[.int .i64 (dotI ws ls), .bool true] := by
  unfold costT; rw [h1, h2, if_pos (by rw [decide_eq_true h3]; rfl)]
theorem costT_no {ws ls : List Int} (h3 : ¬ ws.length = ls.length) : costT ws ls = .tuple #[.int .i64 0, .bool false] := by
  unfold costT; rw [if_neg (by rw [decide_eq_false h3]; simp)]
set_option maxHeartbeats 400000 in
theorem costOf_any (ws ls : List Int) (v u : Value) (hi hj : Nat) (w : World) (hw : RdI w hi v ws) (hl : RdI w hj u ls) (hww : weightsB ws = true) (hll : lengthsB ls = true) (hle : ws.length = ls.length) :
    Calls Try.prog 167 #[v, u] w fun e w' => e = .returned (.int .i64 (dotI ws ls)) ∧ w = w' := by
  obtain ⟨⟨g1, g2⟩, g3⟩ := weightsB_iff.1 hww
  obtain ⟨_, g4⟩ := lengthsB_iff.1 hll
  obtain ⟨A, c, rfl, hc, hm⟩ := Rd.form hw
  obtain ⟨A', c', rfl, hc', hm'⟩ := Rd.form hl
  have HW := Lib.hid hw
  have HL := Lib.hid hl
  have HE := Lib.hid hle
  have G3 := Lib.hid g3
  have G4 := Lib.hid g4
  rw [← hle]
  rw [← hle] at hc' hm'
  clear hw hl hle g3 g4 hww hll
  go_enter Try.func167, Try.ntmps167
  go_wp2
  go_loop [5, 10] (fun s i => ∃ (k : Nat) (p : Int), k ≤ ws.length ∧ i = .int .i64 k ∧ Hid (p = dotI (ws.take k) (ls.take k)) ∧ s = .int .i64 p ∧ 0 ≤ p ∧ p ≤ 60000 * k) (fun _ i => ws.length - (intOf i).toNat)
  case atStart => exact ⟨0, 0, Nat.zero_le _, rfl, rfl, rfl, by omega, by omega⟩
  case round =>
    obtain ⟨k, p, hk, rfl, hp, rfl, hp0, hp1⟩ := hrel
    by_cases hlt : k < ws.length
    · obtain ⟨b1, o1, c1, w0, hv, _, hw0, hcell1⟩ := Rd.at_ HW.out hlt
      cases hv
      obtain ⟨b2, o2, c2, l0, hv, _, hl0, hcell2⟩ := Rd.at_ HL.out (by rw [← HE.out]; exact hlt)
      injection hv with hv1 hv2 hv3
      subst hv1
      have hpb := prod_bd (allB_mem hw0 G3.out) (allB_mem hl0 G4.out)
      have hst := dot_step hw0 hl0
      rw [← hp.out] at hst
      have HS := Lib.hid hst
      have hwr : wrap64 (w0 * l0) = w0 * l0 := by rw [wrap_id (by omega) (by omega)]
      have hcm : True := trivial
      clear hst hw0 hl0 hv2 hv3
      go_wp2
      go_round
      case rel => exact ⟨k + 1, p + w0 * l0, by omega, by go_num, HS.out.symm, rfl, by omega, by omega⟩
      case measure => simp [intOf]; omega
    · obtain rfl : k = ws.length := by omega
      go_wp2
      go_ret
      refine ⟨ret_int ?_, rfl⟩
      rw [hp.out, List.take_of_length_le (Nat.le_refl _), HE.out, List.take_of_length_le (Nat.le_refl _)]
set_option maxHeartbeats 400000 in
theorem cmCost_any (ws ls : List Int) (v u : Value) (hi hj : Nat) (w : World) (hw : RdI w hi v ws) (hl : RdI w hj u ls) (hww : weightsB ws = true) (hll : lengthsB ls = true) (hle : ws.length = ls.length) :
    Calls Try.prog 166 #[v, u] w fun e w' => e = .returned (.int .i64 (dotI ws ls)) ∧ w = w' := by
  obtain ⟨⟨g1, g2⟩, g3⟩ := weightsB_iff.1 hww
  obtain ⟨_, g4⟩ := lengthsB_iff.1 hll
  obtain ⟨A, c, rfl, hc, hm⟩ := Rd.form hw
  obtain ⟨A', c', rfl, hc', hm'⟩ := Rd.form hl
  have HW := Lib.hid hw
  have HL := Lib.hid hl
  have HE := Lib.hid hle
  have G3 := Lib.hid g3
  have G4 := Lib.hid g4
  rw [← hle]
  rw [← hle] at hc' hm'
  clear hw hl hle g3 g4 hww hll
  go_enter Try.func166, Try.ntmps166
  go_wp2
  go_loop [5, 10] (fun s i => ∃ (k : Nat) (p : Int), k ≤ ws.length ∧ i = .int .i64 k ∧ Hid (p = dotI (ws.take k) (ls.take k)) ∧ s = .int .i64 p ∧ 0 ≤ p ∧ p ≤ 60000 * k) (fun _ i => ws.length - (intOf i).toNat)
  case atStart => exact ⟨0, 0, Nat.zero_le _, rfl, rfl, rfl, by omega, by omega⟩
  case round =>
    obtain ⟨k, p, hk, rfl, hp, rfl, hp0, hp1⟩ := hrel
    by_cases hlt : k < ws.length
    · obtain ⟨b1, o1, c1, w0, hv, _, hw0, hcell1⟩ := Rd.at_ HW.out hlt
      cases hv
      obtain ⟨b2, o2, c2, l0, hv, _, hl0, hcell2⟩ := Rd.at_ HL.out (by rw [← HE.out]; exact hlt)
      injection hv with hv1 hv2 hv3
      subst hv1
      have hpb := prod_bd (allB_mem hw0 G3.out) (allB_mem hl0 G4.out)
      have hst := dot_step hw0 hl0
      rw [← hp.out] at hst
      have HS := Lib.hid hst
      have hwr : wrap64 (l0 * w0) = w0 * l0 := by rw [Int.mul_comm l0 w0, wrap_id (by omega) (by omega)]
      have hcm : l0 * w0 = w0 * l0 := Int.mul_comm l0 w0
      clear hst hw0 hl0 hv2 hv3
      go_wp2
      go_round
      case rel => exact ⟨k + 1, p + w0 * l0, by omega, by go_num, HS.out.symm, rfl, by omega, by omega⟩
      case measure => simp [intOf]; omega
    · obtain rfl : k = ws.length := by omega
      go_wp2
      go_ret
      refine ⟨ret_int ?_, rfl⟩
      rw [hp.out, List.take_of_length_le (Nat.le_refl _), HE.out, List.take_of_length_le (Nat.le_refl _)]
theorem CostOf_any (ws ls : List Int) (v u : Value) (hi hj : Nat) (w : World) (hw : RdI w hi v ws) (hl : RdI w hj u ls) : Calls Try.prog 84 #[v, u] w fun e w' => e = .returned (costT ws ls) ∧ w = w' := by
  obtain ⟨A, c, hv, hc, hm⟩ := Rd.form hw
  obtain ⟨A', c', hu, hc', hm'⟩ := Rd.form hl
  have HW := Lib.hid hw
  have HL := Lib.hid hl
  clear hw hl
  subst hv hu
  cases hww : weightsB ws
  · go_enter Try.func84, Try.ntmps84
    go_wp2_with (first | (go_at_call 189; refine (areWeights_any ws _ hi _ HW.out).mono ?_; rintro e w' ⟨rfl, rfl⟩) | (go_at_call 156; refine (areLengths_any ls _ hj _ HL.out).mono ?_; rintro e w' ⟨rfl, rfl⟩))
    go_ret2
    exact ⟨ret_val (by simp [costT, hww]), rfl⟩
  · cases hll : lengthsB ls
    · go_enter Try.func84, Try.ntmps84
      go_wp2_with (first | (go_at_call 189; refine (areWeights_any ws _ hi _ HW.out).mono ?_; rintro e w' ⟨rfl, rfl⟩) | (go_at_call 156; refine (areLengths_any ls _ hj _ HL.out).mono ?_; rintro e w' ⟨rfl, rfl⟩))
      go_ret2
      exact ⟨ret_val (by simp [costT, hll]), rfl⟩
    · by_cases hle : ws.length = ls.length
      · have HE := Lib.hid hle
        have h1 : (((ws.length : Nat) : Int) != ((ls.length : Nat) : Int)) = false := by rw [hle]; simp
        have h2 : (((ls.length : Nat) : Int) != ((ws.length : Nat) : Int)) = false := by rw [hle]; simp
        clear hle
        go_enter Try.func84, Try.ntmps84
        go_wp2_with (first | (go_at_call 189; refine (areWeights_any ws _ hi _ HW.out).mono ?_; rintro e w' ⟨rfl, rfl⟩) | (go_at_call 156; refine (areLengths_any ls _ hj _ HL.out).mono ?_; rintro e w' ⟨rfl, rfl⟩) | (go_at_call 167; refine (costOf_any ws ls _ _ hi hj _ HW.out HL.out hww hll HE.out).mono ?_; rintro e w' ⟨rfl, rfl⟩))
        go_ret2
        exact ⟨ret_val (costT_yes hww hll HE.out).symm, rfl⟩
      · have h1 : (((ws.length : Nat) : Int) != ((ls.length : Nat) : Int)) = true := by rw [bne_iff_ne]; omega
        have h2 : (((ls.length : Nat) : Int) != ((ws.length : Nat) : Int)) = true := by rw [bne_iff_ne]; omega
        go_enter Try.func84, Try.ntmps84
        go_wp2_with (first | (go_at_call 189; refine (areWeights_any ws _ hi _ HW.out).mono ?_; rintro e w' ⟨rfl, rfl⟩) | (go_at_call 156; refine (areLengths_any ls _ hj _ HL.out).mono ?_; rintro e w' ⟨rfl, rfl⟩))
        go_ret2
        exact ⟨ret_val (costT_no hle).symm, rfl⟩
theorem sCostOf_any (ws ls : List Int) (v u : Value) (hi hj : Nat) (w : World) (hw : RdI w hi v ws) (hl : RdI w hj u ls) : Calls Try.prog 85 #[v, u] w fun e w' => e = .returned (costT ws ls) ∧ w = w' := by
  obtain ⟨A, c, hv, hc, hm⟩ := Rd.form hw
  obtain ⟨A', c', hu, hc', hm'⟩ := Rd.form hl
  have HW := Lib.hid hw
  have HL := Lib.hid hl
  clear hw hl
  subst hv hu
  cases hww : weightsB ws
  · go_enter Try.func85, Try.ntmps85
    go_wp2_with (first | (go_at_call 190; refine (cmWeights_any ws _ hi _ HW.out).mono ?_; rintro e w' ⟨rfl, rfl⟩) | (go_at_call 151; refine (cmGood_any ls _ hj _ HL.out).mono ?_; rintro e w' ⟨rfl, rfl⟩))
    go_ret2
    exact ⟨ret_val (by simp [costT, hww]), rfl⟩
  · cases hll : lengthsB ls
    · go_enter Try.func85, Try.ntmps85
      go_wp2_with (first | (go_at_call 190; refine (cmWeights_any ws _ hi _ HW.out).mono ?_; rintro e w' ⟨rfl, rfl⟩) | (go_at_call 151; refine (cmGood_any ls _ hj _ HL.out).mono ?_; rintro e w' ⟨rfl, rfl⟩))
      go_ret2
      exact ⟨ret_val (by simp [costT, hll]), rfl⟩
    · by_cases hle : ws.length = ls.length
      · have HE := Lib.hid hle
        have h1 : (((ws.length : Nat) : Int) != ((ls.length : Nat) : Int)) = false := by rw [hle]; simp
        have h2 : (((ls.length : Nat) : Int) != ((ws.length : Nat) : Int)) = false := by rw [hle]; simp
        clear hle
        go_enter Try.func85, Try.ntmps85
        go_wp2_with (first | (go_at_call 190; refine (cmWeights_any ws _ hi _ HW.out).mono ?_; rintro e w' ⟨rfl, rfl⟩) | (go_at_call 151; refine (cmGood_any ls _ hj _ HL.out).mono ?_; rintro e w' ⟨rfl, rfl⟩) | (go_at_call 166; refine (cmCost_any ws ls _ _ hi hj _ HW.out HL.out hww hll HE.out).mono ?_; rintro e w' ⟨rfl, rfl⟩))
        go_ret2
        exact ⟨ret_val (costT_yes hww hll HE.out).symm, rfl⟩
      · have h1 : (((ws.length : Nat) : Int) != ((ls.length : Nat) : Int)) = true := by rw [bne_iff_ne]; omega
        have h2 : (((ls.length : Nat) : Int) != ((ws.length : Nat) : Int)) = true := by rw [bne_iff_ne]; omega
        go_enter Try.func85, Try.ntmps85
        go_wp2_with (first | (go_at_call 190; refine (cmWeights_any ws _ hi _ HW.out).mono ?_; rintro e w' ⟨rfl, rfl⟩) | (go_at_call 151; refine (cmGood_any ls _ hj _ HL.out).mono ?_; rintro e w' ⟨rfl, rfl⟩))
        go_ret2
        exact ⟨ret_val (costT_no hle).symm, rfl⟩
/-- The greatest of the lengths, or 0. -/
def mostI (ls : List Int) : Int := ls.foldl max 0
theorem mostI_step {ls : List Int} {k : Nat} {y : Int} (h : ls[k]? = some y) : mostI (ls.take (k + 1)) = max (mostI (ls.take k)) y := by
  unfold mostI; rw [take_snocI h, List.foldl_append]; rfl
theorem mostI_bd (ls : List Int) (h : allB ls 1 6 = true) (k : Nat) : 0 ≤ mostI (ls.take k) ∧ mostI (ls.take k) ≤ 6 := by
  induction k with
  | zero => simp [mostI]
  | succ k ih =>
    cases hy : ls[k]? with
    | none =>
      have h1 : ls.take (k + 1) = ls.take k := by rw [List.take_add_one, hy]; simp
      rw [h1]; exact ih
    | some y =>
      rw [mostI_step hy]
      have := allB_mem hy h
      omega
theorem mostI_mem (ls : List Int) (m : Int) : m ≤ ls.foldl max m ∧ ∀ y ∈ ls, y ≤ ls.foldl max m := by
  induction ls generalizing m with
  | nil => simp
  | cons x r ih =>
    have h := ih (max m x)
    simp only [List.foldl_cons, List.mem_cons]
    refine ⟨by omega, fun y hy => ?_⟩
    rcases hy with rfl | hy
    · omega
    · exact h.2 y hy
def kraftN (r m : Nat) (ls : List Int) : Nat := (ls.map fun l => r ^ (m - l.toNat)).sum
theorem kraftN_step {r m : Nat} {ls : List Int} {k : Nat} {y : Int} (h : ls[k]? = some y) : kraftN r m (ls.take (k + 1)) = kraftN r m (ls.take k) + r ^ (m - y.toNat) := by
  unfold kraftN; rw [take_snocI h, List.map_append, List.sum_append]; simp
theorem kraftN_bd {r m : Nat} (hr : r ≤ 60) (hm : m ≤ 6) (ls : List Int) : kraftN r m ls ≤ 46656000000 * ls.length := by
  induction ls with
  | nil => simp [kraftN]
  | cons x l ih =>
    have := pow_le hr (show m - x.toNat ≤ 6 by omega)
    unfold kraftN at *
    simp only [List.map_cons, List.sum_cons, List.length_cons]
    omega
theorem slicesMax_any (ls : List Int) (v : Value) (hi : Nat) (w : World) (h : RdI w hi v ls) (hb : allB ls 1 6 = true) (hpos : 0 < ls.length) : Calls Try.prog 227 #[v] w fun e w' => e = .returned (.int .i64 (mostI ls)) ∧ w = w' := by
  obtain ⟨b, off, c0, y0, hv, _, hy0, hcell0⟩ := Rd.at_ h hpos
  obtain ⟨A, c, hv2, hc, hm⟩ := Rd.form h
  subst hv
  have H := Lib.hid h
  have HB := Lib.hid hb
  have HY0 := Lib.hid hy0
  have hy0b := allB_mem hy0 hb
  have hpos1 : ¬ ((ls.length : Nat) : Int) < 1 := by omega
  have hcell00 : w.cell? ⟨b, off, Option.none⟩ = some (.int .i64 y0) := hcell0
  clear h hb hv2 hy0 hcell0
  go_enter Try.func227, Try.ntmps227
  go_wp2
  go_loop [3, 4] (fun s i => ∃ (k : Nat) (p : Int), 1 ≤ k ∧ k ≤ ls.length ∧ i = .int .i64 k ∧ Hid (p = mostI (ls.take k)) ∧ s = .int .i64 p) (fun _ i => ls.length - (intOf i).toNat)
  case atStart => exact ⟨1, y0, by omega, by omega, rfl, by rw [mostI_step HY0.out]; show y0 = max _ _; simp only [List.take_zero, mostI, List.foldl_nil]; omega, rfl⟩
  case round =>
    obtain ⟨k, p, hk1, hk, rfl, hp, rfl⟩ := hrel
    by_cases hlt : k < ls.length
    · obtain ⟨b1, o1, c1, y, hv, _, hy, hcell1⟩ := Rd.at_ H.out hlt
      cases hv
      have hst := mostI_step hy
      rw [← hp.out] at hst
      have HS := Lib.hid hst
      clear hst hy
      go_wp2
      go_round
      case rel => exact ⟨k + 1, max p y, by omega, by omega, by go_num, HS.out.symm, rfl⟩
      case measure => simp [intOf]; omega
    · obtain rfl : k = ls.length := by omega
      go_wp2
      go_ret
      refine ⟨ret_int ?_, rfl⟩
      rw [hp.out, List.take_of_length_le (Nat.le_refl _)]
theorem l1Most_any (a b : Int) (w : World) : Calls Try.prog 183 #[.int .i64 a, .int .i64 b] w fun e w' => e = .returned (.int .i64 (max a b)) ∧ w = w' := by
  by_cases h : b < a
  · have e : max a b = a := by omega
    rw [e]; clear e
    go_enter Try.func183, Try.ntmps183
    go_wp2
    go_ret
    exact ⟨rfl, rfl⟩
  · have e : max a b = b := by omega
    rw [e]; clear e
    go_enter Try.func183, Try.ntmps183
    go_wp2
    go_ret
    exact ⟨rfl, rfl⟩
set_option maxHeartbeats 400000 in
theorem kraftSum_any (ls : List Int) (r : Nat) (v : Value) (hi : Nat) (w : World) (h : RdI w hi v ls) (hll : lengthsB ls = true) (hr2 : r ≤ 60) :
    Calls Try.prog 158 #[v, .int .i64 (r : Int)] w fun e w' => e = .returned (.tuple #[.int .i64 ((kraftN r (mostI ls).toNat ls : Nat) : Int), .int .i64 ((r ^ (mostI ls).toNat : Nat) : Int)]) ∧ w = w' := by
  obtain ⟨⟨g1, g2⟩, hb⟩ := lengthsB_iff.1 hll
  obtain ⟨A, c, rfl, hc, hm⟩ := Rd.form h
  have H := Lib.hid h
  have HB := Lib.hid hb
  have hmb := mostI_bd ls hb ls.length
  rw [List.take_of_length_le (Nat.le_refl _)] at hmb
  obtain ⟨m, hmm⟩ := Int.eq_ofNat_of_zero_le hmb.1
  have HM : Hid (mostI ls = (m : Int)) := hmm
  have HM2 : Hid ((mostI ls).toNat = m) := by show _ = _; rw [hmm]; rfl
  have hm6 : m ≤ 6 := by omega
  clear h hb hll hmm hmb
  go_enter Try.func158, Try.ntmps158
  go_wp2_with fail
  refine (slicesMax_any ls _ hi _ H.out HB.out (by omega)).mono ?_
  rintro e w' ⟨rfl, rfl⟩
  rw [HM.out]
  go_wp2
  go_loop [7, 14] (fun s i => ∃ (k p : Nat), k ≤ ls.length ∧ i = .int .i64 k ∧ Hid (p = kraftN r m (ls.take k)) ∧ s = .int .i64 (p : Int) ∧ p ≤ 46656000000 * k) (fun _ i => ls.length - (intOf i).toNat)
  case atStart => exact ⟨0, 0, Nat.zero_le _, rfl, rfl, rfl, by omega⟩
  case round =>
    obtain ⟨k, p, hk, rfl, hp, rfl, hp1⟩ := hrel
    by_cases hlt : k < ls.length
    · obtain ⟨b1, o1, c1, y, hv, _, hy, hcell1⟩ := Rd.at_ H.out hlt
      cases hv
      have hyb := allB_mem hy HB.out
      have hym := (mostI_mem ls 0).2 y (List.mem_of_getElem? hy)
      have hst := kraftN_step (r := r) (m := m) hy
      rw [← hp.out] at hst
      have HS := Lib.hid hst
      obtain ⟨y, rfl⟩ := Int.eq_ofNat_of_zero_le (show 0 ≤ y by omega)
      have hym' : y ≤ m := by have := HM.out; unfold mostI at this; omega
      have hpw := pow_le hr2 (show m - y ≤ 6 by omega)
      have hpi : (r : Int) ^ (m - y) ≤ 46656000000 := by rw [← Int.natCast_pow]; omega
      have hpz : 0 ≤ (r : Int) ^ (m - y) := Int.pow_nonneg (by omega)
      have hpx : ((m : Int) - (y : Int)) = ((m - y : Nat) : Int) := by omega
      have HPX := Lib.hid hpx
      clear hst hy hym hpx
      go_wp2_with fail
      rw [HPX.out]
      refine (powerOf_any r (m - y) hr2 (by omega) _).mono ?_
      rintro e w' ⟨rfl, rfl⟩
      go_wp2
      go_round
      case rel => exact ⟨k + 1, p + r ^ (m - y), by omega, by go_num, HS.out.symm, by simp, by omega⟩
      case measure => simp [intOf]; omega
    · obtain rfl : k = ls.length := by omega
      have hpm := pow_le hr2 hm6
      go_wp2_with (go_at_call 162; refine (powerOf_any r m hr2 hm6 _).mono ?_; rintro e w' ⟨rfl, rfl⟩)
      go_ret2
      have e1 := hp.out
      rw [List.take_of_length_le (Nat.le_refl _)] at e1
      exact ⟨ret_val (by rw [HM2.out, ← e1]; simp), rfl⟩
set_option maxHeartbeats 400000 in
theorem cmKraft_any (ls : List Int) (r : Nat) (v : Value) (hi : Nat) (w : World) (h : RdI w hi v ls) (hll : lengthsB ls = true) (hr2 : r ≤ 60) :
    Calls Try.prog 202 #[v, .int .i64 (r : Int)] w fun e w' => e = .returned (.tuple #[.int .i64 ((kraftN r (mostI ls).toNat ls : Nat) : Int), .int .i64 ((r ^ (mostI ls).toNat : Nat) : Int)]) ∧ w = w' := by
  obtain ⟨⟨g1, g2⟩, hb⟩ := lengthsB_iff.1 hll
  obtain ⟨A, c, rfl, hc, hm⟩ := Rd.form h
  have H := Lib.hid h
  have HB := Lib.hid hb
  have hmb := mostI_bd ls hb ls.length
  rw [List.take_of_length_le (Nat.le_refl _)] at hmb
  obtain ⟨m, hmm⟩ := Int.eq_ofNat_of_zero_le hmb.1
  have HM : Hid (mostI ls = (m : Int)) := hmm
  have HM2 : Hid ((mostI ls).toNat = m) := by show _ = _; rw [hmm]; rfl
  have hm6 : m ≤ 6 := by omega
  clear h hb hll hmm hmb
  go_enter Try.func202, Try.ntmps202
  go_wp2
  go_loop [6, 14] (fun s i => ∃ (k : Nat) (p : Int), k ≤ ls.length ∧ i = .int .i64 k ∧ Hid (p = mostI (ls.take k)) ∧ s = .int .i64 p) (fun _ i => ls.length - (intOf i).toNat)
  case atStart => exact ⟨0, 0, by omega, rfl, rfl, rfl⟩
  case round =>
    obtain ⟨k, p, hk, rfl, hp, rfl⟩ := hrel
    by_cases hlt : k < ls.length
    · obtain ⟨b1, o1, c1, y, hv, _, hy, hcell1⟩ := Rd.at_ H.out hlt
      cases hv
      have hst := mostI_step hy
      rw [← hp.out] at hst
      have HS := Lib.hid hst
      clear hst hy
      go_wp2_with (go_at_call 183; refine (l1Most_any p y _).mono ?_; rintro e w' ⟨rfl, rfl⟩)
      go_round
      case rel => exact ⟨k + 1, max p y, by omega, by go_num, HS.out.symm, rfl⟩
      case measure => simp [intOf]; omega
    · obtain rfl : k = ls.length := by omega
      have hpm : p = (m : Int) := by rw [hp.out, List.take_of_length_le (Nat.le_refl _), HM.out]
      subst hpm
      go_wp2
      go_loop [9, 24] (fun s i => ∃ (k p : Nat), k ≤ ls.length ∧ i = .int .i64 k ∧ Hid (p = kraftN r m (ls.take k)) ∧ s = .int .i64 (p : Int) ∧ p ≤ 46656000000 * k) (fun _ i => ls.length - (intOf i).toNat)
      case atStart => exact ⟨0, 0, Nat.zero_le _, rfl, rfl, rfl, by omega⟩
      case round =>
        obtain ⟨k, p, hk, rfl, hp, rfl, hp1⟩ := hrel
        by_cases hlt : k < ls.length
        · obtain ⟨b1, o1, c1, y, hv, _, hy, hcell1⟩ := Rd.at_ H.out hlt
          cases hv
          have hyb := allB_mem hy HB.out
          have hym := (mostI_mem ls 0).2 y (List.mem_of_getElem? hy)
          have hst := kraftN_step (r := r) (m := m) hy
          rw [← hp.out] at hst
          have HS := Lib.hid hst
          obtain ⟨y, rfl⟩ := Int.eq_ofNat_of_zero_le (show 0 ≤ y by omega)
          have hym' : y ≤ m := by have := HM.out; unfold mostI at this; omega
          have hpw := pow_le hr2 (show m - y ≤ 6 by omega)
          have hpi : (r : Int) ^ (m - y) ≤ 46656000000 := by rw [← Int.natCast_pow]; omega
          have hpz : 0 ≤ (r : Int) ^ (m - y) := Int.pow_nonneg (by omega)
          have hpx : ((m : Int) - (y : Int)) = ((m - y : Nat) : Int) := by omega
          have HPX := Lib.hid hpx
          clear hst hy hym hpx
          go_wp2_with fail
          rw [HPX.out]
          refine (cmPower_any r (m - y) hr2 (by omega) _).mono ?_
          rintro e w' ⟨rfl, rfl⟩
          go_wp2
          go_round
          case rel => exact ⟨k + 1, p + r ^ (m - y), by omega, by go_num, HS.out.symm, by simp, by omega⟩
          case measure => simp [intOf]; omega
        · obtain rfl : k = ls.length := by omega
          have hpm := pow_le hr2 hm6
          go_wp2_with (go_at_call 154; refine (cmPower_any r m hr2 hm6 _).mono ?_; rintro e w' ⟨rfl, rfl⟩)
          go_ret2
          have e1 := hp.out
          rw [List.take_of_length_le (Nat.le_refl _)] at e1
          exact ⟨ret_val (by rw [HM2.out, ← e1]; simp), rfl⟩
def kraftT (ls : List Int) (r : Int) : Value := if lengthsB ls && inB r 2 60 then .tuple #[.int .i64 ((kraftN r.toNat (mostI ls).toNat ls : Nat) : Int), .int .i64 ((r.toNat ^ (mostI ls).toNat : Nat) : Int), .bool true] else .tuple #[.int .i64 0, .int .i64 0, .bool false]
def hasT (ls : List Int) (r : Int) : Value := if lengthsB ls && inB r 2 60 then .tuple #[.bool (decide ((kraftN r.toNat (mostI ls).toNat ls : Int) ≤ ((r.toNat ^ (mostI ls).toNat : Nat) : Int))), .bool true] else .tuple #[.bool false, .bool false]
theorem KraftSum_any (ls : List Int) (r : Int) (v : Value) (hi : Nat) (w : World) (h : RdI w hi v ls) : Calls Try.prog 109 #[v, .int .i64 r] w fun e w' => e = .returned (kraftT ls r) ∧ w = w' := by
  have H := Lib.hid h
  clear h
  cases hll : lengthsB ls
  · go_enter Try.func109, Try.ntmps109
    go_wp2_with (first | (go_at_call 156; refine (areLengths_any ls _ hi _ H.out).mono ?_; rintro e w' ⟨rfl, rfl⟩) | (go_at_call 157; refine (isRadix_any _ _).mono ?_; rintro e w' ⟨rfl, rfl⟩))
    go_ret3
    exact ⟨ret_val (by simp [kraftT, hll]), rfl⟩
  · cases hr : inB r 2 60
    · go_enter Try.func109, Try.ntmps109
      go_wp2_with (first | (go_at_call 156; refine (areLengths_any ls _ hi _ H.out).mono ?_; rintro e w' ⟨rfl, rfl⟩) | (go_at_call 157; refine (isRadix_any _ _).mono ?_; rintro e w' ⟨rfl, rfl⟩))
      go_ret3
      exact ⟨ret_val (by simp [kraftT, hr]), rfl⟩
    · obtain ⟨hr1, hr2⟩ := inB_iff.1 hr
      obtain ⟨r, rfl⟩ := Int.eq_ofNat_of_zero_le (show 0 ≤ r by omega)
      go_enter Try.func109, Try.ntmps109
      go_wp2_with (first | (go_at_call 156; refine (areLengths_any ls _ hi _ H.out).mono ?_; rintro e w' ⟨rfl, rfl⟩) | (go_at_call 157; refine (isRadix_any _ _).mono ?_; rintro e w' ⟨rfl, rfl⟩) | (go_at_call 158; refine (kraftSum_any ls r _ hi _ H.out hll (by omega)).mono ?_; rintro e w' ⟨rfl, rfl⟩))
      go_ret3
      exact ⟨ret_val (by simp [kraftT, hll, hr]), rfl⟩
theorem sKraftSum_any (ls : List Int) (r : Int) (v : Value) (hi : Nat) (w : World) (h : RdI w hi v ls) : Calls Try.prog 110 #[v, .int .i64 r] w fun e w' => e = .returned (kraftT ls r) ∧ w = w' := by
  have H := Lib.hid h
  clear h
  cases hll : lengthsB ls
  · go_enter Try.func110, Try.ntmps110
    go_wp2_with (first | (go_at_call 151; refine (cmGood_any ls _ hi _ H.out).mono ?_; rintro e w' ⟨rfl, rfl⟩) | (go_at_call 152; refine (cmBase_any _ _).mono ?_; rintro e w' ⟨rfl, rfl⟩))
    go_ret3
    exact ⟨ret_val (by simp [kraftT, hll]), rfl⟩
  · cases hr : inB r 2 60
    · go_enter Try.func110, Try.ntmps110
      go_wp2_with (first | (go_at_call 151; refine (cmGood_any ls _ hi _ H.out).mono ?_; rintro e w' ⟨rfl, rfl⟩) | (go_at_call 152; refine (cmBase_any _ _).mono ?_; rintro e w' ⟨rfl, rfl⟩))
      go_ret3
      exact ⟨ret_val (by simp [kraftT, hr]), rfl⟩
    · obtain ⟨hr1, hr2⟩ := inB_iff.1 hr
      obtain ⟨r, rfl⟩ := Int.eq_ofNat_of_zero_le (show 0 ≤ r by omega)
      go_enter Try.func110, Try.ntmps110
      go_wp2_with (first | (go_at_call 151; refine (cmGood_any ls _ hi _ H.out).mono ?_; rintro e w' ⟨rfl, rfl⟩) | (go_at_call 152; refine (cmBase_any _ _).mono ?_; rintro e w' ⟨rfl, rfl⟩) | (go_at_call 202; refine (cmKraft_any ls r _ hi _ H.out hll (by omega)).mono ?_; rintro e w' ⟨rfl, rfl⟩))
      go_ret3
      exact ⟨ret_val (by simp [kraftT, hll, hr]), rfl⟩
theorem HasCode_any (ls : List Int) (r : Int) (v : Value) (hi : Nat) (w : World) (h : RdI w hi v ls) : Calls Try.prog 89 #[v, .int .i64 r] w fun e w' => e = .returned (hasT ls r) ∧ w = w' := by
  have H := Lib.hid h
  clear h
  cases hll : lengthsB ls
  · go_enter Try.func89, Try.ntmps89
    go_wp2_with (first | (go_at_call 156; refine (areLengths_any ls _ hi _ H.out).mono ?_; rintro e w' ⟨rfl, rfl⟩) | (go_at_call 157; refine (isRadix_any _ _).mono ?_; rintro e w' ⟨rfl, rfl⟩))
    go_ret2
    exact ⟨ret_val (by simp [hasT, hll]), rfl⟩
  · cases hr : inB r 2 60
    · go_enter Try.func89, Try.ntmps89
      go_wp2_with (first | (go_at_call 156; refine (areLengths_any ls _ hi _ H.out).mono ?_; rintro e w' ⟨rfl, rfl⟩) | (go_at_call 157; refine (isRadix_any _ _).mono ?_; rintro e w' ⟨rfl, rfl⟩))
      go_ret2
      exact ⟨ret_val (by simp [hasT, hr]), rfl⟩
    · obtain ⟨hr1, hr2⟩ := inB_iff.1 hr
      obtain ⟨r, rfl⟩ := Int.eq_ofNat_of_zero_le (show 0 ≤ r by omega)
      go_enter Try.func89, Try.ntmps89
      go_wp2_with (first | (go_at_call 156; refine (areLengths_any ls _ hi _ H.out).mono ?_; rintro e w' ⟨rfl, rfl⟩) | (go_at_call 157; refine (isRadix_any _ _).mono ?_; rintro e w' ⟨rfl, rfl⟩) | (go_at_call 158; refine (kraftSum_any ls r _ hi _ H.out hll (by omega)).mono ?_; rintro e w' ⟨rfl, rfl⟩))
      go_ret2
      exact ⟨ret_val (by simp [hasT, hll, hr]), rfl⟩
theorem cmHas_any (ls : List Int) (r : Nat) (v : Value) (hi : Nat) (w : World) (h : RdI w hi v ls) (hll : lengthsB ls = true) (hr2 : r ≤ 60) :
    Calls Try.prog 153 #[v, .int .i64 (r : Int)] w fun e w' => e = .returned (.bool (decide ((kraftN r (mostI ls).toNat ls : Int) ≤ ((r ^ (mostI ls).toNat : Nat) : Int)))) ∧ w = w' := by
  have H := Lib.hid h
  clear h
  go_enter Try.func153, Try.ntmps153
  go_wp2_with (go_at_call 202; refine (cmKraft_any ls r _ hi _ H.out hll (by omega)).mono ?_; rintro e w' ⟨rfl, rfl⟩)
  go_ret
  exact ⟨ret_bool (by simp), rfl⟩
theorem sHasCode_any (ls : List Int) (r : Int) (v : Value) (hi : Nat) (w : World) (h : RdI w hi v ls) : Calls Try.prog 90 #[v, .int .i64 r] w fun e w' => e = .returned (hasT ls r) ∧ w = w' := by
  have H := Lib.hid h
  clear h
  cases hll : lengthsB ls
  · go_enter Try.func90, Try.ntmps90
    go_wp2_with (first | (go_at_call 151; refine (cmGood_any ls _ hi _ H.out).mono ?_; rintro e w' ⟨rfl, rfl⟩) | (go_at_call 152; refine (cmBase_any _ _).mono ?_; rintro e w' ⟨rfl, rfl⟩))
    go_ret2
    exact ⟨ret_val (by simp [hasT, hll]), rfl⟩
  · cases hr : inB r 2 60
    · go_enter Try.func90, Try.ntmps90
      go_wp2_with (first | (go_at_call 151; refine (cmGood_any ls _ hi _ H.out).mono ?_; rintro e w' ⟨rfl, rfl⟩) | (go_at_call 152; refine (cmBase_any _ _).mono ?_; rintro e w' ⟨rfl, rfl⟩))
      go_ret2
      exact ⟨ret_val (by simp [hasT, hr]), rfl⟩
    · obtain ⟨hr1, hr2⟩ := inB_iff.1 hr
      obtain ⟨r, rfl⟩ := Int.eq_ofNat_of_zero_le (show 0 ≤ r by omega)
      go_enter Try.func90, Try.ntmps90
      go_wp2_with (first | (go_at_call 151; refine (cmGood_any ls _ hi _ H.out).mono ?_; rintro e w' ⟨rfl, rfl⟩) | (go_at_call 152; refine (cmBase_any _ _).mono ?_; rintro e w' ⟨rfl, rfl⟩) | (go_at_call 153; refine (cmHas_any ls r _ hi _ H.out hll (by omega)).mono ?_; rintro e w' ⟨rfl, rfl⟩))
      go_ret2
      exact ⟨ret_val (by simp [hasT, hll, hr]), rfl⟩
end Go.Proofs.Ytabiobjcfopakaa
