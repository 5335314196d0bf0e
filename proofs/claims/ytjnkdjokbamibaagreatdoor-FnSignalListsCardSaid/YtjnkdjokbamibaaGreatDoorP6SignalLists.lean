/- Texts of one claim, joined: Z2. -/
import Derived.Test.YtjnkdjokbamibaaGreatDoorP5SignalLists
/- Plain laws on lists of signals: movements are even and the same backwards; the nearest signals. -/
namespace Go.Proofs.YtjnkdjokbamibaaGreatDoor
open Go.RowKit
theorem par_dist : ∀ n, n < 64 → ∀ m, m < 64 → (distM n m + distM 0 n + distM 0 m) % 2 = 0 := by decide +kernel
theorem moves_par : ∀ (l : List Int) (a : Int), 0 ≤ a ∧ a ≤ 63 → (∀ x ∈ l, 0 ≤ x ∧ x ≤ 63) → (movesM a (l ++ [0]) + distM 0 a.toNat) % 2 = 0
  | [], a, ha, _ => by
    have h := dist_sym a.toNat (by omega) 0 (by omega)
    simp only [List.nil_append, movesM]
    rw [show (0 : Int).toNat = 0 from rfl]
    omega
  | x :: r, a, ha, h => by
    have hx := h x (by simp)
    have ih := moves_par r x hx (fun y hy => h y (by simp [hy]))
    have hp := par_dist a.toNat (by omega) x.toNat (by omega)
    rw [List.cons_append, movesM]
    omega
theorem sigs_all {l : List Int} (h : sigsB l = true) : ∀ x ∈ l, 0 ≤ x ∧ x ≤ 63 := by
  have h := (sigsB_iff.1 h).2
  unfold allB at h
  rw [List.all_eq_true] at h
  exact fun x hx => inB_iff.1 (h x hx)
theorem moves_even {l : List Int} (h : sigsB l = true) : movesM 0 (l ++ [0]) % 2 = 0 := by
  have h1 := moves_par l 0 (by omega) (sigs_all h)
  have h2 : distM 0 (0 : Int).toNat = 0 := by decide
  omega
theorem moves_rev : ∀ (l : List Int) (a b : Int), (0 ≤ a ∧ a ≤ 63) → (0 ≤ b ∧ b ≤ 63) → (∀ x ∈ l, 0 ≤ x ∧ x ≤ 63) → movesM b (l.reverse ++ [a]) = movesM a (l ++ [b])
  | [], a, b, ha, hb, _ => by
    simp only [List.reverse_nil, List.nil_append, movesM]
    rw [dist_sym a.toNat (by omega) b.toNat (by omega)]
  | x :: r, a, b, ha, hb, h => by
    have hx := h x (by simp)
    have ih := moves_rev r x b hx hb (fun y hy => h y (by simp [hy]))
    have e : (r.reverse ++ [x]).getLastD b = x := by simp [List.getLastD_eq_getLast?]
    rw [List.reverse_cons, movesM_snoc, ih, List.cons_append, movesM, e, dist_sym x.toNat (by omega) a.toNat (by omega)]
    omega
theorem sigs_rev {l : List Int} (h : sigsB l = true) : sigsB l.reverse = true := by
  rw [sigsB_iff] at h ⊢
  unfold allB at h ⊢
  rw [List.all_eq_true] at h ⊢
  exact ⟨by rw [List.length_reverse]; exact h.1, fun x hx => h.2 x (by simpa using hx)⟩
theorem movesT_rev {l : List Int} (h : sigsB l = true) : movesT l.reverse = movesT l := by
  unfold movesT
  rw [h, sigs_rev h, moves_rev l 0 0 (by omega) (by omega) (sigs_all h)]
theorem nearI_mem {ds : List Nat} {c m : Nat} {z : Int} : z ∈ nearI ds c m ↔ ∃ k : Nat, z = (k : Int) ∧ k < m ∧ ds[k]? = some c := by
  unfold nearI
  simp only [List.mem_map, List.mem_filter, List.mem_range, beq_iff_eq]
  constructor
  · rintro ⟨k, ⟨h1, h2⟩, rfl⟩; exact ⟨k, rfl, h1, h2⟩
  · rintro ⟨k, rfl, h1, h2⟩; exact ⟨k, ⟨h1, h2⟩, rfl⟩
theorem leastD_in : ∀ (ds : List Nat) (m : Nat), leastD ds m ∈ m :: ds
  | [], m => by simp [leastD]
  | x :: r, m => by
    have h := leastD_in r (min m x)
    have e : leastD (x :: r) m = leastD r (min m x) := rfl
    rw [e]
    rcases List.mem_cons.1 h with h | h
    · rw [h]
      rcases Nat.le_total m x with h1 | h1
      · rw [Nat.min_eq_left h1]; simp
      · rw [Nat.min_eq_right h1]; simp
    · exact List.mem_cons_of_mem _ (List.mem_cons_of_mem _ h)
theorem leastD_at {ds : List Nat} (h : ∀ d ∈ ds, d ≤ 6) (hne : ds ≠ []) : ∃ k : Nat, k < ds.length ∧ ds[k]? = some (leastD ds 6) := by
  have hm : leastD ds 6 ∈ ds := by
    rcases List.mem_cons.1 (leastD_in ds 6) with h1 | h1
    · match ds, hne with
      | d :: r, _ =>
        have h2 := (leastD_le_mem (d :: r) 6).2 d (by simp)
        have h3 := h d (by simp)
        have : d = leastD (d :: r) 6 := by omega
        rw [← this]; simp
    · exact h1
  obtain ⟨k, hk, he⟩ := List.getElem_of_mem hm
  exact ⟨k, hk, by rw [List.getElem?_eq_getElem hk, he]⟩
/-- What the nearest signals are. -/
theorem near_told {n : Int} {us : List Int} (h : nearB n us = true) : ∃ (a D i0 : Nat) (x0 : Int), n = (a : Int) ∧ a ≤ 63 ∧ D ≤ 6 ∧ us.length ≤ 100 ∧ (∀ x ∈ us, 0 ≤ x ∧ x ≤ 63) ∧ i0 < us.length ∧ 0 < (nearL n us).length ∧ (nearL n us)[0]? = some (i0 : Int) ∧ us[i0]? = some x0 ∧ distM a x0.toNat = D ∧
    ∀ (k : Nat) (x : Int), us[k]? = some x → D ≤ distM a x.toNat ∧ decide ((k : Int) ∈ nearL n us) = decide (distM a x.toNat = D) := by
  unfold nearB at h
  have hc := h
  rw [Bool.and_eq_true, Bool.and_eq_true] at h
  obtain ⟨⟨h1, h2⟩, h3⟩ := h
  have h1 := inB_iff.1 h1
  have hne : us ≠ [] := by intro e; subst e; simp at h3
  obtain ⟨a, rfl⟩ := Int.eq_ofNat_of_zero_le h1.1
  have hL : nearL (a : Int) us = nearI (distL a us) (leastD (distL a us) 6) us.length := by unfold nearL; rw [hc, if_pos rfl, Int.toNat_natCast]
  have hdl : (distL a us).length = us.length := by simp [distL]
  have h6 : ∀ d ∈ distL a us, d ≤ 6 := fun d hd => by
    unfold distL at hd
    obtain ⟨x, _, rfl⟩ := List.mem_map.1 hd
    exact distM_le _ _
  have hat : ∀ (k : Nat) (x : Int), us[k]? = some x → (distL a us)[k]? = some (distM a x.toNat) := fun k x hx => by simp [distL, hx]
  obtain ⟨j, hj, hjd⟩ := leastD_at h6 (by intro e; exact hne (by rw [e] at hdl; exact List.eq_nil_of_length_eq_zero hdl.symm))
  have hjm : (j : Int) ∈ nearL (a : Int) us := by rw [hL]; exact nearI_mem.2 ⟨j, rfl, by omega, hjd⟩
  have hpos : 0 < (nearL (a : Int) us).length := List.length_pos_of_mem hjm
  have hz : (nearL (a : Int) us)[0] ∈ nearL (a : Int) us := List.getElem_mem _
  obtain ⟨z, hz0⟩ : ∃ z, z = (nearL (a : Int) us)[0] := ⟨_, rfl⟩
  rw [← hz0] at hz
  rw [hL] at hz
  obtain ⟨i0, rfl, hi0, hid⟩ := nearI_mem.1 hz
  have hx0 : us[i0]? = some us[i0] := List.getElem?_eq_getElem hi0
  refine ⟨a, leastD (distL a us) 6, i0, us[i0], rfl, by omega, (leastD_le_mem _ _).1, (sigsB_iff.1 h2).1, sigs_all h2, hi0, hpos, by rw [List.getElem?_eq_getElem hpos, hz0], hx0, ?_, fun k x hx => ⟨?_, ?_⟩⟩
  · have := hat i0 _ hx0
    rw [hid] at this
    exact (Option.some.inj this).symm
  · exact (leastD_le_mem (distL a us) 6).2 _ (List.mem_of_getElem? (hat k x hx))
  · have hk := (List.getElem?_eq_some_iff.1 hx).1
    have e : (k : Int) ∈ nearL (a : Int) us ↔ distM a x.toNat = leastD (distL a us) 6 := by
      rw [hL, nearI_mem]
      constructor
      · rintro ⟨k', he, _, hd⟩
        obtain rfl : k = k' := by omega
        rw [hat k x hx] at hd
        exact Option.some.inj hd
      · intro hd
        exact ⟨k, rfl, hk, by rw [hat k x hx, hd]⟩
    exact decide_eq_decide.2 e
theorem turn_take {l : List Int} {k : Nat} {y : Int} (hk : k < l.length) (h : l[l.length - 1 - k]? = some y) : l.reverse.take (k + 1) = l.reverse.take k ++ [y] := by
  rw [List.take_add_one]
  have : l.reverse[k]? = some y := by rw [List.getElem?_reverse hk]; exact h
  rw [this]; rfl
end Go.Proofs.YtjnkdjokbamibaaGreatDoor
