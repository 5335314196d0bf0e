/- Contracts: a stable sort of at most twenty indices by a comparison that only reads. -/
import Derived.Test.YtabiobjcfopakaaR1
import Derived.Test.YtabiobjcfopakaaE1
import Derived.Test.YtabiobjcfopakaaM5
import Derived.BigRegion
import Derived.BigQuiet
import Derived.Deep.QuietTactic
namespace Go.Proofs.Ytabiobjcfopakaa
open Go.RowKit
/-- What is asked of a comparison while block g is sorted. -/
def CmpI (f : Nat) (lb : Array Value) (g N : Nat) (c : Nat → Nat → Int) (w : World) : Prop :=
  ∀ (w' : World), Only (some g) w w' → ∀ x y : Nat, x < N → y < N → Calls Try.prog f (#[.int .i64 (x : Int), .int .i64 (y : Int)] ++ lb) w' fun e w'' => e = .returned (.int .i64 (c x y)) ∧ ∃ m, w'' = w'.drewN m
abbrev pOf (c : Nat → Nat → Int) (x y : Nat) : Bool := decide (c x y < 0)
theorem only_drewN (b : Option Nat) (w : World) (n : Nat) : Only b w (w.drewN n) := ⟨rfl, rfl, rfl, rfl, fun _ _ => rfl⟩
theorem Only.trans {b : Option Nat} {a v w : World} (h : Only b a v) (k : Only b v w) : Only b a w :=
  ⟨k.os.trans h.os, k.tape.trans h.tape, k.output.trans h.output, k.size.trans h.size, fun i hi => (k.block i hi).trans (h.block i hi)⟩
/-- The numbers while x is put in its place at q. -/
def insL (L : List Nat) (x q : Nat) (R : List Nat) : List Nat := L.take q ++ x :: (L.drop q ++ R)
theorem insL_at {L R : List Nat} {x q : Nat} (h : q ≤ L.length) : (nats (insL L x q R))[q]? = some (.int .i64 (x : Int)) := by
  unfold insL nats
  rw [List.map_append, List.getElem?_append_right (by simp; omega), List.length_map, List.length_take, Nat.min_eq_left h, Nat.sub_self]; rfl
theorem insL_ahead {L R : List Nat} {x s y : Nat} (h : L[s]? = some y) : (nats (insL L x (s + 1) R))[s]? = some (.int .i64 (y : Int)) := by
  have hs := (List.getElem?_eq_some_iff.1 h).1
  unfold insL nats
  rw [List.map_append, List.getElem?_append_left (by simp; omega), List.getElem?_map, List.getElem?_take_of_lt (by omega), h]; rfl
theorem insL_swap {L R : List Nat} {x s y : Nat} (h : L[s]? = some y) : ((nats (insL L x (s + 1) R)).set (s + 1) (.int .i64 (y : Int))).set s (.int .i64 (x : Int)) = nats (insL L x s R) := by
  have hs := (List.getElem?_eq_some_iff.1 h).1
  have hd : L.drop s = y :: L.drop (s + 1) := by rw [List.drop_eq_getElem_cons hs]; rw [List.getElem?_eq_getElem hs] at h; cases h; rfl
  have ht : L.take (s + 1) = L.take s ++ [y] := take_snocN h
  have hl : (L.take s).length = s := by rw [List.length_take]; omega
  unfold insL nats
  rw [ht, hd]
  simp only [List.map_append, List.map_cons, List.append_assoc, List.cons_append, List.nil_append]
  have e1 : (List.map (fun m : Nat => Value.int .i64 (m : Int)) (L.take s) ++ Value.int .i64 (y : Int) :: Value.int .i64 (x : Int) :: (List.map (fun m : Nat => Value.int .i64 (m : Int)) (L.drop (s + 1)) ++ List.map (fun m : Nat => Value.int .i64 (m : Int)) R)).set (s + 1) (.int .i64 (y : Int)) =
      List.map (fun m : Nat => Value.int .i64 (m : Int)) (L.take s) ++ Value.int .i64 (y : Int) :: Value.int .i64 (y : Int) :: (List.map (fun m : Nat => Value.int .i64 (m : Int)) (L.drop (s + 1)) ++ List.map (fun m : Nat => Value.int .i64 (m : Int)) R) := by
    rw [List.set_append_right _ _ (by simp; omega), List.length_map, hl, show s + 1 - s = 1 by omega]; rfl
  rw [e1, List.set_append_right _ _ (by simp; omega), List.length_map, hl, Nat.sub_self]; rfl
theorem insL_start {p : Nat → Nat → Bool} {k n : Nat} (h : k < n) : orderBy p k ++ List.range' k (n - k) = insL (orderBy p k) k k (List.range' (k + 1) (n - (k + 1))) := by
  have hl := orderBy_len p k
  unfold insL
  rw [List.take_of_length_le (by omega), List.drop_of_length_le (by omega), List.nil_append, show n - k = (n - (k + 1)) + 1 by omega, List.range'_succ]
theorem insL_end {p : Nat → Nat → Bool} {k n q : Nat} (hq : q ≤ k) (hB : ∀ y ∈ (orderBy p k).drop q, p k y = true) (hA : q = 0 ∨ ∃ a, (orderBy p k)[q - 1]? = some a ∧ p k a = false) :
    insL (orderBy p k) k q (List.range' (k + 1) (n - (k + 1))) = orderBy p (k + 1) ++ List.range' (k + 1) (n - (k + 1)) := by
  rw [orderBy_succ, insBy_at (by rw [orderBy_len]; exact hq) hB hA]
  unfold insL; simp
theorem insL_next {p : Nat → Nat → Bool} {L : List Nat} {x s y : Nat} (h : L[s]? = some y) (hp : p x y = true) (hB : ∀ z ∈ L.drop (s + 1), p x z = true) : ∀ z ∈ L.drop s, p x z = true := by
  have hs := (List.getElem?_eq_some_iff.1 h).1
  have hd : L.drop s = y :: L.drop (s + 1) := by rw [List.drop_eq_getElem_cons hs]; rw [List.getElem?_eq_getElem hs] at h; cases h; rfl
  rw [hd]
  intro z hz
  rcases List.mem_cons.1 hz with rfl | hz
  · exact hp
  · exact hB z hz
set_option maxRecDepth 1000000 in
set_option maxHeartbeats 4000000 in
theorem insSort_any (n cp g f : Nat) (lb : Array Value) (c : Nat → Nat → Int) (w : World) (hn1 : 1 ≤ n) (hn : n ≤ 20) (hcp : n ≤ cp) (h : Blk w g 3 (nats (List.range n))) (hp : CmpI f lb g n c w)
    (eg : ∀ args w, (callFunc f args).run Try.prog w = .ok (.enter f args) w) :
    Calls Try.prog 252 #[.slice (some ⟨g, 0, Option.none⟩) n cp, .int .i64 0, .int .i64 (n : Int), .func (.func f) #[] lb] w fun e w' => (∃ z, e = .returned z) ∧ Blk w' g 3 (nats (orderBy (pOf c) n)) ∧ Only (some g) w w' := by
  have H := Lib.hid h
  have HP := Lib.hid hp
  clear h hp
  go_enter Try.func252, Try.ntmps252
  go_wp2
  go_loopw [8] (fun i wr => ∃ k : Nat, 1 ≤ k ∧ k ≤ n ∧ i = .int .i64 k ∧ Hid (Blk wr g 3 (nats (orderBy (pOf c) k ++ List.range' k (n - k)))) ∧ Hid (Only (some g) w wr)) (fun i _ => n - (intOf i).toNat)
  case atStart =>
    refine ⟨1, Nat.le_refl _, hn1, rfl, ?_, Only.refl _ _⟩
    have e : orderBy (pOf c) 1 ++ List.range' 1 (n - 1) = List.range n := by
      rw [List.range_eq_range', show n = (n - 1) + 1 by omega, List.range'_succ]; rfl
    show Blk _ _ _ _
    rw [e]; exact H.out
  case round =>
    obtain ⟨k, hk1, hk, rfl, hb, ho⟩ := hrel
    by_cases hlt : k < n
    · obtain ⟨L, hL⟩ : ∃ L, L = orderBy (pOf c) k := ⟨_, rfl⟩
      obtain ⟨R, hR⟩ : ∃ R, R = List.range' (k + 1) (n - (k + 1)) := ⟨_, rfl⟩
      have hLl : L.length = k := by rw [hL, orderBy_len]
      have HLL := Lib.hid hLl
      have HLM : Hid (∀ y ∈ L, y < k) := by show ∀ y ∈ L, y < k; rw [hL]; exact fun y hy => orderBy_lt hy
      have HB : Hid (Blk wr g 3 (nats (insL L k k R))) := by show Blk _ _ _ _; rw [hL, hR, ← insL_start hlt]; exact hb.out
      have HEL := Lib.hid hL
      have HER := Lib.hid hR
      clear hb hL hR hLl
      rename World => wo
      go_wp2_with fail
      go_loopw [9] (fun j wr => ∃ q : Nat, q ≤ k ∧ j = .int .i64 q ∧ Hid (Blk wr g 3 (nats (insL L k q R))) ∧ Hid (∀ y ∈ L.drop q, pOf c k y = true) ∧ Hid (Only (some g) w wr)) (fun j _ => (intOf j).toNat)
      case atStart => exact ⟨k, Nat.le_refl _, rfl, HB.out, by intro y hy; rw [List.drop_of_length_le (by rw [HLL.out]; exact Nat.le_refl _)] at hy; simp at hy, ho.out⟩
      case round =>
        obtain ⟨q, hq, rfl, hb2, hall, ho2⟩ := hrel
        rcases Nat.eq_zero_or_pos q with hq0 | hq0
        · have hgd : decide (0 < q) = false := decide_eq_false (by omega)
          have HQ := Lib.hid hq0
          clear hq0
          go_wp2_with fail
          go_quiet (fail)
          go_wp2_with fail
          have HBF : Hid (Blk (wr.drewN nq) g 3 (nats (orderBy (pOf c) (k + 1) ++ List.range' (k + 1) (n - (k + 1))))) := by
            show Blk _ _ _ _
            rw [← insL_end (q := q) hq (by rw [← HEL.out]; exact hall.out) (.inl HQ.out), ← HEL.out, ← HER.out]
            exact hb2.out
          go_roundw
          case rel => exact ⟨k + 1, by omega, by omega, by go_num, HBF.out, ho2.out.trans (only_drewN _ _ _)⟩
          case measure => simp [intOf]; omega
        · obtain ⟨s, rfl⟩ : ∃ s, q = s + 1 := ⟨q - 1, by omega⟩
          obtain ⟨y, hy⟩ : ∃ y, L[s]? = some y := ⟨_, List.getElem?_eq_getElem (by rw [HLL.out]; omega)⟩
          have hyk := HLM.out y (List.mem_of_getElem? hy)
          have hgd : decide ((0 : Int) < ((s + 1 : Nat) : Int)) = true := decide_eq_true (by omega)
          have hgd2 : decide ((0 : Int) < (s : Int) + 1) = true := decide_eq_true (by omega)
          have hc1 := hb2.out.cell (s + 1)
          have hc0 := hb2.out.cell s
          rw [insL_at (by rw [HLL.out]; omega)] at hc1
          rw [insL_ahead hy] at hc0
          have HY := Lib.hid hy
          have HCM := Lib.hid fun nq => HP.out (wr.drewN nq) (ho2.out.trans (only_drewN _ _ _)) k y (by omega) (by omega)
          have hsn : (s : Int) + 1 < (n : Int) := by omega
          have hsn2 : (s : Int) < (n : Int) := by omega
          clear hy
          cases hcy : pOf c k y
          · have hcc : decide (c k y < 0) = false := hcy
            go_wp2_with fail
            go_quiet ((go_at_fn f; exact Calls.quiet_of (HCM.out _)))
            go_wp2_with fail
            have HBF : Hid (Blk (wr.drewN nq) g 3 (nats (orderBy (pOf c) (k + 1) ++ List.range' (k + 1) (n - (k + 1))))) := by
              show Blk _ _ _ _
              rw [← insL_end (q := s + 1) hq (by rw [← HEL.out]; exact hall.out) (.inr ⟨y, by rw [← HEL.out]; exact HY.out, hcy⟩), ← HEL.out, ← HER.out]
              exact hb2.out
            go_roundw
            case rel => exact ⟨k + 1, by omega, by omega, by go_num, HBF.out, ho2.out.trans (only_drewN _ _ _)⟩
            case measure => simp [intOf]; omega
          · have hcc : decide (c k y < 0) = true := hcy
            go_wp2_with fail
            go_quiet ((go_at_fn f; exact Calls.quiet_of (HCM.out _)))
            have HBD : Hid (Blk (wr.drewN nq) g 3 (nats (insL L k (s + 1) R))) := hb2.out
            have HOD : Hid (Only (some g) w (wr.drewN nq)) := ho2.out.trans (only_drewN _ _ _)
            have hd1 : (wr.drewN nq).cell? ⟨g, s + 1, Option.none⟩ = some (.int .i64 (k : Int)) := hc1
            have hd0 : (wr.drewN nq).cell? ⟨g, s, Option.none⟩ = some (.int .i64 (y : Int)) := hc0
            have hfz : ∀ i, (wr.drewN nq).frozen? ⟨g, i, Option.none⟩ = false := fun i => HBD.out.frozen i
            clear hc1 hc0
            generalize (wr.drewN nq) = wq at HBD HOD hd1 hd0 hfz ⊢
            go_wp2_with fail
            go_region
            have hBS : Blk ((wq.setCell ⟨g, s + 1, Option.none⟩ (.int .i64 (y : Int))).setCell ⟨g, s, Option.none⟩ (.int .i64 (k : Int))) g 3 (nats (insL L k s R)) := by
              rw [← insL_swap HY.out]; exact (HBD.out.set_ _ _).set_ _ _
            have hOS : Only (some g) w ((wq.setCell ⟨g, s + 1, Option.none⟩ (.int .i64 (y : Int))).setCell ⟨g, s, Option.none⟩ (.int .i64 (k : Int))) := (HOD.out.setCell (p := ⟨g, s + 1, Option.none⟩) rfl _).setCell (p := ⟨g, s, Option.none⟩) rfl _
            have HBS := Lib.hid hBS
            have HOS := Lib.hid hOS
            clear hBS hOS
            go_wp2_with fail
            go_roundw
            case rel => exact ⟨s, by omega, by go_num, HBS.out, insL_next HY.out hcy hall.out, HOS.out.trans (only_drewN _ _ 1)⟩
            case measure => simp [intOf]
    · obtain rfl : k = n := by omega
      have hb3 : Blk wr g 3 (nats (orderBy (pOf c) k)) := by have := hb.out; rwa [Nat.sub_self, List.range'_zero, List.append_nil] at this
      go_wp2_with fail
      refine bodyPost_end (results_none Try.results252 _ _ _) rfl ?_
      exact ⟨⟨_, rfl⟩, hb3, ho.out⟩
end Go.Proofs.Ytabiobjcfopakaa
