/- Contracts of SignalText: the text of a signal. -/
import Derived.Test.YtabiobjcfopakaaB1
import Derived.Test.YtabiobjcfopakaaM3
import Derived.Lib.SlBytesConst
import Derived.Laws.IdiomStrings
namespace Go.Proofs.Ytabiobjcfopakaa
open Go.RowKit
open Go.WideShapes (add_plain)
/-- Block g is just the cells cs of element type t, with a frozen range. -/
def BlkF (w : World) (g : Nat) (t : TypeId) (cs : List Value) (fr : Nat × Nat) : Prop := w.heap[g]? = some (.cells cs.toArray t fr)
section
variable {w w' : World} {g : Nat} {t : TypeId} {cs : List Value} {fr : Nat × Nat}
theorem BlkF.lt (h : BlkF w g t cs fr) : g < w.heap.size := by
  rcases Nat.lt_or_ge g w.heap.size with hlt | hge
  · exact hlt
  · unfold BlkF at h; rw [Array.getElem?_eq_none hge] at h; cases h
theorem BlkF.cell (h : BlkF w g t cs fr) (i : Nat) : w.cell? ⟨g, i, Option.none⟩ = cs[i]? := by
  have := cell_of_row w g i cs.toArray t fr h
  rw [this]; simp
theorem BlkF.frozen (h : BlkF w g t cs fr) (i : Nat) (hi : i < fr.1) : w.frozen? ⟨g, i, Option.none⟩ = false := by
  unfold BlkF at h
  simp [World.frozen?, h]; omega
theorem BlkF.new (w : World) (t : TypeId) (cs : Array Value) (fr : Nat × Nat) : BlkF (w.alloc (.cells cs t fr)) w.heap.size t cs.toList fr := by
  show (w.heap.push (.cells cs t fr))[w.heap.size]? = _
  simp
theorem BlkF.set_ (h : BlkF w g t cs fr) (i : Nat) (u : Value) : BlkF (w.setCell ⟨g, i, Option.none⟩ u) g t (cs.set i u) fr := by
  unfold BlkF at h ⊢
  simp [World.setCell, Array.getElem?_modify, h]
theorem BlkF.below {B : Nat} (h : BlkF w g t cs fr) (hb : Below B w w') (hg : g < B) : BlkF w' g t cs fr := (hb.block g hg).trans h
end
/-- The six signs of which those of xs are closed. -/
def dots (xs : List Int) : List Value := (List.range 6).map fun i : Nat => Value.int .u8 (if ((i : Nat) : Int) ∈ xs then 35 else 46)
theorem dots_set {xs : List Int} {i : Nat} (hi : i < 6) : (dots xs).set i (.int .u8 35) = dots (xs ++ [(i : Int)]) := by
  have h : i = 0 ∨ i = 1 ∨ i = 2 ∨ i = 3 ∨ i = 4 ∨ i = 5 := by omega
  rcases h with rfl | rfl | rfl | rfl | rfl | rfl <;> simp [dots, List.range_succ]
theorem dots_at (xs : List Int) {i : Nat} (hi : i < 6) : ∃ n, (dots xs)[i]? = some (.int .u8 n) := by
  simp [dots, hi]
theorem mem_shutM (n i : Nat) : ((i : Nat) : Int) ∈ shutM n 6 ↔ i < 6 ∧ bitB n i = true := by
  unfold shutM
  simp only [List.mem_map, List.mem_filter, List.mem_range]
  constructor
  · rintro ⟨a, h, e⟩
    have : a = i := by omega
    subst this; exact h
  · intro h; exact ⟨i, h, rfl⟩
theorem dots_sgT (n : Nat) : dots (shutM n 6) = (sgT n 6).map fun b : UInt8 => Value.int .u8 ((b.toNat : Nat) : Int) := by
  unfold dots sgT
  rw [List.map_map]
  apply List.map_congr_left
  intro i hi
  rw [List.mem_range] at hi
  simp only [mem_shutM, hi, true_and, Function.comp]
  cases bitB n i <;> rfl
theorem shutM_mem {n : Nat} {y : Int} {k : Nat} (h : (shutM n 6)[k]? = some y) : ∃ i : Nat, y = (i : Int) ∧ i < 6 := by
  have := List.mem_of_getElem? h
  unfold shutM at this
  simp only [List.mem_map, List.mem_filter, List.mem_range] at this
  obtain ⟨a, h1, h2⟩ := this
  exact ⟨a, h2.symm, h1.1⟩
def sigTT (n : Int) : Value := if inB n 0 63 then .tuple #[.string ⟨(sgT n.toNat 6).toArray⟩, .bool true] else .tuple #[.string ⟨#[]⟩, .bool false]
theorem dots_nil : dots [] = [.int .u8 46, .int .u8 46, .int .u8 46, .int .u8 46, .int .u8 46, .int .u8 46] := rfl
set_option maxHeartbeats 800000 in
theorem SignalText_any (n : Int) (w : World) : Calls Try.prog 17 #[.int .i64 n] w fun e w' => e = .returned (sigTT n) ∧ Below w.heap.size w w' := by
  cases ha : inB n 0 63
  · go_enter Try.func17, Try.ntmps17
    go_wp2_with (go_at_call 119; refine (isSignal_any _ _).mono ?_; rintro e w' ⟨rfl, rfl⟩)
    go_ret2
    exact ⟨ret_val (by simp [sigTT, ha]), Below.refl _ _⟩
  · obtain ⟨h0, h1⟩ := inB_iff.1 ha
    obtain ⟨n, rfl⟩ := Int.eq_ofNat_of_zero_le h0
    have kc := fun (w : World) (C : Array Value) (n c : Nat) => Lib.run_convert_bytes_const (P := Try.prog) w 22 5 C n c Try.underlying22 Try.underlying5
    go_enter Try.func17, Try.ntmps17
    go_wp2_with (first | (go_at_call 119; refine (isSignal_any _ _).mono ?_; rintro e w' ⟨rfl, rfl⟩) | fail)
    refine (closedOf_any _ (by omega) _).mono ?_
    rintro e w1 ⟨v, rfl, hv, hb1⟩
    clear kc
    have hbl : BlkF w1 w.heap.size 5 (dots []) (6, 7) := by
      refine BlkF.below (BlkF.new w 5 #[.int .u8 46, .int .u8 46, .int .u8 46, .int .u8 46, .int .u8 46, .int .u8 46] (6, 7)) hb1 (by simp)
    have hb : Below w.heap.size w w1 := ((Below.refl _ _).alloc (Nat.le_refl _) _).trans (hb1.mono (by simp))
    have hv' : OwI w1 (w.heap.size + 1) w1.heap.size v (shutM n 6) := by simpa using hv
    have HV := Lib.hid hv'
    obtain ⟨A, c, rfl, hc⟩ := hv.form
    have hlen := shutM_len n 6
    have hgl := hbl.lt
    clear hb1 hv' hv
    go_wp2
    go_loopw [15] (fun i wr => ∃ k : Nat, k ≤ (shutM n 6).length ∧ i = .int .i64 k ∧ BlkF wr w.heap.size 5 (dots ((shutM n 6).take k)) (6, 7) ∧ Keep w.heap.size (w.heap.size + 1) w1 wr) (fun i _ => (shutM n 6).length - (intOf i).toNat)
    case atStart => exact ⟨0, Nat.zero_le _, rfl, hbl, Keep.refl _ _ _⟩
    case round =>
      obtain ⟨k, hk, rfl, hbk, hkp⟩ := hrel
      by_cases hlt : k < (shutM n 6).length
      · obtain ⟨b1, o1, c1, y, hv, _, hy, hcell1⟩ := Rd.at_ (HV.out.keep hkp (.inr (Nat.le_refl _))).rd hlt
        cases hv
        obtain ⟨j, rfl, hj⟩ := shutM_mem hy
        obtain ⟨q, hq⟩ := dots_at ((shutM n 6).take k) hj
        have hcell2 := hbk.cell j
        rw [hq] at hcell2
        have hfr := hbk.frozen j hj
        have HY := Lib.hid hy
        clear hy hq
        go_wp2
        go_roundw
        case rel => exact ⟨k + 1, by omega, by go_num, by rw [take_snocI HY.out, ← dots_set hj]; exact hbk.set_ _ _, hkp.setCell (p := ⟨w.heap.size, j, Option.none⟩) (Nat.le_refl _) (by simp) _⟩
        case measure => simp [intOf]; omega
      · obtain rfl : k = (shutM n 6).length := by omega
        rw [List.take_of_length_le (Nat.le_refl _), dots_sgT] at hbk
        have hconv := run_convert_bytes_back (P := Try.prog) wr 22 9 5 ⟨w.heap.size, 0, Option.none⟩ 6 (sgT n 6) Try.underlying22 Try.underlying5 Try.underlying9 (fun j hj => by
          have := hbk.cell j
          rw [add_plain, Nat.zero_add, this]
          simp [hj])
        rw [sgT_len] at hconv
        go_wp2
        go_ret2
        exact ⟨ret_val (by simp [sigTT, ha]), hb.trans hkp.bel⟩
theorem sSignalText_any (n : Int) (w : World) : Calls Try.prog 18 #[.int .i64 n] w fun e w' => e = .returned (sigTT n) ∧ w = w' := by
  cases ha : inB n 0 63
  · go_enter Try.func18, Try.ntmps18
    go_wp2_with (go_at_call 121; refine (sgGood_any _ _).mono ?_; rintro e w' ⟨rfl, rfl⟩)
    go_ret2
    exact ⟨ret_val (by simp [sigTT, ha]), rfl⟩
  · obtain ⟨h0, h1⟩ := inB_iff.1 ha
    obtain ⟨n, rfl⟩ := Int.eq_ofNat_of_zero_le h0
    go_enter Try.func18, Try.ntmps18
    go_wp2_with (first | (go_at_call 121; refine (sgGood_any _ _).mono ?_; rintro e w' ⟨rfl, rfl⟩) | (go_at_call 122; refine (sgText_any _ (by omega) _).mono ?_; rintro e w' ⟨rfl, rfl⟩))
    go_ret2
    exact ⟨ret_val (by simp [sigTT, ha]), rfl⟩
end Go.Proofs.Ytabiobjcfopakaa
