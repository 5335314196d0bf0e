/- Texts of one claim, joined: O, B4, J4, U2, Z9, E1, D4, D5. -/
import Derived.Deep.Slices
import Derived.Lib.SlBytesConst
import Derived.Laws.IdiomStrings
import Derived.Shelf.GgClosure.Gives
import Derived.Test.YtjnkdjokbamibaaGreatDoorP5Books
/- What an argument that reads as data looks like in memory: slices of integers, slices of such slices. -/
namespace Go.Proofs.YtjnkdjokbamibaaGreatDoor
open Go.ChangeShapes Go.WideShapes Go.ChangeAt Go.RowKit Go.Deep
theorem cells_one {w : World} {base : Nat} {a : Addr} {cs : List Value} (h : w.cells? base a 1 = some cs) : ∃ v, cs = [v] ∧ w.cell? a = some v ∧ base ≤ a.block := by
  unfold World.cells? at h
  split at h
  · rename_i hb
    have hl := mapM_some_length h
    have hg := mapM_some_get h 0 0 rfl
    match cs, hl with
    | [v], _ => exact ⟨v, rfl, by simpa [Addr.add] using hg, hb⟩
  · cases h
theorem spot_of {w : World} {a : Addr} {v : Value} (h : w.cell? a = some v) : ∃ b off, a = ⟨b, off, Option.none⟩ ∧ b < w.heap.size := by
  obtain ⟨b, off, spot⟩ := a
  have hs : spot = Option.none := by simpa using World.cell?_spot h
  subst hs
  exact ⟨b, off, rfl, World.block_lt_of_cell? w ⟨b, off, Option.none⟩ h⟩
/-- A slice whose elements have one cell each reads as a row of values. -/
theorem open_row {H : Type} {enc : TypeId × Value → H} {P : Program} {w : World} {spare : Nat → Bool} {held : Bool} {fuel : Nat} {t e : TypeId} {v : Value} {x : DataW H × List MemPlace}
    (ht : P.underlying t = some (.slice e)) (he : P.cellsOf e = 1) (h : DataW.trod enc P w 0 spare held fuel t [v] = some x) :
    ∃ (n : Nat) (vs : List Value), Rd w w.heap.size 1 v n vs ∧ vs.length = n ∧ ∀ (i : Nat) (u : Value), vs[i]? = some u → ∃ f y, DataW.trod enc P w 0 spare held f e [u] = some y := by
  rcases open_slice ht h with ⟨hv, _⟩ | ⟨a, len, cap, m, n, D, Pl, hv, hb, hl, hm, hmm, hx, hcell⟩
  · simp only [List.cons.injEq, and_true] at hv
    subst hv
    exact ⟨0, [], ⟨rfl, Option.none, 0, rfl, Nat.le_refl _, Nat.zero_le _, fun h => absurd h (by omega)⟩, rfl, fun i u hu => by simp at hu⟩
  · simp only [List.cons.injEq, and_true] at hv
    subst hv
    have hlm : len ≤ m := by rw [hmm]; split <;> omega
    have hk : ∀ i, ∃ u, i < len → w.cell? (a.add i) = some u ∧ ∃ y, DataW.trod enc P w 0 spare held n e [u] = some y := by
      intro i
      by_cases hi : i < len
      · obtain ⟨cs', hc1, hc2⟩ := hcell i (by omega)
        rw [he, Nat.mul_one] at hc1
        obtain ⟨u, rfl, hu, _⟩ := cells_one hc1
        exact ⟨u, fun _ => ⟨hu, _, hc2⟩⟩
      · exact ⟨undef, fun h => absurd h hi⟩
    obtain ⟨V, hV⟩ : ∃ V : Nat → Value, ∀ i, i < len → w.cell? (a.add i) = some (V i) ∧ ∃ y, DataW.trod enc P w 0 spare held n e [V i] = some y := ⟨fun i => Classical.choose (hk i), fun i => Classical.choose_spec (hk i)⟩
    clear hk
    refine ⟨len, (List.range len).map V, ⟨by simp, some a, cap, rfl, hl, hm, fun hpos => ?_⟩, by simp, fun i u hu => ?_⟩
    · have h0 := (hV 0 hpos).1
      obtain ⟨b, off, ha, hlt⟩ := spot_of h0
      have ha' : a = ⟨b, off, Option.none⟩ := by simpa [Addr.add] using ha
      subst ha'
      refine ⟨b, off, rfl, hlt, fun j u hu => ?_⟩
      have hj : j < len := by
        rcases Nat.lt_or_ge j len with h | h
        · exact h
        · rw [List.getElem?_eq_none (by simp; exact h)] at hu; cases hu
      simp [hj] at hu
      have := (hV j hj).1
      rw [hu, add_plain] at this
      exact this
    · have hj : i < len := by
        rcases Nat.lt_or_ge i len with h | h
        · exact h
        · rw [List.getElem?_eq_none (by simp; exact h)] at hu; cases hu
      simp [hj] at hu
      obtain ⟨_, y, hy⟩ := hV i hj
      rw [hu] at hy
      exact ⟨n, y, hy⟩
theorem slice_cells {P : Program} {w : World} {r : Reach} {b : Nat} {t e : TypeId} {v : Value} (ht : P.underlying t = some (.slice e)) (h : Value.okWide P w r b t v) : v.cells.toList = [v] := by
  obtain ⟨a, n, c, rfl⟩ := okWide_slice ht h
  rfl
end Go.Proofs.YtjnkdjokbamibaaGreatDoor
/- Contracts of SignalText: the text of a signal. -/
namespace Go.Proofs.YtjnkdjokbamibaaGreatDoor
open Go.RowKit
open Go.WideShapes (add_plain)
/-- Block g is just the cells cs of element type t, with a frozen range. -/
def BlkF (w : World) (g : Nat) (t : TypeId) (cs : List Value) (fr : Nat × Nat) : Prop := w.heap[g]? = some (.cells cs.toArray t fr)
section
variable {w w' : World} {g : Nat} {t : TypeId} {cs : List Value} {fr : Nat × Nat}
theorem BlkF.lt (h : BlkF w g t cs fr) : g < w.heap.size := by
  rcases Nat.lt_or_ge g w.heap.size with hlt | hge
  · exact hlt
  · unfold BlkF at h; rw [Array.getElem?_eq_none hge] at h; cases h
theorem BlkF.cell (h : BlkF w g t cs fr) (i : Nat) : w.cell? ⟨g, i, Option.none⟩ = cs[i]? := by
  have := cell_of_row w g i cs.toArray t fr h
  rw [this]; simp
theorem BlkF.frozen (h : BlkF w g t cs fr) (i : Nat) (hi : i < fr.1) : w.frozen? ⟨g, i, Option.none⟩ = false := by
  unfold BlkF at h
  simp [World.frozen?, h]; omega
theorem BlkF.new (w : World) (t : TypeId) (cs : Array Value) (fr : Nat × Nat) : BlkF (w.alloc (.cells cs t fr)) w.heap.size t cs.toList fr := by
  show (w.heap.push (.cells cs t fr))[w.heap.size]? = _
  simp
theorem BlkF.set_ (h : BlkF w g t cs fr) (i : Nat) (u : Value) : BlkF (w.setCell ⟨g, i, Option.none⟩ u) g t (cs.set i u) fr := by
  unfold BlkF at h ⊢
  simp [World.setCell, Array.getElem?_modify, h]
theorem BlkF.below {B : Nat} (h : BlkF w g t cs fr) (hb : Below B w w') (hg : g < B) : BlkF w' g t cs fr := (hb.block g hg).trans h
end
end Go.Proofs.YtjnkdjokbamibaaGreatDoor
/- Contracts: comparison of lists of numbers in a law, the bound on a law's inputs; what a list of bytes is; plain laws of signals. -/
namespace Go.Proofs.YtjnkdjokbamibaaGreatDoor
open Go.RowKit Go.ChangeShapes Go.WideShapes Go.ChangeAt Go.Deep
theorem u8_of (vs : List Value) (h : ∀ (i : Nat) (u : Value), vs[i]? = some u → ∃ n, u = Value.int .u8 n ∧ 0 ≤ n ∧ n ≤ 255) : ∃ zs, vs = bytesV zs := by
  induction vs with
  | nil => exact ⟨[], rfl⟩
  | cons v r ih =>
    obtain ⟨n, hn, h0, h1⟩ := h 0 v rfl
    obtain ⟨zs, hzs⟩ := ih (fun i u hu => h (i + 1) u (by simpa using hu))
    refine ⟨UInt8.ofNat n.toNat :: zs, ?_⟩
    rw [hn, hzs]
    have : ((UInt8.ofNat n.toNat).toNat : Int) = n := by
      rw [UInt8.toNat_ofNat']
      omega
    simp [bytesV]
    omega
theorem trod_u8 {H : Type} {enc : TypeId × Value → H} {P : Program} {w : World} {base : Nat} {spare : Nat → Bool} {held : Bool} {fuel : Nat} {t : TypeId} {v : Value} {x : DataW H × List MemPlace}
    (ht : P.underlying t = some (.int .u8)) (h : DataW.trod enc P w base spare held fuel t [v] = some x) : ∃ n, v = .int .u8 n ∧ 0 ≤ n ∧ n ≤ 255 := by
  obtain ⟨n, e1, _, e3⟩ := DataW.trod_int ht h
  refine ⟨n, by simpa using e1, ?_⟩
  simp [Lit.wf] at e3
  have a0 : IntKind.u8.min = 0 := by decide
  have a1 : IntKind.u8.max = 255 := by decide
  omega
theorem open_byteS {H : Type} {enc : TypeId × Value → H} {w : World} {spare : Nat → Bool} {held : Bool} {fuel : Nat} {v : Value} {x : DataW H × List MemPlace}
    (h : DataW.trod enc Tryz.prog w 0 spare held fuel 22 [v] = some x) : ∃ zs, RdU w w.heap.size v zs := by
  obtain ⟨n, vs, hr, hl, hk⟩ := open_row Tryz.underlying22 (by kernel_rfl) h
  obtain ⟨zs, rfl⟩ := u8_of vs (fun i u hu => by
    obtain ⟨f, y, hy⟩ := hk i u hu
    exact trod_u8 Tryz.underlying5 hy)
  have : zs.length = n := by simpa [bytesV] using hl
  subst this
  exact ⟨zs, hr⟩
theorem RdU.below {w w' : World} {hi : Nat} {v : Value} {zs : List UInt8} (h : RdU w hi v zs) {B : Nat} (hb : Below B w w') (hB : hi ≤ B) : RdU w' hi v zs := Rd.below h hb hB
set_option maxHeartbeats 400000 in
theorem qInts_same (xs : List Int) (v u : Value) (hi hj : Nat) (w : World) (h : RdI w hi v xs) (g : RdI w hj u xs) : Calls Tryz.prog 44 #[v, u] w fun e w' => e = .returned (.bool true) ∧ ∃ n, w' = w.drewN n := by
  obtain ⟨A, c, rfl, hc, hm⟩ := Rd.form h
  obtain ⟨A', c', rfl, hc', hm'⟩ := Rd.form g
  have H := Lib.hid h
  have G := Lib.hid g
  clear h g
  go_enter Tryz.func44, Tryz.ntmps44
  go_wp2
  go_loopw [13] (fun i wr => ∃ k : Nat, k ≤ xs.length ∧ i = .int .i64 k ∧ ∃ n, wr = w.drewN n) (fun i _ => xs.length - (intOf i).toNat)
  case atStart => exact ⟨0, Nat.zero_le _, rfl, 0, rfl⟩
  case round =>
    obtain ⟨k, hk, rfl, n, rfl⟩ := hrel
    by_cases hlt : k < xs.length
    · obtain ⟨b1, o1, c1, x, hv, _, hx, hcell1⟩ := Rd.at_ H.out hlt
      cases hv
      obtain ⟨b2, o2, c2, y, hv, _, hy, hcell2⟩ := Rd.at_ G.out hlt
      injection hv with hv1 hv2 hv3
      subst hv1
      rw [hx] at hy
      cases hy
      clear hx hv2 hv3
      go_wp2
      go_quiet (fail)
      go_wp2
      go_roundw
      case rel => exact ⟨k + 1, by omega, by go_num, _, rfl⟩
      case measure => simp [intOf]; omega
    · go_wp2
      go_ret
      exact ⟨rfl, _, rfl⟩
end Go.Proofs.YtjnkdjokbamibaaGreatDoor
/- Contracts for the laws over drawn things: equal lists are told equal, and nothing that was there changes. -/
namespace Go.Proofs.YtjnkdjokbamibaaGreatDoor
open Go.RowKit
theorem qInts_sameB (xs : List Int) (v u : Value) (hi hj : Nat) (w : World) (h : RdI w hi v xs) (g : RdI w hj u xs) : Calls Tryz.prog 44 #[v, u] w fun e w' => e = .returned (.bool true) ∧ Below w.heap.size w w' :=
  (qInts_same xs v u hi hj w h g).mono fun _ _ ⟨he, n, hw⟩ => ⟨he, by rw [hw]; exact bel_drewN _ _ _⟩
end Go.Proofs.YtjnkdjokbamibaaGreatDoor
/- Contracts for FnBooks: equal books are told equal; a number in a list. -/
namespace Go.Proofs.YtjnkdjokbamibaaGreatDoor
open Go.RowKit
set_option maxHeartbeats 400000 in
theorem qHas_any (xs : List Int) (n : Int) (v : Value) (hi : Nat) (w : World) (h : RdI w hi v xs) : Calls Tryz.prog 48 #[v, .int .i64 n] w fun e w' => e = .returned (.bool (decide (n ∈ xs))) ∧ w = w' := by
  obtain ⟨A, c, rfl, hc, hm⟩ := Rd.form h
  have H := Lib.hid h
  clear h
  go_enter Tryz.func48, Tryz.ntmps48
  go_wp2_with fail
  go_loop [9] (fun i => ∃ k : Nat, k ≤ xs.length ∧ i = .int .i64 (k : Int) ∧ Hid (n ∉ xs.take k)) (fun i => xs.length - (intOf i).toNat)
  case atStart => exact ⟨0, Nat.zero_le _, rfl, by show _ ∉ _; simp⟩
  case round =>
    obtain ⟨k, hk, rfl, HN⟩ := hrel
    by_cases hlt : k < xs.length
    · obtain ⟨b1, o1, c1, x, hv, _, hx, hcell1⟩ := Rd.at_ H.out hlt
      cases hv
      have HX := Lib.hid hx
      cases he : (x == n)
      · have hne := ne_of_beq_false he
        have HNE := Lib.hid hne
        clear hne hx
        go_wp2_with fail
        go_round
        case rel => exact ⟨k + 1, by omega, by go_num, by
          show _ ∉ _
          rw [take_snocI HX.out, List.mem_append, List.mem_singleton]
          rintro (h | h)
          · exact HN.out h
          · exact HNE.out h.symm⟩
        case measure => (simp [intOf]; try omega)
      · have heq := eq_of_beq he
        have HT : Hid (decide (n ∈ xs) = true) := decide_eq_true (by rw [← heq]; exact List.mem_of_getElem? hx)
        clear heq hx
        go_wp2_with fail
        go_ret
        exact ⟨ret_bool HT.out.symm, rfl⟩
    · have HT : Hid (decide (n ∈ xs) = false) := decide_eq_false (by have h := HN.out; rwa [List.take_of_length_le (by omega)] at h)
      go_wp2_with fail
      go_ret
      exact ⟨ret_bool HT.out.symm, rfl⟩
set_option maxRecDepth 100000 in
set_option maxHeartbeats 2000000 in
theorem qBook_sameB (ps : List Phr) (v u : Value) (hi hj : Nat) (w : World) (h : RdB w hi v ps) (g : RdB w hj u ps) (hh : hi ≤ w.heap.size := by omega) (hg : hj ≤ w.heap.size := by omega) :
    Calls Tryz.prog 43 #[v, u] w fun e w' => e = .returned (.bool true) ∧ Below w.heap.size w w' := by
  obtain ⟨a, rfl, ha⟩ := h
  obtain ⟨A, c, rfl, hc, hm⟩ := ha.form
  obtain ⟨b, rfl, hb⟩ := g
  obtain ⟨A', c', rfl, hc', hm'⟩ := hb.form
  have hba : Below w.heap.size w ((w.alloc (.cells #[.slice A ps.length c] 41)).alloc (.cells #[.slice A' ps.length c'] 41)) := ((Below.refl _ _).alloc (Nat.le_refl _) _).alloc (by simp) _
  have hX : Blk ((w.alloc (.cells #[.slice A ps.length c] 41)).alloc (.cells #[.slice A' ps.length c'] 41)) w.heap.size 41 [.slice A ps.length c] := (Blk.new w 41 #[.slice A ps.length c]).alloc _
  have hY : Blk ((w.alloc (.cells #[.slice A ps.length c] 41)).alloc (.cells #[.slice A' ps.length c'] 41)) (w.heap.size + 1) 41 [.slice A' ps.length c'] := by
    have := Blk.new (w.alloc (.cells #[.slice A ps.length c] 41)) 41 #[.slice A' ps.length c']
    simpa using this
  have H := Lib.hid (ha.below hba hh)
  have G := Lib.hid (hb.below hba hg)
  have hxc := hX.cell 0
  have hyc := hY.cell 0
  have HY := Lib.hid hY
  have HBA := Lib.hid hba
  have hsw : w.heap.size + 2 ≤ ((w.alloc (.cells #[.slice A ps.length c] 41)).alloc (.cells #[.slice A' ps.length c'] 41)).heap.size := by simp
  clear ha hb hba hX hY
  go_enter Tryz.func43, Tryz.ntmps43
  go_wp2_with fail
  generalize ((w.alloc (.cells #[.slice A ps.length c] 41)).alloc (.cells #[.slice A' ps.length c'] 41)) = wa at H G hxc hyc HY HBA hsw ⊢
  go_loopw [17] (fun i wr => ∃ k : Nat, k ≤ ps.length ∧ i = .int .i64 (k : Int) ∧ Hid (Below wa.heap.size wa wr)) (fun i _ => ps.length - (intOf i).toNat)
  case atStart => exact ⟨0, Nat.zero_le _, rfl, Below.refl _ _⟩
  case round =>
    obtain ⟨k, hk, rfl, HBR⟩ := hrel
    have hs := HBR.out.size
    clear hxc hyc
    by_cases hlt : k < ps.length
    · obtain ⟨b1, o1, c1, a, t, xs, hv, _, hx, hcell1, hcell2, hra, hta⟩ := (H.out.below HBR.out (by omega)).at_ hlt
      cases hv
      obtain ⟨b2, o2, c2, b, t', xs', hv, hb2, hx', hcell3, hcell4, hrb, htb⟩ := (G.out.below HBR.out (by omega)).at_ hlt
      cases hv
      rw [hx] at hx'
      cases hx'
      obtain ⟨A2, q2, rfl, _, _⟩ := Rd.form hra
      obtain ⟨A3, q3, rfl, _, _⟩ := Rd.form hrb
      obtain ⟨wx, hwx⟩ : ∃ wx, wx = wr.alloc (.cells #[.string t, .slice A2 xs.length q2] 45) := ⟨_, rfl⟩
      have hbx : Below wr.heap.size wr wx := by rw [hwx]; exact (Below.refl _ _).alloc (Nat.le_refl _) _
      have q0 : wx.cell? ⟨wr.heap.size, 0, Option.none⟩ = some (.string t) := by rw [hwx]; exact (Blk.new wr 45 #[.string t, .slice A2 xs.length q2]).cell 0
      have q1 : wx.cell? ⟨wr.heap.size, 1, Option.none⟩ = some (.slice A2 xs.length q2) := by rw [hwx]; exact (Blk.new wr 45 #[.string t, .slice A2 xs.length q2]).cell 1
      have hy0 := ((HY.out.below HBR.out (by omega)).below hbx (by omega)).cell 0
      have p3 := (hbx.cell (p := ⟨b2, o2 + k * 2, Option.none⟩) (by show b2 < _; omega)).trans hcell3
      have p4 := (hbx.cell (p := ⟨b2, o2 + k * 2 + 1, Option.none⟩) (by show b2 < _; omega)).trans hcell4
      have HA := Lib.hid (RdI.below hra hbx (by omega))
      have HB := Lib.hid (RdI.below hrb hbx (by omega))
      have HBX := Lib.hid (HBR.out.trans (hbx.mono hs))
      have HWX := Lib.hid hwx
      clear hx hra hrb hcell3 hcell4 hbx hwx
      go_wp2_with fail
      rw [← HWX.out]
      clear HWX hcell1 hcell2
      go_quiet ((go_at_call 44; exact Calls.quiet_of (qInts_same xs _ _ hi hj _ (by exact HA.out) (by exact HB.out))))
      go_wp2_with fail
      go_roundw
      case rel => exact ⟨k + 1, by omega, by go_num, HBX.out.trans (bel_drewN _ wx _)⟩
      case measure => (simp [intOf]; try omega)
    · have HB := Lib.hid (HBA.out.trans (HBR.out.mono (by omega)))
      go_wp2_with fail
      go_ret
      exact ⟨rfl, HB.out⟩
end Go.Proofs.YtjnkdjokbamibaaGreatDoor
/- Plain laws: the tables of how many ways there are from each place on; their bounds. -/
namespace Go.Proofs.YtjnkdjokbamibaaGreatDoor
/-- Phrases that fit at one place have lengths of their own. -/
def Apart (fit : Phr → Bool) (len : Phr → Nat) (r : Nat) (ps : List Phr) : Prop :=
  ps.Pairwise (fun p q => fit p = true → fit q = true → len p ≠ len q) ∧ ∀ p ∈ ps, fit p = true → 1 ≤ len p ∧ len p ≤ r
theorem Apart.take {fit : Phr → Bool} {len : Phr → Nat} {r : Nat} {ps : List Phr} (h : Apart fit len r ps) (j : Nat) : Apart fit len r (ps.take j) :=
  ⟨h.1.sublist (List.take_sublist j ps), fun p hp => h.2 p (List.mem_of_mem_take hp)⟩
end Go.Proofs.YtjnkdjokbamibaaGreatDoor
/- Contracts of the tests whether a book is valid, of the reference. -/
namespace Go.Proofs.YtjnkdjokbamibaaGreatDoor
open Go.RowKit
theorem bookB_no {ps : List Phr} {k : Nat} (hk : k < ps.length) (h : goodAt ps k = false) : bookB ps = false := by unfold bookB; rw [goodB_no hk h, Bool.and_false]
set_option maxRecDepth 100000 in
set_option maxHeartbeats 4000000 in
theorem bkGood_any (ps : List Phr) (v : Value) (hi : Nat) (w : World) (h : RdB w hi v ps) (hh : hi ≤ w.heap.size) :
    Calls Tryz.prog 69 #[v] w fun e w' => e = .returned (.bool (bookB ps)) ∧ Below w.heap.size w w' := by
  obtain ⟨a, rfl, ha⟩ := h
  obtain ⟨A, c, rfl, hc, hm⟩ := ha.form
  have hba : Below w.heap.size w (w.alloc (.cells #[.slice A ps.length c] 41)) := (Below.refl _ _).alloc (Nat.le_refl _) _
  have HBA := Lib.hid hba
  have H := Lib.hid (ha.below hba hh)
  have hbox : (w.alloc (.cells #[.slice A ps.length c] 41)).cell? ⟨w.heap.size, 0, Option.none⟩ = some (.slice A ps.length c) := (Blk.new w 41 #[.slice A ps.length c]).cell 0
  have HBOX := Lib.hid hbox
  clear ha hba hbox
  go_enter Tryz.func69, Tryz.ntmps69
  go_wp2_with fail
  go_loopw [8] (fun i wr => ∃ k : Nat, k ≤ ps.length ∧ i = .int .i64 k ∧ Hid (∀ j, j < k → goodAt ps j = true) ∧ Below (w.heap.size + 1) (w.alloc (.cells #[.slice A ps.length c] 41)) wr) (fun i _ => ps.length - (intOf i).toNat)
  case atStart => exact ⟨0, Nat.zero_le _, rfl, fun j hj => by omega, Below.refl _ _⟩
  case round =>
    obtain ⟨k, hk, rfl, hup, hbr⟩ := hrel
    have hs : w.heap.size + 1 ≤ wr.heap.size := by have := hbr.size; simpa using this
    have hboxr : wr.cell? ⟨w.heap.size, 0, Option.none⟩ = some (.slice A ps.length c) := (hbr.cell (p := ⟨w.heap.size, 0, Option.none⟩) (by show w.heap.size < _; omega)).trans HBOX.out
    by_cases hlt : k < ps.length
    · obtain ⟨b1, o1, c1, a, t, xs, hv, hb1, hx, hcell1, hcell2, hra, hta⟩ := (H.out.below hbr (by omega)).at_ hlt
      cases hv
      obtain ⟨A2, c2, rfl, hc2, hm2⟩ := Rd.form hra
      have HX := Lib.hid hx
      have HBR := Lib.hid (HBA.out.trans (hbr.mono (by omega)))
      have hbw1 : Below (w.heap.size + 1) (w.alloc (.cells #[.slice (some ⟨b1, o1, Option.none⟩) ps.length c] 41)) (wr.alloc (.cells #[.string t, .slice A2 xs.length c2] 45)) := hbr.alloc hs _
      have HBR2 := Lib.hid hbw1
      have hra2 := hra.below ((Below.refl wr.heap.size wr).alloc (Nat.le_refl _) (.cells #[.string t, .slice A2 xs.length c2] 45)) (by omega)
      have HRA := Lib.hid hra2
      have HPS : Hid (RdB (wr.alloc (.cells #[.string t, .slice A2 xs.length c2] 45)) hi (.agg #[.slice (some ⟨b1, o1, Option.none⟩) ps.length c]) ps) := ⟨_, rfl, H.out.below hbw1 (by omega)⟩
      have HPQ : Hid (RdPS (wr.alloc (.cells #[.string t, .slice A2 xs.length c2] 45)) hi (.slice (some ⟨b1, o1, Option.none⟩) ps.length c) ps) := H.out.below hbw1 (by omega)
      have hlat := fun {b o : Nat} {u : Value} (hq : (wr.alloc (.cells #[.string t, .slice A2 xs.length c2] 45)).cell? ⟨b, o, Option.none⟩ = some u) (hb : b < wr.heap.size + 1) => later_cell (B := wr.heap.size + 1) hq hb
      have l0 := hlat ((Blk.new wr 45 #[.string t, .slice A2 xs.length c2]).cell 0) (by omega)
      have l1 := hlat ((Blk.new wr 45 #[.string t, .slice A2 xs.length c2]).cell 1) (by omega)
      have lb := hlat ((hbw1.cell (p := ⟨w.heap.size, 0, Option.none⟩) (by show w.heap.size < _; omega)).trans HBOX.out) (by omega)
      clear hlat hra hra2 hx hbw1 hbr hboxr
      have hxs : wr.heap.size + 1 ≤ (wr.alloc (.cells #[.string t, .slice A2 xs.length c2] 45)).heap.size := by simp
      have HXS := Lib.hid hxs
      clear hxs
      have cT := fun x : LaterW (wr.heap.size + 1) (wr.alloc (.cells #[.string t, .slice A2 xs.length c2] 45)) => bkPhraseText_any t (by unfold maxLen; omega) x.val
      have cS := fun x : LaterW (wr.heap.size + 1) (wr.alloc (.cells #[.string t, .slice A2 xs.length c2] 45)) => bkSignals_any xs (.slice A2 xs.length c2) hi x.val (HRA.out.below x.bel (by omega))
      have cO := fun x : LaterW (wr.heap.size + 1) (wr.alloc (.cells #[.string t, .slice A2 xs.length c2] 45)) => bkOf_any ps xs (.agg #[.slice (some ⟨b1, o1, Option.none⟩) ps.length c]) (.slice A2 xs.length c2) hi hi x.val (HPS.out.below x.bel (by omega)) (HRA.out.below x.bel (by omega)) (by have := x.bel.size; have := HXS.out; omega) (by have := x.bel.size; have := HXS.out; omega)
      cases hp1 : phraseB t.data.toList
      · rw [hp1] at cT
        have CT := Lib.hid cT
        clear cT cS cO
        go_wp2_with fail
        refine wp_region_later (wr.heap.size + 1) (by kernel_rfl) (by kernel_rfl) ?_; (repeat (go_big_quiet_step ((go_at_call 100; exact later_same (CT.out _))))); refine later_nil ?_; intro w2 hb2
        go_wp2_with fail
        go_ret
        exact ⟨ret_bool (bookB_no hlt (goodAt_phr HX.out (by unfold phrOk; rw [hp1]; rfl))).symm, (HBA.out.trans (HBR2.out.mono (by omega))).trans (hb2.mono (by omega))⟩
      · cases hp2 : sigOk xs
        · rw [hp1] at cT
          rw [hp2] at cS
          have CT := Lib.hid cT
          have CS := Lib.hid cS
          clear cT cS cO
          go_wp2_with fail
          refine wp_region_later (wr.heap.size + 1) (by kernel_rfl) (by kernel_rfl) ?_; (repeat (go_big_quiet_step ((first | (go_at_call 100; exact later_same (CT.out _)) | (go_at_call 90; exact later_same (CS.out _)))))); refine later_nil ?_; intro w2 hb2
          go_wp2_with fail
          go_ret
          exact ⟨ret_bool (bookB_no hlt (goodAt_phr HX.out (by unfold phrOk; rw [hp1, hp2]; rfl))).symm, (HBA.out.trans (HBR2.out.mono (by omega))).trans (hb2.mono (by omega))⟩
        · have HP : Hid (phrOk (t, xs) = true) := by show phrOk (t, xs) = true; unfold phrOk; rw [hp1, hp2]; rfl
          rw [hp1] at cT
          rw [hp2] at cS
          have CT := Lib.hid cT
          have CS := Lib.hid cS
          have CO := Lib.hid cO
          clear cT cS cO
          rcases Nat.eq_zero_or_pos k with h0 | hpos
          · have hk0 : decide (0 < k) = false := by rw [decide_eq_false_iff_not]; omega
            have H0 := Lib.hid h0
            clear h0
            by_cases hix : sigIx ps xs = some k
            · have hne := ixI_eq hix
              have HIX := Lib.hid hix
              clear hix
              go_wp2_with fail
              refine wp_region_later (wr.heap.size + 1) (by kernel_rfl) (by kernel_rfl) ?_; (repeat (go_big_quiet_step ((first | (go_at_call 100; exact later_same (CT.out _)) | (go_at_call 90; exact later_same (CS.out _)) | (go_at_call 91; exact later_of (HXS.out) (CO.out _)))))); refine later_nil ?_; intro w2 hb2
              go_wp2_with fail
              go_roundw
              case rel => exact ⟨k + 1, by omega, by go_num, fun j hj => by
                obtain rfl : k = 0 := H0.out
                obtain rfl : j = 0 := by omega
                exact goodAt_0 HX.out HP.out HIX.out, HBR2.out.trans (hb2.mono (by omega))⟩
              case measure => simp [intOf]; omega
            · have hne := ixI_ne hix
              go_wp2_with fail
              refine wp_region_later (wr.heap.size + 1) (by kernel_rfl) (by kernel_rfl) ?_; (repeat (go_big_quiet_step ((first | (go_at_call 100; exact later_same (CT.out _)) | (go_at_call 90; exact later_same (CS.out _)) | (go_at_call 91; exact later_of (HXS.out) (CO.out _)))))); refine later_nil ?_; intro w2 hb2
              go_wp2_with fail
              go_ret
              exact ⟨ret_bool (bookB_no hlt (goodAt_ix HX.out hix)).symm, (HBA.out.trans (HBR2.out.mono (by omega))).trans (hb2.mono (by omega))⟩
          · have hk0 : decide (0 < k) = true := by rw [decide_eq_true_eq]; omega
            obtain ⟨b3, o3, c3, a3, q, ys, hv, hb3, hq, hcq, _, _, hqs⟩ := (HPQ.out).at_ (show k - 1 < ps.length by omega)
            cases hv
            have lq := later_cell (B := wr.heap.size + 1) hcq (by omega)
            have hi1 : (0 : Int) ≤ (k : Int) - 1 := by omega
            have hi2 : (k : Int) - 1 < (ps.length : Int) := by omega
            have hi3 : ((k : Int) - 1).toNat = k - 1 := by omega
            have HQ : Hid (ps[k - 1]? = some (q, ys)) := hq
            clear hq hcq
            have HK : Hid (∃ m, k = m + 1) := ⟨k - 1, by omega⟩
            cases hlt2 : ltT q t
            · have hl1 : Op.bytesLess q.toList t.toList = false := hlt2
              go_wp2_with fail
              refine wp_region_later (wr.heap.size + 1) (by kernel_rfl) (by kernel_rfl) ?_; (repeat (go_big_quiet_step ((first | (go_at_call 100; exact later_same (CT.out _)) | (go_at_call 90; exact later_same (CS.out _)) | (go_at_call 91; exact later_of (HXS.out) (CO.out _)))))); refine later_nil ?_; intro w2 hb2
              go_wp2_with fail
              go_ret
              refine ⟨ret_bool ?_, (HBA.out.trans (HBR2.out.mono (by omega))).trans (hb2.mono (by omega))⟩
              obtain ⟨m, rfl⟩ := HK.out
              exact (bookB_no hlt (goodAt_lt HX.out HQ.out hlt2)).symm
            · have hl1 : Op.bytesLess q.toList t.toList = true := hlt2
              by_cases hix : sigIx ps xs = some k
              · have hne := ixI_eq hix
                have HIX := Lib.hid hix
                clear hix
                go_wp2_with fail
                refine wp_region_later (wr.heap.size + 1) (by kernel_rfl) (by kernel_rfl) ?_; (repeat (go_big_quiet_step ((first | (go_at_call 100; exact later_same (CT.out _)) | (go_at_call 90; exact later_same (CS.out _)) | (go_at_call 91; exact later_of (HXS.out) (CO.out _)))))); refine later_nil ?_; intro w2 hb2
                go_wp2_with fail
                go_roundw
                case rel => exact ⟨k + 1, by omega, by go_num, fun j hj => by
                  by_cases e : j = k
                  · subst e
                    obtain ⟨m, rfl⟩ := HK.out
                    exact goodAt_s HX.out HQ.out HP.out hlt2 HIX.out
                  · exact hup.out j (by omega), HBR2.out.trans (hb2.mono (by omega))⟩
                case measure => simp [intOf]; omega
              · have hne := ixI_ne hix
                go_wp2_with fail
                refine wp_region_later (wr.heap.size + 1) (by kernel_rfl) (by kernel_rfl) ?_; (repeat (go_big_quiet_step ((first | (go_at_call 100; exact later_same (CT.out _)) | (go_at_call 90; exact later_same (CS.out _)) | (go_at_call 91; exact later_of (HXS.out) (CO.out _)))))); refine later_nil ?_; intro w2 hb2
                go_wp2_with fail
                go_ret
                exact ⟨ret_bool (bookB_no hlt (goodAt_ix HX.out hix)).symm, (HBA.out.trans (HBR2.out.mono (by omega))).trans (hb2.mono (by omega))⟩
    · obtain rfl : k = ps.length := by omega
      go_wp2_with (go_at_call 108; refine (l1In_any _ _ _ _).mono ?_; rintro e w' ⟨rfl, rfl⟩)
      go_ret
      refine ⟨ret_bool ?_, HBA.out.trans (hbr.mono (by omega))⟩
      unfold bookB
      rw [goodB_yes hup.out, Bool.and_true]
end Go.Proofs.YtjnkdjokbamibaaGreatDoor
/- Contracts of the tests whether a book is valid, of the program; of the search for a phrase by a predicate. -/
namespace Go.Proofs.YtjnkdjokbamibaaGreatDoor
open Go.RowKit
theorem zipC_take : ∀ (ts : List ByteArray) (us : List Value) (k : Nat), (zipC ts us).take (k * 2) = zipC (ts.take k) (us.take k)
  | [], us, k => by simp [zipC]
  | t :: ts, [], k => by simp [zipC]
  | t :: ts, u :: us, 0 => by simp [zipC]
  | t :: ts, u :: us, k + 1 => by simp only [zipC, List.take_succ_cons, show (k + 1) * 2 = k * 2 + 1 + 1 by omega, zipC_take ts us k]
theorem RowsR.take {w : World} {hi : Nat} {us : List Value} {xss : List (List Int)} (h : RowsR w hi us xss) (k : Nat) : RowsR w hi (us.take k) (xss.take k) := by
  refine ⟨by simp [h.1], fun i u xs hu hx => ?_⟩
  rw [List.getElem?_take] at hu hx
  split at hu
  · rename_i hlt; rw [if_pos hlt] at hx; exact h.2 i u xs hu hx
  · cases hu
theorem RdPS.cut {w : World} {hi n c : Nat} {A : Option Addr} {ps : List Phr} (h : RdPS w hi (.slice A n c) ps) {k : Nat} (hk : k ≤ ps.length) : RdPS w hi (.slice A k c) (ps.take k) := by
  obtain ⟨us, h1, ⟨h0, A', c', hv, h2, h3, h4⟩, ht⟩ := h
  cases hv
  refine ⟨us.take k, ?_, ⟨?_, A, c, ?_, ?_, h3, fun hp => ?_⟩, fun p hp => ht p (List.mem_of_mem_take hp)⟩
  · have := h1.take k; unfold sigs at *; rwa [← List.map_take] at this
  · have e := zipC_take (txts ps) us k
    unfold txts at *
    rw [← List.map_take] at e
    rw [← e, List.length_take, h0, List.length_take]; omega
  · rw [List.length_take]; congr 1; omega
  · rw [List.length_take]; omega
  · obtain ⟨b, off, hA, hb, hc⟩ := h4 (by rw [List.length_take] at hp; omega)
    refine ⟨b, off, hA, hb, fun j u hu => hc j u ?_⟩
    have e := zipC_take (txts ps) us k
    unfold txts at *
    rw [← List.map_take] at e
    rw [← e, List.getElem?_take] at hu
    split at hu
    · exact hu
    · cases hu
/-- What is asked of a predicate on phrases. -/
def PredP (g : Nat) (lb : Array Value) (hi : Nat) (p : Phr → Bool) (w : World) : Prop :=
  ∀ (W : World) (x : Phr) (u : Value), Below w.heap.size w W → RdI W hi u x.2 → x.1.size ≤ 9223372036854775807 → Calls Tryz.prog g (#[.agg #[.string x.1, u]] ++ lb) W fun e w' => e = .returned (.bool (p x)) ∧ Below W.heap.size W w'
set_option maxHeartbeats 800000 in
theorem indexP_any (ps : List Phr) (v : Value) (hi : Nat) (w : World) (g : Nat) (lb : Array Value) (p : Phr → Bool) (h : RdPS w hi v ps) (hh : hi ≤ w.heap.size) (hp : PredP g lb hi p w)
    (eg : ∀ args w, (callFunc g args).run Tryz.prog w = .ok (.enter g args) w) :
    Calls Tryz.prog 84 #[v, .func (.func g) #[] lb] w fun e w' => e = .returned (.int .i64 (ixI (ps.findIdx? p))) ∧ Below w.heap.size w w' := by
  obtain ⟨A, c, rfl, hc, hm⟩ := h.form
  have H := Lib.hid h
  have HP := Lib.hid hp
  clear h hp
  go_enter Tryz.func84, Tryz.ntmps84
  go_wp2
  go_loopw [8] (fun i wr => ∃ k : Nat, k ≤ ps.length ∧ i = .int .i64 k ∧ Hid (∀ j, j < k → ∀ x, ps[j]? = some x → p x = false) ∧ Below w.heap.size w wr) (fun i _ => ps.length - (intOf i).toNat)
  case atStart => exact ⟨0, Nat.zero_le _, rfl, fun j hj => by omega, Below.refl _ _⟩
  case round =>
    obtain ⟨k, hk, rfl, hno, hbr⟩ := hrel
    by_cases hlt : k < ps.length
    · obtain ⟨b1, o1, c1, a, t, xs, hv, _, hx, hcell1, hcell2, hra, hts⟩ := (H.out.below hbr hh).at_ hlt
      cases hv
      obtain ⟨A2, c2, rfl, hc2, hm2⟩ := Rd.form hra
      have hcall := HP.out wr (t, xs) _ hbr hra hts
      have HX := Lib.hid hx
      have hs := hbr.size
      have HBR := Lib.hid hbr
      clear hra hx hbr
      cases hq : p (t, xs)
      · have HQ := Lib.hid hq
        rw [hq] at hcall
        clear hq
        have HC := Lib.hid hcall
        clear hcall
        go_wp2_with (go_at_fn g; refine HC.out.mono ?_; rintro e w' ⟨rfl, hb'⟩)
        go_roundw
        case rel => exact ⟨k + 1, by omega, by go_num, fun j hj x hx => by
          by_cases e : j = k
          · subst e; rw [HX.out] at hx; cases hx; exact HQ.out
          · exact hno.out j (by omega) x hx, HBR.out.trans (hb'.mono hs)⟩
        case measure => simp [intOf]; omega
      · have HQ := Lib.hid hq
        rw [hq] at hcall
        clear hq
        have HC := Lib.hid hcall
        clear hcall
        go_wp2_with (go_at_fn g; refine HC.out.mono ?_; rintro e w' ⟨rfl, hb'⟩)
        go_ret
        refine ⟨ret_int ?_, HBR.out.trans (hb'.mono hs)⟩
        rw [findIdx_take (fun j hj x hx => hno.out j hj x hx) HX.out HQ.out]
        rfl
    · obtain rfl : k = ps.length := by omega
      go_wp2_with fail
      go_ret
      refine ⟨ret_int ?_, hbr⟩
      rw [findIdx_none (fun j x hx => hno.out j (List.getElem?_eq_some_iff.1 hx).1 x hx)]
      rfl
theorem phraseIndex1_any (x : Phr) (ys : List Int) (u s : Value) (B hi hj : Nat) (w : World) (h : RdI w hi u x.2) (g : RdI w hj s ys) (hh : hi ≤ w.heap.size) (hg : hj ≤ w.heap.size) (hB : B < w.heap.size) (hc : w.cell? ⟨B, 0, Option.none⟩ = some s) :
    Calls Tryz.prog 115 #[.agg #[.string x.1, u], .pointer (some ⟨B, 0, Option.none⟩)] w fun e w' => e = .returned (.bool (decide (x.2 = ys))) ∧ Below w.heap.size w w' := by
  obtain ⟨A, c, rfl, hc1, hm⟩ := Rd.form h
  obtain ⟨A', c', rfl, hc2, hm'⟩ := Rd.form g
  have hba : Below w.heap.size w (w.alloc (.cells #[.string x.1, .slice A x.2.length c] 45)) := (Below.refl _ _).alloc (Nat.le_refl _) _
  have H := Lib.hid (RdI.below h hba hh)
  have G := Lib.hid (RdI.below g hba hg)
  clear h g
  go_enter Tryz.func115, Tryz.ntmps115
  go_wp2_with fail
  refine (slicesEqual_any x.2 ys _ _ hi hj _ H.out G.out).mono ?_
  rintro e w' ⟨rfl, n, rfl⟩
  go_wp2_with fail
  go_ret
  exact ⟨rfl, hba.trans (bel_drewN _ _ _)⟩
theorem phraseIndex_any (ps : List Phr) (xs : List Int) (v u : Value) (hi hj : Nat) (w : World) (h : RdB w hi v ps) (g : RdI w hj u xs) (hh : hi ≤ w.heap.size) (hg : hj ≤ w.heap.size) :
    Calls Tryz.prog 89 #[v, u] w fun e w' => e = .returned (.int .i64 (ixI (sigIx ps xs))) ∧ Below w.heap.size w w' := by
  obtain ⟨a, rfl, ha⟩ := h
  obtain ⟨A, c, rfl, hc, hm⟩ := ha.form
  obtain ⟨A', c', rfl, hc', hm'⟩ := Rd.form g
  have hba : Below w.heap.size w ((w.alloc (.cells #[.slice A ps.length c] 41)).alloc (.cells #[.slice A' xs.length c'] 24)) := ((Below.refl _ _).alloc (Nat.le_refl _) _).alloc (by simp) _
  have H := Lib.hid (ha.below hba hh)
  have G := Lib.hid (RdI.below g hba hg)
  clear ha g
  have HB := Lib.hid hba
  clear hba
  have hcap : ((w.alloc (.cells #[.slice A ps.length c] 41)).alloc (.cells #[.slice A' xs.length c'] 24)).cell? ⟨w.heap.size + 1, 0, Option.none⟩ = some (.slice A' xs.length c') := by
    have := (Blk.new (w.alloc (.cells #[.slice A ps.length c] 41)) 24 #[.slice A' xs.length c']).cell 0
    simp at this ⊢
  have hpred : PredP 115 #[.pointer (some ⟨w.heap.size + 1, 0, Option.none⟩)] hi (fun p => decide (p.2 = xs)) ((w.alloc (.cells #[.slice A ps.length c] 41)).alloc (.cells #[.slice A' xs.length c'] 24)) := by
    intro W x u hb hu _
    have hs := hb.size
    have h2 : ((w.alloc (.cells #[.slice A ps.length c] 41)).alloc (.cells #[.slice A' xs.length c'] 24)).heap.size = w.heap.size + 1 + 1 := by simp
    refine phraseIndex1_any x xs u (.slice A' xs.length c') (w.heap.size + 1) hi hj W hu (RdI.below G.out hb (by omega)) (by omega) (by omega) (by omega) ?_
    exact (hb.cell (p := ⟨w.heap.size + 1, 0, Option.none⟩) (by show w.heap.size + 1 < _; omega)).trans hcap
  have HPR := Lib.hid hpred
  have HC := Lib.hid (indexP_any ps _ hi _ _ _ _ H.out (by simp; omega) HPR.out (enters_of Tryz.func115 (by kernel_rfl) rfl))
  clear hpred hcap
  go_enter Tryz.func89, Tryz.ntmps89
  go_wp2_with fail
  refine HC.out.mono ?_
  rintro e w' ⟨rfl, hb'⟩
  go_wp2_with fail
  go_ret
  exact ⟨rfl, HB.out.trans (hb'.mono (by simp; omega))⟩
set_option maxHeartbeats 400000 in
theorem isPhrase_any (p : Phr) (v : Value) (hi : Nat) (w : World) (h : RdP w hi v p) (hh : hi ≤ w.heap.size) : Calls Tryz.prog 75 #[v] w fun e w' => e = .returned (.bool (phrOk p)) ∧ Below w.heap.size w w' := by
  obtain ⟨u, rfl, hu, ht⟩ := h
  obtain ⟨A, c, rfl, hc, hm⟩ := Rd.form hu
  have hba : Below w.heap.size w (w.alloc (.cells #[.string p.1, .slice A p.2.length c] 45)) := (Below.refl _ _).alloc (Nat.le_refl _) _
  have H := Lib.hid (RdI.below hu hba hh)
  clear hu
  have cT := IsPhraseText_any p.1 (by unfold maxLen; omega)
  have cA := allWithin_any p.2 1 60 (.slice A p.2.length c) hi _ H.out
  unfold phrOk sigOk
  cases h1 : phraseB p.1.data.toList
  · rw [h1] at cT
    have CT := Lib.hid cT
    clear cT cA
    go_enter Tryz.func75, Tryz.ntmps75
    go_wp2_with (go_at_call 45; refine (CT.out _).mono ?_; rintro e w' ⟨rfl, rfl⟩)
    go_ret
    exact ⟨rfl, hba⟩
  · rw [h1] at cT
    cases h2 : inB p.2.length 1 3
    · have CT := Lib.hid cT
      clear cT cA
      go_enter Tryz.func75, Tryz.ntmps75
      go_wp2_with (first | (go_at_call 45; refine (CT.out _).mono ?_; rintro e w' ⟨rfl, rfl⟩) | (go_at_call 87; refine (within_any _ _ _ _).mono ?_; rintro e w' ⟨rfl, rfl⟩))
      go_ret
      exact ⟨rfl, hba⟩
    · have CT := Lib.hid cT
      have CA := Lib.hid cA
      clear cT cA
      go_enter Tryz.func75, Tryz.ntmps75
      go_wp2_with (first | (go_at_call 45; refine (CT.out _).mono ?_; rintro e w' ⟨rfl, rfl⟩) | (go_at_call 87; refine (within_any _ _ _ _).mono ?_; rintro e w' ⟨rfl, rfl⟩) | (go_at_call 88; refine (CA.out).mono ?_; rintro e w' ⟨rfl, rfl⟩))
      go_ret
      exact ⟨rfl, hba⟩
theorem sigIx_take {ps : List Phr} {k : Nat} {p : Phr} (hp : ps[k]? = some p) : sigIx ps p.2 = some k ↔ sigIx (ps.take k) p.2 = Option.none := by
  unfold sigIx
  have hk := (List.getElem?_eq_some_iff.1 hp).1
  constructor
  · intro h
    rw [List.findIdx?_eq_none_iff]
    intro x hx
    rw [List.findIdx?_eq_some_iff_getElem] at h
    obtain ⟨_, _, h3⟩ := h
    obtain ⟨j, hj⟩ := List.getElem?_of_mem hx
    rw [List.getElem?_take] at hj
    split at hj
    · rename_i hlt
      have := h3 j hlt
      have e := (List.getElem?_eq_some_iff.1 hj).2
      rw [← e]; simpa using this
    · cases hj
  · intro h
    rw [List.findIdx?_eq_none_iff] at h
    refine findIdx_take (fun j hj x hx => h x ?_) hp (by simp)
    exact List.mem_of_getElem? (by rw [List.getElem?_take, if_pos hj]; exact hx)
theorem ixI_nonneg {o : Option Nat} : (0 ≤ ixI o) ↔ o ≠ Option.none := by cases o <;> simp [ixI]
end Go.Proofs.YtjnkdjokbamibaaGreatDoor
