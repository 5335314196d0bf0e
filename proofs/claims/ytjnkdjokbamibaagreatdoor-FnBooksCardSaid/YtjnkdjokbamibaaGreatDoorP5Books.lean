/- Texts of one claim, joined: J3, C1, K, D3. -/
import Derived.Deep.QuietTactic
import Derived.BigQuiet
import Derived.Test.YtjnkdjokbamibaaGreatDoorP4Books
/- Contracts: a drawn text with edits. -/
namespace Go.Proofs.YtjnkdjokbamibaaGreatDoor
open Go.RowKit
set_option maxRecDepth 100000 in
set_option maxHeartbeats 4000000 in
theorem spoilt_any (t s : ByteArray) (C m : Nat) (w : World) (h : Cur w C m) (hm : m ≤ 1099511600000) (ht : t.size ≤ 1000000) (hs1 : 1 ≤ s.size) (hs2 : s.size ≤ 1000) :
    Calls Tryz.prog 65 #[.pointer (some ⟨C, 0, Option.none⟩), .string t, .string s] w fun e w' => ∃ t' : ByteArray, e = .returned (.string t') ∧ t'.size ≤ t.size + 2 ∧ Cur w' C (m + 20) ∧ KeepG C (C + 1) w w' := by
  have c1 := Lib.hid (pick_any 2 C m w h (by omega) (by omega) (by omega))
  clear h
  go_enter Tryz.func65, Tryz.ntmps65
  go_wp2_with fail
  refine c1.out.mono ?_
  rintro e w1 ⟨z1, rfl, ⟨hz0, hz1⟩, hc1, hk1⟩
  obtain ⟨k0, rfl⟩ : ∃ k : Nat, z1 = (k : Int) := ⟨z1.toNat, by omega⟩
  have HC1 := Lib.hid hc1
  have HK1 := Lib.hid hk1
  clear hc1 hk1
  go_wp2_with fail
  go_loopw [1, 7] (fun q i wr => ∃ (k : Nat) (t' : ByteArray), k ≤ 2 ∧ i = .int .i64 (k : Int) ∧ q = .string t' ∧ t'.size + k ≤ t.size + 2 ∧ Hid (Cur wr C (m + 2 + (2 - k) * 6)) ∧ Hid (KeepG C (C + 1) w wr)) (fun _ i _ => (intOf i).toNat)
  case atStart => exact ⟨1 + k0, t, by omega, by go_num, rfl, by omega, HC1.out.mono (by omega), HK1.out⟩
  case round =>
    obtain ⟨k, t', hk2, rfl, rfl, hts, hc, hk⟩ := hrel
    by_cases hk0 : 0 < k
    · by_cases ht0 : 0 < t'.size
      · have cI := Lib.hid (pick_any (t'.size : Int) C (m + 2 + (2 - k) * 6) wr hc.out (by omega) (by omega) (by omega))
        clear hc
        go_wp2_with fail
        refine cI.out.mono ?_
        rintro e w2 ⟨zi, rfl, ⟨hi0, hi1⟩, hc2, hk2'⟩
        obtain ⟨i, rfl⟩ : ∃ k : Nat, zi = (k : Int) := ⟨zi.toNat, by omega⟩
        have HK2 := Lib.hid (hk.out.trans hk2')
        have cJ := Lib.hid (pick_any (s.size : Int) C _ w2 hc2 (by omega) (by omega) (by omega))
        clear hc2 hk2' hk
        go_wp2_with fail
        refine cJ.out.mono ?_
        rintro e w3 ⟨zj, rfl, ⟨hj0, hj1⟩, hc3, hk3⟩
        obtain ⟨j, rfl⟩ : ∃ k : Nat, zj = (k : Int) := ⟨zj.toNat, by omega⟩
        have hjs : j < s.size := by omega
        obtain ⟨sw, hsw⟩ : ∃ sw : ByteArray, sw = ⟨#[UInt8.ofNat ((s[j].toNat : Int)).toNat]⟩ := ⟨_, rfl⟩
        have hcv := fun wr' => conv_one (s[j].toNat : Int) (by omega) (by have := UInt8.toNat_lt s[j]; omega) wr'
        rw [← hsw] at hcv
        have hsw1 : sw.size = 1 := by rw [hsw]; rfl
        have cL := Lib.hid (pick_any 3 C _ (w3.alloc (.cells #[.int .u8 (s[j].toNat : Int)] 5)) (hc3.alloc _) (by omega) (by omega) (by omega))
        have HK3 := Lib.hid ((HK2.out.trans hk3).trans (below_g ((Below.refl _ w3).alloc (Nat.le_refl _) (.cells #[.int .u8 (s[j].toNat : Int)] 5))))
        clear hc3 hk3 hsw
        go_wp2_with fail
        refine cL.out.mono ?_
        rintro e w5 ⟨zl, rfl, ⟨hl0, hl1⟩, hc5, hk5⟩
        have HC5 := Lib.hid hc5
        have HK5 := Lib.hid (HK3.out.trans hk5)
        clear hc5 hk5 hcv hz0 hz1 hi0
        have hil : i < t'.size := by omega
        have hl3 : zl = 0 ∨ zl = 1 ∨ zl = 2 := by omega
        clear hl0 hl1
        rcases hl3 with rfl | rfl | rfl
        · go_wp2_with fail
          go_quiet (fail)
          go_wp2_with fail
          have HCX := Lib.hid (HC5.out.mono (m' := m + 2 + (2 - (k - 1)) * 6) (by omega))
          have HKX := Lib.hid (HK5.out.trans (KeepG.drawN _ nq))
          go_roundw
          case rel => exact ⟨k - 1, _, by omega, by go_num, rfl, by (simp [ByteArray.size_append, ByteArray.size_extract]; omega), HCX.out, HKX.out⟩
          case measure => (simp [intOf]; try omega)
        · go_wp2_with fail
          go_quiet (fail)
          go_wp2_with fail
          have HCX := Lib.hid (HC5.out.mono (m' := m + 2 + (2 - (k - 1)) * 6) (by omega))
          have HKX := Lib.hid (HK5.out.trans (KeepG.drawN _ nq))
          go_roundw
          case rel => exact ⟨k - 1, _, by omega, by go_num, rfl, by (simp [ByteArray.size_append, ByteArray.size_extract]; omega), HCX.out, HKX.out⟩
          case measure => (simp [intOf]; try omega)
        · go_wp2_with fail
          go_quiet (fail)
          go_wp2_with fail
          have HCX := Lib.hid (HC5.out.mono (m' := m + 2 + (2 - (k - 1)) * 6) (by omega))
          have HKX := Lib.hid (HK5.out.trans (KeepG.drawN _ nq))
          go_roundw
          case rel => exact ⟨k - 1, _, by omega, by go_num, rfl, by (simp [ByteArray.size_append, ByteArray.size_extract]; omega), HCX.out, HKX.out⟩
          case measure => (simp [intOf]; try omega)
      · go_wp2_with fail
        go_ret
        exact ⟨_, rfl, by omega, hc.out.mono (by omega), hk.out⟩
    · go_wp2_with fail
      go_ret
      exact ⟨_, rfl, by omega, hc.out.mono (by omega), hk.out⟩
end Go.Proofs.YtjnkdjokbamibaaGreatDoor
/- Contracts of the comparisons of lists and of their beginnings, of the program and of the reference. -/
namespace Go.Proofs.YtjnkdjokbamibaaGreatDoor
open Go.RowKit
/-- A slice cut off at its end. -/
theorem Rd.cut {w : World} {hi n c : Nat} {A : Option Addr} {xs : List Value} (h : Rd w hi 1 (.slice A n c) n xs) {k : Nat} (hk : k ≤ n) : Rd w hi 1 (.slice A k c) k (xs.take k) := by
  obtain ⟨h0, A', c', hv, h1, h2, h3⟩ := h
  cases hv
  refine ⟨by rw [List.length_take]; omega, A, c, rfl, by omega, h2, fun hp => ?_⟩
  obtain ⟨b, off, hA, hb, hc⟩ := h3 (by omega)
  refine ⟨b, off, hA, hb, fun j u hu => hc j u ?_⟩
  rw [List.getElem?_take] at hu
  split at hu
  · exact hu
  · cases hu
theorem RdI.cut {w : World} {hi c : Nat} {A : Option Addr} {xs : List Int} (h : RdI w hi (.slice A xs.length c) xs) {k : Nat} (hk : k ≤ xs.length) : RdI w hi (.slice A k c) (xs.take k) := by
  have h1 := Rd.cut h hk
  have hl : (xs.take k).length = k := by rw [List.length_take]; omega
  unfold RdI
  rw [hl]
  simpa [ints] using h1
set_option maxHeartbeats 400000 in
theorem l1Same_any (xs ys : List Int) (v u : Value) (hi hj : Nat) (w : World) (h : RdI w hi v xs) (g : RdI w hj u ys) : Calls Tryz.prog 117 #[v, u] w fun e w' => e = .returned (.bool (decide (xs = ys))) ∧ ∃ n, w' = w.drewN n := by
  obtain ⟨A, c, rfl, hc, hm⟩ := Rd.form h
  obtain ⟨A', c', rfl, hc', hm'⟩ := Rd.form g
  have H := Lib.hid h
  have G := Lib.hid g
  clear h g
  by_cases hl : xs.length = ys.length
  · have HL := Lib.hid hl
    rw [← hl]
    rw [← hl] at hc' hm'
    clear hl
    go_enter Tryz.func117, Tryz.ntmps117
    go_wp2
    go_loopw [13] (fun i wr => ∃ k : Nat, k ≤ xs.length ∧ i = .int .i64 k ∧ Hid (xs.take k = ys.take k) ∧ ∃ n, wr = w.drewN n) (fun i _ => xs.length - (intOf i).toNat)
    case atStart => exact ⟨0, Nat.zero_le _, rfl, rfl, 0, rfl⟩
    case round =>
      obtain ⟨k, hk, rfl, heq, n, rfl⟩ := hrel
      by_cases hlt : k < xs.length
      · obtain ⟨b1, o1, c1, x, hv, _, hx, hcell1⟩ := Rd.at_ H.out hlt
        cases hv
        obtain ⟨b2, o2, c2, y, hv, _, hy, hcell2⟩ := Rd.at_ G.out (by rw [← HL.out]; exact hlt)
        have HX := Lib.hid hx
        have HY := Lib.hid hy
        injection hv with hv1 hv2 hv3
        subst hv1
        clear hx hy hv2 hv3
        by_cases hxy : x = y
        · subst hxy
          go_wp2
          go_quiet (fail)
          go_wp2
          go_roundw
          case rel => exact ⟨k + 1, by omega, by go_num, eq_take HX.out HY.out heq.out, _, rfl⟩
          case measure => simp [intOf]; omega
        · have hbe : (x == y) = false := by simpa using hxy
          have hbn : (x != y) = true := by simpa using hxy
          go_wp2
          go_quiet (fail)
          go_wp2
          go_ret
          exact ⟨ret_bool (eq_no HX.out HY.out hxy).symm, _, World.drewN_drewN _ _ _⟩
      · go_wp2
        go_ret
        exact ⟨ret_bool (eq_full hlt HL.out heq.out).symm, _, rfl⟩
  · have hne : (((xs.length : Nat) : Int) != ((ys.length : Nat) : Int)) = true := by rw [bne_iff_ne]; omega
    go_enter Tryz.func117, Tryz.ntmps117
    go_wp2
    go_ret
    refine ⟨ret_bool ?_, 0, rfl⟩
    symm; rw [decide_eq_false_iff_not]; rintro rfl; exact hl rfl
set_option maxHeartbeats 400000 in
theorem slicesEqual_any (xs ys : List Int) (v u : Value) (hi hj : Nat) (w : World) (h : RdI w hi v xs) (g : RdI w hj u ys) : Calls Tryz.prog 116 #[v, u] w fun e w' => e = .returned (.bool (decide (xs = ys))) ∧ ∃ n, w' = w.drewN n := by
  obtain ⟨A, c, rfl, hc, hm⟩ := Rd.form h
  obtain ⟨A', c', rfl, hc', hm'⟩ := Rd.form g
  have H := Lib.hid h
  have G := Lib.hid g
  clear h g
  by_cases hl : xs.length = ys.length
  · have HL := Lib.hid hl
    rw [← hl]
    rw [← hl] at hc' hm'
    clear hl
    go_enter Tryz.func116, Tryz.ntmps116
    go_wp2
    go_loopw [13] (fun i wr => ∃ k : Nat, k ≤ xs.length ∧ i = .int .i64 k ∧ Hid (xs.take k = ys.take k) ∧ ∃ n, wr = w.drewN n) (fun i _ => xs.length - (intOf i).toNat)
    case atStart => exact ⟨0, Nat.zero_le _, rfl, rfl, 0, rfl⟩
    case round =>
      obtain ⟨k, hk, rfl, heq, n, rfl⟩ := hrel
      by_cases hlt : k < xs.length
      · obtain ⟨b1, o1, c1, x, hv, _, hx, hcell1⟩ := Rd.at_ H.out hlt
        cases hv
        obtain ⟨b2, o2, c2, y, hv, _, hy, hcell2⟩ := Rd.at_ G.out (by rw [← HL.out]; exact hlt)
        have HX := Lib.hid hx
        have HY := Lib.hid hy
        injection hv with hv1 hv2 hv3
        subst hv1
        clear hx hy hv2 hv3
        by_cases hxy : x = y
        · subst hxy
          go_wp2
          go_quiet (fail)
          go_wp2
          go_roundw
          case rel => exact ⟨k + 1, by omega, by go_num, eq_take HX.out HY.out heq.out, _, rfl⟩
          case measure => simp [intOf]; omega
        · have hbe : (x == y) = false := by simpa using hxy
          have hbn : (x != y) = true := by simpa using hxy
          go_wp2
          go_quiet (fail)
          go_wp2
          go_ret
          exact ⟨ret_bool (eq_no HX.out HY.out hxy).symm, _, World.drewN_drewN _ _ _⟩
      · go_wp2
        go_ret
        exact ⟨ret_bool (eq_full hlt HL.out heq.out).symm, _, rfl⟩
  · have hne : (((xs.length : Nat) : Int) != ((ys.length : Nat) : Int)) = true := by rw [bne_iff_ne]; omega
    go_enter Tryz.func116, Tryz.ntmps116
    go_wp2
    go_ret
    refine ⟨ret_bool ?_, 0, rfl⟩
    symm; rw [decide_eq_false_iff_not]; rintro rfl; exact hl rfl
end Go.Proofs.YtjnkdjokbamibaaGreatDoor
/- A drawn region whose operations only read old memory and whose calls may lay new memory: one walk in the order of the text serves every order. Facts on worlds that came later. -/
namespace Go.Proofs.YtjnkdjokbamibaaGreatDoor
open Go Go.RowKit
/-- A world in which all below block B is as in w. -/
structure LaterW (B : Nat) (w : World) where
  val : World
  bel : Below B w val
instance laterSome {B : Nat} {w : World} : Nonempty (LaterW B w) := ⟨⟨w, Below.refl _ _⟩⟩
theorem wp_region_later {P : Program} {id : Nat} {Q : Exit → Act → World → Prop} {a : Act} {w : World} {l : List Oper} (B : Nat) (hm : P.follows .mixedOrders = true) (hB : Region.lexB .any l.toArray = true)
    (h : wpQuiet P l.toArray (fun w' => ∃ x : LaterW B w, w' = x.val) (fun a' => ∀ w', (∃ x : LaterW B w, w' = x.val) → Q .normal a' w') l a) : (Code.region id l.toArray true).wp P Q a w :=
  wp_region_quiet (C := fun w' => ∃ x : LaterW B w, w' = x.val) hm hB ⟨⟨_, bel_drewN B w 1⟩, rfl⟩ (by simpa using h)
theorem later_nil {P : Program} {ops : Array Oper} {C : World → Prop} {B : Nat} {w : World} {a : Act} {Q : Act → World → Prop}
    (h : ∀ w', Below B w w' → Q a w') : wpQuiet P ops C (fun a' => ∀ w', (∃ x : LaterW B w, w' = x.val) → Q a' w') [] a :=
  wpQuiet_nil fun _ ⟨x, e⟩ => e ▸ h _ x.bel
theorem later_of {P : Program} {f : FuncId} {args : Array Value} {B : Nat} {w : World} {x : LaterW B w} {v : Value} (hB : B ≤ w.heap.size)
    (h : Calls P f args x.val fun e w' => e = .returned v ∧ Below x.val.heap.size x.val w') : Calls P f args x.val fun e w'' => e = .returned v ∧ ∃ y : LaterW B w, w'' = y.val :=
  h.mono fun _ w' ⟨he, hb⟩ => ⟨he, ⟨w', x.bel.trans (hb.mono (by have := x.bel.size; omega))⟩, rfl⟩
theorem later_same {P : Program} {f : FuncId} {args : Array Value} {B : Nat} {w : World} {x : LaterW B w} {v : Value}
    (h : Calls P f args x.val fun e w' => e = .returned v ∧ x.val = w') : Calls P f args x.val fun e w'' => e = .returned v ∧ ∃ y : LaterW B w, w'' = y.val :=
  h.mono fun _ _ ⟨he, hb⟩ => ⟨he, x, hb.symm⟩
theorem later_cell {B : Nat} {w : World} {b o : Nat} {v : Value} (h : w.cell? ⟨b, o, Option.none⟩ = some v) (hb : b < B) : ∀ x : LaterW B w, x.val.cell? ⟨b, o, Option.none⟩ = some v :=
  fun x => (x.bel.cell (p := ⟨b, o, Option.none⟩) hb).trans h
end Go.Proofs.YtjnkdjokbamibaaGreatDoor
/- Contracts of the tests whether a book is valid, of the reference. -/
namespace Go.Proofs.YtjnkdjokbamibaaGreatDoor
open Go.RowKit
def sigOk (xs : List Int) : Bool := inB xs.length 1 3 && allB xs 1 60
theorem bkSignals_any (xs : List Int) (v : Value) (hi : Nat) (w : World) (h : RdI w hi v xs) : Calls Tryz.prog 90 #[v] w fun e w' => e = .returned (.bool (sigOk xs)) ∧ w = w' := by
  obtain ⟨A, c, hv, hc, hm⟩ := Rd.form h
  have H := Lib.hid h
  clear h
  unfold sigOk
  cases hl : inB xs.length 1 3
  · rw [Bool.false_and]
    subst hv
    go_enter Tryz.func90, Tryz.ntmps90
    go_wp2_with (first | (go_at_call 108; refine (l1In_any _ _ _ _).mono ?_; rintro e w' ⟨rfl, rfl⟩) | (go_at_call 103; refine (l1All_any xs _ _ _ hi _ H.out).mono ?_; rintro e w' ⟨rfl, rfl⟩))
    go_ret
    exact ⟨rfl, rfl⟩
  · rw [Bool.true_and]
    subst hv
    go_enter Tryz.func90, Tryz.ntmps90
    go_wp2_with (first | (go_at_call 108; refine (l1In_any _ _ _ _).mono ?_; rintro e w' ⟨rfl, rfl⟩) | (go_at_call 103; refine (l1All_any xs _ _ _ hi _ H.out).mono ?_; rintro e w' ⟨rfl, rfl⟩))
    go_ret
    exact ⟨rfl, rfl⟩
/-- The place of the phrase with some signals. -/
def sigIx (ps : List Phr) (xs : List Int) : Option Nat := ps.findIdx? fun p => decide (p.2 = xs)
def ixI : Option Nat → Int
  | some i => (i : Int)
  | Option.none => -1
theorem findIdx_take {α : Type} {f : α → Bool} {l : List α} {k : Nat} (h : ∀ j, j < k → ∀ x, l[j]? = some x → f x = false) {x : α} (hx : l[k]? = some x) (hf : f x = true) : l.findIdx? f = some k := by
  induction l generalizing k with
  | nil => simp at hx
  | cons a r ih =>
    rw [List.findIdx?_cons]
    cases k with
    | zero => simp at hx; subst hx; rw [hf]; rfl
    | succ k =>
      have ha : f a = false := h 0 (by omega) a rfl
      rw [ha]
      have := ih (k := k) (fun j hj x hx => h (j + 1) (by omega) x (by simpa using hx)) (by simpa using hx)
      rw [this]; rfl
theorem findIdx_none {α : Type} {f : α → Bool} {l : List α} (h : ∀ (j : Nat) (x : α), l[j]? = some x → f x = false) : l.findIdx? f = Option.none := by
  rw [List.findIdx?_eq_none_iff]
  intro x hx
  obtain ⟨j, hj⟩ := List.getElem?_of_mem hx
  exact h j x hj
set_option maxHeartbeats 800000 in
theorem bkOf_any (ps : List Phr) (xs : List Int) (v u : Value) (hi hj : Nat) (w : World) (h : RdB w hi v ps) (g : RdI w hj u xs) (hh : hi ≤ w.heap.size) (hg : hj ≤ w.heap.size) :
    Calls Tryz.prog 91 #[v, u] w fun e w' => e = .returned (.int .i64 (ixI (sigIx ps xs))) ∧ Below w.heap.size w w' := by
  obtain ⟨a, rfl, ha⟩ := h
  obtain ⟨A, c, rfl, hc, hm⟩ := ha.form
  have hba : Below w.heap.size w (w.alloc (.cells #[.slice A ps.length c] 41)) := (Below.refl _ _).alloc (Nat.le_refl _) _
  have H := Lib.hid ha
  have G := Lib.hid g
  clear ha g
  go_enter Tryz.func91, Tryz.ntmps91
  go_wp2_with fail
  go_loopw [10] (fun i wr => ∃ k : Nat, k ≤ ps.length ∧ i = .int .i64 k ∧ Hid (∀ j, j < k → ∀ x, ps[j]? = some x → decide (x.2 = xs) = false) ∧ Below w.heap.size w wr) (fun i _ => ps.length - (intOf i).toNat)
  case atStart => exact ⟨0, Nat.zero_le _, rfl, fun j hj => by omega, hba⟩
  case round =>
    obtain ⟨k, hk, rfl, hno, hbr⟩ := hrel
    by_cases hlt : k < ps.length
    · obtain ⟨b1, o1, c1, a, t, ys, hv, hb1, hx, hcell1, hcell2, hra, hta⟩ := (H.out.below hbr hh).at_ hlt
      cases hv
      obtain ⟨A2, c2, rfl, hc2, hm2⟩ := Rd.form hra
      have hs := hbr.size
      have hb2 : Below w.heap.size w (wr.alloc (.cells #[.string t, .slice A2 ys.length c2] 45)) := hbr.alloc hs _
      have HA := Lib.hid (hra.below ((Below.refl wr.heap.size wr).alloc (Nat.le_refl _) (.cells #[.string t, .slice A2 ys.length c2] 45)) (by omega))
      have HX := Lib.hid hx
      clear hra hx
      by_cases hys : ys = xs
      · have HYS := Lib.hid hys
        clear hys
        go_wp2_with fail
        refine (l1Same_any ys xs _ _ hi hj _ HA.out (Rd.below G.out hb2 hg)).mono ?_
        rw [decide_eq_true HYS.out]
        rintro e w' ⟨rfl, n, rfl⟩
        go_wp2_with fail
        go_ret
        refine ⟨ret_int ?_, hb2.trans (bel_drewN _ _ _)⟩
        unfold sigIx
        rw [findIdx_take (fun j hj x hx => hno.out j hj x hx) HX.out (decide_eq_true HYS.out)]
        rfl
      · have HYS : Hid (decide (ys = xs) = false) := decide_eq_false hys
        clear hys
        go_wp2_with fail
        refine (l1Same_any ys xs _ _ hi hj _ HA.out (Rd.below G.out hb2 hg)).mono ?_
        rw [HYS.out]
        rintro e w' ⟨rfl, n, rfl⟩
        go_wp2_with fail
        go_roundw
        case rel => exact ⟨k + 1, by omega, by go_num, fun j hj x hx => by
          by_cases e : j = k
          · subst e; rw [HX.out] at hx; cases hx; exact HYS.out
          · exact hno.out j (by omega) x hx, hb2.trans (bel_drewN _ _ _)⟩
        case measure => simp [intOf]; omega
    · obtain rfl : k = ps.length := by omega
      go_wp2_with fail
      go_ret
      refine ⟨ret_int ?_, hbr⟩
      unfold sigIx
      rw [findIdx_none (fun j x hx => hno.out j (List.getElem?_eq_some_iff.1 hx).1 x hx)]
      rfl
def ltT (a b : ByteArray) : Bool := Op.bytesLess a.toList b.toList
def phrOk (p : Phr) : Bool := phraseB p.1.data.toList && sigOk p.2
/-- Is the phrase at j fine, and fine behind those before it? -/
def goodAt (ps : List Phr) (j : Nat) : Bool := match ps[j]? with
  | some p => phrOk p && ((match j with | 0 => true | i + 1 => match ps[i]? with | some q => ltT q.1 p.1 | Option.none => true) && (sigIx ps p.2 == some j))
  | Option.none => true
def goodB (ps : List Phr) : Bool := (List.range ps.length).all fun j => goodAt ps j
def bookB (ps : List Phr) : Bool := inB ps.length 1 40 && goodB ps
theorem goodB_no {ps : List Phr} {k : Nat} (hk : k < ps.length) (h : goodAt ps k = false) : goodB ps = false := by
  unfold goodB; rw [List.all_eq_false]; exact ⟨k, List.mem_range.2 hk, by simp [h]⟩
theorem goodB_yes {ps : List Phr} (h : ∀ j, j < ps.length → goodAt ps j = true) : goodB ps = true := by
  unfold goodB; rw [List.all_eq_true]; intro j hj; exact h j (List.mem_range.1 hj)
theorem goodAt_phr {ps : List Phr} {k : Nat} {p : Phr} (hp : ps[k]? = some p) (h : phrOk p = false) : goodAt ps k = false := by unfold goodAt; rw [hp]; simp [h]
theorem goodAt_lt {ps : List Phr} {k : Nat} {p q : Phr} (hp : ps[k + 1]? = some p) (hq : ps[k]? = some q) (h : ltT q.1 p.1 = false) : goodAt ps (k + 1) = false := by unfold goodAt; rw [hp]; simp [hq, h]
theorem goodAt_ix {ps : List Phr} {k : Nat} {p : Phr} (hp : ps[k]? = some p) (h : sigIx ps p.2 ≠ some k) : goodAt ps k = false := by unfold goodAt; rw [hp]; simp [h]
theorem goodAt_0 {ps : List Phr} {p : Phr} (hp : ps[0]? = some p) (h : phrOk p = true) (h2 : sigIx ps p.2 = some 0) : goodAt ps 0 = true := by unfold goodAt; rw [hp]; simp [h, h2]
theorem goodAt_s {ps : List Phr} {k : Nat} {p q : Phr} (hp : ps[k + 1]? = some p) (hq : ps[k]? = some q) (h : phrOk p = true) (h1 : ltT q.1 p.1 = true) (h2 : sigIx ps p.2 = some (k + 1)) : goodAt ps (k + 1) = true := by unfold goodAt; rw [hp]; simp [h, h1, h2, hq]
theorem ixI_ne {o : Option Nat} {k : Nat} (h : o ≠ some k) : (ixI o != (k : Int)) = true := by
  rw [bne_iff_ne]; intro e; apply h
  cases o with
  | none => simp only [ixI] at e; omega
  | some i => simp only [ixI] at e; congr 1; omega
theorem ixI_eq {o : Option Nat} {k : Nat} (h : o = some k) : (ixI o != (k : Int)) = false := by subst h; simp [ixI]
end Go.Proofs.YtjnkdjokbamibaaGreatDoor
