/- Texts of one claim, joined: P, A1, A2, M1, M2, M3, O, M4, M5, D1, O3, D2, Y1, C1, K, D3, E1, D4. -/
import Derived.Test.YtjnkdjokbamibaaDoorRows
import Derived.WalkKit
import Derived.ProofKit
import Derived.OpenShut
import Derived.Below
import Derived.ChangeSame
import Derived.WideKeyArgs
import Derived.WalkLawsBesides
import Derived.WalkSpells
import Derived.Lib.Hide
import Derived.Laws.AppendOwn
import Derived.OwnWalk
import Derived.Test.YtjnkdjokbamibaaDoorShelf
import Derived.Laws.MakeOwn
import Derived.Laws.Entries
import Derived.Deep.QuietTactic
import Derived.BigQuiet
import Derived.Deep.Slices
import Derived.Deep.SlicePairs
import Derived.Lib.SmallJoins
import Derived.StillTailTactics
import Derived.Lib.SplitLaws
import Derived.Lib.AtoiAll
import Derived.Lib.ItoaMem
import Derived.Lib.Join
/- The step from a walk to a row: a law that returns true and leaves all old memory as it was meets its row's post. -/
namespace Go.Proofs.YtjnkdjokbamibaaDoor
open Go.ChangeShapes Go.WideShapes Go.ChangeAt Go.RowKit Go.WideElems
theorem own : ownKnob Tryd.prog.godebug = Option.none := by kernel_rfl
theorem laidOut : laidOutB Tryd.prog = true := by kernel_rfl
theorem trodAll_stays {H : Type} {enc : TypeId × Value → H} {P : Program} (hl : laidOutB P = true) {W W' : World} {sp' : Nat → Bool} : ∀ (ts : List TypeId) (vs : List Value) (ds : List (DataW H)) (ps : List MemPlace),
    (ts.all fun t => P.readableRec t && decide (t < P.types.size)) = true → DataW.TrodAll enc P W 0 (fun _ => true) true ts vs ds ps → (∀ p ∈ ps, W.sameAt W' p) → (∀ p ∈ ps, sp' p.block = true) → DataW.TrodAll enc P W' 0 sp' true ts vs ds ps
  | [], vs, ds, ps, _, h, _, _ => by
    obtain ⟨rfl, rfl, rfl⟩ := trodAll_nil h
    exact trodAll_mk0
  | t :: ts, vs, ds, ps, hr, h, hs, hp => by
    obtain ⟨v, vs', d, ds', p, q, rfl, rfl, rfl, h0, h1⟩ := trodAll_cons h
    simp only [List.all_cons, Bool.and_eq_true, decide_eq_true_eq] at hr
    exact trodAll_cons_mk (Trod_stays hl hr.1.1 hr.1.2 h0 (fun x hx => hs x (List.mem_append_left _ hx)) (fun x hx => hp x (List.mem_append_left _ hx)))
      (trodAll_stays hl ts vs' ds' q hr.2 h1 (fun x hx => hs x (List.mem_append_right _ hx)) (fun x hx => hp x (List.mem_append_right _ hx)))
set_option maxRecDepth 100000 in
/-- The post of a law. -/
theorem law_post {H : Type} {enc : TypeId × Value → H} {f : Func} {s : ChangeSpec} {apart fresh handsOn again : Bool} {W W' : World} {args : Array Value} {ds gs : List (DataW H)} {before : List MemPlace}
    (hW : DataW.Whole enc Tryd.prog f.params.toList s.vars apart W args.toList ds gs before) (hvars : s.vars = []) (hrt : f.resultTypes = #[4])
    (hr : (f.params.toList.all fun t => Tryd.prog.readableRec t && decide (t < Tryd.prog.types.size)) = true)
    (hfn : (s.fn H (ds ++ gs)) = { results := [.lit (.bool true)], args := ds }) (hb : Below W.heap.size W W') :
    s.post enc Tryd.prog f apart fresh handsOn again W args (.bool true) W' := by
  have hlt : ∀ p ∈ before, p.block < W.heap.size := fun p hp => hW.lt p hp
  have hold : ∀ p ∈ before, (fun b => decide (b < W.heap.size)) p.block = true := fun p hp => by simpa using hlt p hp
  have hW0 := hW
  obtain ⟨p, q, hA, hV, rfl, hz, hn⟩ := hW
  rw [hvars] at hV
  obtain ⟨rfl, rfl⟩ := trodVars_none hV
  simp only [List.append_nil] at hlt hold hW0 hz hn
  have hres : ∀ (b : Nat) (sp : Nat → Bool) (hd : Bool), DataW.TrodAll enc Tryd.prog W' b sp hd f.resultTypes.toList ((Value.bool true).resultList f.resultTypes.size) (s.fn H (ds ++ [])).results [] := fun b sp hd => by
    rw [hfn, hrt]; exact trodAll_cons_mk (shut_bool Tryd.underlying4 _) trodAll_mk0
  have hargs : ∀ sp : Nat → Bool, (∀ x ∈ p, sp x.block = true) → DataW.TrodAll enc Tryd.prog W' 0 sp true f.params.toList args.toList (s.fn H (ds ++ [])).args p := fun sp hsp => by
    rw [hfn]; exact trodAll_stays laidOut _ _ _ _ hr hA (fun x hx => hb.same (hlt x hx)) hsp
  have hvs : ∀ sp : Nat → Bool, (∀ x ∈ p, sp x.block = true) → DataW.TrodVars enc Tryd.prog W' sp s.vars (s.fn H (ds ++ [])).vars [] := fun sp _ => by
    rw [hfn, hvars]; rfl
  refine ⟨ds, [], p, [], p, [], hW0, hres _ _ _, hargs _ hold, hvs _ hold, World.keptBut_mono (fun x hx => ⟨hx, ?_⟩) (hb.frame (· ∈ p)), fun _ => ?_⟩
  · exact Or.inr (by simpa using hx)
  · refine ⟨?_, _, _, ([] ++ p) ++ [], ⟨[] ++ p, [], trodAll_append (hargs _ (fun _ _ => rfl)) (hres _ _ _), hvs _ (fun _ _ => rfl), rfl, ?_, ?_⟩, ?_⟩
    · exact ok_one hrt rfl (okWide_bool_mk Tryd.underlying4 _)
    · intro b off hp
      have hin : MemPlace.cell b off ∈ p := by simpa using hp
      rw [hb.frozen (hlt _ hin)]
      exact hz b off hin
    · intro ha
      simpa using hn ha
    · intro x hx _
      simpa using hx
end Go.Proofs.YtjnkdjokbamibaaDoor
/- Contracts of the small functions on signals: each computes what the plain Lean function beside it says and leaves the world alone. -/
namespace Go.Proofs.YtjnkdjokbamibaaDoor
open Go.RowKit
def inB (n a b : Int) : Bool := decide (a ≤ n) && decide (n ≤ b)
theorem inB_iff {n a b : Int} : inB n a b = true ↔ a ≤ n ∧ n ≤ b := by simp [inB]
theorem within_any (n a b : Int) (w : World) : Calls Tryd.prog 52 #[.int .i64 n, .int .i64 a, .int .i64 b] w fun e w' => e = .returned (.bool (inB n a b)) ∧ w = w' := by
  go_enter Tryd.func52, Tryd.ntmps52
  go_wp2
  all_goals go_ret
  all_goals refine ⟨?_, rfl⟩
  all_goals simp [inB]; omega
theorem l1In_any (n a b : Int) (w : World) : Calls Tryd.prog 43 #[.int .i64 n, .int .i64 a, .int .i64 b] w fun e w' => e = .returned (.bool (inB n a b)) ∧ w = w' := by
  go_enter Tryd.func43, Tryd.ntmps43
  go_wp2
  all_goals go_ret
  all_goals refine ⟨?_, rfl⟩
  all_goals simp [inB]; omega
end Go.Proofs.YtjnkdjokbamibaaDoor
/- Contracts of the functions on letters and on the texts of signals: each computes what the plain Lean function beside it says and leaves the world alone. -/
namespace Go.Proofs.YtjnkdjokbamibaaDoor
open Go.RowKit
/-- Letters a to z alone. -/
def smallB (l : List UInt8) : Bool := l.all fun c => decide (97 ≤ c.toNat) && decide (c.toNat ≤ 122)
theorem take_snoc (s : ByteArray) (k : Nat) (h : k < s.size) : s.data.toList.take (k + 1) = s.data.toList.take k ++ [s[k]] := by
  rw [List.take_succ_eq_append_getElem (by simpa using h)]; rfl
theorem smallB_step (s : ByteArray) (k : Nat) (h : k < s.size) (ht : smallB (s.data.toList.take k) = true) (h1 : 97 ≤ s[k].toNat) (h2 : s[k].toNat ≤ 122) : smallB (s.data.toList.take (k + 1)) = true := by
  rw [take_snoc s k h]; unfold smallB at *; rw [List.all_append, ht]; simp [h1, h2]
theorem smallB_no (s : ByteArray) (k : Nat) (h : k < s.size) (h1 : ¬ (97 ≤ s[k].toNat ∧ s[k].toNat ≤ 122)) : smallB s.data.toList = false := by
  unfold smallB
  rw [List.all_eq_false]
  refine ⟨s[k], ?_, ?_⟩
  · exact List.getElem_mem (l := s.data.toList) (by simpa using h)
  · simpa using h1
theorem smallB_all (s : ByteArray) (k : Nat) (h : ¬ k < s.size) (ht : smallB (s.data.toList.take k) = true) : smallB s.data.toList = true := by
  rwa [List.take_of_length_le (by simp; omega)] at ht
theorem ret_bool {a b : Bool} (h : a = b) : Ending.returned (.bool a) = Ending.returned (.bool b) := by rw [h]
theorem ret_int {k : IntKind} {a b : Int} (h : a = b) : Ending.returned (.int k a) = .returned (.int k b) := by rw [h]
def phraseB (l : List UInt8) : Bool := decide (1 ≤ l.length) && decide (l.length ≤ 12) && smallB l
theorem phraseB_in (l : List UInt8) (h : 1 ≤ l.length) (h1 : l.length ≤ 12) : phraseB l = smallB l := by simp [phraseB, h, h1]
theorem phraseB_out (l : List UInt8) (h : ¬ (1 ≤ l.length ∧ l.length ≤ 12)) : phraseB l = false := by
  unfold phraseB
  by_cases h1 : 1 ≤ l.length
  · simp [show ¬ l.length ≤ 12 by omega]
  · simp [h1]
theorem phraseB_of (s : ByteArray) (b : Bool) (h : (smallB s.data.toList && decide (s.size ≤ 12)) = b) : phraseB s.data.toList = (b && !s.toList.isEmpty) := by
  subst h
  rw [ByteArray.toList_eq]
  unfold phraseB
  have e : s.data.toList.length = s.size := by simp
  rw [e]
  have e2 : (!s.data.toList.isEmpty) = decide (1 ≤ s.size) := by
    rw [← e]; cases s.data.toList <;> simp
  rw [e2]
  cases smallB s.data.toList <;> cases decide (s.size ≤ 12) <;> cases decide (1 ≤ s.size) <;> rfl
theorem ret_val {a b : Value} (h : a = b) : Ending.returned a = Ending.returned b := by rw [h]
theorem isSmall_any (s : ByteArray) (hs : s.size ≤ maxLen) (w : World) : Calls Tryd.prog 89 #[.string s] w fun e w' => e = .returned (.bool (smallB s.data.toList)) ∧ w = w' := by
  unfold maxLen at hs
  go_enter Tryd.func89, Tryd.ntmps89
  go_wp2
  go_loop [3] (fun i => ∃ k : Nat, k ≤ s.size ∧ i = .int .i64 k ∧ Hid (smallB (s.data.toList.take k) = true)) (fun i => s.size - (intOf i).toNat)
  case atStart => exact ⟨0, Nat.zero_le _, rfl, rfl⟩
  case round =>
    obtain ⟨k, hk, rfl, hsm⟩ := hrel
    by_cases hlt : k < s.size
    · go_wp2
      · go_ret
        exact ⟨ret_bool (smallB_no s k hlt (by omega)).symm, rfl⟩
      · go_round
        case rel => exact ⟨k + 1, by omega, by go_num, smallB_step s k hlt hsm.out (by omega) (by omega)⟩
        case measure => simp [intOf]; omega
      · go_ret
        exact ⟨ret_bool (smallB_no s k hlt (by omega)).symm, rfl⟩
    · go_wp2
      go_ret
      exact ⟨ret_bool (smallB_all s k hlt hsm.out).symm, rfl⟩
theorem IsPhraseText_any (s : ByteArray) (hs : s.size ≤ maxLen) (w : World) : Calls Tryd.prog 71 #[.string s] w fun e w' => e = .returned (.bool (phraseB s.data.toList)) ∧ w = w' := by
  unfold maxLen at hs
  go_enter Tryd.func71, Tryd.ntmps71
  go_wp2_with (go_at_call 89; refine (isSmall_any _ hs _).mono ?_; rintro e w' ⟨rfl, rfl⟩)
  all_goals go_ret
  all_goals refine ⟨ret_bool ?_, rfl⟩
  · rw [phraseB_in _ (by simp; omega) (by simp; omega)]
  · rw [phraseB_out _ (by simp; omega)]
  · rw [phraseB_out _ (by simp; omega)]
theorem bkLetters_any (s : ByteArray) (hs : s.size ≤ maxLen) (w : World) : Calls Tryd.prog 65 #[.string s] w fun e w' => e = .returned (.bool (smallB s.data.toList && decide (s.size ≤ 12))) ∧ w = w' := by
  unfold maxLen at hs
  go_enter Tryd.func65, Tryd.ntmps65
  go_wp2
  go_loop [3] (fun i => ∃ k : Nat, k ≤ s.size ∧ i = .int .i64 k ∧ Hid (smallB (s.data.toList.take k) = true)) (fun i => s.size - (intOf i).toNat)
  case atStart => exact ⟨0, Nat.zero_le _, rfl, rfl⟩
  case round =>
    obtain ⟨k, hk, rfl, hsm⟩ := hrel
    by_cases hlt : k < s.size
    · go_wp2
      · go_ret
        exact ⟨ret_bool (by rw [smallB_no s k hlt (by omega)]; rfl), rfl⟩
      · go_round
        case rel => exact ⟨k + 1, by omega, by go_num, smallB_step s k hlt hsm.out (by omega) (by omega)⟩
        case measure => simp [intOf]; omega
      · go_ret
        exact ⟨ret_bool (by rw [smallB_no s k hlt (by omega)]; rfl), rfl⟩
    · go_wp2
      go_ret
      exact ⟨ret_bool (by rw [smallB_all s k hlt hsm.out, Bool.true_and]; exact decide_eq_decide.2 (by omega)), rfl⟩
theorem bkPhraseText_any (s : ByteArray) (hs : s.size ≤ maxLen) (w : World) : Calls Tryd.prog 44 #[.string s] w fun e w' => e = .returned (.bool (phraseB s.data.toList)) ∧ w = w' := by
  cases hsm : (smallB s.data.toList && decide (s.size ≤ 12))
  · go_enter Tryd.func44, Tryd.ntmps44
    go_wp2_with (go_at_call 65; refine (bkLetters_any _ hs _).mono ?_; rintro e w' ⟨rfl, rfl⟩)
    go_ret
    exact ⟨ret_bool (phraseB_of s false hsm).symm, rfl⟩
  · go_enter Tryd.func44, Tryd.ntmps44
    go_wp2_with (go_at_call 65; refine (bkLetters_any _ hs _).mono ?_; rintro e w' ⟨rfl, rfl⟩)
    go_ret
    exact ⟨ret_bool (phraseB_of s true hsm).symm, rfl⟩
end Go.Proofs.YtjnkdjokbamibaaDoor
/- Words on slices of integers in memory: one that can be read, one that the call has made, one that it appends to. -/
namespace Go.Proofs.YtjnkdjokbamibaaDoor
open Go.RowKit
/-- The slice value v of n elements, size cells each, reads as the cells xs; they lie in a block below number hi. -/
def Rd (w : World) (hi size : Nat) (v : Value) (n : Nat) (xs : List Value) : Prop :=
  xs.length = n * size ∧ ∃ A c, v = .slice A n c ∧ n ≤ c ∧ c ≤ maxLen ∧ (0 < n → ∃ b off, A = some ⟨b, off, Option.none⟩ ∧ b < hi ∧ ∀ j u, xs[j]? = some u → w.cell? ⟨b, off + j, Option.none⟩ = some u)
abbrev ints (xs : List Int) : List Value := xs.map (Value.int .i64)
def RdI (w : World) (hi : Nat) (v : Value) (xs : List Int) : Prop := Rd w hi 1 v xs.length (ints xs)
/-- v is a row of ints of the call's own, in a block from lo to below hi. -/
def OwI (w : World) (lo hi : Nat) (v : Value) (xs : List Int) : Prop := w.ownsRow lo 3 1 v xs.length (ints xs) ∧ ∀ k, v.ownBlock = some k → k < hi
/-- v is what has been appended since the world w; below block number B nothing has turned. -/
def GrowI (w : World) (B : Nat) (wr : World) (v : Value) (xs : List Int) : Prop := wr.ownsRow B 3 1 v xs.length (ints xs) ∧ Below B w wr ∧ B ≤ wr.heap.size
theorem Rd.below {w w' : World} {hi size n : Nat} {v : Value} {xs : List Value} (h : Rd w hi size v n xs) {B : Nat} (hb : Below B w w') (hB : hi ≤ B) : Rd w' hi size v n xs := by
  obtain ⟨h0, A, c, h1, h2, h3, h4⟩ := h
  refine ⟨h0, A, c, h1, h2, h3, fun hn => ?_⟩
  obtain ⟨b, off, hA, hbl, hc⟩ := h4 hn
  exact ⟨b, off, hA, hbl, fun j u hu => (hb.cell (p := ⟨b, off + j, Option.none⟩) (by show b < B; omega)).trans (hc j u hu)⟩
theorem Rd.mono {w : World} {hi hi' size n : Nat} {v : Value} {xs : List Value} (h : Rd w hi size v n xs) (hB : hi ≤ hi') : Rd w hi' size v n xs := by
  obtain ⟨h0, A, c, h1, h2, h3, h4⟩ := h
  refine ⟨h0, A, c, h1, h2, h3, fun hn => ?_⟩
  obtain ⟨b, off, hA, hbl, hc⟩ := h4 hn
  exact ⟨b, off, hA, by omega, hc⟩
theorem RdI.below {w w' : World} {hi : Nat} {v : Value} {xs : List Int} (h : RdI w hi v xs) {B : Nat} (hb : Below B w w') (hB : hi ≤ B) : RdI w' hi v xs := Rd.below h hb hB
theorem RdI.mono {w : World} {hi hi' : Nat} {v : Value} {xs : List Int} (h : RdI w hi v xs) (hB : hi ≤ hi') : RdI w hi' v xs := Rd.mono h hB
theorem rd_of_owns {w : World} {lo hi size n : Nat} {e : TypeId} {v : Value} {xs : List Value} (h : w.ownsRow lo e size v n xs) (hh : ∀ k, v.ownBlock = some k → k < hi) : Rd w hi size v n xs := by
  refine ⟨h.1, ?_⟩
  have hc := fun g => h.cells (g := g)
  rcases h.2 with ⟨rfl, rfl⟩ | ⟨g, cap, cur, rfl, hb, hg, hn, hm, hs, ht⟩
  · exact ⟨Option.none, 0, rfl, Nat.le_refl _, Nat.zero_le _, fun h => absurd h (by omega)⟩
  · refine ⟨some ⟨g, 0, Option.none⟩, cap, rfl, hn, hm, fun _ => ⟨g, 0, rfl, hh g rfl, fun j u hu => ?_⟩⟩
    have := hc g rfl j u hu
    have hadd : (⟨g, 0, Option.none⟩ : Addr).add j = ⟨g, 0 + j, Option.none⟩ := by unfold Addr.add; split <;> simp_all
    rwa [hadd] at this
theorem OwI.rd {w : World} {lo hi : Nat} {v : Value} {xs : List Int} (h : OwI w lo hi v xs) : RdI w hi v xs := rd_of_owns h.1 h.2
theorem OwI.below {w w' : World} {lo hi : Nat} {v : Value} {xs : List Int} (h : OwI w lo hi v xs) {B : Nat} (hb : Below B w w') (hB : hi ≤ B) : OwI w' lo hi v xs := by
  refine ⟨⟨h.1.1, ?_⟩, h.2⟩
  have h2 := h.2
  rcases h.1.2 with hn | ⟨g, cap, cur, rfl, hl, hg, rest⟩
  · exact .inl hn
  · exact .inr ⟨g, cap, cur, rfl, hl, (hb.block g (by have := h2 g rfl; omega)).trans hg, rest⟩
theorem GrowI.own {w wr : World} {B : Nat} {v : Value} {xs : List Int} (h : GrowI w B wr v xs) : OwI wr B wr.heap.size v xs := ⟨h.1, fun k hk => (h.1.lt k hk).2⟩
theorem GrowI.bel {w wr : World} {B : Nat} {v : Value} {xs : List Int} (h : GrowI w B wr v xs) : Below B w wr := h.2.1
theorem info_int : (Tryd.prog.info? 3).map (fun i => (i.zero, i.size, i.bytes)) = some (some (.int .i64 0), 1, 8) := by kernel_rfl
end Go.Proofs.YtjnkdjokbamibaaDoor
/- Contracts of the functions that gather the closed shutters of a signal, and of the distances. -/
namespace Go.Proofs.YtjnkdjokbamibaaDoor
open Go.RowKit
/-- A result that is a row of ints of the call's own. -/
def RetOwI (xs : List Int) (w : World) (e : Ending) (w' : World) : Prop := ∃ v, e = .returned v ∧ OwI w' w.heap.size w'.heap.size v xs ∧ Below w.heap.size w w'
end Go.Proofs.YtjnkdjokbamibaaDoor
/- Contracts of the helpers of the laws on slices of integers: copies, comparisons, marks; and of the tests that all numbers of a list lie within bounds. -/
namespace Go.Proofs.YtjnkdjokbamibaaDoor
open Go.RowKit
/-- Block g is just the cells cs of element type t. -/
def Blk (w : World) (g : Nat) (t : TypeId) (cs : List Value) : Prop := w.heap[g]? = some (.cells cs.toArray t (0, 0))
section
variable {w w' : World} {g : Nat} {t : TypeId} {cs : List Value}
theorem Blk.lt (h : Blk w g t cs) : g < w.heap.size := by
  rcases Nat.lt_or_ge g w.heap.size with hlt | hge
  · exact hlt
  · unfold Blk at h; rw [Array.getElem?_eq_none hge] at h; cases h
theorem Blk.cell (h : Blk w g t cs) (i : Nat) : w.cell? ⟨g, i, Option.none⟩ = cs[i]? := by
  have := cell_of_row w g i cs.toArray t (0, 0) h
  rw [this]; simp
theorem Blk.frozen (h : Blk w g t cs) (i : Nat) : w.frozen? ⟨g, i, Option.none⟩ = false := by
  unfold Blk at h
  simp [World.frozen?, h]
theorem Blk.new (w : World) (t : TypeId) (cs : Array Value) : Blk (w.alloc (.cells cs t)) w.heap.size t cs.toList := heap_alloc_new w _
theorem Blk.alloc (h : Blk w g t cs) (o : Obj) : Blk (w.alloc o) g t cs := (Below.heap_alloc w o g h.lt).trans h
theorem Blk.set_ (h : Blk w g t cs) (i : Nat) (u : Value) : Blk (w.setCell ⟨g, i, Option.none⟩ u) g t (cs.set i u) := by
  unfold Blk at h ⊢
  simp [World.setCell, Array.getElem?_modify, h]
theorem Blk.below {B : Nat} (h : Blk w g t cs) (hb : Below B w w') (hg : g < B) : Blk w' g t cs := (hb.block g hg).trans h
end
theorem bel_drewN (B : Nat) (w : World) (n : Nat) : Below B w (w.drewN n) := ⟨rfl, rfl, rfl, Nat.le_refl _, fun _ _ => rfl⟩
theorem set_mid (A B : List Value) (u v : Value) : (A ++ u :: B).set A.length v = A ++ v :: B := by
  rw [List.set_append_right _ _ (Nat.le_refl _)]; simp
/-- Nothing outside the blocks from lo to below hi has turned, and none has come. -/
structure Keep (lo hi : Nat) (w w' : World) : Prop where
  os : w'.os = w.os
  tape : w'.tape = w.tape
  output : w'.output = w.output
  size : w'.heap.size = w.heap.size
  block : ∀ k, k < lo ∨ hi ≤ k → w'.heap[k]? = w.heap[k]?
theorem Keep.refl (lo hi : Nat) (w : World) : Keep lo hi w w := ⟨rfl, rfl, rfl, rfl, fun _ _ => rfl⟩
theorem Keep.trans {lo hi : Nat} {a b c : World} (h : Keep lo hi a b) (k : Keep lo hi b c) : Keep lo hi a c :=
  ⟨k.os.trans h.os, k.tape.trans h.tape, k.output.trans h.output, k.size.trans h.size, fun i hi => (k.block i hi).trans (h.block i hi)⟩
theorem Keep.mono {lo hi lo' hi' : Nat} {w w' : World} (h : Keep lo hi w w') (h1 : lo' ≤ lo) (h2 : hi ≤ hi') : Keep lo' hi' w w' :=
  ⟨h.os, h.tape, h.output, h.size, fun k hk => h.block k (by omega)⟩
theorem Keep.setCell {lo hi : Nat} {a w : World} (h : Keep lo hi a w) {p : Addr} (h1 : lo ≤ p.block) (h2 : p.block < hi) (u : Value) : Keep lo hi a (w.setCell p u) :=
  h.trans ⟨rfl, rfl, rfl, by simp [World.setCell], fun k hk => Below.heap_setCell _ _ _ _ (by omega)⟩
theorem Keep.bel {lo hi : Nat} {w w' : World} (h : Keep lo hi w w') : Below lo w w' := ⟨h.os, h.tape, h.output, Nat.le_of_eq h.size.symm, fun k hk => h.block k (.inl hk)⟩
/-- Nothing but block b has turned, and none has come. -/
structure Only (b : Option Nat) (w w' : World) : Prop where
  os : w'.os = w.os
  tape : w'.tape = w.tape
  output : w'.output = w.output
  size : w'.heap.size = w.heap.size
  block : ∀ k, some k ≠ b → w'.heap[k]? = w.heap[k]?
theorem Only.refl (b : Option Nat) (w : World) : Only b w w := ⟨rfl, rfl, rfl, rfl, fun _ _ => rfl⟩
theorem Only.setCell {b : Nat} {a w : World} (h : Only (some b) a w) {p : Addr} (hp : p.block = b) (u : Value) : Only (some b) a (w.setCell p u) :=
  ⟨h.os, h.tape, h.output, by simpa [World.setCell] using h.size, fun k hk => (Below.heap_setCell _ _ _ _ (by rintro rfl; exact hk (by rw [hp]))).trans (h.block k hk)⟩
theorem Only.keep {b : Option Nat} {lo hi : Nat} {w w' : World} (h : Only b w w') (hb : ∀ g, b = some g → lo ≤ g ∧ g < hi) : Keep lo hi w w' :=
  ⟨h.os, h.tape, h.output, h.size, fun k hk => h.block k (fun e => by have := hb k e.symm; omega)⟩
theorem OwI.only {w w' : World} {lo hi : Nat} {b : Option Nat} {v : Value} {xs : List Int} (h : OwI w lo hi v xs) (hk : Only b w w') (hd : ∀ g, v.ownBlock = some g → b ≠ some g) : OwI w' lo hi v xs := by
  refine ⟨⟨h.1.1, ?_⟩, h.2⟩
  rcases h.1.2 with hn | ⟨g, cap, cur, rfl, hl, hg, rest⟩
  · exact .inl hn
  · exact .inr ⟨g, cap, cur, rfl, hl, (hk.block g (fun e => hd g rfl e.symm)).trans hg, rest⟩
theorem OwI.range {w : World} {lo hi : Nat} {v : Value} {xs : List Int} (h : OwI w lo hi v xs) : ∀ g, v.ownBlock = some g → lo ≤ g ∧ g < hi := fun g hg => ⟨(h.1.lt g hg).1, h.2 g hg⟩
theorem OwI.keep {w w' : World} {lo hi a b : Nat} {v : Value} {xs : List Int} (h : OwI w lo hi v xs) (hk : Keep a b w w') (hd : hi ≤ a ∨ b ≤ lo) : OwI w' lo hi v xs := by
  refine ⟨⟨h.1.1, ?_⟩, h.2⟩
  have h2 := h.2
  rcases h.1.2 with hn | ⟨g, cap, cur, rfl, hl, hg, rest⟩
  · exact .inl hn
  · exact .inr ⟨g, cap, cur, rfl, hl, (hk.block g (by have := h2 g rfl; omega)).trans hg, rest⟩
theorem own_of_blk {w : World} {lo hi g : Nat} {xs : List Int} (h : Blk w g 3 (ints xs)) (h1 : lo ≤ g) (h2 : g < hi) (hm : xs.length ≤ maxLen) : OwI w lo hi (.slice (some ⟨g, 0, Option.none⟩) xs.length xs.length) xs :=
  ⟨⟨by simp, .inr ⟨g, xs.length, (ints xs).toArray, rfl, h1, h, Nat.le_refl _, hm, by simp, by simp [ints, List.take_of_length_le]⟩⟩, fun k hk => by cases hk; exact h2⟩
theorem run_make_rowN {P : Program} (t e : TypeId) (i : TypeInfo) (z : Value) (ht : P.underlying t = some (.slice e)) (hi : P.info? e = some i) (hz : i.zero = some z)
    (kl kc : IntKind) (n c : Nat) (hnc : n ≤ c) (hbytes : i.bytes * c ≤ 281474976710656) (h63 : c ≤ 9223372036854775807) (w : World) :
    (Instr.makeSlice t (.int kl (n : Int)) (.int kc (c : Int))).run P w = .ok (.slice (some ⟨w.heap.size, 0, Option.none⟩) n c) (w.alloc (.cells (madeCells z.cells (c * i.size)) e)) := by
  have hb : (i.bytes : Int) * (c : Int) ≤ 281474976710656 := by
    have h : ((i.bytes * c : Nat) : Int) ≤ 281474976710656 := by omega
    rwa [Int.natCast_mul] at h
  have hr := run_make (P := P) w t e i z ht hi hz kl kc n c (by omega) (by omega) hb (by omega)
  simp only [Int.toNat_natCast] at hr
  exact hr
/-- Room for n integers, all 0, behind a name. -/
def zeros (n : Nat) : Array Value := (List.replicate n (Value.int .i64 0)).toArray
theorem make_ints (n : Nat) (hn : n ≤ 1099511627776) (w : World) :
    (Instr.makeSlice 30 (.int .i64 (n : Int)) (.int .i64 (n : Int))).run Tryd.prog w = .ok (.slice (some ⟨w.heap.size, 0, Option.none⟩) n n) (w.alloc (.cells (zeros n) 3)) := by
  obtain ⟨i, hi, hz0, hz1, hz2⟩ := info_parts info_int
  have h := run_make_rowN (P := Tryd.prog) 30 3 i (.int .i64 0) Tryd.underlying30 hi hz0 .i64 .i64 n n (Nat.le_refl _) (by rw [hz2]; omega) (by omega) w
  rw [h, hz1]
  have e : madeCells (Value.int .i64 0).cells (n * 1) = zeros n := by
    apply Array.ext
    · simp [madeCells, zeros]
    · intro j h1 h2
      simp [madeCells, zeros, Value.cells, Nat.mod_one]
  rw [e]
theorem Rd.at_ {w : World} {hi : Nat} {v : Value} {n : Nat} {xs : List Int} (h : Rd w hi 1 v n (ints xs)) {k : Nat} (hk : k < n) :
    ∃ b off c y, v = .slice (some ⟨b, off, Option.none⟩) n c ∧ b < hi ∧ xs[k]? = some y ∧ w.cell? ⟨b, off + k, Option.none⟩ = some (.int .i64 y) := by
  obtain ⟨h0, A, c, h1, _, _, h4⟩ := h
  obtain ⟨b, off, rfl, hb, hc⟩ := h4 (by omega)
  have hl : xs.length = n := by simpa using h0
  exact ⟨b, off, c, xs[k], h1, hb, by simp [hl, hk], hc k _ (by simp [hl, hk])⟩
theorem Rd.form {w : World} {hi size : Nat} {v : Value} {n : Nat} {xs : List Value} (h : Rd w hi size v n xs) : ∃ A c, v = .slice A n c ∧ n ≤ c ∧ n ≤ 9223372036854775807 := by
  obtain ⟨_, A, c, h1, h2, h3, _⟩ := h
  exact ⟨A, c, h1, h2, by unfold maxLen at h3; omega⟩
def allB (xs : List Int) (a b : Int) : Bool := xs.all fun x => inB x a b
theorem take_snocI {xs : List Int} {k : Nat} {y : Int} (h : xs[k]? = some y) : xs.take (k + 1) = xs.take k ++ [y] := by rw [List.take_add_one, h]; rfl
theorem allB_take {xs : List Int} {k : Nat} {y a b : Int} (h : xs[k]? = some y) (ht : allB (xs.take k) a b = true) (hy : inB y a b = true) : allB (xs.take (k + 1)) a b = true := by
  rw [take_snocI h]; unfold allB at *; rw [List.all_append, ht]; simp [hy]
theorem allB_no {xs : List Int} {k : Nat} {y a b : Int} (h : xs[k]? = some y) (hy : inB y a b = false) : allB xs a b = false := by
  unfold allB; rw [List.all_eq_false]
  exact ⟨y, List.mem_of_getElem? h, by simp [hy]⟩
theorem allB_full {xs : List Int} {k : Nat} {a b : Int} (h : ¬ k < xs.length) (ht : allB (xs.take k) a b = true) : allB xs a b = true := by rwa [List.take_of_length_le (by omega)] at ht
theorem allWithin_any (xs : List Int) (a b : Int) (v : Value) (hi : Nat) (w : World) (h : RdI w hi v xs) : Calls Tryd.prog 58 #[v, .int .i64 a, .int .i64 b] w fun e w' => e = .returned (.bool (allB xs a b)) ∧ w = w' := by
  obtain ⟨A, c, rfl, hc, hm⟩ := Rd.form h
  have H := Lib.hid h
  clear h
  go_enter Tryd.func58, Tryd.ntmps58
  go_wp2
  go_loop [11] (fun i => ∃ k : Nat, k ≤ xs.length ∧ i = .int .i64 k ∧ Hid (allB (xs.take k) a b = true)) (fun i => xs.length - (intOf i).toNat)
  case atStart => exact ⟨0, Nat.zero_le _, rfl, rfl⟩
  case round =>
    obtain ⟨k, hk, rfl, hall⟩ := hrel
    by_cases hlt : k < xs.length
    · obtain ⟨b', off, c', y, hv, _, hy, hcell⟩ := Rd.at_ H.out hlt
      cases hv
      have HY := Lib.hid hy
      clear hy
      cases hin : inB y a b
      · go_wp2_with (go_at_call 52; refine (within_any _ _ _ _).mono ?_; rintro e w' ⟨rfl, rfl⟩)
        go_ret
        exact ⟨ret_bool (allB_no HY.out hin).symm, rfl⟩
      · go_wp2_with (go_at_call 52; refine (within_any _ _ _ _).mono ?_; rintro e w' ⟨rfl, rfl⟩)
        go_round
        case rel => exact ⟨k + 1, by omega, by go_num, allB_take HY.out hall.out hin⟩
        case measure => simp [intOf]; omega
    · go_wp2
      go_ret
      exact ⟨ret_bool (allB_full hlt hall.out).symm, rfl⟩
theorem l1All_any (xs : List Int) (a b : Int) (v : Value) (hi : Nat) (w : World) (h : RdI w hi v xs) : Calls Tryd.prog 57 #[v, .int .i64 a, .int .i64 b] w fun e w' => e = .returned (.bool (allB xs a b)) ∧ w = w' := by
  obtain ⟨A, c, rfl, hc, hm⟩ := Rd.form h
  have H := Lib.hid h
  clear h
  go_enter Tryd.func57, Tryd.ntmps57
  go_wp2
  go_loop [11] (fun i => ∃ k : Nat, k ≤ xs.length ∧ i = .int .i64 k ∧ Hid (allB (xs.take k) a b = true)) (fun i => xs.length - (intOf i).toNat)
  case atStart => exact ⟨0, Nat.zero_le _, rfl, rfl⟩
  case round =>
    obtain ⟨k, hk, rfl, hall⟩ := hrel
    by_cases hlt : k < xs.length
    · obtain ⟨b', off, c', y, hv, _, hy, hcell⟩ := Rd.at_ H.out hlt
      cases hv
      have HY := Lib.hid hy
      clear hy
      cases hin : inB y a b
      · go_wp2_with (go_at_call 43; refine (l1In_any _ _ _ _).mono ?_; rintro e w' ⟨rfl, rfl⟩)
        go_ret
        exact ⟨ret_bool (allB_no HY.out hin).symm, rfl⟩
      · go_wp2_with (go_at_call 43; refine (l1In_any _ _ _ _).mono ?_; rintro e w' ⟨rfl, rfl⟩)
        go_round
        case rel => exact ⟨k + 1, by omega, by go_num, allB_take HY.out hall.out hin⟩
        case measure => simp [intOf]; omega
    · go_wp2
      go_ret
      exact ⟨ret_bool (allB_full hlt hall.out).symm, rfl⟩
theorem eq_take {xs ys : List Int} {k : Nat} {y : Int} (hx : xs[k]? = some y) (hy : ys[k]? = some y) (ht : xs.take k = ys.take k) : xs.take (k + 1) = ys.take (k + 1) := by rw [take_snocI hx, take_snocI hy, ht]
theorem eq_no {xs ys : List Int} {k : Nat} {x y : Int} (hx : xs[k]? = some x) (hy : ys[k]? = some y) (hne : x ≠ y) : decide (xs = ys) = false := by
  rw [decide_eq_false_iff_not]; rintro rfl; rw [hx] at hy; cases hy; exact hne rfl
theorem eq_full {xs ys : List Int} {k : Nat} (h : ¬ k < xs.length) (hl : xs.length = ys.length) (ht : xs.take k = ys.take k) : decide (xs = ys) = true := by
  rw [List.take_of_length_le (by omega), List.take_of_length_le (by omega)] at ht; simp [ht]
theorem eqIntS_any (xs ys : List Int) (v u : Value) (hi hj : Nat) (w : World) (h : RdI w hi v xs) (g : RdI w hj u ys) : Calls Tryd.prog 15 #[v, u] w fun e w' => e = .returned (.bool (decide (xs = ys))) ∧ ∃ n, w' = w.drewN n := by
  obtain ⟨A, c, rfl, hc, hm⟩ := Rd.form h
  obtain ⟨A', c', rfl, hc', hm'⟩ := Rd.form g
  have H := Lib.hid h
  have G := Lib.hid g
  clear h g
  by_cases hl : xs.length = ys.length
  · have HL := Lib.hid hl
    rw [← hl]
    rw [← hl] at hc' hm'
    clear hl
    go_enter Tryd.func15, Tryd.ntmps15
    go_wp2
    go_loopw [5] (fun i wr => ∃ k : Nat, k ≤ xs.length ∧ i = .int .i64 k ∧ Hid (xs.take k = ys.take k) ∧ ∃ n, wr = w.drewN n) (fun i _ => xs.length - (intOf i).toNat)
    case atStart => exact ⟨0, Nat.zero_le _, rfl, rfl, 0, rfl⟩
    case round =>
      obtain ⟨k, hk, rfl, heq, n, rfl⟩ := hrel
      by_cases hlt : k < xs.length
      · obtain ⟨b1, o1, c1, x, hv, _, hx, hcell1⟩ := Rd.at_ H.out hlt
        cases hv
        obtain ⟨b2, o2, c2, y, hv, _, hy, hcell2⟩ := Rd.at_ G.out (by rw [← HL.out]; exact hlt)
        have HX := Lib.hid hx
        have HY := Lib.hid hy
        injection hv with hv1 hv2 hv3
        subst hv1
        clear hx hy hv2 hv3
        by_cases hxy : x = y
        · subst hxy
          go_wp2
          go_quiet (fail)
          go_wp2
          go_roundw
          case rel => exact ⟨k + 1, by omega, by go_num, eq_take HX.out HY.out heq.out, _, rfl⟩
          case measure => simp [intOf]; omega
        · have hbe : (x == y) = false := by simpa using hxy
          have hbn : (x != y) = true := by simpa using hxy
          go_wp2
          go_quiet (fail)
          go_wp2
          go_ret
          exact ⟨ret_bool (eq_no HX.out HY.out hxy).symm, _, World.drewN_drewN _ _ _⟩
      · go_wp2
        go_ret
        exact ⟨ret_bool (eq_full hlt HL.out heq.out).symm, _, rfl⟩
  · have hne : (((xs.length : Nat) : Int) != ((ys.length : Nat) : Int)) = true := by rw [bne_iff_ne]; omega
    go_enter Tryd.func15, Tryd.ntmps15
    go_wp2
    go_ret
    refine ⟨ret_bool ?_, 0, rfl⟩
    symm; rw [decide_eq_false_iff_not]; rintro rfl; exact hl rfl
/-- The first k of the numbers, then zeros, in n cells. -/
def partI (xs : List Int) (k : Nat) : List Value := ints (xs.take k) ++ List.replicate (xs.length - k) (Value.int .i64 0)
theorem partI_zero (xs : List Int) : partI xs 0 = (zeros xs.length).toList := by simp [partI, zeros, ints]
theorem partI_full (xs : List Int) : partI xs xs.length = ints xs := by simp [partI, ints]
theorem partI_step {xs : List Int} {k : Nat} {y : Int} (h : xs[k]? = some y) : (partI xs k).set k (.int .i64 y) = partI xs (k + 1) := by
  have hk : k < xs.length := (List.getElem?_eq_some_iff.1 h).1
  have e : List.replicate (xs.length - k) (Value.int .i64 0) = Value.int .i64 0 :: List.replicate (xs.length - (k + 1)) (Value.int .i64 0) := by
    rw [show xs.length - k = (xs.length - (k + 1)) + 1 by omega]; rfl
  have hl : (ints (xs.take k)).length = k := by simp; omega
  unfold partI
  rw [e, take_snocI h]
  have := set_mid (ints (xs.take k)) (List.replicate (xs.length - (k + 1)) (Value.int .i64 0)) (Value.int .i64 0) (.int .i64 y)
  rw [hl] at this
  rw [this]; simp [ints]
theorem partI_at {xs : List Int} {k : Nat} (h : k < xs.length) : (partI xs k)[k]? = some (.int .i64 0) := by
  have hl : (ints (xs.take k)).length = k := by simp; omega
  unfold partI
  rw [List.getElem?_append_right (by omega), hl, Nat.sub_self, List.getElem?_replicate, if_pos (by omega)]
theorem toIntS_any (xs : List Int) (v : Value) (hi : Nat) (w : World) (h : RdI w hi v xs) (hlen : xs.length ≤ 1099511627776) (hhi : hi ≤ w.heap.size) : Calls Tryd.prog 13 #[v] w (RetOwI xs w) := by
  obtain ⟨A, c, rfl, hc, hm⟩ := Rd.form h
  have H := Lib.hid h
  clear h
  have hmk := make_ints xs.length hlen
  go_enter Tryd.func13, Tryd.ntmps13
  go_wp2
  go_loopw [4] (fun i wr => ∃ k : Nat, k ≤ xs.length ∧ i = .int .i64 k ∧ Blk wr w.heap.size 3 (partI xs k) ∧ Below w.heap.size w wr) (fun i _ => xs.length - (intOf i).toNat)
  case atStart => exact ⟨0, Nat.zero_le _, rfl, by rw [partI_zero]; exact Blk.new _ _ _, (Below.refl _ _).alloc (Nat.le_refl _) _⟩
  case round =>
    obtain ⟨k, hk, rfl, hblk, hbel⟩ := hrel
    by_cases hlt : k < xs.length
    · obtain ⟨b1, o1, c1, x, hv, hb1, hx, hcell1⟩ := Rd.at_ (Rd.below H.out hbel hhi) hlt
      cases hv
      have hcell2 := hblk.cell k
      rw [partI_at hlt] at hcell2
      have hfr := hblk.frozen k
      have HX := Lib.hid hx
      clear hx
      go_wp2
      go_roundw
      case rel => exact ⟨k + 1, by omega, by go_num, by rw [← partI_step HX.out]; exact hblk.set_ _ _, hbel.setCell (Nat.le_refl _) _⟩
      case measure => simp [intOf]; omega
    · obtain rfl : k = xs.length := by omega
      rw [partI_full] at hblk
      go_wp2
      go_ret
      exact ⟨_, rfl, own_of_blk hblk (Nat.le_refl _) hblk.lt (by unfold maxLen; omega), hbel⟩
theorem OwI.form {w : World} {lo hi : Nat} {v : Value} {xs : List Int} (h : OwI w lo hi v xs) : ∃ A c, v = .slice A xs.length c ∧ xs.length ≤ 9223372036854775807 := by
  obtain ⟨A, c, h1, _, h2⟩ := Rd.form h.rd
  exact ⟨A, c, h1, h2⟩
theorem eqIntS_same (xs : List Int) (v u : Value) (hi hj : Nat) (w : World) (h : RdI w hi v xs) (g : RdI w hj u xs) : Calls Tryd.prog 15 #[v, u] w fun e w' => e = .returned (.bool true) ∧ ∃ n, w' = w.drewN n :=
  (eqIntS_any xs xs v u hi hj w h g).mono fun _ _ ⟨he, hw⟩ => ⟨by rw [he]; simp, hw⟩
theorem eqIntS_sameB (xs : List Int) (v u : Value) (hi hj : Nat) (w : World) (h : RdI w hi v xs) (g : RdI w hj u xs) : Calls Tryd.prog 15 #[v, u] w fun e w' => e = .returned (.bool true) ∧ Below w.heap.size w w' :=
  (eqIntS_same xs v u hi hj w h g).mono fun _ _ ⟨he, _, hw⟩ => ⟨he, by rw [hw]; exact bel_drewN _ _ _⟩
end Go.Proofs.YtjnkdjokbamibaaDoor
/- What an argument that reads as data looks like in memory: slices of integers, slices of such slices. -/
namespace Go.Proofs.YtjnkdjokbamibaaDoor
open Go.ChangeShapes Go.WideShapes Go.ChangeAt Go.RowKit Go.Deep
theorem cells_one {w : World} {base : Nat} {a : Addr} {cs : List Value} (h : w.cells? base a 1 = some cs) : ∃ v, cs = [v] ∧ w.cell? a = some v ∧ base ≤ a.block := by
  unfold World.cells? at h
  split at h
  · rename_i hb
    have hl := mapM_some_length h
    have hg := mapM_some_get h 0 0 rfl
    match cs, hl with
    | [v], _ => exact ⟨v, rfl, by simpa [Addr.add] using hg, hb⟩
  · cases h
theorem spot_of {w : World} {a : Addr} {v : Value} (h : w.cell? a = some v) : ∃ b off, a = ⟨b, off, Option.none⟩ ∧ b < w.heap.size := by
  obtain ⟨b, off, spot⟩ := a
  have hs : spot = Option.none := by simpa using World.cell?_spot h
  subst hs
  exact ⟨b, off, rfl, World.block_lt_of_cell? w ⟨b, off, Option.none⟩ h⟩
theorem trod_int1 {H : Type} {enc : TypeId × Value → H} {P : Program} {w : World} {base : Nat} {spare : Nat → Bool} {held : Bool} {fuel : Nat} {t : TypeId} {v : Value} {x : DataW H × List MemPlace} {k : IntKind}
    (ht : P.underlying t = some (.int k)) (h : DataW.trod enc P w base spare held fuel t [v] = some x) : ∃ n, v = .int k n := by
  obtain ⟨n, e1, _⟩ := DataW.trod_int ht h
  exact ⟨n, by simpa using e1⟩
/-- A slice whose elements have one cell each reads as a row of values. -/
theorem open_row {H : Type} {enc : TypeId × Value → H} {P : Program} {w : World} {spare : Nat → Bool} {held : Bool} {fuel : Nat} {t e : TypeId} {v : Value} {x : DataW H × List MemPlace}
    (ht : P.underlying t = some (.slice e)) (he : P.cellsOf e = 1) (h : DataW.trod enc P w 0 spare held fuel t [v] = some x) :
    ∃ (n : Nat) (vs : List Value), Rd w w.heap.size 1 v n vs ∧ vs.length = n ∧ ∀ (i : Nat) (u : Value), vs[i]? = some u → ∃ f y, DataW.trod enc P w 0 spare held f e [u] = some y := by
  rcases open_slice ht h with ⟨hv, _⟩ | ⟨a, len, cap, m, n, D, Pl, hv, hb, hl, hm, hmm, hx, hcell⟩
  · simp only [List.cons.injEq, and_true] at hv
    subst hv
    exact ⟨0, [], ⟨rfl, Option.none, 0, rfl, Nat.le_refl _, Nat.zero_le _, fun h => absurd h (by omega)⟩, rfl, fun i u hu => by simp at hu⟩
  · simp only [List.cons.injEq, and_true] at hv
    subst hv
    have hlm : len ≤ m := by rw [hmm]; split <;> omega
    have hk : ∀ i, ∃ u, i < len → w.cell? (a.add i) = some u ∧ ∃ y, DataW.trod enc P w 0 spare held n e [u] = some y := by
      intro i
      by_cases hi : i < len
      · obtain ⟨cs', hc1, hc2⟩ := hcell i (by omega)
        rw [he, Nat.mul_one] at hc1
        obtain ⟨u, rfl, hu, _⟩ := cells_one hc1
        exact ⟨u, fun _ => ⟨hu, _, hc2⟩⟩
      · exact ⟨undef, fun h => absurd h hi⟩
    obtain ⟨V, hV⟩ : ∃ V : Nat → Value, ∀ i, i < len → w.cell? (a.add i) = some (V i) ∧ ∃ y, DataW.trod enc P w 0 spare held n e [V i] = some y := ⟨fun i => Classical.choose (hk i), fun i => Classical.choose_spec (hk i)⟩
    clear hk
    refine ⟨len, (List.range len).map V, ⟨by simp, some a, cap, rfl, hl, hm, fun hpos => ?_⟩, by simp, fun i u hu => ?_⟩
    · have h0 := (hV 0 hpos).1
      obtain ⟨b, off, ha, hlt⟩ := spot_of h0
      have ha' : a = ⟨b, off, Option.none⟩ := by simpa [Addr.add] using ha
      subst ha'
      refine ⟨b, off, rfl, hlt, fun j u hu => ?_⟩
      have hj : j < len := by
        rcases Nat.lt_or_ge j len with h | h
        · exact h
        · rw [List.getElem?_eq_none (by simp; exact h)] at hu; cases hu
      simp [hj] at hu
      have := (hV j hj).1
      rw [hu, add_plain] at this
      exact this
    · have hj : i < len := by
        rcases Nat.lt_or_ge i len with h | h
        · exact h
        · rw [List.getElem?_eq_none (by simp; exact h)] at hu; cases hu
      simp [hj] at hu
      obtain ⟨_, y, hy⟩ := hV i hj
      rw [hu] at hy
      exact ⟨n, y, hy⟩
theorem ints_of (vs : List Value) (h : ∀ (i : Nat) (u : Value), vs[i]? = some u → ∃ n, u = Value.int .i64 n) : ∃ xs, vs = ints xs := by
  induction vs with
  | nil => exact ⟨[], rfl⟩
  | cons v r ih =>
    obtain ⟨n, hn⟩ := h 0 v rfl
    obtain ⟨xs, hxs⟩ := ih (fun i u hu => h (i + 1) u (by simpa using hu))
    exact ⟨n :: xs, by rw [hn, hxs]; rfl⟩
theorem open_intS {H : Type} {enc : TypeId × Value → H} {w : World} {spare : Nat → Bool} {held : Bool} {fuel : Nat} {v : Value} {x : DataW H × List MemPlace}
    (h : DataW.trod enc Tryd.prog w 0 spare held fuel 30 [v] = some x) : ∃ xs, RdI w w.heap.size v xs := by
  obtain ⟨n, vs, hr, hl, hk⟩ := open_row Tryd.underlying30 (by kernel_rfl) h
  obtain ⟨xs, rfl⟩ := ints_of vs (fun i u hu => by
    obtain ⟨f, y, hy⟩ := hk i u hu
    exact trod_int1 Tryd.underlying3 hy)
  have : xs.length = n := by simpa using hl
  subst this
  exact ⟨xs, hr⟩
end Go.Proofs.YtjnkdjokbamibaaDoor
/- Appending a slice of integers, whatever it is, to a row of the call's own; a copy of a slice. -/
namespace Go.Proofs.YtjnkdjokbamibaaDoor
open Go.RowKit
/-- An empty row that the call has made. -/
theorem GrowI.made (w : World) : GrowI w w.heap.size (w.alloc (.cells #[] 3)) (.slice (some ⟨w.heap.size, 0, Option.none⟩) 0 0) [] := by
  refine ⟨?_, (Below.refl _ _).alloc (Nat.le_refl _) _, by simp⟩
  have := World.ownsRow_made (w := w) (base := w.heap.size) (e := 3) (size := 1) #[] 0 (Nat.le_refl _) (Nat.zero_le _) rfl
  exact this
theorem GrowI.nil {w wr : World} (hb : Below w.heap.size w wr) : GrowI w w.heap.size wr (.slice Option.none 0 0) [] := ⟨World.ownsRow_nil _ _ _ _, hb, hb.size⟩
end Go.Proofs.YtjnkdjokbamibaaDoor
/- Words on lists of rows of integers in memory, and the helpers of the laws on slices of slices of integers. -/
namespace Go.Proofs.YtjnkdjokbamibaaDoor
open Go.RowKit
/-- The slice values us read as the lists xss. -/
def RowsR (w : World) (hi : Nat) (us : List Value) (xss : List (List Int)) : Prop := us.length = xss.length ∧ ∀ (i : Nat) (u : Value) (xs : List Int), us[i]? = some u → xss[i]? = some xs → RdI w hi u xs
/-- The slice values us are rows of the call's own, no two of them one. -/
def RowsO (w : World) (lo hi : Nat) (us : List Value) (xss : List (List Int)) : Prop :=
  us.length = xss.length ∧ (∀ (i : Nat) (u : Value) (xs : List Int), us[i]? = some u → xss[i]? = some xs → OwI w lo hi u xs) ∧
  ∀ (i j : Nat) (u u' : Value), i < j → us[i]? = some u → us[j]? = some u' → ∀ g, u.ownBlock = some g → u'.ownBlock ≠ some g
theorem RowsR.below {w w' : World} {hi B : Nat} {us : List Value} {xss : List (List Int)} (h : RowsR w hi us xss) (hb : Below B w w') (hB : hi ≤ B) : RowsR w' hi us xss :=
  ⟨h.1, fun i u xs hu hx => (h.2 i u xs hu hx).below hb hB⟩
theorem RowsR.mono {w : World} {hi hi' : Nat} {us : List Value} {xss : List (List Int)} (h : RowsR w hi us xss) (hB : hi ≤ hi') : RowsR w hi' us xss :=
  ⟨h.1, fun i u xs hu hx => (h.2 i u xs hu hx).mono hB⟩
theorem RowsO.rd {w : World} {lo hi : Nat} {us : List Value} {xss : List (List Int)} (h : RowsO w lo hi us xss) : RowsR w hi us xss := ⟨h.1, fun i u xs hu hx => (h.2.1 i u xs hu hx).rd⟩
theorem RowsO.below {w w' : World} {lo hi B : Nat} {us : List Value} {xss : List (List Int)} (h : RowsO w lo hi us xss) (hb : Below B w w') (hB : hi ≤ B) : RowsO w' lo hi us xss :=
  ⟨h.1, fun i u xs hu hx => (h.2.1 i u xs hu hx).below hb hB, h.2.2⟩
theorem RowsO.keep {w w' : World} {lo hi a b : Nat} {us : List Value} {xss : List (List Int)} (h : RowsO w lo hi us xss) (hk : Keep a b w w') (hd : hi ≤ a ∨ b ≤ lo) : RowsO w' lo hi us xss :=
  ⟨h.1, fun i u xs hu hx => (h.2.1 i u xs hu hx).keep hk hd, h.2.2⟩
theorem OwI.mono {w : World} {lo hi lo' hi' : Nat} {v : Value} {xs : List Int} (h : OwI w lo hi v xs) (h1 : lo' ≤ lo) (h2 : hi ≤ hi') : OwI w lo' hi' v xs := by
  refine ⟨⟨h.1.1, ?_⟩, fun k hk => by have := h.2 k hk; omega⟩
  rcases h.1.2 with hn | ⟨g, cap, cur, rfl, hl, hg, rest⟩
  · exact .inl hn
  · exact .inr ⟨g, cap, cur, rfl, by omega, hg, rest⟩
theorem RowsO.nil (w : World) (lo hi : Nat) : RowsO w lo hi [] [] := ⟨rfl, fun i u xs hu _ => by simp at hu, fun i j u u' _ hu _ => by simp at hu⟩
theorem RowsO.mono {w : World} {lo hi lo' hi' : Nat} {us : List Value} {xss : List (List Int)} (h : RowsO w lo hi us xss) (h1 : lo' ≤ lo) (h2 : hi ≤ hi') : RowsO w lo' hi' us xss :=
  ⟨h.1, fun i u xs hu hx => (h.2.1 i u xs hu hx).mono h1 h2, h.2.2⟩
/-- One row more, made since. -/
theorem RowsO.snoc {w : World} {lo mid hi : Nat} {us : List Value} {xss : List (List Int)} {u : Value} {xs : List Int} (h : RowsO w lo mid us xss) (hu : OwI w mid hi u xs) (h1 : lo ≤ mid) (h2 : mid ≤ hi) : RowsO w lo hi (us ++ [u]) (xss ++ [xs]) := by
  have hl := h.1
  refine ⟨by simp [hl], fun i a b ha hb => ?_, fun i j a b hij ha hb g hg => ?_⟩
  · rcases Nat.lt_or_ge i us.length with hi | hi
    · rw [List.getElem?_append_left hi] at ha
      rw [List.getElem?_append_left (by omega)] at hb
      exact (h.2.1 i a b ha hb).mono (Nat.le_refl _) h2
    · rw [List.getElem?_append_right hi] at ha
      rw [List.getElem?_append_right (by omega)] at hb
      obtain ⟨hz, rfl⟩ : i - us.length = 0 ∧ u = a := by
        rcases Nat.eq_zero_or_pos (i - us.length) with e | e
        · rw [e] at ha; simp at ha; exact ⟨e, ha⟩
        · rw [List.getElem?_eq_none (by simp; omega)] at ha; cases ha
      rw [show i - xss.length = 0 by omega] at hb
      simp at hb
      subst hb
      exact hu.mono h1 (Nat.le_refl _)
  · rcases Nat.lt_or_ge i us.length with hi | hi
    · rw [List.getElem?_append_left hi] at ha
      rcases Nat.lt_or_ge j us.length with hj | hj
      · rw [List.getElem?_append_left hj] at hb
        exact h.2.2 i j a b hij ha hb g hg
      · rw [List.getElem?_append_right hj] at hb
        have hbu : u = b := by
          rcases Nat.eq_zero_or_pos (j - us.length) with e | e
          · rw [e] at hb; simpa using hb
          · rw [List.getElem?_eq_none (by simp; omega)] at hb; cases hb
        subst hbu
        intro hg2
        have h3 := (hu.range g hg2).1
        obtain ⟨xs', hxs⟩ : ∃ xs', xss[i]? = some xs' := ⟨xss[i], by simp [show i < xss.length by omega]⟩
        have h4 := ((h.2.1 i a xs' ha hxs).range g hg).2
        omega
    · rw [List.getElem?_append_right hi] at ha
      rw [List.getElem?_append_right (by omega)] at hb
      rw [List.getElem?_eq_none (by simp; omega)] at hb
      cases hb
/-- One row is marked: it reads anew, the others as they did. -/
theorem RowsO.only {w w' : World} {lo hi j : Nat} {us : List Value} {xss : List (List Int)} {u : Value} {ys : List Int} (h : RowsO w lo hi us xss) (hu : us[j]? = some u) (hk : Only u.ownBlock w w') (hy : OwI w' lo hi u ys) : RowsO w' lo hi us (xss.set j ys) := by
  refine ⟨by simp [h.1], fun i a b ha hb => ?_, h.2.2⟩
  by_cases e : i = j
  · subst e
    rw [hu] at ha; cases ha
    have hil : i < xss.length := by have := (List.getElem?_eq_some_iff.1 hu).1; have := h.1; omega
    rw [List.getElem?_set_self hil] at hb; cases hb
    exact hy
  · rw [List.getElem?_set_ne (fun e2 => e e2.symm)] at hb
    refine (h.2.1 i a b ha hb).only hk (fun g hg hg2 => ?_)
    rcases Nat.lt_or_gt_of_ne e with hlt | hlt
    · exact h.2.2 i j a u hlt ha hu g hg hg2
    · exact h.2.2 j i u a hlt hu ha g hg2 hg
def RdII (w : World) (hi : Nat) (v : Value) (xss : List (List Int)) : Prop := ∃ us, RowsR w hi us xss ∧ Rd w hi 1 v xss.length us
def OwII (w : World) (lo hi : Nat) (v : Value) (xss : List (List Int)) : Prop := ∃ us, RowsO w lo hi us xss ∧ w.ownsRow lo 30 1 v xss.length us ∧ ∀ k, v.ownBlock = some k → k < hi
theorem RdII.below {w w' : World} {hi : Nat} {v : Value} {xss : List (List Int)} (h : RdII w hi v xss) {B : Nat} (hb : Below B w w') (hB : hi ≤ B) : RdII w' hi v xss := by
  obtain ⟨us, h1, h2⟩ := h; exact ⟨us, h1.below hb hB, h2.below hb hB⟩
theorem owns_below {w w' : World} {lo hi size n : Nat} {e : TypeId} {v : Value} {xs : List Value} (h : w.ownsRow lo e size v n xs) (h2 : ∀ k, v.ownBlock = some k → k < hi) {B : Nat} (hb : Below B w w') (hB : hi ≤ B) : w'.ownsRow lo e size v n xs := by
  refine ⟨h.1, ?_⟩
  rcases h.2 with hn | ⟨g, cap, cur, rfl, hl, hg, rest⟩
  · exact .inl hn
  · exact .inr ⟨g, cap, cur, rfl, hl, (hb.block g (by have := h2 g rfl; omega)).trans hg, rest⟩
theorem owns_keep {w w' : World} {lo hi a b size n : Nat} {e : TypeId} {v : Value} {xs : List Value} (h : w.ownsRow lo e size v n xs) (h2 : ∀ k, v.ownBlock = some k → k < hi) (hk : Keep a b w w') (hd : hi ≤ a ∨ b ≤ lo) : w'.ownsRow lo e size v n xs := by
  refine ⟨h.1, ?_⟩
  rcases h.2 with hn | ⟨g, cap, cur, rfl, hl, hg, rest⟩
  · exact .inl hn
  · exact .inr ⟨g, cap, cur, rfl, hl, (hk.block g (by have := h2 g rfl; omega)).trans hg, rest⟩
theorem OwII.below {w w' : World} {lo hi : Nat} {v : Value} {xss : List (List Int)} (h : OwII w lo hi v xss) {B : Nat} (hb : Below B w w') (hB : hi ≤ B) : OwII w' lo hi v xss := by
  obtain ⟨us, h1, h2, h3⟩ := h; exact ⟨us, h1.below hb hB, owns_below h2 h3 hb hB, h3⟩
theorem OwII.keep {w w' : World} {lo hi a b : Nat} {v : Value} {xss : List (List Int)} (h : OwII w lo hi v xss) (hk : Keep a b w w') (hd : hi ≤ a ∨ b ≤ lo) : OwII w' lo hi v xss := by
  obtain ⟨us, h1, h2, h3⟩ := h; exact ⟨us, h1.keep hk hd, owns_keep h2 h3 hk hd, h3⟩
theorem OwII.rd {w : World} {lo hi : Nat} {v : Value} {xss : List (List Int)} (h : OwII w lo hi v xss) : RdII w hi v xss := by
  obtain ⟨us, h1, h2, h3⟩ := h; exact ⟨us, h1.rd, rd_of_owns h2 h3⟩
/-- The element at k: a cell with a slice value that reads as the k-th list. -/
theorem RdII.at_ {w : World} {hi : Nat} {v : Value} {xss : List (List Int)} (h : RdII w hi v xss) {k : Nat} (hk : k < xss.length) :
    ∃ b off c u xs, v = .slice (some ⟨b, off, Option.none⟩) xss.length c ∧ b < hi ∧ xss[k]? = some xs ∧ w.cell? ⟨b, off + k, Option.none⟩ = some u ∧ RdI w hi u xs := by
  obtain ⟨us, h1, h0, A, c, hv, _, _, h4⟩ := h
  obtain ⟨b, off, rfl, hb, hc⟩ := h4 (by omega)
  have hl := h1.1
  have hu : us[k]? = some us[k] := by simp [show k < us.length by omega]
  exact ⟨b, off, c, us[k], xss[k], hv, hb, by simp [hk], hc k _ hu, h1.2 k _ _ hu (by simp [hk])⟩
theorem RdII.form {w : World} {hi : Nat} {v : Value} {xss : List (List Int)} (h : RdII w hi v xss) : ∃ A c, v = .slice A xss.length c ∧ xss.length ≤ 9223372036854775807 := by
  obtain ⟨us, _, _, A, c, hv, h2, h3, _⟩ := h
  exact ⟨A, c, hv, by unfold maxLen at h3; omega⟩
theorem take_snocN {α : Type} {xs : List α} {k : Nat} {y : α} (h : xs[k]? = some y) : xs.take (k + 1) = xs.take k ++ [y] := by rw [List.take_add_one, h]; rfl
theorem szIntS_any (xs : List Int) (v : Value) (left : Int) (hi : Nat) (w : World) (h : RdI w hi v xs) (h0 : 0 ≤ left) (h1 : left ≤ 1048576) :
    Calls Tryd.prog 77 #[v, .int .i64 left] w fun e w' => e = .returned (.int .i64 (if left - xs.length < 0 then -1 else left - xs.length)) ∧ w = w' := by
  obtain ⟨A, c, rfl, hc, hm⟩ := Rd.form h
  clear h
  by_cases hlt : left - xs.length < 0
  · rw [if_pos hlt]
    go_enter Tryd.func77, Tryd.ntmps77
    go_wp2
    go_ret
    exact ⟨rfl, rfl⟩
  · rw [if_neg hlt]
    go_enter Tryd.func77, Tryd.ntmps77
    go_wp2
    go_ret
    exact ⟨rfl, rfl⟩
end Go.Proofs.YtjnkdjokbamibaaDoor
/- Words on books in memory; the helpers of the laws on phrases and books. -/
namespace Go.Proofs.YtjnkdjokbamibaaDoor
open Go.RowKit
/-- A phrase: its text and its signals. -/
abbrev Phr := ByteArray × List Int
/-- The cells of phrases: of each its text, then its slice. -/
def zipC : List ByteArray → List Value → List Value
  | t :: ts, u :: us => .string t :: u :: zipC ts us
  | _, _ => []
theorem zipC_len : ∀ (ts : List ByteArray) (us : List Value), us.length = ts.length → (zipC ts us).length = ts.length * 2
  | [], [], _ => rfl
  | [], _ :: _, h => by simp at h
  | _ :: _, [], h => by simp at h
  | t :: ts, u :: us, h => by simp only [zipC, List.length_cons, zipC_len ts us (by simpa using h)]; omega
theorem zipC_at : ∀ (ts : List ByteArray) (us : List Value) (k : Nat) (t : ByteArray) (u : Value), ts[k]? = some t → us[k]? = some u → (zipC ts us)[k * 2]? = some (.string t) ∧ (zipC ts us)[k * 2 + 1]? = some u
  | [], _, k, t, u, h, _ => by simp at h
  | _ :: _, [], k, t, u, _, h => by simp at h
  | a :: ts, b :: us, 0, t, u, h, g => by simp at h g; subst h g; exact ⟨rfl, rfl⟩
  | a :: ts, b :: us, k + 1, t, u, h, g => by
    have := zipC_at ts us k t u (by simpa using h) (by simpa using g)
    simp only [zipC, show (k + 1) * 2 = k * 2 + 1 + 1 by omega, List.getElem?_cons_succ]
    exact this
theorem zipC_append : ∀ (ts : List ByteArray) (us : List Value) (t : ByteArray) (u : Value), us.length = ts.length → zipC (ts ++ [t]) (us ++ [u]) = zipC ts us ++ [.string t, u]
  | [], [], t, u, _ => rfl
  | [], _ :: _, _, _, h => by simp at h
  | _ :: _, [], _, _, h => by simp at h
  | a :: ts, b :: us, t, u, h => by simp only [List.cons_append, zipC, zipC_append ts us t u (by simpa using h)]
def txts (ps : List Phr) : List ByteArray := ps.map (·.1)
def sigs (ps : List Phr) : List (List Int) := ps.map (·.2)
def TxtOk (ps : List Phr) : Prop := ∀ p ∈ ps, p.1.size ≤ 9223372036854775807
/-- The slice value v reads as phrases. -/
def RdPS (w : World) (hi : Nat) (v : Value) (ps : List Phr) : Prop := ∃ us, RowsR w hi us (sigs ps) ∧ Rd w hi 2 v ps.length (zipC (txts ps) us) ∧ TxtOk ps
theorem RdPS.form {w : World} {hi : Nat} {v : Value} {ps : List Phr} (h : RdPS w hi v ps) : ∃ A c, v = .slice A ps.length c ∧ ps.length ≤ c ∧ ps.length ≤ 9223372036854775807 := by
  obtain ⟨us, _, ⟨_, A, c, hv, h2, h3, _⟩, _⟩ := h
  exact ⟨A, c, hv, h2, by unfold maxLen at h3; omega⟩
theorem RdPS.at_ {w : World} {hi : Nat} {v : Value} {ps : List Phr} (h : RdPS w hi v ps) {k : Nat} (hk : k < ps.length) :
    ∃ b off c u t xs, v = .slice (some ⟨b, off, Option.none⟩) ps.length c ∧ b < hi ∧ ps[k]? = some (t, xs) ∧ w.cell? ⟨b, off + k * 2, Option.none⟩ = some (.string t) ∧ w.cell? ⟨b, off + k * 2 + 1, Option.none⟩ = some u ∧ RdI w hi u xs ∧ t.size ≤ 9223372036854775807 := by
  obtain ⟨us, h1, ⟨h0, A, c, hv, _, _, h4⟩, ht⟩ := h
  obtain ⟨b, off, rfl, hb, hc⟩ := h4 (by omega)
  have hl : us.length = ps.length := by have := h1.1; simpa [sigs] using this
  have hu : us[k]? = some us[k] := by simp [show k < us.length by omega]
  have hz := zipC_at (txts ps) us k ps[k].1 us[k] (by simp [txts, hk]) hu
  refine ⟨b, off, c, us[k], ps[k].1, ps[k].2, hv, hb, by simp [hk], hc _ _ hz.1, ?_, h1.2 k _ _ hu (by simp [sigs, hk]), ht _ (List.getElem_mem hk)⟩
  have := hc _ _ hz.2
  rwa [← Nat.add_assoc] at this
theorem RdPS.below {w w' : World} {hi : Nat} {v : Value} {ps : List Phr} (h : RdPS w hi v ps) {B : Nat} (hb : Below B w w') (hB : hi ≤ B) : RdPS w' hi v ps := by
  obtain ⟨us, h1, h2, h3⟩ := h; exact ⟨us, h1.below hb hB, h2.below hb hB, h3⟩
def RdP (w : World) (hi : Nat) (v : Value) (p : Phr) : Prop := ∃ u, v = .agg #[.string p.1, u] ∧ RdI w hi u p.2 ∧ p.1.size ≤ 9223372036854775807
def RdB (w : World) (hi : Nat) (v : Value) (ps : List Phr) : Prop := ∃ u, v = .agg #[u] ∧ RdPS w hi u ps
def OwP (w : World) (lo hi : Nat) (v : Value) (p : Phr) : Prop := ∃ u, v = .agg #[.string p.1, u] ∧ OwI w lo hi u p.2 ∧ p.1.size ≤ 9223372036854775807
def OwPS (w : World) (lo hi : Nat) (v : Value) (ps : List Phr) : Prop := ∃ us, RowsO w lo hi us (sigs ps) ∧ w.ownsRow lo 49 2 v ps.length (zipC (txts ps) us) ∧ TxtOk ps ∧ ∀ k, v.ownBlock = some k → k < hi
def OwB (w : World) (lo hi : Nat) (v : Value) (ps : List Phr) : Prop := ∃ u, v = .agg #[u] ∧ OwPS w lo hi u ps
theorem RdP.below {w w' : World} {hi : Nat} {v : Value} {p : Phr} (h : RdP w hi v p) {B : Nat} (hb : Below B w w') (hB : hi ≤ B) : RdP w' hi v p := by
  obtain ⟨u, h1, h2, h3⟩ := h; exact ⟨u, h1, h2.below hb hB, h3⟩
theorem RdB.below {w w' : World} {hi : Nat} {v : Value} {ps : List Phr} (h : RdB w hi v ps) {B : Nat} (hb : Below B w w') (hB : hi ≤ B) : RdB w' hi v ps := by
  obtain ⟨u, h1, h2⟩ := h; exact ⟨u, h1, h2.below hb hB⟩
theorem OwP.below {w w' : World} {lo hi : Nat} {v : Value} {p : Phr} (h : OwP w lo hi v p) {B : Nat} (hb : Below B w w') (hB : hi ≤ B) : OwP w' lo hi v p := by
  obtain ⟨u, h1, h2, h3⟩ := h; exact ⟨u, h1, h2.below hb hB, h3⟩
theorem OwP.keep {w w' : World} {lo hi a b : Nat} {v : Value} {p : Phr} (h : OwP w lo hi v p) (hk : Keep a b w w') (hd : hi ≤ a ∨ b ≤ lo) : OwP w' lo hi v p := by
  obtain ⟨u, h1, h2, h3⟩ := h; exact ⟨u, h1, h2.keep hk hd, h3⟩
theorem OwPS.below {w w' : World} {lo hi : Nat} {v : Value} {ps : List Phr} (h : OwPS w lo hi v ps) {B : Nat} (hb : Below B w w') (hB : hi ≤ B) : OwPS w' lo hi v ps := by
  obtain ⟨us, h1, h2, h3, h4⟩ := h; exact ⟨us, h1.below hb hB, owns_below h2 h4 hb hB, h3, h4⟩
theorem OwPS.keep {w w' : World} {lo hi a b : Nat} {v : Value} {ps : List Phr} (h : OwPS w lo hi v ps) (hk : Keep a b w w') (hd : hi ≤ a ∨ b ≤ lo) : OwPS w' lo hi v ps := by
  obtain ⟨us, h1, h2, h3, h4⟩ := h; exact ⟨us, h1.keep hk hd, owns_keep h2 h4 hk hd, h3, h4⟩
theorem OwB.below {w w' : World} {lo hi : Nat} {v : Value} {ps : List Phr} (h : OwB w lo hi v ps) {B : Nat} (hb : Below B w w') (hB : hi ≤ B) : OwB w' lo hi v ps := by
  obtain ⟨u, h1, h2⟩ := h; exact ⟨u, h1, h2.below hb hB⟩
theorem OwB.keep {w w' : World} {lo hi a b : Nat} {v : Value} {ps : List Phr} (h : OwB w lo hi v ps) (hk : Keep a b w w') (hd : hi ≤ a ∨ b ≤ lo) : OwB w' lo hi v ps := by
  obtain ⟨u, h1, h2⟩ := h; exact ⟨u, h1, h2.keep hk hd⟩
theorem OwP.rd {w : World} {lo hi : Nat} {v : Value} {p : Phr} (h : OwP w lo hi v p) : RdP w hi v p := by
  obtain ⟨u, h1, h2, h3⟩ := h; exact ⟨u, h1, h2.rd, h3⟩
theorem OwPS.rd {w : World} {lo hi : Nat} {v : Value} {ps : List Phr} (h : OwPS w lo hi v ps) : RdPS w hi v ps := by
  obtain ⟨us, h1, h2, h3, h4⟩ := h; exact ⟨us, h1.rd, rd_of_owns h2 h4, h3⟩
theorem OwB.rd {w : World} {lo hi : Nat} {v : Value} {ps : List Phr} (h : OwB w lo hi v ps) : RdB w hi v ps := by
  obtain ⟨u, h1, h2⟩ := h; exact ⟨u, h1, h2.rd⟩
/-- What is left of a number of cells behind a phrase, behind phrases. -/
def szPhraseM (p : Phr) (left : Int) : Int := if left - p.1.size < 0 then -1 else if left - p.1.size - p.2.length < 0 then -1 else left - p.1.size - p.2.length
def szPhrRest : Int → List Phr → Int
  | l, [] => l
  | l, p :: r => if szPhraseM p l < 0 then -1 else szPhrRest (szPhraseM p l) r
def szBookM (ps : List Phr) (left : Int) : Int := if left - ps.length < 0 then -1 else szPhrRest (left - ps.length) ps
def sizeP (p : Phr) : Nat := p.1.size + p.2.length
def sizeB : List Phr → Nat
  | [] => 0
  | p :: r => sizeP p + 1 + sizeB r
theorem szPhraseM_bd {p : Phr} {l : Int} (h : ¬ szPhraseM p l < 0) : szPhraseM p l = l - sizeP p ∧ sizeP p ≤ l := by
  unfold szPhraseM at *
  unfold sizeP
  split at h
  · omega
  · split at h
    · omega
    · rename_i h1 h2; rw [if_neg h1, if_neg h2]; omega
theorem szPhrRest_bd (l : Int) (ps : List Phr) (h : ¬ szPhrRest l ps < 0) : (sizeB ps : Int) ≤ l + ps.length := by
  induction ps generalizing l with
  | nil => simp only [szPhrRest] at h; simp only [sizeB, List.length_nil]; omega
  | cons p r ih =>
    simp only [szPhrRest] at h
    split at h
    · omega
    · rename_i h1
      have h2 := szPhraseM_bd h1
      have := ih _ h
      simp only [sizeB, List.length_cons]
      omega
theorem szBook_bd {ps : List Phr} {left z : Int} (h : z = szBookM ps left) (hz : ¬ z < 0) (hl : left ≤ 1048576 := by omega) : sizeB ps ≤ 1048576 := by
  subst h
  unfold szBookM at hz
  split at hz
  · omega
  · have := szPhrRest_bd _ _ hz
    omega
theorem sizeB_at {ps : List Phr} {k : Nat} {p : Phr} (h : ps[k]? = some p) : sizeB (ps.take (k + 1)) = sizeB (ps.take k) + sizeP p + 1 ∧ sizeB (ps.take (k + 1)) ≤ sizeB ps := by
  induction ps generalizing k with
  | nil => simp at h
  | cons y r ih =>
    cases k with
    | zero => simp at h; subst h; simp [sizeB]
    | succ k =>
      have := ih (k := k) (by simpa using h)
      simp only [List.take_succ_cons, sizeB]
      omega
theorem sizeB_len (ps : List Phr) : ps.length ≤ sizeB ps := by
  induction ps with
  | nil => simp
  | cons y r ih => simp only [List.length_cons, sizeB]; omega
theorem bel_box {B : Nat} {w w' : World} {o : Obj} (h : Below (w.alloc o).heap.size (w.alloc o) w') (hB : B ≤ w.heap.size) : Below B w w' :=
  ((Below.refl B w).alloc hB o).trans (h.mono (by simp; omega))
theorem szPhrase_any (p : Phr) (v : Value) (left : Int) (hi : Nat) (w : World) (h : RdP w hi v p) (hhi : hi ≤ w.heap.size) (h0 : 0 ≤ left) (h1 : left ≤ 1048576) :
    Calls Tryd.prog 61 #[v, .int .i64 left] w fun e w' => e = .returned (.int .i64 (szPhraseM p left)) ∧ Below w.heap.size w w' := by
  obtain ⟨u, rfl, hu, ht⟩ := h
  have H := Lib.hid (RdI.below hu ((Below.refl w.heap.size w).alloc (Nat.le_refl _) (.cells #[.string p.1, u] 76)) hhi)
  clear hu
  unfold szPhraseM
  have hba : Below w.heap.size w (w.alloc (.cells #[.string p.1, u] 76)) := (Below.refl _ _).alloc (Nat.le_refl _) _
  by_cases hl1 : left - p.1.size < 0
  · rw [if_pos hl1]
    go_enter Tryd.func61, Tryd.ntmps61
    go_wp2_with fail
    go_ret
    exact ⟨rfl, hba⟩
  · rw [if_neg hl1]
    by_cases hl2 : left - p.1.size - p.2.length < 0
    · rw [if_pos hl2]
      go_enter Tryd.func61, Tryd.ntmps61
      go_wp2_with fail
      refine (szIntS_any p.2 u _ hi _ H.out (by omega) (by omega)).mono ?_
      rw [if_pos hl2]
      rintro e w' ⟨rfl, rfl⟩
      go_wp2_with fail
      go_ret
      exact ⟨rfl, hba⟩
    · rw [if_neg hl2]
      go_enter Tryd.func61, Tryd.ntmps61
      go_wp2_with fail
      refine (szIntS_any p.2 u _ hi _ H.out (by omega) (by omega)).mono ?_
      rw [if_neg (by omega)]
      rintro e w' ⟨rfl, rfl⟩
      go_wp2_with fail
      go_ret
      exact ⟨rfl, hba⟩
set_option maxHeartbeats 400000 in
theorem szPhraseS_any (ps : List Phr) (v : Value) (left : Int) (hi : Nat) (w : World) (h : RdPS w hi v ps) (hhi : hi ≤ w.heap.size) (h0 : 0 ≤ left) (h1 : left ≤ 1048576) :
    Calls Tryd.prog 39 #[v, .int .i64 left] w fun e w' => e = .returned (.int .i64 (szBookM ps left)) ∧ Below w.heap.size w w' := by
  obtain ⟨A, c, rfl, hc, hm⟩ := h.form
  have H := Lib.hid h
  clear h
  unfold szBookM
  by_cases hlt : left - ps.length < 0
  · rw [if_pos hlt]
    go_enter Tryd.func39, Tryd.ntmps39
    go_wp2
    go_ret
    exact ⟨rfl, Below.refl _ _⟩
  · rw [if_neg hlt]
    obtain ⟨z, hz⟩ : ∃ z, z = szPhrRest (left - ps.length) ps := ⟨_, rfl⟩
    rw [← hz]
    have HZ := Lib.hid hz
    clear hz
    go_enter Tryd.func39, Tryd.ntmps39
    go_wp2
    go_loopw [1, 5] (fun q i wr => ∃ (k : Nat) (l : Int), k ≤ ps.length ∧ i = .int .i64 k ∧ q = .int .i64 l ∧ 0 ≤ l ∧ l ≤ 1048576 ∧ Hid (z = szPhrRest l (ps.drop k)) ∧ Below w.heap.size w wr) (fun _ i _ => ps.length - (intOf i).toNat)
    case atStart => exact ⟨0, _, Nat.zero_le _, rfl, rfl, by omega, by omega, HZ.out, Below.refl _ _⟩
    case round =>
      obtain ⟨k, l, hk, rfl, rfl, hl0, hl1, hzl, hbr⟩ := hrel
      by_cases hlt : k < ps.length
      · obtain ⟨b1, o1, c1, u, t, xs, hv, _, hx, hcell1, hcell2, hru, hts⟩ := (H.out.below hbr hhi).at_ hlt
        cases hv
        have hdr : ps.drop k = (t, xs) :: ps.drop (k + 1) := by
          rw [List.drop_eq_getElem_cons hlt]
          rw [List.getElem?_eq_getElem hlt] at hx
          rw [Option.some.inj hx]
        have hz2 := hzl.out
        rw [hdr, szPhrRest] at hz2
        have HZ2 := Lib.hid hz2
        have HRU : Hid (RdP wr hi (.agg #[.string t, u]) (t, xs)) := ⟨u, rfl, hru, hts⟩
        have hbs := hbr.size
        clear hz2 hdr hx hru
        by_cases hneg : szPhraseM (t, xs) l < 0
        · go_wp2_with fail
          refine (szPhrase_any (t, xs) _ l hi _ HRU.out (by omega) hl0 hl1).mono ?_
          rintro e w' ⟨rfl, hb2⟩
          have hb3 := hbr.trans (hb2.mono hbs)
          go_wp2_with fail
          go_ret
          exact ⟨ret_int (by rw [HZ2.out, if_pos hneg]), hb3⟩
        · have hbd := szPhraseM_bd hneg
          have hbd1 := hbd.1
          have HB1 := Lib.hid hbd1
          have hbd2 := hbd.2
          have hbd3 : szPhraseM (t, xs) l ≤ 1048576 := by omega
          have hbd4 : 0 ≤ szPhraseM (t, xs) l := by omega
          clear hbd hbd1
          go_wp2_with fail
          refine (szPhrase_any (t, xs) _ l hi _ HRU.out (by omega) hl0 hl1).mono ?_
          rintro e w' ⟨rfl, hb2⟩
          have hb3 := hbr.trans (hb2.mono hbs)
          go_wp2_with fail
          go_roundw
          case rel => exact ⟨k + 1, szPhraseM (t, xs) l, by omega, by go_num, rfl, by omega, by omega, by have := HZ2.out; rw [if_neg (by omega)] at this; exact this, hb3⟩
          case measure => simp [intOf]; omega
      · obtain rfl : k = ps.length := by omega
        go_wp2
        go_ret
        exact ⟨ret_int (by rw [hzl.out, List.drop_length]; rfl), hbr⟩
theorem szBook_any (ps : List Phr) (v : Value) (left : Int) (hi : Nat) (w : World) (h : RdB w hi v ps) (hhi : hi ≤ w.heap.size) (h0 : 0 ≤ left) (h1 : left ≤ 1048576) :
    Calls Tryd.prog 16 #[v, .int .i64 left] w fun e w' => e = .returned (.int .i64 (szBookM ps left)) ∧ Below w.heap.size w w' := by
  obtain ⟨u, rfl, hu⟩ := h
  have H := Lib.hid (hu.below ((Below.refl w.heap.size w).alloc (Nat.le_refl _) (.cells #[u] 38)) hhi)
  clear hu
  have hneg : szBookM ps left < 0 → szBookM ps left = -1 := by
    intro hn
    unfold szBookM at *
    split
    · rfl
    · rename_i h2
      rw [if_neg h2] at hn
      revert hn
      generalize left - ps.length = l at h2
      clear h0 h1 H
      induction ps generalizing l with
      | nil => intro hn; simp only [szPhrRest] at hn; omega
      | cons p r ih =>
        simp only [szPhrRest]
        split
        · intro _; rfl
        · rename_i h3; intro hn; exact ih _ (by omega) hn
  have HN := Lib.hid hneg
  clear hneg
  by_cases hz : szBookM ps left < 0
  · go_enter Tryd.func16, Tryd.ntmps16
    go_wp2_with fail
    refine (szPhraseS_any ps u left hi _ H.out (by simp; omega) h0 h1).mono ?_
    rintro e w' ⟨rfl, hb⟩
    have hb2 := bel_box hb (Nat.le_refl w.heap.size)
    clear hb
    go_wp2_with fail
    go_ret
    exact ⟨ret_int (HN.out hz).symm, hb2⟩
  · go_enter Tryd.func16, Tryd.ntmps16
    go_wp2_with fail
    refine (szPhraseS_any ps u left hi _ H.out (by simp; omega) h0 h1).mono ?_
    rintro e w' ⟨rfl, hb⟩
    have hb2 := bel_box hb (Nat.le_refl w.heap.size)
    clear hb
    go_wp2_with fail
    go_ret
    exact ⟨rfl, hb2⟩
theorem toPhrase_any (p : Phr) (v : Value) (hi : Nat) (w : World) (h : RdP w hi v p) (hhi : hi ≤ w.heap.size) (hsz : sizeP p ≤ 1048576) :
    Calls Tryd.prog 62 #[v] w fun e w' => ∃ v', e = .returned v' ∧ OwP w' w.heap.size w'.heap.size v' p ∧ Below w.heap.size w w' := by
  obtain ⟨u, rfl, hu, ht⟩ := h
  have hba : Below w.heap.size w (((w.alloc (.cells #[.string p.1, u] 76)).alloc (.cells #[.string { data := #[] }, .slice Option.none 0 0] 49)).alloc (.cells #[.string p.1, .slice Option.none 0 0] 49)) :=
    (((Below.refl _ _).alloc (Nat.le_refl _) _).alloc (by simp) _).alloc (by simp; omega) _
  have H := Lib.hid (hu.below hba hhi)
  have hlen : p.2.length ≤ 1048576 := by unfold sizeP at hsz; omega
  clear hu
  go_enter Tryd.func62, Tryd.ntmps62
  go_wp2_with fail
  refine (toIntS_any p.2 u hi _ H.out (by omega) (by simp; omega)).mono ?_
  rintro e w4 ⟨u', rfl, hu', hb4⟩
  have hblk1 : Blk w4 (w.heap.size + 1) 49 [.string { data := #[] }, .slice Option.none 0 0] := by
    have := ((Blk.new (w.alloc (.cells #[.string p.1, u] 76)) 49 #[.string { data := #[] }, .slice Option.none 0 0]).alloc (.cells #[.string p.1, .slice Option.none 0 0] 49)).below hb4 (by simp)
    simpa using this
  have hblk2 : Blk w4 (w.heap.size + 1 + 1) 49 [.string p.1, .slice Option.none 0 0] := by
    have := (Blk.new ((w.alloc (.cells #[.string p.1, u] 76)).alloc (.cells #[.string { data := #[] }, .slice Option.none 0 0] 49)) 49 #[.string p.1, .slice Option.none 0 0]).below hb4 (by simp)
    simpa using this
  have hsz4 : w.heap.size + 1 + 1 < w4.heap.size := hblk2.lt
  have c10 : w4.cell? ⟨w.heap.size + 1, 0, Option.none⟩ = some (.string { data := #[] }) := hblk1.cell 0
  have c11 : w4.cell? ⟨w.heap.size + 1, 1, Option.none⟩ = some (.slice Option.none 0 0) := hblk1.cell 1
  have c20 : w4.cell? ⟨w.heap.size + 1 + 1, 0, Option.none⟩ = some (.string p.1) := hblk2.cell 0
  have c21 : w4.cell? ⟨w.heap.size + 1 + 1, 1, Option.none⟩ = some (.slice Option.none 0 0) := hblk2.cell 1
  have f10 := hblk1.frozen 0
  have f11 := hblk1.frozen 1
  have f20 := hblk2.frozen 0
  have f21 := hblk2.frozen 1
  obtain ⟨A', c', rfl, hc'⟩ := hu'.form
  have HU := Lib.hid hu'
  have HB := Lib.hid (hba.trans (hb4.mono (by simp; omega)))
  clear hb4 hu' hba hblk1 hblk2
  go_wp2_with fail
  refine bodyPost_ret (v := .agg #[.string p.1, .slice A' p.2.length c']) (by simp [results, Tryd.results62, go_sem, c10, c11]) rfl ?_
  have hk : Keep (w.heap.size + 1) (w.heap.size + 3) w4 (((w4.setCell ⟨w.heap.size + 1 + 1, 1, Option.none⟩ (.slice A' p.2.length c')).setCell ⟨w.heap.size + 1, 0, Option.none⟩ (.string p.1)).setCell ⟨w.heap.size + 1, 1, Option.none⟩ (.slice A' p.2.length c')) :=
    (((Keep.refl _ _ w4).setCell (p := ⟨w.heap.size + 1 + 1, 1, Option.none⟩) (by simp) (by simp) _).setCell (p := ⟨w.heap.size + 1, 0, Option.none⟩) (by simp) (by simp) _).setCell (p := ⟨w.heap.size + 1, 1, Option.none⟩) (by simp) (by simp) _
  have h3 : OwI w4 (w.heap.size + 3) w4.heap.size (.slice A' p.2.length c') p.2 := by simpa using HU.out
  refine ⟨_, rfl, ⟨_, rfl, ?_, ht⟩, HB.out.trans (hk.bel.mono (by omega))⟩
  have h4 := (h3.keep hk (.inr (Nat.le_refl _))).mono (lo' := w.heap.size) (by omega) (Nat.le_refl _)
  rw [hk.size]; exact h4
/-- n empty phrases: their cells. -/
def noPhr : Nat → List Value
  | 0 => []
  | n + 1 => .string { data := #[] } :: .slice Option.none 0 0 :: noPhr n
theorem noPhr_len (n : Nat) : (noPhr n).length = n * 2 := by
  induction n with
  | zero => rfl
  | succ n ih => simp only [noPhr, List.length_cons, ih]; omega
theorem noPhr_at {n j : Nat} (h : j < n) : (noPhr n)[j * 2]? = some (.string { data := #[] }) ∧ (noPhr n)[j * 2 + 1]? = some (.slice Option.none 0 0) := by
  induction n generalizing j with
  | zero => omega
  | succ n ih =>
    cases j with
    | zero => exact ⟨rfl, rfl⟩
    | succ j =>
      have := ih (j := j) (by omega)
      simp only [noPhr, show (j + 1) * 2 = j * 2 + 1 + 1 by omega, List.getElem?_cons_succ]
      exact this
theorem info_phr : (Tryd.prog.info? 49).map (fun i => (i.zero, i.size, i.bytes)) = some (some (.agg #[.string { data := #[] }, .slice Option.none 0 0]), 2, 40) := by kernel_rfl
theorem made_phr (n : Nat) : (madeCells (Value.agg #[.string { data := #[] }, .slice Option.none 0 0]).cells (n * 2)).toList = noPhr n := by
  apply List.ext_getElem?
  intro i
  by_cases h : i < n * 2
  · have h1 : (madeCells (Value.agg #[.string { data := #[] }, .slice Option.none 0 0]).cells (n * 2)).toList[i]? = some (#[Value.string { data := #[] }, .slice Option.none 0 0][i % 2]!) := by
      simp [madeCells, h, Value.cells]
    rw [h1]
    rcases Nat.mod_two_eq_zero_or_one i with e | e
    · have := (noPhr_at (n := n) (j := i / 2) (by omega)).1
      rw [show i / 2 * 2 = i by omega] at this
      rw [this, e]; rfl
    · have := (noPhr_at (n := n) (j := i / 2) (by omega)).2
      rw [show i / 2 * 2 + 1 = i by omega] at this
      rw [this, e]; rfl
  · rw [List.getElem?_eq_none (by simp [madeCells]; omega), List.getElem?_eq_none (by rw [noPhr_len]; omega)]
/-- The room of n phrases, behind a name. -/
def phrRoom (n : Nat) : Array Value := madeCells (Value.agg #[.string { data := #[] }, .slice Option.none 0 0]).cells (n * 2)
theorem set_pair {A : List Value} {k m : Nat} {x y : Value} (h : 0 < m) (hl : A.length = k * 2) : ((A ++ noPhr m).set (k * 2) x).set (k * 2 + 1) y = (A ++ [x, y]) ++ noPhr (m - 1) := by
  obtain ⟨q, rfl⟩ : ∃ q, m = q + 1 := ⟨m - 1, by omega⟩
  rw [List.set_append_right _ _ (by omega), List.set_append_right _ _ (by omega), hl, Nat.sub_self, show k * 2 + 1 - k * 2 = 1 by omega]
  simp [noPhr]
theorem make_phr (n : Nat) (hn : n ≤ 1048576) (w : World) :
    (Instr.makeSlice 22 (.int .i64 (n : Int)) (.int .i64 (n : Int))).run Tryd.prog w = .ok (.slice (some ⟨w.heap.size, 0, Option.none⟩) n n) (w.alloc (.cells (phrRoom n) 49)) := by
  obtain ⟨i, hi, hz0, hz1, hz2⟩ := info_parts info_phr
  have h := run_make_rowN (P := Tryd.prog) 22 49 i (.agg #[.string { data := #[] }, .slice Option.none 0 0]) Tryd.underlying22 hi hz0 .i64 .i64 n n (Nat.le_refl _) (by rw [hz2]; omega) (by omega) w
  rw [h, hz1]
  rfl
/-- Phrases of the call's own. -/
def RetOwPS (ps : List Phr) (w : World) (e : Ending) (w' : World) : Prop := ∃ v, e = .returned v ∧ OwPS w' w.heap.size w'.heap.size v ps ∧ Below w.heap.size w w'
set_option maxHeartbeats 1000000 in
theorem toPhraseS_any (ps : List Phr) (v : Value) (hi : Nat) (w : World) (h : RdPS w hi v ps) (hsz : sizeB ps ≤ 1048576) (hhi : hi ≤ w.heap.size) : Calls Tryd.prog 40 #[v] w (RetOwPS ps w) := by
  have hok := h
  obtain ⟨_, _, _, htx⟩ := hok
  have HTX := Lib.hid htx
  obtain ⟨A, c, rfl, hc, hm⟩ := h.form
  have H := Lib.hid h
  have hpl := sizeB_len ps
  clear h htx
  have hmk := make_phr ps.length (by omega)
  go_enter Tryd.func40, Tryd.ntmps40
  go_wp2
  go_loopw [4] (fun i wr => ∃ (k : Nat) (us : List Value), k ≤ ps.length ∧ i = .int .i64 k ∧ us.length = k ∧ Blk wr w.heap.size 49 (zipC (txts (ps.take k)) us ++ noPhr (ps.length - k)) ∧
      RowsO wr (w.heap.size + 1) wr.heap.size us (sigs (ps.take k)) ∧ Below w.heap.size w wr ∧ w.heap.size + 1 ≤ wr.heap.size) (fun i _ => ps.length - (intOf i).toNat)
  case atStart => exact ⟨0, [], Nat.zero_le _, rfl, rfl, by have := Blk.new w 49 (phrRoom ps.length); unfold phrRoom at this; rw [made_phr] at this; exact this, RowsO.nil _ _ _, (Below.refl _ _).alloc (Nat.le_refl _) _, by simp⟩
  case round =>
    obtain ⟨k, us, hk, rfl, hul, hblk, hrows, hbr, hsz1⟩ := hrel
    by_cases hlt : k < ps.length
    · obtain ⟨b1, o1, c1, a, t, xs, hv, _, hx, hcell1, hcell2, hra, hts⟩ := (H.out.below hbr hhi).at_ hlt
      cases hv
      have HA : Hid (RdP wr hi (.agg #[.string t, a]) (t, xs)) := ⟨a, rfl, hra, hts⟩
      have HX := Lib.hid hx
      have hsj := sizeB_at hx
      have hlx : sizeP (t, xs) ≤ 1048576 := by omega
      have hbs := hbr.size
      have HU := Lib.hid hul
      clear hx hra hul hsj
      go_wp2_with fail
      refine (toPhrase_any (t, xs) _ hi _ HA.out (by omega) hlx).mono ?_
      rintro e w2 ⟨_, rfl, ⟨u, rfl, hu, _⟩, hb2⟩
      have hs2 := hb2.size
      have hblk2 := hblk.below hb2 (by omega)
      have hzl : (zipC (txts (ps.take k)) us).length = k * 2 := by rw [zipC_len _ _ (by simp [txts]; have := HU.out; omega)]; simp [txts]; omega
      have hn1 := noPhr_at (n := ps.length - k) (j := 0) (by omega)
      have hcell3 := hblk2.cell (k * 2)
      rw [List.getElem?_append_right (by omega), show k * 2 - (zipC (txts (ps.take k)) us).length = 0 * 2 by omega, hn1.1] at hcell3
      have hcell4 := hblk2.cell (k * 2 + 1)
      rw [List.getElem?_append_right (by omega), show k * 2 + 1 - (zipC (txts (ps.take k)) us).length = 0 * 2 + 1 by omega, hn1.2] at hcell4
      have hfr3 := hblk2.frozen (k * 2)
      have hfr4 := hblk2.frozen (k * 2 + 1)
      clear hn1 hcell1 hcell2 hblk
      obtain ⟨A2, c2, rfl, hc2'⟩ := hu.form
      have hset := (hblk2.set_ (k * 2) (.string t)).set_ (k * 2 + 1) (.slice A2 xs.length c2)
      rw [set_pair (by omega) hzl] at hset
      have HS := Lib.hid hset
      have HO := Lib.hid hu
      have HR := Lib.hid hrows
      have HB2 := Lib.hid hb2
      clear hset hu hrows hb2 hblk2 hzl
      go_wp2
      go_roundw
      case rel =>
        refine ⟨k + 1, us ++ [.slice A2 xs.length c2], by omega, by go_num, by have := HU.out; simp [this], ?_, ?_, ((hbr.trans (HB2.out.mono (by omega))).setCell (Nat.le_refl _) _).setCell (Nat.le_refl _) _, by simp [World.setCell]; omega⟩
        · have := HS.out
          rw [show ps.length - (k + 1) = ps.length - k - 1 by omega, take_snocN HX.out]
          unfold txts at *
          rw [List.map_append, List.map_cons, List.map_nil, zipC_append _ _ _ _ (by simp; have := HU.out; omega)]
          exact this
        · rw [take_snocN HX.out]
          unfold sigs at *
          rw [List.map_append, List.map_cons, List.map_nil]
          have h1 := (HR.out.below HB2.out (Nat.le_refl _)).snoc HO.out hsz1 hs2
          have h2 := h1.keep (((Keep.refl w.heap.size (w.heap.size + 1) w2).setCell (p := ⟨w.heap.size, k * 2, Option.none⟩) (Nat.le_refl _) (by simp) (.string t)).setCell (p := ⟨w.heap.size, k * 2 + 1, Option.none⟩) (Nat.le_refl _) (by simp) (.slice A2 xs.length c2)) (.inr (Nat.le_refl _))
          simpa [World.setCell] using h2
      case measure => simp [intOf]; omega
    · obtain rfl : k = ps.length := by omega
      rw [List.take_of_length_le (Nat.le_refl _)] at hrows hblk
      rw [Nat.sub_self, noPhr, List.append_nil] at hblk
      have hzl : (zipC (txts ps) us).length = ps.length * 2 := by rw [zipC_len _ _ (by simp [txts]; omega)]; simp [txts]
      go_wp2
      go_ret
      refine ⟨_, rfl, ⟨us, hrows.mono (by omega) (Nat.le_refl _), ⟨hzl, .inr ⟨w.heap.size, ps.length, (zipC (txts ps) us).toArray, rfl, Nat.le_refl _, hblk, Nat.le_refl _, by unfold maxLen; omega, by simpa using hzl, by rw [List.take_of_length_le (by simp; omega)]⟩⟩, HTX.out, fun g hg => by cases hg; show w.heap.size < _; omega⟩, hbr⟩
theorem toBook_any (ps : List Phr) (v : Value) (hi : Nat) (w : World) (h : RdB w hi v ps) (hsz : sizeB ps ≤ 1048576) (hhi : hi ≤ w.heap.size) :
    Calls Tryd.prog 18 #[v] w fun e w' => ∃ v', e = .returned v' ∧ OwB w' w.heap.size w'.heap.size v' ps ∧ Below w.heap.size w w' := by
  obtain ⟨u, rfl, hu⟩ := h
  have hba : Below w.heap.size w (((w.alloc (.cells #[u] 38)).alloc (.cells #[.slice Option.none 0 0] 24)).alloc (.cells #[.slice Option.none 0 0] 24)) :=
    (((Below.refl _ _).alloc (Nat.le_refl _) _).alloc (by simp) _).alloc (by simp; omega) _
  have H := Lib.hid (hu.below hba hhi)
  clear hu
  go_enter Tryd.func18, Tryd.ntmps18
  go_wp2_with fail
  refine (toPhraseS_any ps u hi _ H.out hsz (by simp; omega)).mono ?_
  rintro e w4 ⟨u', rfl, hu', hb4⟩
  have hblk1 : Blk w4 (w.heap.size + 1) 24 [.slice Option.none 0 0] := by
    have := ((Blk.new (w.alloc (.cells #[u] 38)) 24 #[.slice Option.none 0 0]).alloc (.cells #[.slice Option.none 0 0] 24)).below hb4 (by simp)
    simpa using this
  have hblk2 : Blk w4 (w.heap.size + 1 + 1) 24 [.slice Option.none 0 0] := by
    have := (Blk.new ((w.alloc (.cells #[u] 38)).alloc (.cells #[.slice Option.none 0 0] 24)) 24 #[.slice Option.none 0 0]).below hb4 (by simp)
    simpa using this
  have hsz4 : w.heap.size + 1 + 1 < w4.heap.size := hblk2.lt
  have c10 : w4.cell? ⟨w.heap.size + 1, 0, Option.none⟩ = some (.slice Option.none 0 0) := hblk1.cell 0
  have c20 : w4.cell? ⟨w.heap.size + 1 + 1, 0, Option.none⟩ = some (.slice Option.none 0 0) := hblk2.cell 0
  have f10 := hblk1.frozen 0
  have f20 := hblk2.frozen 0
  obtain ⟨A', c', rfl, hc', hcl'⟩ := hu'.rd.form
  have HU := Lib.hid hu'
  have HB := Lib.hid (hba.trans (hb4.mono (by simp; omega)))
  clear hb4 hu' hba hblk1 hblk2
  go_wp2_with fail
  refine bodyPost_ret (v := .agg #[.slice A' ps.length c']) (by simp [results, Tryd.results18, go_sem, c10]) rfl ?_
  have hk : Keep (w.heap.size + 1) (w.heap.size + 3) w4 ((w4.setCell ⟨w.heap.size + 1 + 1, 0, Option.none⟩ (.slice A' ps.length c')).setCell ⟨w.heap.size + 1, 0, Option.none⟩ (.slice A' ps.length c')) :=
    ((Keep.refl _ _ w4).setCell (p := ⟨w.heap.size + 1 + 1, 0, Option.none⟩) (by simp) (by simp) _).setCell (p := ⟨w.heap.size + 1, 0, Option.none⟩) (by simp) (by simp) _
  have h3 : OwPS w4 (w.heap.size + 3) w4.heap.size (.slice A' ps.length c') ps := by simpa using HU.out
  refine ⟨_, rfl, ⟨_, rfl, ?_⟩, HB.out.trans (hk.bel.mono (by omega))⟩
  obtain ⟨us, g1, g2, g3, g4⟩ := h3.keep hk (.inr (Nat.le_refl _))
  rw [hk.size]
  refine ⟨us, g1.mono (by omega) (Nat.le_refl _), ⟨g2.1, ?_⟩, g3, g4⟩
  rcases g2.2 with hn | ⟨g, cap, cur, e1, hl, rest⟩
  · exact .inl hn
  · exact .inr ⟨g, cap, cur, e1, by omega, rest⟩
end Go.Proofs.YtjnkdjokbamibaaDoor
/- What a book and a phrase that read as data look like in memory. -/
namespace Go.Proofs.YtjnkdjokbamibaaDoor
set_option maxRecDepth 100000
open Go.ChangeShapes Go.WideShapes Go.ChangeAt Go.RowKit Go.Deep
theorem open_agg1 {H : Type} {enc : TypeId × Value → H} {P : Program} {w : World} {base : Nat} {spare : Nat → Bool} {held : Bool} {r : Reach} {b0 : Nat} {t : TypeId} {f0 : Field} {v : Value} {d : DataW H} {p : List MemPlace}
    (hs : P.underlying t = some (.struct #[f0])) (hC : P.cellsOf t = 1) (ho : f0.offset = 0) (hk : P.cellsOf f0.type = 1) (hv : Value.okWide P w r b0 t v) (h : DataW.Trod enc P w base spare held t v d p) :
    ∃ v0 y0 n, v = .agg #[v0] ∧ DataW.trod enc P w base spare held n f0.type [v0] = some y0 := by
  obtain ⟨cs, rfl, hsz⟩ := okWide_struct hs hv
  obtain ⟨c0, rfl⟩ : ∃ c0, cs = #[c0] := by
    match cs, hsz.trans hC with
    | ⟨[c]⟩, _ => exact ⟨c, rfl⟩
  obtain ⟨fuel, hf⟩ := h
  obtain ⟨y0, n, _, _, h0⟩ := trod_struct1 hs hf
  exact ⟨c0, y0, n, rfl, by simpa [Value.cells, ho, hk] using h0⟩
theorem zipC_inv : ∀ (ts : List ByteArray) (us : List Value) (j : Nat) (u : Value), (zipC ts us)[j]? = some u → (∃ i t, j = i * 2 ∧ ts[i]? = some t ∧ u = .string t) ∨ (∃ i, j = i * 2 + 1 ∧ us[i]? = some u)
  | [], us, j, u, h => by simp [zipC] at h
  | t :: ts, [], j, u, h => by simp [zipC] at h
  | t :: ts, v :: us, 0, u, h => by simp [zipC] at h; exact .inl ⟨0, t, rfl, rfl, h.symm⟩
  | t :: ts, v :: us, 1, u, h => by simp [zipC] at h; exact .inr ⟨0, rfl, by simp [h]⟩
  | t :: ts, v :: us, j + 2, u, h => by
    simp only [zipC, List.getElem?_cons_succ] at h
    rcases zipC_inv ts us j u h with ⟨i, t', rfl, h1, h2⟩ | ⟨i, rfl, h1⟩
    · exact .inl ⟨i + 1, t', by omega, by simpa using h1, h2⟩
    · exact .inr ⟨i + 1, by omega, by simpa using h1⟩
theorem open_phrS {H : Type} {enc : TypeId × Value → H} {w : World} {spare : Nat → Bool} {held : Bool} {fuel : Nat} {v : Value} {x : DataW H × List MemPlace}
    (h : DataW.trod enc Tryd.prog w 0 spare held fuel 36 [v] = some x) : ∃ ps, RdPS w w.heap.size v ps := by
  rcases open_slice_pairs Tryd.underlying36 Tryd.underlying76 (by kernel_rfl) rfl rfl (by kernel_rfl) (by kernel_rfl) h with ⟨hv, _⟩ | ⟨a, len, cap, m, n, V0, V1, D0, D1, P0, P1, hv, _, hl, hm, hmm, _, hcell⟩
  · simp only [List.cons.injEq, and_true] at hv
    subst hv
    exact ⟨[], [], ⟨rfl, fun i u xs hu _ => by simp at hu⟩, ⟨rfl, Option.none, 0, rfl, Nat.le_refl _, Nat.zero_le _, fun h => absurd h (by simp)⟩, fun p hp => by cases hp⟩
  · simp only [List.cons.injEq, and_true] at hv
    subst hv
    have hlm : len ≤ m := by rw [hmm]; split <;> omega
    have hk : ∀ i, ∃ p : Phr, i < len → w.cell? (a.add (i * 2)) = some (.string p.1) ∧ w.cell? (a.add (i * 2 + 1)) = some (V1 i) ∧ RdI w w.heap.size (V1 i) p.2 ∧ p.1.size ≤ 9223372036854775807 := by
      intro i
      by_cases hi : i < len
      · obtain ⟨h0, h1, h2, h3⟩ := hcell i (by omega)
        obtain ⟨s, e, _, hs⟩ := DataW.trod_string Tryd.underlying9 h2
        obtain ⟨xs, hxs⟩ := open_intS h3
        have e' : V0 i = .string s := by simpa using e
        exact ⟨(s, xs), fun _ => ⟨by rw [h0, e'], h1, hxs, by unfold maxLen at hs; show s.size ≤ _; omega⟩⟩
      · exact ⟨(⟨#[]⟩, []), fun h => absurd h hi⟩
    obtain ⟨F, hF⟩ : ∃ F : Nat → Phr, ∀ i, i < len → w.cell? (a.add (i * 2)) = some (.string (F i).1) ∧ w.cell? (a.add (i * 2 + 1)) = some (V1 i) ∧ RdI w w.heap.size (V1 i) (F i).2 ∧ (F i).1.size ≤ 9223372036854775807 :=
      ⟨fun i => Classical.choose (hk i), fun i => Classical.choose_spec (hk i)⟩
    clear hk
    have hzl : (zipC (txts ((List.range len).map F)) ((List.range len).map V1)).length = len * 2 := by rw [zipC_len _ _ (by simp [txts])]; simp [txts]
    refine ⟨(List.range len).map F, (List.range len).map V1, ⟨by simp [sigs], fun i u xs hu hx => ?_⟩, ⟨by rw [hzl]; simp, some a, cap, by simp, by simpa using hl, hm, fun hpos => ?_⟩, fun p hp => ?_⟩
    · have hi : i < len := by
        rcases Nat.lt_or_ge i len with h | h
        · exact h
        · rw [List.getElem?_eq_none (by simp; exact h)] at hu; cases hu
      simp [hi] at hu
      simp [sigs, hi] at hx
      rw [← hu, ← hx]; exact (hF i hi).2.2.1
    · have hpos' : 0 < len := by simpa using hpos
      obtain ⟨b, off, ha, hlt⟩ := spot_of (hF 0 hpos').1
      have ha' : a = ⟨b, off, Option.none⟩ := by simpa [Addr.add] using ha
      subst ha'
      refine ⟨b, off, rfl, hlt, fun j u hu => ?_⟩
      rcases zipC_inv _ _ _ _ hu with ⟨i, t, rfl, h1, rfl⟩ | ⟨i, rfl, h1⟩
      · have hi : i < len := by
          rcases Nat.lt_or_ge i len with h | h
          · exact h
          · rw [List.getElem?_eq_none (by simp [txts]; exact h)] at h1; cases h1
        simp [txts, hi] at h1
        have := (hF i hi).1
        rw [add_plain, h1] at this; exact this
      · have hi : i < len := by
          rcases Nat.lt_or_ge i len with h | h
          · exact h
          · rw [List.getElem?_eq_none (by simp; exact h)] at h1; cases h1
        simp [hi] at h1
        have := (hF i hi).2.1
        rw [add_plain, h1] at this; exact this
    · rw [List.mem_map] at hp
      obtain ⟨i, hi, rfl⟩ := hp
      exact (hF i (List.mem_range.1 hi)).2.2.2
theorem open_book {H : Type} {enc : TypeId × Value → H} {w : World} {spare : Nat → Bool} {held : Bool} {r : Reach} {b0 : Nat} {v : Value} {d : DataW H} {p : List MemPlace}
    (hv : Value.okWide Tryd.prog w r b0 38 v) (h : DataW.Trod enc Tryd.prog w 0 spare held 38 v d p) : ∃ ps, RdB w w.heap.size v ps := by
  obtain ⟨v0, y0, n, rfl, h0⟩ := open_agg1 Tryd.underlying38 (by kernel_rfl) rfl (by kernel_rfl) hv h
  obtain ⟨ps, hps⟩ := open_phrS h0
  exact ⟨ps, v0, rfl, hps⟩
end Go.Proofs.YtjnkdjokbamibaaDoor
/- Comparisons of phrases and books, by the helpers of the laws. -/
namespace Go.Proofs.YtjnkdjokbamibaaDoor
open Go.RowKit
theorem eqPhrase_sameB (p : Phr) (v u : Value) (hi hj : Nat) (w : World) (h : RdP w hi v p) (g : RdP w hj u p) (hh : hi ≤ w.heap.size := by omega) (hg : hj ≤ w.heap.size := by omega) :
    Calls Tryd.prog 55 #[v, u] w fun e w' => e = .returned (.bool true) ∧ Below w.heap.size w w' := by
  obtain ⟨a, rfl, ha, hta⟩ := h
  obtain ⟨b, rfl, hb, htb⟩ := g
  have hba : Below w.heap.size w ((w.alloc (.cells #[.string p.1, a] 49)).alloc (.cells #[.string p.1, b] 49)) := ((Below.refl _ _).alloc (Nat.le_refl _) _).alloc (by simp) _
  have HA := Lib.hid (ha.below hba hh)
  have HB := Lib.hid (hb.below hba hg)
  clear ha hb
  go_enter Tryd.func55, Tryd.ntmps55
  go_wp2_with fail
  refine (eqIntS_sameB p.2 a b hi hj _ HA.out HB.out).mono ?_
  rintro e w4 ⟨rfl, hb4⟩
  have hbz := hba.trans (hb4.mono (by simp; omega))
  clear hba hb4
  go_wp2_with fail
  go_ret
  exact ⟨rfl, hbz⟩
set_option maxRecDepth 100000 in
set_option maxHeartbeats 400000 in
theorem eqPhraseS_sameB (ps : List Phr) (v u : Value) (hi hj : Nat) (w : World) (h : RdPS w hi v ps) (g : RdPS w hj u ps) (hh : hi ≤ w.heap.size := by omega) (hg : hj ≤ w.heap.size := by omega) :
    Calls Tryd.prog 32 #[v, u] w fun e w' => e = .returned (.bool true) ∧ Below w.heap.size w w' := by
  obtain ⟨A, c, rfl, hc, hm⟩ := h.form
  obtain ⟨A', c', rfl, hc', hm'⟩ := g.form
  have H := Lib.hid h
  have G := Lib.hid g
  clear h g
  go_enter Tryd.func32, Tryd.ntmps32
  go_wp2
  go_loopw [5] (fun i wr => ∃ k : Nat, k ≤ ps.length ∧ i = .int .i64 k ∧ Below w.heap.size w wr) (fun i _ => ps.length - (intOf i).toNat)
  case atStart => exact ⟨0, Nat.zero_le _, rfl, Below.refl _ _⟩
  case round =>
    obtain ⟨k, hk, rfl, hbr⟩ := hrel
    by_cases hlt : k < ps.length
    · obtain ⟨b1, o1, c1, a, t, xs, hv, _, hx, hcell1, hcell2, hra, hta⟩ := (H.out.below hbr hh).at_ hlt
      cases hv
      obtain ⟨b2, o2, c2, b, t', xs', hv, _, hx', hcell3, hcell4, hrb, htb⟩ := (G.out.below hbr hg).at_ hlt
      cases hv
      rw [hx] at hx'
      cases hx'
      have HA : Hid (RdP wr hi (.agg #[.string t, a]) (t, xs)) := ⟨a, rfl, hra, hta⟩
      have HB : Hid (RdP wr hj (.agg #[.string t, b]) (t, xs)) := ⟨b, rfl, hrb, htb⟩
      have hs := hbr.size
      clear hx hra hrb
      go_wp2
      go_still_tail 8, (by kernel_rfl)
      change wpList _ _ _ _ _ wr.drew
      have hbd : Below w.heap.size w wr.drew := hbr.drew
      have HA' : Hid (RdP wr.drew hi (.agg #[.string t, a]) (t, xs)) := HA.out
      have HB' : Hid (RdP wr.drew hj (.agg #[.string t, b]) (t, xs)) := HB.out
      have hs' : w.heap.size ≤ wr.drew.heap.size := hs
      revert hbd HA' HB' hs'
      clear hcell1 hcell2 hcell3 hcell4 HA HB
      generalize wr.drew = w2
      intro hbd HA' HB' hs'
      go_wp2_with fail
      refine (eqPhrase_sameB (t, xs) _ _ hi hj _ HA'.out HB'.out (by omega) (by omega)).mono ?_
      rintro e w4 ⟨rfl, hb4⟩
      have hbz := hbd.trans (hb4.mono hs')
      clear hbd hb4
      go_wp2_with fail
      go_roundw
      case rel => exact ⟨k + 1, by omega, by go_num, hbz⟩
      case measure => simp [intOf]; omega
    · go_wp2
      go_ret
      exact ⟨rfl, hbr⟩
theorem eqBook_sameB (ps : List Phr) (v u : Value) (hi hj : Nat) (w : World) (h : RdB w hi v ps) (g : RdB w hj u ps) (hh : hi ≤ w.heap.size := by omega) (hg : hj ≤ w.heap.size := by omega) :
    Calls Tryd.prog 9 #[v, u] w fun e w' => e = .returned (.bool true) ∧ Below w.heap.size w w' := by
  obtain ⟨a, rfl, ha⟩ := h
  obtain ⟨b, rfl, hb⟩ := g
  have hba : Below w.heap.size w ((w.alloc (.cells #[a] 24)).alloc (.cells #[b] 24)) := ((Below.refl _ _).alloc (Nat.le_refl _) _).alloc (by simp) _
  have HA := Lib.hid (ha.below hba hh)
  have HB := Lib.hid (hb.below hba hg)
  clear ha hb
  go_enter Tryd.func9, Tryd.ntmps9
  go_wp2_with fail
  refine (eqPhraseS_sameB ps a b hi hj _ HA.out HB.out (by simp; omega) (by simp; omega)).mono ?_
  rintro e w4 ⟨rfl, hb4⟩
  have hbz := hba.trans (hb4.mono (by simp; omega))
  clear hba hb4
  go_wp2_with fail
  go_ret
  exact ⟨rfl, hbz⟩
end Go.Proofs.YtjnkdjokbamibaaDoor
/- Plain laws on texts: what is cut at a byte and joined again; numbers in decimal. -/
namespace Go.Proofs.YtjnkdjokbamibaaDoor
/-- Texts joined by a byte. -/
def joinC (c : UInt8) : List (List UInt8) → List UInt8
  | [] => []
  | [a] => a
  | a :: b :: r => a ++ c :: joinC c (b :: r)
theorem joinC_cons (c : UInt8) (a : List UInt8) {r : List (List UInt8)} (h : r ≠ []) : joinC c (a :: r) = a ++ c :: joinC c r := by
  cases r with
  | nil => exact absurd rfl h
  | cons b q => rfl
theorem joinC_join (c : UInt8) : ∀ xs : List (List UInt8), Lib.join xs [c] = joinC c xs
  | [] => rfl
  | [a] => Lib.join_one a [c]
  | a :: b :: r => by
    rw [joinC, ← joinC_join c (b :: r), Lib.join_cons, Lib.join_cons]
    simp [Lib.joinTail]
/-- Numbers in decimal, joined. -/
def numsT (c : UInt8) (l : List Int) : List UInt8 := joinC c (l.map Lib.itoa)
theorem itoa_len {n : Int} (h0 : 0 ≤ n) (h1 : n ≤ 63) : 1 ≤ (Lib.itoa n).length ∧ (Lib.itoa n).length ≤ 2 := by
  have : ∀ m : Fin 64, 1 ≤ (Lib.itoa ((m.val : Nat) : Int)).length ∧ (Lib.itoa ((m.val : Nat) : Int)).length ≤ 2 := by decide +kernel
  have h := this ⟨n.toNat, by omega⟩
  rwa [show ((n.toNat : Nat) : Int) = n by omega] at h
theorem numsT_len {c : UInt8} {l : List Int} (h : ∀ n ∈ l, 0 ≤ n ∧ n ≤ 63) : (numsT c l).length ≤ 3 * l.length := by
  unfold numsT
  induction l with
  | nil => simp [joinC]
  | cons n r ih =>
    have h1 := itoa_len (h n (by simp)).1 (h n (by simp)).2
    have ih := ih (fun x hx => h x (by simp [hx]))
    cases r with
    | nil => simp [joinC]; omega
    | cons m q =>
      rw [List.map_cons, joinC_cons _ _ (by simp)]
      simp only [List.length_append, List.length_cons] at ih ⊢
      omega
/-- As the texts are written: a number more. -/
theorem joinC_snoc (c : UInt8) : ∀ (xs : List (List UInt8)) (a : List UInt8), joinC c (xs ++ [a]) = if xs = [] then a else joinC c xs ++ c :: a
  | [], a => rfl
  | [x], a => by simp [joinC]
  | x :: y :: r, a => by
    have ih := joinC_snoc c (y :: r) a
    rw [if_neg (by simp)] at ih ⊢
    rw [List.cons_append, joinC_cons c x (by simp), ih]
    show x ++ c :: (joinC c (y :: r) ++ c :: a) = (x ++ c :: joinC c (y :: r)) ++ c :: a
    simp
theorem numsT_snoc (c : UInt8) (l : List Int) (n : Int) : numsT c (l ++ [n]) = if l = [] then Lib.itoa n else numsT c l ++ c :: Lib.itoa n := by
  unfold numsT
  rw [List.map_append, List.map_cons, List.map_nil, joinC_snoc]
  by_cases h : l = []
  · subst h; rfl
  · rw [if_neg h, if_neg (by simpa using h)]
end Go.Proofs.YtjnkdjokbamibaaDoor
/- Contracts of the comparisons of lists and of their beginnings, of the program and of the reference. -/
namespace Go.Proofs.YtjnkdjokbamibaaDoor
open Go.RowKit
/-- A slice cut off at its end. -/
theorem Rd.cut {w : World} {hi n c : Nat} {A : Option Addr} {xs : List Value} (h : Rd w hi 1 (.slice A n c) n xs) {k : Nat} (hk : k ≤ n) : Rd w hi 1 (.slice A k c) k (xs.take k) := by
  obtain ⟨h0, A', c', hv, h1, h2, h3⟩ := h
  cases hv
  refine ⟨by rw [List.length_take]; omega, A, c, rfl, by omega, h2, fun hp => ?_⟩
  obtain ⟨b, off, hA, hb, hc⟩ := h3 (by omega)
  refine ⟨b, off, hA, hb, fun j u hu => hc j u ?_⟩
  rw [List.getElem?_take] at hu
  split at hu
  · exact hu
  · cases hu
theorem RdI.cut {w : World} {hi c : Nat} {A : Option Addr} {xs : List Int} (h : RdI w hi (.slice A xs.length c) xs) {k : Nat} (hk : k ≤ xs.length) : RdI w hi (.slice A k c) (xs.take k) := by
  have h1 := Rd.cut h hk
  have hl : (xs.take k).length = k := by rw [List.length_take]; omega
  unfold RdI
  rw [hl]
  simpa [ints] using h1
set_option maxHeartbeats 400000 in
theorem l1Same_any (xs ys : List Int) (v u : Value) (hi hj : Nat) (w : World) (h : RdI w hi v xs) (g : RdI w hj u ys) : Calls Tryd.prog 66 #[v, u] w fun e w' => e = .returned (.bool (decide (xs = ys))) ∧ ∃ n, w' = w.drewN n := by
  obtain ⟨A, c, rfl, hc, hm⟩ := Rd.form h
  obtain ⟨A', c', rfl, hc', hm'⟩ := Rd.form g
  have H := Lib.hid h
  have G := Lib.hid g
  clear h g
  by_cases hl : xs.length = ys.length
  · have HL := Lib.hid hl
    rw [← hl]
    rw [← hl] at hc' hm'
    clear hl
    go_enter Tryd.func66, Tryd.ntmps66
    go_wp2
    go_loopw [13] (fun i wr => ∃ k : Nat, k ≤ xs.length ∧ i = .int .i64 k ∧ Hid (xs.take k = ys.take k) ∧ ∃ n, wr = w.drewN n) (fun i _ => xs.length - (intOf i).toNat)
    case atStart => exact ⟨0, Nat.zero_le _, rfl, rfl, 0, rfl⟩
    case round =>
      obtain ⟨k, hk, rfl, heq, n, rfl⟩ := hrel
      by_cases hlt : k < xs.length
      · obtain ⟨b1, o1, c1, x, hv, _, hx, hcell1⟩ := Rd.at_ H.out hlt
        cases hv
        obtain ⟨b2, o2, c2, y, hv, _, hy, hcell2⟩ := Rd.at_ G.out (by rw [← HL.out]; exact hlt)
        have HX := Lib.hid hx
        have HY := Lib.hid hy
        injection hv with hv1 hv2 hv3
        subst hv1
        clear hx hy hv2 hv3
        by_cases hxy : x = y
        · subst hxy
          go_wp2
          go_quiet (fail)
          go_wp2
          go_roundw
          case rel => exact ⟨k + 1, by omega, by go_num, eq_take HX.out HY.out heq.out, _, rfl⟩
          case measure => simp [intOf]; omega
        · have hbe : (x == y) = false := by simpa using hxy
          have hbn : (x != y) = true := by simpa using hxy
          go_wp2
          go_quiet (fail)
          go_wp2
          go_ret
          exact ⟨ret_bool (eq_no HX.out HY.out hxy).symm, _, World.drewN_drewN _ _ _⟩
      · go_wp2
        go_ret
        exact ⟨ret_bool (eq_full hlt HL.out heq.out).symm, _, rfl⟩
  · have hne : (((xs.length : Nat) : Int) != ((ys.length : Nat) : Int)) = true := by rw [bne_iff_ne]; omega
    go_enter Tryd.func66, Tryd.ntmps66
    go_wp2
    go_ret
    refine ⟨ret_bool ?_, 0, rfl⟩
    symm; rw [decide_eq_false_iff_not]; rintro rfl; exact hl rfl
set_option maxHeartbeats 400000 in
theorem slicesEqual_any (xs ys : List Int) (v u : Value) (hi hj : Nat) (w : World) (h : RdI w hi v xs) (g : RdI w hj u ys) : Calls Tryd.prog 74 #[v, u] w fun e w' => e = .returned (.bool (decide (xs = ys))) ∧ ∃ n, w' = w.drewN n := by
  obtain ⟨A, c, rfl, hc, hm⟩ := Rd.form h
  obtain ⟨A', c', rfl, hc', hm'⟩ := Rd.form g
  have H := Lib.hid h
  have G := Lib.hid g
  clear h g
  by_cases hl : xs.length = ys.length
  · have HL := Lib.hid hl
    rw [← hl]
    rw [← hl] at hc' hm'
    clear hl
    go_enter Tryd.func74, Tryd.ntmps74
    go_wp2
    go_loopw [13] (fun i wr => ∃ k : Nat, k ≤ xs.length ∧ i = .int .i64 k ∧ Hid (xs.take k = ys.take k) ∧ ∃ n, wr = w.drewN n) (fun i _ => xs.length - (intOf i).toNat)
    case atStart => exact ⟨0, Nat.zero_le _, rfl, rfl, 0, rfl⟩
    case round =>
      obtain ⟨k, hk, rfl, heq, n, rfl⟩ := hrel
      by_cases hlt : k < xs.length
      · obtain ⟨b1, o1, c1, x, hv, _, hx, hcell1⟩ := Rd.at_ H.out hlt
        cases hv
        obtain ⟨b2, o2, c2, y, hv, _, hy, hcell2⟩ := Rd.at_ G.out (by rw [← HL.out]; exact hlt)
        have HX := Lib.hid hx
        have HY := Lib.hid hy
        injection hv with hv1 hv2 hv3
        subst hv1
        clear hx hy hv2 hv3
        by_cases hxy : x = y
        · subst hxy
          go_wp2
          go_quiet (fail)
          go_wp2
          go_roundw
          case rel => exact ⟨k + 1, by omega, by go_num, eq_take HX.out HY.out heq.out, _, rfl⟩
          case measure => simp [intOf]; omega
        · have hbe : (x == y) = false := by simpa using hxy
          have hbn : (x != y) = true := by simpa using hxy
          go_wp2
          go_quiet (fail)
          go_wp2
          go_ret
          exact ⟨ret_bool (eq_no HX.out HY.out hxy).symm, _, World.drewN_drewN _ _ _⟩
      · go_wp2
        go_ret
        exact ⟨ret_bool (eq_full hlt HL.out heq.out).symm, _, rfl⟩
  · have hne : (((xs.length : Nat) : Int) != ((ys.length : Nat) : Int)) = true := by rw [bne_iff_ne]; omega
    go_enter Tryd.func74, Tryd.ntmps74
    go_wp2
    go_ret
    refine ⟨ret_bool ?_, 0, rfl⟩
    symm; rw [decide_eq_false_iff_not]; rintro rfl; exact hl rfl
end Go.Proofs.YtjnkdjokbamibaaDoor
/- A drawn region whose operations only read old memory and whose calls may lay new memory: one walk in the order of the text serves every order. Facts on worlds that came later. -/
namespace Go.Proofs.YtjnkdjokbamibaaDoor
open Go Go.RowKit
/-- A world in which all below block B is as in w. -/
structure LaterW (B : Nat) (w : World) where
  val : World
  bel : Below B w val
instance laterSome {B : Nat} {w : World} : Nonempty (LaterW B w) := ⟨⟨w, Below.refl _ _⟩⟩
theorem wp_region_later {P : Program} {id : Nat} {Q : Exit → Act → World → Prop} {a : Act} {w : World} {l : List Oper} (B : Nat) (hm : P.follows .mixedOrders = true) (hB : Region.lexB .any l.toArray = true)
    (h : wpQuiet P l.toArray (fun w' => ∃ x : LaterW B w, w' = x.val) (fun a' => ∀ w', (∃ x : LaterW B w, w' = x.val) → Q .normal a' w') l a) : (Code.region id l.toArray true).wp P Q a w :=
  wp_region_quiet (C := fun w' => ∃ x : LaterW B w, w' = x.val) hm hB ⟨⟨_, bel_drewN B w 1⟩, rfl⟩ (by simpa using h)
theorem later_nil {P : Program} {ops : Array Oper} {C : World → Prop} {B : Nat} {w : World} {a : Act} {Q : Act → World → Prop}
    (h : ∀ w', Below B w w' → Q a w') : wpQuiet P ops C (fun a' => ∀ w', (∃ x : LaterW B w, w' = x.val) → Q a' w') [] a :=
  wpQuiet_nil fun _ ⟨x, e⟩ => e ▸ h _ x.bel
theorem later_of {P : Program} {f : FuncId} {args : Array Value} {B : Nat} {w : World} {x : LaterW B w} {v : Value} (hB : B ≤ w.heap.size)
    (h : Calls P f args x.val fun e w' => e = .returned v ∧ Below x.val.heap.size x.val w') : Calls P f args x.val fun e w'' => e = .returned v ∧ ∃ y : LaterW B w, w'' = y.val :=
  h.mono fun _ w' ⟨he, hb⟩ => ⟨he, ⟨w', x.bel.trans (hb.mono (by have := x.bel.size; omega))⟩, rfl⟩
theorem later_same {P : Program} {f : FuncId} {args : Array Value} {B : Nat} {w : World} {x : LaterW B w} {v : Value}
    (h : Calls P f args x.val fun e w' => e = .returned v ∧ x.val = w') : Calls P f args x.val fun e w'' => e = .returned v ∧ ∃ y : LaterW B w, w'' = y.val :=
  h.mono fun _ _ ⟨he, hb⟩ => ⟨he, x, hb.symm⟩
theorem later_cell {B : Nat} {w : World} {b o : Nat} {v : Value} (h : w.cell? ⟨b, o, Option.none⟩ = some v) (hb : b < B) : ∀ x : LaterW B w, x.val.cell? ⟨b, o, Option.none⟩ = some v :=
  fun x => (x.bel.cell (p := ⟨b, o, Option.none⟩) hb).trans h
end Go.Proofs.YtjnkdjokbamibaaDoor
/- Contracts of the tests whether a book is valid, of the reference. -/
namespace Go.Proofs.YtjnkdjokbamibaaDoor
open Go.RowKit
def sigOk (xs : List Int) : Bool := inB xs.length 1 3 && allB xs 1 60
theorem bkSignals_any (xs : List Int) (v : Value) (hi : Nat) (w : World) (h : RdI w hi v xs) : Calls Tryd.prog 45 #[v] w fun e w' => e = .returned (.bool (sigOk xs)) ∧ w = w' := by
  obtain ⟨A, c, hv, hc, hm⟩ := Rd.form h
  have H := Lib.hid h
  clear h
  unfold sigOk
  cases hl : inB xs.length 1 3
  · rw [Bool.false_and]
    subst hv
    go_enter Tryd.func45, Tryd.ntmps45
    go_wp2_with (first | (go_at_call 43; refine (l1In_any _ _ _ _).mono ?_; rintro e w' ⟨rfl, rfl⟩) | (go_at_call 57; refine (l1All_any xs _ _ _ hi _ H.out).mono ?_; rintro e w' ⟨rfl, rfl⟩))
    go_ret
    exact ⟨rfl, rfl⟩
  · rw [Bool.true_and]
    subst hv
    go_enter Tryd.func45, Tryd.ntmps45
    go_wp2_with (first | (go_at_call 43; refine (l1In_any _ _ _ _).mono ?_; rintro e w' ⟨rfl, rfl⟩) | (go_at_call 57; refine (l1All_any xs _ _ _ hi _ H.out).mono ?_; rintro e w' ⟨rfl, rfl⟩))
    go_ret
    exact ⟨rfl, rfl⟩
/-- The place of the phrase with some signals. -/
def sigIx (ps : List Phr) (xs : List Int) : Option Nat := ps.findIdx? fun p => decide (p.2 = xs)
def ixI : Option Nat → Int
  | some i => (i : Int)
  | Option.none => -1
theorem findIdx_take {α : Type} {f : α → Bool} {l : List α} {k : Nat} (h : ∀ j, j < k → ∀ x, l[j]? = some x → f x = false) {x : α} (hx : l[k]? = some x) (hf : f x = true) : l.findIdx? f = some k := by
  induction l generalizing k with
  | nil => simp at hx
  | cons a r ih =>
    rw [List.findIdx?_cons]
    cases k with
    | zero => simp at hx; subst hx; rw [hf]; rfl
    | succ k =>
      have ha : f a = false := h 0 (by omega) a rfl
      rw [ha]
      have := ih (k := k) (fun j hj x hx => h (j + 1) (by omega) x (by simpa using hx)) (by simpa using hx)
      rw [this]; rfl
theorem findIdx_none {α : Type} {f : α → Bool} {l : List α} (h : ∀ (j : Nat) (x : α), l[j]? = some x → f x = false) : l.findIdx? f = Option.none := by
  rw [List.findIdx?_eq_none_iff]
  intro x hx
  obtain ⟨j, hj⟩ := List.getElem?_of_mem hx
  exact h j x hj
set_option maxHeartbeats 800000 in
theorem bkOf_any (ps : List Phr) (xs : List Int) (v u : Value) (hi hj : Nat) (w : World) (h : RdB w hi v ps) (g : RdI w hj u xs) (hh : hi ≤ w.heap.size) (hg : hj ≤ w.heap.size) :
    Calls Tryd.prog 46 #[v, u] w fun e w' => e = .returned (.int .i64 (ixI (sigIx ps xs))) ∧ Below w.heap.size w w' := by
  obtain ⟨a, rfl, ha⟩ := h
  obtain ⟨A, c, rfl, hc, hm⟩ := ha.form
  have hba : Below w.heap.size w (w.alloc (.cells #[.slice A ps.length c] 24)) := (Below.refl _ _).alloc (Nat.le_refl _) _
  have H := Lib.hid ha
  have G := Lib.hid g
  clear ha g
  go_enter Tryd.func46, Tryd.ntmps46
  go_wp2_with fail
  go_loopw [10] (fun i wr => ∃ k : Nat, k ≤ ps.length ∧ i = .int .i64 k ∧ Hid (∀ j, j < k → ∀ x, ps[j]? = some x → decide (x.2 = xs) = false) ∧ Below w.heap.size w wr) (fun i _ => ps.length - (intOf i).toNat)
  case atStart => exact ⟨0, Nat.zero_le _, rfl, fun j hj => by omega, hba⟩
  case round =>
    obtain ⟨k, hk, rfl, hno, hbr⟩ := hrel
    by_cases hlt : k < ps.length
    · obtain ⟨b1, o1, c1, a, t, ys, hv, hb1, hx, hcell1, hcell2, hra, hta⟩ := (H.out.below hbr hh).at_ hlt
      cases hv
      obtain ⟨A2, c2, rfl, hc2, hm2⟩ := Rd.form hra
      have hs := hbr.size
      have hb2 : Below w.heap.size w (wr.alloc (.cells #[.string t, .slice A2 ys.length c2] 49)) := hbr.alloc hs _
      have HA := Lib.hid (hra.below ((Below.refl wr.heap.size wr).alloc (Nat.le_refl _) (.cells #[.string t, .slice A2 ys.length c2] 49)) (by omega))
      have HX := Lib.hid hx
      clear hra hx
      by_cases hys : ys = xs
      · have HYS := Lib.hid hys
        clear hys
        go_wp2_with fail
        refine (l1Same_any ys xs _ _ hi hj _ HA.out (Rd.below G.out hb2 hg)).mono ?_
        rw [decide_eq_true HYS.out]
        rintro e w' ⟨rfl, n, rfl⟩
        go_wp2_with fail
        go_ret
        refine ⟨ret_int ?_, hb2.trans (bel_drewN _ _ _)⟩
        unfold sigIx
        rw [findIdx_take (fun j hj x hx => hno.out j hj x hx) HX.out (decide_eq_true HYS.out)]
        rfl
      · have HYS : Hid (decide (ys = xs) = false) := decide_eq_false hys
        clear hys
        go_wp2_with fail
        refine (l1Same_any ys xs _ _ hi hj _ HA.out (Rd.below G.out hb2 hg)).mono ?_
        rw [HYS.out]
        rintro e w' ⟨rfl, n, rfl⟩
        go_wp2_with fail
        go_roundw
        case rel => exact ⟨k + 1, by omega, by go_num, fun j hj x hx => by
          by_cases e : j = k
          · subst e; rw [HX.out] at hx; cases hx; exact HYS.out
          · exact hno.out j (by omega) x hx, hb2.trans (bel_drewN _ _ _)⟩
        case measure => simp [intOf]; omega
    · obtain rfl : k = ps.length := by omega
      go_wp2_with fail
      go_ret
      refine ⟨ret_int ?_, hbr⟩
      unfold sigIx
      rw [findIdx_none (fun j x hx => hno.out j (List.getElem?_eq_some_iff.1 hx).1 x hx)]
      rfl
def ltT (a b : ByteArray) : Bool := Op.bytesLess a.toList b.toList
def phrOk (p : Phr) : Bool := phraseB p.1.data.toList && sigOk p.2
/-- Is the phrase at j fine, and fine behind those before it? -/
def goodAt (ps : List Phr) (j : Nat) : Bool := match ps[j]? with
  | some p => phrOk p && ((match j with | 0 => true | i + 1 => match ps[i]? with | some q => ltT q.1 p.1 | Option.none => true) && (sigIx ps p.2 == some j))
  | Option.none => true
def goodB (ps : List Phr) : Bool := (List.range ps.length).all fun j => goodAt ps j
def bookB (ps : List Phr) : Bool := inB ps.length 1 40 && goodB ps
theorem goodB_no {ps : List Phr} {k : Nat} (hk : k < ps.length) (h : goodAt ps k = false) : goodB ps = false := by
  unfold goodB; rw [List.all_eq_false]; exact ⟨k, List.mem_range.2 hk, by simp [h]⟩
theorem goodB_yes {ps : List Phr} (h : ∀ j, j < ps.length → goodAt ps j = true) : goodB ps = true := by
  unfold goodB; rw [List.all_eq_true]; intro j hj; exact h j (List.mem_range.1 hj)
theorem goodAt_phr {ps : List Phr} {k : Nat} {p : Phr} (hp : ps[k]? = some p) (h : phrOk p = false) : goodAt ps k = false := by unfold goodAt; rw [hp]; simp [h]
theorem goodAt_lt {ps : List Phr} {k : Nat} {p q : Phr} (hp : ps[k + 1]? = some p) (hq : ps[k]? = some q) (h : ltT q.1 p.1 = false) : goodAt ps (k + 1) = false := by unfold goodAt; rw [hp]; simp [hq, h]
theorem goodAt_ix {ps : List Phr} {k : Nat} {p : Phr} (hp : ps[k]? = some p) (h : sigIx ps p.2 ≠ some k) : goodAt ps k = false := by unfold goodAt; rw [hp]; simp [h]
theorem goodAt_0 {ps : List Phr} {p : Phr} (hp : ps[0]? = some p) (h : phrOk p = true) (h2 : sigIx ps p.2 = some 0) : goodAt ps 0 = true := by unfold goodAt; rw [hp]; simp [h, h2]
theorem goodAt_s {ps : List Phr} {k : Nat} {p q : Phr} (hp : ps[k + 1]? = some p) (hq : ps[k]? = some q) (h : phrOk p = true) (h1 : ltT q.1 p.1 = true) (h2 : sigIx ps p.2 = some (k + 1)) : goodAt ps (k + 1) = true := by unfold goodAt; rw [hp]; simp [h, h1, h2, hq]
theorem ixI_ne {o : Option Nat} {k : Nat} (h : o ≠ some k) : (ixI o != (k : Int)) = true := by
  rw [bne_iff_ne]; intro e; apply h
  cases o with
  | none => simp only [ixI] at e; omega
  | some i => simp only [ixI] at e; congr 1; omega
theorem ixI_eq {o : Option Nat} {k : Nat} (h : o = some k) : (ixI o != (k : Int)) = false := by subst h; simp [ixI]
end Go.Proofs.YtjnkdjokbamibaaDoor
/- Plain laws: the tables of how many ways there are from each place on; their bounds. -/
namespace Go.Proofs.YtjnkdjokbamibaaDoor
/-- Phrases that fit at one place have lengths of their own. -/
def Apart (fit : Phr → Bool) (len : Phr → Nat) (r : Nat) (ps : List Phr) : Prop :=
  ps.Pairwise (fun p q => fit p = true → fit q = true → len p ≠ len q) ∧ ∀ p ∈ ps, fit p = true → 1 ≤ len p ∧ len p ≤ r
theorem Apart.take {fit : Phr → Bool} {len : Phr → Nat} {r : Nat} {ps : List Phr} (h : Apart fit len r ps) (j : Nat) : Apart fit len r (ps.take j) :=
  ⟨h.1.sublist (List.take_sublist j ps), fun p hp => h.2 p (List.mem_of_mem_take hp)⟩
end Go.Proofs.YtjnkdjokbamibaaDoor
/- Contracts of the tests whether a book is valid, of the reference. -/
namespace Go.Proofs.YtjnkdjokbamibaaDoor
open Go.RowKit
theorem bookB_no {ps : List Phr} {k : Nat} (hk : k < ps.length) (h : goodAt ps k = false) : bookB ps = false := by unfold bookB; rw [goodB_no hk h, Bool.and_false]
set_option maxRecDepth 100000 in
set_option maxHeartbeats 4000000 in
theorem bkGood_any (ps : List Phr) (v : Value) (hi : Nat) (w : World) (h : RdB w hi v ps) (hh : hi ≤ w.heap.size) :
    Calls Tryd.prog 26 #[v] w fun e w' => e = .returned (.bool (bookB ps)) ∧ Below w.heap.size w w' := by
  obtain ⟨a, rfl, ha⟩ := h
  obtain ⟨A, c, rfl, hc, hm⟩ := ha.form
  have hba : Below w.heap.size w (w.alloc (.cells #[.slice A ps.length c] 24)) := (Below.refl _ _).alloc (Nat.le_refl _) _
  have HBA := Lib.hid hba
  have H := Lib.hid (ha.below hba hh)
  have hbox : (w.alloc (.cells #[.slice A ps.length c] 24)).cell? ⟨w.heap.size, 0, Option.none⟩ = some (.slice A ps.length c) := (Blk.new w 24 #[.slice A ps.length c]).cell 0
  have HBOX := Lib.hid hbox
  clear ha hba hbox
  go_enter Tryd.func26, Tryd.ntmps26
  go_wp2_with fail
  go_loopw [8] (fun i wr => ∃ k : Nat, k ≤ ps.length ∧ i = .int .i64 k ∧ Hid (∀ j, j < k → goodAt ps j = true) ∧ Below (w.heap.size + 1) (w.alloc (.cells #[.slice A ps.length c] 24)) wr) (fun i _ => ps.length - (intOf i).toNat)
  case atStart => exact ⟨0, Nat.zero_le _, rfl, fun j hj => by omega, Below.refl _ _⟩
  case round =>
    obtain ⟨k, hk, rfl, hup, hbr⟩ := hrel
    have hs : w.heap.size + 1 ≤ wr.heap.size := by have := hbr.size; simpa using this
    have hboxr : wr.cell? ⟨w.heap.size, 0, Option.none⟩ = some (.slice A ps.length c) := (hbr.cell (p := ⟨w.heap.size, 0, Option.none⟩) (by show w.heap.size < _; omega)).trans HBOX.out
    by_cases hlt : k < ps.length
    · obtain ⟨b1, o1, c1, a, t, xs, hv, hb1, hx, hcell1, hcell2, hra, hta⟩ := (H.out.below hbr (by omega)).at_ hlt
      cases hv
      obtain ⟨A2, c2, rfl, hc2, hm2⟩ := Rd.form hra
      have HX := Lib.hid hx
      have HBR := Lib.hid (HBA.out.trans (hbr.mono (by omega)))
      have hbw1 : Below (w.heap.size + 1) (w.alloc (.cells #[.slice (some ⟨b1, o1, Option.none⟩) ps.length c] 24)) (wr.alloc (.cells #[.string t, .slice A2 xs.length c2] 49)) := hbr.alloc hs _
      have HBR2 := Lib.hid hbw1
      have hra2 := hra.below ((Below.refl wr.heap.size wr).alloc (Nat.le_refl _) (.cells #[.string t, .slice A2 xs.length c2] 49)) (by omega)
      have HRA := Lib.hid hra2
      have HPS : Hid (RdB (wr.alloc (.cells #[.string t, .slice A2 xs.length c2] 49)) hi (.agg #[.slice (some ⟨b1, o1, Option.none⟩) ps.length c]) ps) := ⟨_, rfl, H.out.below hbw1 (by omega)⟩
      have HPQ : Hid (RdPS (wr.alloc (.cells #[.string t, .slice A2 xs.length c2] 49)) hi (.slice (some ⟨b1, o1, Option.none⟩) ps.length c) ps) := H.out.below hbw1 (by omega)
      have hlat := fun {b o : Nat} {u : Value} (hq : (wr.alloc (.cells #[.string t, .slice A2 xs.length c2] 49)).cell? ⟨b, o, Option.none⟩ = some u) (hb : b < wr.heap.size + 1) => later_cell (B := wr.heap.size + 1) hq hb
      have l0 := hlat ((Blk.new wr 49 #[.string t, .slice A2 xs.length c2]).cell 0) (by omega)
      have l1 := hlat ((Blk.new wr 49 #[.string t, .slice A2 xs.length c2]).cell 1) (by omega)
      have lb := hlat ((hbw1.cell (p := ⟨w.heap.size, 0, Option.none⟩) (by show w.heap.size < _; omega)).trans HBOX.out) (by omega)
      clear hlat hra hra2 hx hbw1 hbr hboxr
      have hxs : wr.heap.size + 1 ≤ (wr.alloc (.cells #[.string t, .slice A2 xs.length c2] 49)).heap.size := by simp
      have HXS := Lib.hid hxs
      clear hxs
      have cT := fun x : LaterW (wr.heap.size + 1) (wr.alloc (.cells #[.string t, .slice A2 xs.length c2] 49)) => bkPhraseText_any t (by unfold maxLen; omega) x.val
      have cS := fun x : LaterW (wr.heap.size + 1) (wr.alloc (.cells #[.string t, .slice A2 xs.length c2] 49)) => bkSignals_any xs (.slice A2 xs.length c2) hi x.val (HRA.out.below x.bel (by omega))
      have cO := fun x : LaterW (wr.heap.size + 1) (wr.alloc (.cells #[.string t, .slice A2 xs.length c2] 49)) => bkOf_any ps xs (.agg #[.slice (some ⟨b1, o1, Option.none⟩) ps.length c]) (.slice A2 xs.length c2) hi hi x.val (HPS.out.below x.bel (by omega)) (HRA.out.below x.bel (by omega)) (by have := x.bel.size; have := HXS.out; omega) (by have := x.bel.size; have := HXS.out; omega)
      cases hp1 : phraseB t.data.toList
      · rw [hp1] at cT
        have CT := Lib.hid cT
        clear cT cS cO
        go_wp2_with fail
        refine wp_region_later (wr.heap.size + 1) (by kernel_rfl) (by kernel_rfl) ?_; (repeat (go_big_quiet_step ((go_at_call 44; exact later_same (CT.out _))))); refine later_nil ?_; intro w2 hb2
        go_wp2_with fail
        go_ret
        exact ⟨ret_bool (bookB_no hlt (goodAt_phr HX.out (by unfold phrOk; rw [hp1]; rfl))).symm, (HBA.out.trans (HBR2.out.mono (by omega))).trans (hb2.mono (by omega))⟩
      · cases hp2 : sigOk xs
        · rw [hp1] at cT
          rw [hp2] at cS
          have CT := Lib.hid cT
          have CS := Lib.hid cS
          clear cT cS cO
          go_wp2_with fail
          refine wp_region_later (wr.heap.size + 1) (by kernel_rfl) (by kernel_rfl) ?_; (repeat (go_big_quiet_step ((first | (go_at_call 44; exact later_same (CT.out _)) | (go_at_call 45; exact later_same (CS.out _)))))); refine later_nil ?_; intro w2 hb2
          go_wp2_with fail
          go_ret
          exact ⟨ret_bool (bookB_no hlt (goodAt_phr HX.out (by unfold phrOk; rw [hp1, hp2]; rfl))).symm, (HBA.out.trans (HBR2.out.mono (by omega))).trans (hb2.mono (by omega))⟩
        · have HP : Hid (phrOk (t, xs) = true) := by show phrOk (t, xs) = true; unfold phrOk; rw [hp1, hp2]; rfl
          rw [hp1] at cT
          rw [hp2] at cS
          have CT := Lib.hid cT
          have CS := Lib.hid cS
          have CO := Lib.hid cO
          clear cT cS cO
          rcases Nat.eq_zero_or_pos k with h0 | hpos
          · have hk0 : decide (0 < k) = false := by rw [decide_eq_false_iff_not]; omega
            have H0 := Lib.hid h0
            clear h0
            by_cases hix : sigIx ps xs = some k
            · have hne := ixI_eq hix
              have HIX := Lib.hid hix
              clear hix
              go_wp2_with fail
              refine wp_region_later (wr.heap.size + 1) (by kernel_rfl) (by kernel_rfl) ?_; (repeat (go_big_quiet_step ((first | (go_at_call 44; exact later_same (CT.out _)) | (go_at_call 45; exact later_same (CS.out _)) | (go_at_call 46; exact later_of (HXS.out) (CO.out _)))))); refine later_nil ?_; intro w2 hb2
              go_wp2_with fail
              go_roundw
              case rel => exact ⟨k + 1, by omega, by go_num, fun j hj => by
                obtain rfl : k = 0 := H0.out
                obtain rfl : j = 0 := by omega
                exact goodAt_0 HX.out HP.out HIX.out, HBR2.out.trans (hb2.mono (by omega))⟩
              case measure => simp [intOf]; omega
            · have hne := ixI_ne hix
              go_wp2_with fail
              refine wp_region_later (wr.heap.size + 1) (by kernel_rfl) (by kernel_rfl) ?_; (repeat (go_big_quiet_step ((first | (go_at_call 44; exact later_same (CT.out _)) | (go_at_call 45; exact later_same (CS.out _)) | (go_at_call 46; exact later_of (HXS.out) (CO.out _)))))); refine later_nil ?_; intro w2 hb2
              go_wp2_with fail
              go_ret
              exact ⟨ret_bool (bookB_no hlt (goodAt_ix HX.out hix)).symm, (HBA.out.trans (HBR2.out.mono (by omega))).trans (hb2.mono (by omega))⟩
          · have hk0 : decide (0 < k) = true := by rw [decide_eq_true_eq]; omega
            obtain ⟨b3, o3, c3, a3, q, ys, hv, hb3, hq, hcq, _, _, hqs⟩ := (HPQ.out).at_ (show k - 1 < ps.length by omega)
            cases hv
            have lq := later_cell (B := wr.heap.size + 1) hcq (by omega)
            have hi1 : (0 : Int) ≤ (k : Int) - 1 := by omega
            have hi2 : (k : Int) - 1 < (ps.length : Int) := by omega
            have hi3 : ((k : Int) - 1).toNat = k - 1 := by omega
            have HQ : Hid (ps[k - 1]? = some (q, ys)) := hq
            clear hq hcq
            have HK : Hid (∃ m, k = m + 1) := ⟨k - 1, by omega⟩
            cases hlt2 : ltT q t
            · have hl1 : Op.bytesLess q.toList t.toList = false := hlt2
              go_wp2_with fail
              refine wp_region_later (wr.heap.size + 1) (by kernel_rfl) (by kernel_rfl) ?_; (repeat (go_big_quiet_step ((first | (go_at_call 44; exact later_same (CT.out _)) | (go_at_call 45; exact later_same (CS.out _)) | (go_at_call 46; exact later_of (HXS.out) (CO.out _)))))); refine later_nil ?_; intro w2 hb2
              go_wp2_with fail
              go_ret
              refine ⟨ret_bool ?_, (HBA.out.trans (HBR2.out.mono (by omega))).trans (hb2.mono (by omega))⟩
              obtain ⟨m, rfl⟩ := HK.out
              exact (bookB_no hlt (goodAt_lt HX.out HQ.out hlt2)).symm
            · have hl1 : Op.bytesLess q.toList t.toList = true := hlt2
              by_cases hix : sigIx ps xs = some k
              · have hne := ixI_eq hix
                have HIX := Lib.hid hix
                clear hix
                go_wp2_with fail
                refine wp_region_later (wr.heap.size + 1) (by kernel_rfl) (by kernel_rfl) ?_; (repeat (go_big_quiet_step ((first | (go_at_call 44; exact later_same (CT.out _)) | (go_at_call 45; exact later_same (CS.out _)) | (go_at_call 46; exact later_of (HXS.out) (CO.out _)))))); refine later_nil ?_; intro w2 hb2
                go_wp2_with fail
                go_roundw
                case rel => exact ⟨k + 1, by omega, by go_num, fun j hj => by
                  by_cases e : j = k
                  · subst e
                    obtain ⟨m, rfl⟩ := HK.out
                    exact goodAt_s HX.out HQ.out HP.out hlt2 HIX.out
                  · exact hup.out j (by omega), HBR2.out.trans (hb2.mono (by omega))⟩
                case measure => simp [intOf]; omega
              · have hne := ixI_ne hix
                go_wp2_with fail
                refine wp_region_later (wr.heap.size + 1) (by kernel_rfl) (by kernel_rfl) ?_; (repeat (go_big_quiet_step ((first | (go_at_call 44; exact later_same (CT.out _)) | (go_at_call 45; exact later_same (CS.out _)) | (go_at_call 46; exact later_of (HXS.out) (CO.out _)))))); refine later_nil ?_; intro w2 hb2
                go_wp2_with fail
                go_ret
                exact ⟨ret_bool (bookB_no hlt (goodAt_ix HX.out hix)).symm, (HBA.out.trans (HBR2.out.mono (by omega))).trans (hb2.mono (by omega))⟩
    · obtain rfl : k = ps.length := by omega
      go_wp2_with (go_at_call 43; refine (l1In_any _ _ _ _).mono ?_; rintro e w' ⟨rfl, rfl⟩)
      go_ret
      refine ⟨ret_bool ?_, HBA.out.trans (hbr.mono (by omega))⟩
      unfold bookB
      rw [goodB_yes hup.out, Bool.and_true]
end Go.Proofs.YtjnkdjokbamibaaDoor
