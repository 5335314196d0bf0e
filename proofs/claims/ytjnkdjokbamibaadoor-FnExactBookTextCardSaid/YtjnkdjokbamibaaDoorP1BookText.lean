/- Texts of one claim, joined: P, A1, A2, M1, M2, M3, O, M4. -/
import Derived.Test.YtjnkdjokbamibaaDoorRows
import Derived.WalkKit
import Derived.ProofKit
import Derived.OpenShut
import Derived.Below
import Derived.ChangeSame
import Derived.WideKeyArgs
import Derived.WalkLawsBesides
import Derived.WalkSpells
import Derived.Lib.Hide
import Derived.Laws.AppendOwn
import Derived.OwnWalk
import Derived.Test.YtjnkdjokbamibaaDoorShelf
import Derived.Laws.MakeOwn
import Derived.Laws.Entries
import Derived.Deep.QuietTactic
import Derived.BigQuiet
import Derived.Deep.Slices
/- The step from a walk to a row: a law that returns true and leaves all old memory as it was meets its row's post. -/
namespace Go.Proofs.YtjnkdjokbamibaaDoor
open Go.ChangeShapes Go.WideShapes Go.ChangeAt Go.RowKit Go.WideElems
theorem own : ownKnob Tryd.prog.godebug = Option.none := by kernel_rfl
theorem laidOut : laidOutB Tryd.prog = true := by kernel_rfl
theorem trodAll_stays {H : Type} {enc : TypeId × Value → H} {P : Program} (hl : laidOutB P = true) {W W' : World} {sp' : Nat → Bool} : ∀ (ts : List TypeId) (vs : List Value) (ds : List (DataW H)) (ps : List MemPlace),
    (ts.all fun t => P.readableRec t && decide (t < P.types.size)) = true → DataW.TrodAll enc P W 0 (fun _ => true) true ts vs ds ps → (∀ p ∈ ps, W.sameAt W' p) → (∀ p ∈ ps, sp' p.block = true) → DataW.TrodAll enc P W' 0 sp' true ts vs ds ps
  | [], vs, ds, ps, _, h, _, _ => by
    obtain ⟨rfl, rfl, rfl⟩ := trodAll_nil h
    exact trodAll_mk0
  | t :: ts, vs, ds, ps, hr, h, hs, hp => by
    obtain ⟨v, vs', d, ds', p, q, rfl, rfl, rfl, h0, h1⟩ := trodAll_cons h
    simp only [List.all_cons, Bool.and_eq_true, decide_eq_true_eq] at hr
    exact trodAll_cons_mk (Trod_stays hl hr.1.1 hr.1.2 h0 (fun x hx => hs x (List.mem_append_left _ hx)) (fun x hx => hp x (List.mem_append_left _ hx)))
      (trodAll_stays hl ts vs' ds' q hr.2 h1 (fun x hx => hs x (List.mem_append_right _ hx)) (fun x hx => hp x (List.mem_append_right _ hx)))
set_option maxRecDepth 100000 in
/-- The post of a law. -/
theorem law_post {H : Type} {enc : TypeId × Value → H} {f : Func} {s : ChangeSpec} {apart fresh handsOn again : Bool} {W W' : World} {args : Array Value} {ds gs : List (DataW H)} {before : List MemPlace}
    (hW : DataW.Whole enc Tryd.prog f.params.toList s.vars apart W args.toList ds gs before) (hvars : s.vars = []) (hrt : f.resultTypes = #[4])
    (hr : (f.params.toList.all fun t => Tryd.prog.readableRec t && decide (t < Tryd.prog.types.size)) = true)
    (hfn : (s.fn H (ds ++ gs)) = { results := [.lit (.bool true)], args := ds }) (hb : Below W.heap.size W W') :
    s.post enc Tryd.prog f apart fresh handsOn again W args (.bool true) W' := by
  have hlt : ∀ p ∈ before, p.block < W.heap.size := fun p hp => hW.lt p hp
  have hold : ∀ p ∈ before, (fun b => decide (b < W.heap.size)) p.block = true := fun p hp => by simpa using hlt p hp
  have hW0 := hW
  obtain ⟨p, q, hA, hV, rfl, hz, hn⟩ := hW
  rw [hvars] at hV
  obtain ⟨rfl, rfl⟩ := trodVars_none hV
  simp only [List.append_nil] at hlt hold hW0 hz hn
  have hres : ∀ (b : Nat) (sp : Nat → Bool) (hd : Bool), DataW.TrodAll enc Tryd.prog W' b sp hd f.resultTypes.toList ((Value.bool true).resultList f.resultTypes.size) (s.fn H (ds ++ [])).results [] := fun b sp hd => by
    rw [hfn, hrt]; exact trodAll_cons_mk (shut_bool Tryd.underlying4 _) trodAll_mk0
  have hargs : ∀ sp : Nat → Bool, (∀ x ∈ p, sp x.block = true) → DataW.TrodAll enc Tryd.prog W' 0 sp true f.params.toList args.toList (s.fn H (ds ++ [])).args p := fun sp hsp => by
    rw [hfn]; exact trodAll_stays laidOut _ _ _ _ hr hA (fun x hx => hb.same (hlt x hx)) hsp
  have hvs : ∀ sp : Nat → Bool, (∀ x ∈ p, sp x.block = true) → DataW.TrodVars enc Tryd.prog W' sp s.vars (s.fn H (ds ++ [])).vars [] := fun sp _ => by
    rw [hfn, hvars]; rfl
  refine ⟨ds, [], p, [], p, [], hW0, hres _ _ _, hargs _ hold, hvs _ hold, World.keptBut_mono (fun x hx => ⟨hx, ?_⟩) (hb.frame (· ∈ p)), fun _ => ?_⟩
  · exact Or.inr (by simpa using hx)
  · refine ⟨?_, _, _, ([] ++ p) ++ [], ⟨[] ++ p, [], trodAll_append (hargs _ (fun _ _ => rfl)) (hres _ _ _), hvs _ (fun _ _ => rfl), rfl, ?_, ?_⟩, ?_⟩
    · exact ok_one hrt rfl (okWide_bool_mk Tryd.underlying4 _)
    · intro b off hp
      have hin : MemPlace.cell b off ∈ p := by simpa using hp
      rw [hb.frozen (hlt _ hin)]
      exact hz b off hin
    · intro ha
      simpa using hn ha
    · intro x hx _
      simpa using hx
end Go.Proofs.YtjnkdjokbamibaaDoor
/- Contracts of the small functions on signals: each computes what the plain Lean function beside it says and leaves the world alone. -/
namespace Go.Proofs.YtjnkdjokbamibaaDoor
open Go.RowKit
def inB (n a b : Int) : Bool := decide (a ≤ n) && decide (n ≤ b)
theorem inB_iff {n a b : Int} : inB n a b = true ↔ a ≤ n ∧ n ≤ b := by simp [inB]
theorem within_any (n a b : Int) (w : World) : Calls Tryd.prog 52 #[.int .i64 n, .int .i64 a, .int .i64 b] w fun e w' => e = .returned (.bool (inB n a b)) ∧ w = w' := by
  go_enter Tryd.func52, Tryd.ntmps52
  go_wp2
  all_goals go_ret
  all_goals refine ⟨?_, rfl⟩
  all_goals simp [inB]; omega
theorem l1In_any (n a b : Int) (w : World) : Calls Tryd.prog 43 #[.int .i64 n, .int .i64 a, .int .i64 b] w fun e w' => e = .returned (.bool (inB n a b)) ∧ w = w' := by
  go_enter Tryd.func43, Tryd.ntmps43
  go_wp2
  all_goals go_ret
  all_goals refine ⟨?_, rfl⟩
  all_goals simp [inB]; omega
end Go.Proofs.YtjnkdjokbamibaaDoor
/- Contracts of the functions on letters and on the texts of signals: each computes what the plain Lean function beside it says and leaves the world alone. -/
namespace Go.Proofs.YtjnkdjokbamibaaDoor
open Go.RowKit
/-- Letters a to z alone. -/
def smallB (l : List UInt8) : Bool := l.all fun c => decide (97 ≤ c.toNat) && decide (c.toNat ≤ 122)
theorem take_snoc (s : ByteArray) (k : Nat) (h : k < s.size) : s.data.toList.take (k + 1) = s.data.toList.take k ++ [s[k]] := by
  rw [List.take_succ_eq_append_getElem (by simpa using h)]; rfl
theorem smallB_step (s : ByteArray) (k : Nat) (h : k < s.size) (ht : smallB (s.data.toList.take k) = true) (h1 : 97 ≤ s[k].toNat) (h2 : s[k].toNat ≤ 122) : smallB (s.data.toList.take (k + 1)) = true := by
  rw [take_snoc s k h]; unfold smallB at *; rw [List.all_append, ht]; simp [h1, h2]
theorem smallB_no (s : ByteArray) (k : Nat) (h : k < s.size) (h1 : ¬ (97 ≤ s[k].toNat ∧ s[k].toNat ≤ 122)) : smallB s.data.toList = false := by
  unfold smallB
  rw [List.all_eq_false]
  refine ⟨s[k], ?_, ?_⟩
  · exact List.getElem_mem (l := s.data.toList) (by simpa using h)
  · simpa using h1
theorem smallB_all (s : ByteArray) (k : Nat) (h : ¬ k < s.size) (ht : smallB (s.data.toList.take k) = true) : smallB s.data.toList = true := by
  rwa [List.take_of_length_le (by simp; omega)] at ht
theorem ret_bool {a b : Bool} (h : a = b) : Ending.returned (.bool a) = Ending.returned (.bool b) := by rw [h]
theorem ret_int {k : IntKind} {a b : Int} (h : a = b) : Ending.returned (.int k a) = .returned (.int k b) := by rw [h]
def phraseB (l : List UInt8) : Bool := decide (1 ≤ l.length) && decide (l.length ≤ 12) && smallB l
theorem phraseB_in (l : List UInt8) (h : 1 ≤ l.length) (h1 : l.length ≤ 12) : phraseB l = smallB l := by simp [phraseB, h, h1]
theorem phraseB_out (l : List UInt8) (h : ¬ (1 ≤ l.length ∧ l.length ≤ 12)) : phraseB l = false := by
  unfold phraseB
  by_cases h1 : 1 ≤ l.length
  · simp [show ¬ l.length ≤ 12 by omega]
  · simp [h1]
theorem phraseB_of (s : ByteArray) (b : Bool) (h : (smallB s.data.toList && decide (s.size ≤ 12)) = b) : phraseB s.data.toList = (b && !s.toList.isEmpty) := by
  subst h
  rw [ByteArray.toList_eq]
  unfold phraseB
  have e : s.data.toList.length = s.size := by simp
  rw [e]
  have e2 : (!s.data.toList.isEmpty) = decide (1 ≤ s.size) := by
    rw [← e]; cases s.data.toList <;> simp
  rw [e2]
  cases smallB s.data.toList <;> cases decide (s.size ≤ 12) <;> cases decide (1 ≤ s.size) <;> rfl
theorem ret_val {a b : Value} (h : a = b) : Ending.returned a = Ending.returned b := by rw [h]
theorem isSmall_any (s : ByteArray) (hs : s.size ≤ maxLen) (w : World) : Calls Tryd.prog 89 #[.string s] w fun e w' => e = .returned (.bool (smallB s.data.toList)) ∧ w = w' := by
  unfold maxLen at hs
  go_enter Tryd.func89, Tryd.ntmps89
  go_wp2
  go_loop [3] (fun i => ∃ k : Nat, k ≤ s.size ∧ i = .int .i64 k ∧ Hid (smallB (s.data.toList.take k) = true)) (fun i => s.size - (intOf i).toNat)
  case atStart => exact ⟨0, Nat.zero_le _, rfl, rfl⟩
  case round =>
    obtain ⟨k, hk, rfl, hsm⟩ := hrel
    by_cases hlt : k < s.size
    · go_wp2
      · go_ret
        exact ⟨ret_bool (smallB_no s k hlt (by omega)).symm, rfl⟩
      · go_round
        case rel => exact ⟨k + 1, by omega, by go_num, smallB_step s k hlt hsm.out (by omega) (by omega)⟩
        case measure => simp [intOf]; omega
      · go_ret
        exact ⟨ret_bool (smallB_no s k hlt (by omega)).symm, rfl⟩
    · go_wp2
      go_ret
      exact ⟨ret_bool (smallB_all s k hlt hsm.out).symm, rfl⟩
theorem IsPhraseText_any (s : ByteArray) (hs : s.size ≤ maxLen) (w : World) : Calls Tryd.prog 71 #[.string s] w fun e w' => e = .returned (.bool (phraseB s.data.toList)) ∧ w = w' := by
  unfold maxLen at hs
  go_enter Tryd.func71, Tryd.ntmps71
  go_wp2_with (go_at_call 89; refine (isSmall_any _ hs _).mono ?_; rintro e w' ⟨rfl, rfl⟩)
  all_goals go_ret
  all_goals refine ⟨ret_bool ?_, rfl⟩
  · rw [phraseB_in _ (by simp; omega) (by simp; omega)]
  · rw [phraseB_out _ (by simp; omega)]
  · rw [phraseB_out _ (by simp; omega)]
theorem bkLetters_any (s : ByteArray) (hs : s.size ≤ maxLen) (w : World) : Calls Tryd.prog 65 #[.string s] w fun e w' => e = .returned (.bool (smallB s.data.toList && decide (s.size ≤ 12))) ∧ w = w' := by
  unfold maxLen at hs
  go_enter Tryd.func65, Tryd.ntmps65
  go_wp2
  go_loop [3] (fun i => ∃ k : Nat, k ≤ s.size ∧ i = .int .i64 k ∧ Hid (smallB (s.data.toList.take k) = true)) (fun i => s.size - (intOf i).toNat)
  case atStart => exact ⟨0, Nat.zero_le _, rfl, rfl⟩
  case round =>
    obtain ⟨k, hk, rfl, hsm⟩ := hrel
    by_cases hlt : k < s.size
    · go_wp2
      · go_ret
        exact ⟨ret_bool (by rw [smallB_no s k hlt (by omega)]; rfl), rfl⟩
      · go_round
        case rel => exact ⟨k + 1, by omega, by go_num, smallB_step s k hlt hsm.out (by omega) (by omega)⟩
        case measure => simp [intOf]; omega
      · go_ret
        exact ⟨ret_bool (by rw [smallB_no s k hlt (by omega)]; rfl), rfl⟩
    · go_wp2
      go_ret
      exact ⟨ret_bool (by rw [smallB_all s k hlt hsm.out, Bool.true_and]; exact decide_eq_decide.2 (by omega)), rfl⟩
theorem bkPhraseText_any (s : ByteArray) (hs : s.size ≤ maxLen) (w : World) : Calls Tryd.prog 44 #[.string s] w fun e w' => e = .returned (.bool (phraseB s.data.toList)) ∧ w = w' := by
  cases hsm : (smallB s.data.toList && decide (s.size ≤ 12))
  · go_enter Tryd.func44, Tryd.ntmps44
    go_wp2_with (go_at_call 65; refine (bkLetters_any _ hs _).mono ?_; rintro e w' ⟨rfl, rfl⟩)
    go_ret
    exact ⟨ret_bool (phraseB_of s false hsm).symm, rfl⟩
  · go_enter Tryd.func44, Tryd.ntmps44
    go_wp2_with (go_at_call 65; refine (bkLetters_any _ hs _).mono ?_; rintro e w' ⟨rfl, rfl⟩)
    go_ret
    exact ⟨ret_bool (phraseB_of s true hsm).symm, rfl⟩
end Go.Proofs.YtjnkdjokbamibaaDoor
/- Words on slices of integers in memory: one that can be read, one that the call has made, one that it appends to. -/
namespace Go.Proofs.YtjnkdjokbamibaaDoor
open Go.RowKit
/-- The slice value v of n elements, size cells each, reads as the cells xs; they lie in a block below number hi. -/
def Rd (w : World) (hi size : Nat) (v : Value) (n : Nat) (xs : List Value) : Prop :=
  xs.length = n * size ∧ ∃ A c, v = .slice A n c ∧ n ≤ c ∧ c ≤ maxLen ∧ (0 < n → ∃ b off, A = some ⟨b, off, Option.none⟩ ∧ b < hi ∧ ∀ j u, xs[j]? = some u → w.cell? ⟨b, off + j, Option.none⟩ = some u)
abbrev ints (xs : List Int) : List Value := xs.map (Value.int .i64)
def RdI (w : World) (hi : Nat) (v : Value) (xs : List Int) : Prop := Rd w hi 1 v xs.length (ints xs)
/-- v is a row of ints of the call's own, in a block from lo to below hi. -/
def OwI (w : World) (lo hi : Nat) (v : Value) (xs : List Int) : Prop := w.ownsRow lo 3 1 v xs.length (ints xs) ∧ ∀ k, v.ownBlock = some k → k < hi
/-- v is what has been appended since the world w; below block number B nothing has turned. -/
def GrowI (w : World) (B : Nat) (wr : World) (v : Value) (xs : List Int) : Prop := wr.ownsRow B 3 1 v xs.length (ints xs) ∧ Below B w wr ∧ B ≤ wr.heap.size
theorem Rd.below {w w' : World} {hi size n : Nat} {v : Value} {xs : List Value} (h : Rd w hi size v n xs) {B : Nat} (hb : Below B w w') (hB : hi ≤ B) : Rd w' hi size v n xs := by
  obtain ⟨h0, A, c, h1, h2, h3, h4⟩ := h
  refine ⟨h0, A, c, h1, h2, h3, fun hn => ?_⟩
  obtain ⟨b, off, hA, hbl, hc⟩ := h4 hn
  exact ⟨b, off, hA, hbl, fun j u hu => (hb.cell (p := ⟨b, off + j, Option.none⟩) (by show b < B; omega)).trans (hc j u hu)⟩
theorem Rd.mono {w : World} {hi hi' size n : Nat} {v : Value} {xs : List Value} (h : Rd w hi size v n xs) (hB : hi ≤ hi') : Rd w hi' size v n xs := by
  obtain ⟨h0, A, c, h1, h2, h3, h4⟩ := h
  refine ⟨h0, A, c, h1, h2, h3, fun hn => ?_⟩
  obtain ⟨b, off, hA, hbl, hc⟩ := h4 hn
  exact ⟨b, off, hA, by omega, hc⟩
theorem RdI.below {w w' : World} {hi : Nat} {v : Value} {xs : List Int} (h : RdI w hi v xs) {B : Nat} (hb : Below B w w') (hB : hi ≤ B) : RdI w' hi v xs := Rd.below h hb hB
theorem RdI.mono {w : World} {hi hi' : Nat} {v : Value} {xs : List Int} (h : RdI w hi v xs) (hB : hi ≤ hi') : RdI w hi' v xs := Rd.mono h hB
theorem rd_of_owns {w : World} {lo hi size n : Nat} {e : TypeId} {v : Value} {xs : List Value} (h : w.ownsRow lo e size v n xs) (hh : ∀ k, v.ownBlock = some k → k < hi) : Rd w hi size v n xs := by
  refine ⟨h.1, ?_⟩
  have hc := fun g => h.cells (g := g)
  rcases h.2 with ⟨rfl, rfl⟩ | ⟨g, cap, cur, rfl, hb, hg, hn, hm, hs, ht⟩
  · exact ⟨Option.none, 0, rfl, Nat.le_refl _, Nat.zero_le _, fun h => absurd h (by omega)⟩
  · refine ⟨some ⟨g, 0, Option.none⟩, cap, rfl, hn, hm, fun _ => ⟨g, 0, rfl, hh g rfl, fun j u hu => ?_⟩⟩
    have := hc g rfl j u hu
    have hadd : (⟨g, 0, Option.none⟩ : Addr).add j = ⟨g, 0 + j, Option.none⟩ := by unfold Addr.add; split <;> simp_all
    rwa [hadd] at this
theorem OwI.rd {w : World} {lo hi : Nat} {v : Value} {xs : List Int} (h : OwI w lo hi v xs) : RdI w hi v xs := rd_of_owns h.1 h.2
theorem OwI.below {w w' : World} {lo hi : Nat} {v : Value} {xs : List Int} (h : OwI w lo hi v xs) {B : Nat} (hb : Below B w w') (hB : hi ≤ B) : OwI w' lo hi v xs := by
  refine ⟨⟨h.1.1, ?_⟩, h.2⟩
  have h2 := h.2
  rcases h.1.2 with hn | ⟨g, cap, cur, rfl, hl, hg, rest⟩
  · exact .inl hn
  · exact .inr ⟨g, cap, cur, rfl, hl, (hb.block g (by have := h2 g rfl; omega)).trans hg, rest⟩
theorem GrowI.own {w wr : World} {B : Nat} {v : Value} {xs : List Int} (h : GrowI w B wr v xs) : OwI wr B wr.heap.size v xs := ⟨h.1, fun k hk => (h.1.lt k hk).2⟩
theorem GrowI.bel {w wr : World} {B : Nat} {v : Value} {xs : List Int} (h : GrowI w B wr v xs) : Below B w wr := h.2.1
theorem info_int : (Tryd.prog.info? 3).map (fun i => (i.zero, i.size, i.bytes)) = some (some (.int .i64 0), 1, 8) := by kernel_rfl
end Go.Proofs.YtjnkdjokbamibaaDoor
/- Contracts of the functions that gather the closed shutters of a signal, and of the distances. -/
namespace Go.Proofs.YtjnkdjokbamibaaDoor
open Go.RowKit
/-- A result that is a row of ints of the call's own. -/
def RetOwI (xs : List Int) (w : World) (e : Ending) (w' : World) : Prop := ∃ v, e = .returned v ∧ OwI w' w.heap.size w'.heap.size v xs ∧ Below w.heap.size w w'
end Go.Proofs.YtjnkdjokbamibaaDoor
/- Contracts of the helpers of the laws on slices of integers: copies, comparisons, marks; and of the tests that all numbers of a list lie within bounds. -/
namespace Go.Proofs.YtjnkdjokbamibaaDoor
open Go.RowKit
/-- Block g is just the cells cs of element type t. -/
def Blk (w : World) (g : Nat) (t : TypeId) (cs : List Value) : Prop := w.heap[g]? = some (.cells cs.toArray t (0, 0))
section
variable {w w' : World} {g : Nat} {t : TypeId} {cs : List Value}
theorem Blk.lt (h : Blk w g t cs) : g < w.heap.size := by
  rcases Nat.lt_or_ge g w.heap.size with hlt | hge
  · exact hlt
  · unfold Blk at h; rw [Array.getElem?_eq_none hge] at h; cases h
theorem Blk.cell (h : Blk w g t cs) (i : Nat) : w.cell? ⟨g, i, Option.none⟩ = cs[i]? := by
  have := cell_of_row w g i cs.toArray t (0, 0) h
  rw [this]; simp
theorem Blk.frozen (h : Blk w g t cs) (i : Nat) : w.frozen? ⟨g, i, Option.none⟩ = false := by
  unfold Blk at h
  simp [World.frozen?, h]
theorem Blk.new (w : World) (t : TypeId) (cs : Array Value) : Blk (w.alloc (.cells cs t)) w.heap.size t cs.toList := heap_alloc_new w _
theorem Blk.alloc (h : Blk w g t cs) (o : Obj) : Blk (w.alloc o) g t cs := (Below.heap_alloc w o g h.lt).trans h
theorem Blk.set_ (h : Blk w g t cs) (i : Nat) (u : Value) : Blk (w.setCell ⟨g, i, Option.none⟩ u) g t (cs.set i u) := by
  unfold Blk at h ⊢
  simp [World.setCell, Array.getElem?_modify, h]
theorem Blk.below {B : Nat} (h : Blk w g t cs) (hb : Below B w w') (hg : g < B) : Blk w' g t cs := (hb.block g hg).trans h
end
theorem bel_drewN (B : Nat) (w : World) (n : Nat) : Below B w (w.drewN n) := ⟨rfl, rfl, rfl, Nat.le_refl _, fun _ _ => rfl⟩
theorem set_mid (A B : List Value) (u v : Value) : (A ++ u :: B).set A.length v = A ++ v :: B := by
  rw [List.set_append_right _ _ (Nat.le_refl _)]; simp
/-- Nothing outside the blocks from lo to below hi has turned, and none has come. -/
structure Keep (lo hi : Nat) (w w' : World) : Prop where
  os : w'.os = w.os
  tape : w'.tape = w.tape
  output : w'.output = w.output
  size : w'.heap.size = w.heap.size
  block : ∀ k, k < lo ∨ hi ≤ k → w'.heap[k]? = w.heap[k]?
theorem Keep.refl (lo hi : Nat) (w : World) : Keep lo hi w w := ⟨rfl, rfl, rfl, rfl, fun _ _ => rfl⟩
theorem Keep.trans {lo hi : Nat} {a b c : World} (h : Keep lo hi a b) (k : Keep lo hi b c) : Keep lo hi a c :=
  ⟨k.os.trans h.os, k.tape.trans h.tape, k.output.trans h.output, k.size.trans h.size, fun i hi => (k.block i hi).trans (h.block i hi)⟩
theorem Keep.mono {lo hi lo' hi' : Nat} {w w' : World} (h : Keep lo hi w w') (h1 : lo' ≤ lo) (h2 : hi ≤ hi') : Keep lo' hi' w w' :=
  ⟨h.os, h.tape, h.output, h.size, fun k hk => h.block k (by omega)⟩
theorem Keep.setCell {lo hi : Nat} {a w : World} (h : Keep lo hi a w) {p : Addr} (h1 : lo ≤ p.block) (h2 : p.block < hi) (u : Value) : Keep lo hi a (w.setCell p u) :=
  h.trans ⟨rfl, rfl, rfl, by simp [World.setCell], fun k hk => Below.heap_setCell _ _ _ _ (by omega)⟩
theorem Keep.bel {lo hi : Nat} {w w' : World} (h : Keep lo hi w w') : Below lo w w' := ⟨h.os, h.tape, h.output, Nat.le_of_eq h.size.symm, fun k hk => h.block k (.inl hk)⟩
/-- Nothing but block b has turned, and none has come. -/
structure Only (b : Option Nat) (w w' : World) : Prop where
  os : w'.os = w.os
  tape : w'.tape = w.tape
  output : w'.output = w.output
  size : w'.heap.size = w.heap.size
  block : ∀ k, some k ≠ b → w'.heap[k]? = w.heap[k]?
theorem Only.refl (b : Option Nat) (w : World) : Only b w w := ⟨rfl, rfl, rfl, rfl, fun _ _ => rfl⟩
theorem Only.setCell {b : Nat} {a w : World} (h : Only (some b) a w) {p : Addr} (hp : p.block = b) (u : Value) : Only (some b) a (w.setCell p u) :=
  ⟨h.os, h.tape, h.output, by simpa [World.setCell] using h.size, fun k hk => (Below.heap_setCell _ _ _ _ (by rintro rfl; exact hk (by rw [hp]))).trans (h.block k hk)⟩
theorem Only.keep {b : Option Nat} {lo hi : Nat} {w w' : World} (h : Only b w w') (hb : ∀ g, b = some g → lo ≤ g ∧ g < hi) : Keep lo hi w w' :=
  ⟨h.os, h.tape, h.output, h.size, fun k hk => h.block k (fun e => by have := hb k e.symm; omega)⟩
theorem OwI.only {w w' : World} {lo hi : Nat} {b : Option Nat} {v : Value} {xs : List Int} (h : OwI w lo hi v xs) (hk : Only b w w') (hd : ∀ g, v.ownBlock = some g → b ≠ some g) : OwI w' lo hi v xs := by
  refine ⟨⟨h.1.1, ?_⟩, h.2⟩
  rcases h.1.2 with hn | ⟨g, cap, cur, rfl, hl, hg, rest⟩
  · exact .inl hn
  · exact .inr ⟨g, cap, cur, rfl, hl, (hk.block g (fun e => hd g rfl e.symm)).trans hg, rest⟩
theorem OwI.range {w : World} {lo hi : Nat} {v : Value} {xs : List Int} (h : OwI w lo hi v xs) : ∀ g, v.ownBlock = some g → lo ≤ g ∧ g < hi := fun g hg => ⟨(h.1.lt g hg).1, h.2 g hg⟩
theorem OwI.keep {w w' : World} {lo hi a b : Nat} {v : Value} {xs : List Int} (h : OwI w lo hi v xs) (hk : Keep a b w w') (hd : hi ≤ a ∨ b ≤ lo) : OwI w' lo hi v xs := by
  refine ⟨⟨h.1.1, ?_⟩, h.2⟩
  have h2 := h.2
  rcases h.1.2 with hn | ⟨g, cap, cur, rfl, hl, hg, rest⟩
  · exact .inl hn
  · exact .inr ⟨g, cap, cur, rfl, hl, (hk.block g (by have := h2 g rfl; omega)).trans hg, rest⟩
theorem own_of_blk {w : World} {lo hi g : Nat} {xs : List Int} (h : Blk w g 3 (ints xs)) (h1 : lo ≤ g) (h2 : g < hi) (hm : xs.length ≤ maxLen) : OwI w lo hi (.slice (some ⟨g, 0, Option.none⟩) xs.length xs.length) xs :=
  ⟨⟨by simp, .inr ⟨g, xs.length, (ints xs).toArray, rfl, h1, h, Nat.le_refl _, hm, by simp, by simp [ints, List.take_of_length_le]⟩⟩, fun k hk => by cases hk; exact h2⟩
theorem run_make_rowN {P : Program} (t e : TypeId) (i : TypeInfo) (z : Value) (ht : P.underlying t = some (.slice e)) (hi : P.info? e = some i) (hz : i.zero = some z)
    (kl kc : IntKind) (n c : Nat) (hnc : n ≤ c) (hbytes : i.bytes * c ≤ 281474976710656) (h63 : c ≤ 9223372036854775807) (w : World) :
    (Instr.makeSlice t (.int kl (n : Int)) (.int kc (c : Int))).run P w = .ok (.slice (some ⟨w.heap.size, 0, Option.none⟩) n c) (w.alloc (.cells (madeCells z.cells (c * i.size)) e)) := by
  have hb : (i.bytes : Int) * (c : Int) ≤ 281474976710656 := by
    have h : ((i.bytes * c : Nat) : Int) ≤ 281474976710656 := by omega
    rwa [Int.natCast_mul] at h
  have hr := run_make (P := P) w t e i z ht hi hz kl kc n c (by omega) (by omega) hb (by omega)
  simp only [Int.toNat_natCast] at hr
  exact hr
/-- Room for n integers, all 0, behind a name. -/
def zeros (n : Nat) : Array Value := (List.replicate n (Value.int .i64 0)).toArray
theorem make_ints (n : Nat) (hn : n ≤ 1099511627776) (w : World) :
    (Instr.makeSlice 30 (.int .i64 (n : Int)) (.int .i64 (n : Int))).run Tryd.prog w = .ok (.slice (some ⟨w.heap.size, 0, Option.none⟩) n n) (w.alloc (.cells (zeros n) 3)) := by
  obtain ⟨i, hi, hz0, hz1, hz2⟩ := info_parts info_int
  have h := run_make_rowN (P := Tryd.prog) 30 3 i (.int .i64 0) Tryd.underlying30 hi hz0 .i64 .i64 n n (Nat.le_refl _) (by rw [hz2]; omega) (by omega) w
  rw [h, hz1]
  have e : madeCells (Value.int .i64 0).cells (n * 1) = zeros n := by
    apply Array.ext
    · simp [madeCells, zeros]
    · intro j h1 h2
      simp [madeCells, zeros, Value.cells, Nat.mod_one]
  rw [e]
theorem Rd.at_ {w : World} {hi : Nat} {v : Value} {n : Nat} {xs : List Int} (h : Rd w hi 1 v n (ints xs)) {k : Nat} (hk : k < n) :
    ∃ b off c y, v = .slice (some ⟨b, off, Option.none⟩) n c ∧ b < hi ∧ xs[k]? = some y ∧ w.cell? ⟨b, off + k, Option.none⟩ = some (.int .i64 y) := by
  obtain ⟨h0, A, c, h1, _, _, h4⟩ := h
  obtain ⟨b, off, rfl, hb, hc⟩ := h4 (by omega)
  have hl : xs.length = n := by simpa using h0
  exact ⟨b, off, c, xs[k], h1, hb, by simp [hl, hk], hc k _ (by simp [hl, hk])⟩
theorem Rd.form {w : World} {hi size : Nat} {v : Value} {n : Nat} {xs : List Value} (h : Rd w hi size v n xs) : ∃ A c, v = .slice A n c ∧ n ≤ c ∧ n ≤ 9223372036854775807 := by
  obtain ⟨_, A, c, h1, h2, h3, _⟩ := h
  exact ⟨A, c, h1, h2, by unfold maxLen at h3; omega⟩
def allB (xs : List Int) (a b : Int) : Bool := xs.all fun x => inB x a b
theorem take_snocI {xs : List Int} {k : Nat} {y : Int} (h : xs[k]? = some y) : xs.take (k + 1) = xs.take k ++ [y] := by rw [List.take_add_one, h]; rfl
theorem allB_take {xs : List Int} {k : Nat} {y a b : Int} (h : xs[k]? = some y) (ht : allB (xs.take k) a b = true) (hy : inB y a b = true) : allB (xs.take (k + 1)) a b = true := by
  rw [take_snocI h]; unfold allB at *; rw [List.all_append, ht]; simp [hy]
theorem allB_no {xs : List Int} {k : Nat} {y a b : Int} (h : xs[k]? = some y) (hy : inB y a b = false) : allB xs a b = false := by
  unfold allB; rw [List.all_eq_false]
  exact ⟨y, List.mem_of_getElem? h, by simp [hy]⟩
theorem allB_full {xs : List Int} {k : Nat} {a b : Int} (h : ¬ k < xs.length) (ht : allB (xs.take k) a b = true) : allB xs a b = true := by rwa [List.take_of_length_le (by omega)] at ht
theorem allWithin_any (xs : List Int) (a b : Int) (v : Value) (hi : Nat) (w : World) (h : RdI w hi v xs) : Calls Tryd.prog 58 #[v, .int .i64 a, .int .i64 b] w fun e w' => e = .returned (.bool (allB xs a b)) ∧ w = w' := by
  obtain ⟨A, c, rfl, hc, hm⟩ := Rd.form h
  have H := Lib.hid h
  clear h
  go_enter Tryd.func58, Tryd.ntmps58
  go_wp2
  go_loop [11] (fun i => ∃ k : Nat, k ≤ xs.length ∧ i = .int .i64 k ∧ Hid (allB (xs.take k) a b = true)) (fun i => xs.length - (intOf i).toNat)
  case atStart => exact ⟨0, Nat.zero_le _, rfl, rfl⟩
  case round =>
    obtain ⟨k, hk, rfl, hall⟩ := hrel
    by_cases hlt : k < xs.length
    · obtain ⟨b', off, c', y, hv, _, hy, hcell⟩ := Rd.at_ H.out hlt
      cases hv
      have HY := Lib.hid hy
      clear hy
      cases hin : inB y a b
      · go_wp2_with (go_at_call 52; refine (within_any _ _ _ _).mono ?_; rintro e w' ⟨rfl, rfl⟩)
        go_ret
        exact ⟨ret_bool (allB_no HY.out hin).symm, rfl⟩
      · go_wp2_with (go_at_call 52; refine (within_any _ _ _ _).mono ?_; rintro e w' ⟨rfl, rfl⟩)
        go_round
        case rel => exact ⟨k + 1, by omega, by go_num, allB_take HY.out hall.out hin⟩
        case measure => simp [intOf]; omega
    · go_wp2
      go_ret
      exact ⟨ret_bool (allB_full hlt hall.out).symm, rfl⟩
theorem l1All_any (xs : List Int) (a b : Int) (v : Value) (hi : Nat) (w : World) (h : RdI w hi v xs) : Calls Tryd.prog 57 #[v, .int .i64 a, .int .i64 b] w fun e w' => e = .returned (.bool (allB xs a b)) ∧ w = w' := by
  obtain ⟨A, c, rfl, hc, hm⟩ := Rd.form h
  have H := Lib.hid h
  clear h
  go_enter Tryd.func57, Tryd.ntmps57
  go_wp2
  go_loop [11] (fun i => ∃ k : Nat, k ≤ xs.length ∧ i = .int .i64 k ∧ Hid (allB (xs.take k) a b = true)) (fun i => xs.length - (intOf i).toNat)
  case atStart => exact ⟨0, Nat.zero_le _, rfl, rfl⟩
  case round =>
    obtain ⟨k, hk, rfl, hall⟩ := hrel
    by_cases hlt : k < xs.length
    · obtain ⟨b', off, c', y, hv, _, hy, hcell⟩ := Rd.at_ H.out hlt
      cases hv
      have HY := Lib.hid hy
      clear hy
      cases hin : inB y a b
      · go_wp2_with (go_at_call 43; refine (l1In_any _ _ _ _).mono ?_; rintro e w' ⟨rfl, rfl⟩)
        go_ret
        exact ⟨ret_bool (allB_no HY.out hin).symm, rfl⟩
      · go_wp2_with (go_at_call 43; refine (l1In_any _ _ _ _).mono ?_; rintro e w' ⟨rfl, rfl⟩)
        go_round
        case rel => exact ⟨k + 1, by omega, by go_num, allB_take HY.out hall.out hin⟩
        case measure => simp [intOf]; omega
    · go_wp2
      go_ret
      exact ⟨ret_bool (allB_full hlt hall.out).symm, rfl⟩
theorem eq_take {xs ys : List Int} {k : Nat} {y : Int} (hx : xs[k]? = some y) (hy : ys[k]? = some y) (ht : xs.take k = ys.take k) : xs.take (k + 1) = ys.take (k + 1) := by rw [take_snocI hx, take_snocI hy, ht]
theorem eq_no {xs ys : List Int} {k : Nat} {x y : Int} (hx : xs[k]? = some x) (hy : ys[k]? = some y) (hne : x ≠ y) : decide (xs = ys) = false := by
  rw [decide_eq_false_iff_not]; rintro rfl; rw [hx] at hy; cases hy; exact hne rfl
theorem eq_full {xs ys : List Int} {k : Nat} (h : ¬ k < xs.length) (hl : xs.length = ys.length) (ht : xs.take k = ys.take k) : decide (xs = ys) = true := by
  rw [List.take_of_length_le (by omega), List.take_of_length_le (by omega)] at ht; simp [ht]
theorem eqIntS_any (xs ys : List Int) (v u : Value) (hi hj : Nat) (w : World) (h : RdI w hi v xs) (g : RdI w hj u ys) : Calls Tryd.prog 15 #[v, u] w fun e w' => e = .returned (.bool (decide (xs = ys))) ∧ ∃ n, w' = w.drewN n := by
  obtain ⟨A, c, rfl, hc, hm⟩ := Rd.form h
  obtain ⟨A', c', rfl, hc', hm'⟩ := Rd.form g
  have H := Lib.hid h
  have G := Lib.hid g
  clear h g
  by_cases hl : xs.length = ys.length
  · have HL := Lib.hid hl
    rw [← hl]
    rw [← hl] at hc' hm'
    clear hl
    go_enter Tryd.func15, Tryd.ntmps15
    go_wp2
    go_loopw [5] (fun i wr => ∃ k : Nat, k ≤ xs.length ∧ i = .int .i64 k ∧ Hid (xs.take k = ys.take k) ∧ ∃ n, wr = w.drewN n) (fun i _ => xs.length - (intOf i).toNat)
    case atStart => exact ⟨0, Nat.zero_le _, rfl, rfl, 0, rfl⟩
    case round =>
      obtain ⟨k, hk, rfl, heq, n, rfl⟩ := hrel
      by_cases hlt : k < xs.length
      · obtain ⟨b1, o1, c1, x, hv, _, hx, hcell1⟩ := Rd.at_ H.out hlt
        cases hv
        obtain ⟨b2, o2, c2, y, hv, _, hy, hcell2⟩ := Rd.at_ G.out (by rw [← HL.out]; exact hlt)
        have HX := Lib.hid hx
        have HY := Lib.hid hy
        injection hv with hv1 hv2 hv3
        subst hv1
        clear hx hy hv2 hv3
        by_cases hxy : x = y
        · subst hxy
          go_wp2
          go_quiet (fail)
          go_wp2
          go_roundw
          case rel => exact ⟨k + 1, by omega, by go_num, eq_take HX.out HY.out heq.out, _, rfl⟩
          case measure => simp [intOf]; omega
        · have hbe : (x == y) = false := by simpa using hxy
          have hbn : (x != y) = true := by simpa using hxy
          go_wp2
          go_quiet (fail)
          go_wp2
          go_ret
          exact ⟨ret_bool (eq_no HX.out HY.out hxy).symm, _, World.drewN_drewN _ _ _⟩
      · go_wp2
        go_ret
        exact ⟨ret_bool (eq_full hlt HL.out heq.out).symm, _, rfl⟩
  · have hne : (((xs.length : Nat) : Int) != ((ys.length : Nat) : Int)) = true := by rw [bne_iff_ne]; omega
    go_enter Tryd.func15, Tryd.ntmps15
    go_wp2
    go_ret
    refine ⟨ret_bool ?_, 0, rfl⟩
    symm; rw [decide_eq_false_iff_not]; rintro rfl; exact hl rfl
/-- The first k of the numbers, then zeros, in n cells. -/
def partI (xs : List Int) (k : Nat) : List Value := ints (xs.take k) ++ List.replicate (xs.length - k) (Value.int .i64 0)
theorem partI_zero (xs : List Int) : partI xs 0 = (zeros xs.length).toList := by simp [partI, zeros, ints]
theorem partI_full (xs : List Int) : partI xs xs.length = ints xs := by simp [partI, ints]
theorem partI_step {xs : List Int} {k : Nat} {y : Int} (h : xs[k]? = some y) : (partI xs k).set k (.int .i64 y) = partI xs (k + 1) := by
  have hk : k < xs.length := (List.getElem?_eq_some_iff.1 h).1
  have e : List.replicate (xs.length - k) (Value.int .i64 0) = Value.int .i64 0 :: List.replicate (xs.length - (k + 1)) (Value.int .i64 0) := by
    rw [show xs.length - k = (xs.length - (k + 1)) + 1 by omega]; rfl
  have hl : (ints (xs.take k)).length = k := by simp; omega
  unfold partI
  rw [e, take_snocI h]
  have := set_mid (ints (xs.take k)) (List.replicate (xs.length - (k + 1)) (Value.int .i64 0)) (Value.int .i64 0) (.int .i64 y)
  rw [hl] at this
  rw [this]; simp [ints]
theorem partI_at {xs : List Int} {k : Nat} (h : k < xs.length) : (partI xs k)[k]? = some (.int .i64 0) := by
  have hl : (ints (xs.take k)).length = k := by simp; omega
  unfold partI
  rw [List.getElem?_append_right (by omega), hl, Nat.sub_self, List.getElem?_replicate, if_pos (by omega)]
theorem toIntS_any (xs : List Int) (v : Value) (hi : Nat) (w : World) (h : RdI w hi v xs) (hlen : xs.length ≤ 1099511627776) (hhi : hi ≤ w.heap.size) : Calls Tryd.prog 13 #[v] w (RetOwI xs w) := by
  obtain ⟨A, c, rfl, hc, hm⟩ := Rd.form h
  have H := Lib.hid h
  clear h
  have hmk := make_ints xs.length hlen
  go_enter Tryd.func13, Tryd.ntmps13
  go_wp2
  go_loopw [4] (fun i wr => ∃ k : Nat, k ≤ xs.length ∧ i = .int .i64 k ∧ Blk wr w.heap.size 3 (partI xs k) ∧ Below w.heap.size w wr) (fun i _ => xs.length - (intOf i).toNat)
  case atStart => exact ⟨0, Nat.zero_le _, rfl, by rw [partI_zero]; exact Blk.new _ _ _, (Below.refl _ _).alloc (Nat.le_refl _) _⟩
  case round =>
    obtain ⟨k, hk, rfl, hblk, hbel⟩ := hrel
    by_cases hlt : k < xs.length
    · obtain ⟨b1, o1, c1, x, hv, hb1, hx, hcell1⟩ := Rd.at_ (Rd.below H.out hbel hhi) hlt
      cases hv
      have hcell2 := hblk.cell k
      rw [partI_at hlt] at hcell2
      have hfr := hblk.frozen k
      have HX := Lib.hid hx
      clear hx
      go_wp2
      go_roundw
      case rel => exact ⟨k + 1, by omega, by go_num, by rw [← partI_step HX.out]; exact hblk.set_ _ _, hbel.setCell (Nat.le_refl _) _⟩
      case measure => simp [intOf]; omega
    · obtain rfl : k = xs.length := by omega
      rw [partI_full] at hblk
      go_wp2
      go_ret
      exact ⟨_, rfl, own_of_blk hblk (Nat.le_refl _) hblk.lt (by unfold maxLen; omega), hbel⟩
theorem OwI.form {w : World} {lo hi : Nat} {v : Value} {xs : List Int} (h : OwI w lo hi v xs) : ∃ A c, v = .slice A xs.length c ∧ xs.length ≤ 9223372036854775807 := by
  obtain ⟨A, c, h1, _, h2⟩ := Rd.form h.rd
  exact ⟨A, c, h1, h2⟩
theorem eqIntS_same (xs : List Int) (v u : Value) (hi hj : Nat) (w : World) (h : RdI w hi v xs) (g : RdI w hj u xs) : Calls Tryd.prog 15 #[v, u] w fun e w' => e = .returned (.bool true) ∧ ∃ n, w' = w.drewN n :=
  (eqIntS_any xs xs v u hi hj w h g).mono fun _ _ ⟨he, hw⟩ => ⟨by rw [he]; simp, hw⟩
theorem eqIntS_sameB (xs : List Int) (v u : Value) (hi hj : Nat) (w : World) (h : RdI w hi v xs) (g : RdI w hj u xs) : Calls Tryd.prog 15 #[v, u] w fun e w' => e = .returned (.bool true) ∧ Below w.heap.size w w' :=
  (eqIntS_same xs v u hi hj w h g).mono fun _ _ ⟨he, _, hw⟩ => ⟨he, by rw [hw]; exact bel_drewN _ _ _⟩
end Go.Proofs.YtjnkdjokbamibaaDoor
/- What an argument that reads as data looks like in memory: slices of integers, slices of such slices. -/
namespace Go.Proofs.YtjnkdjokbamibaaDoor
open Go.ChangeShapes Go.WideShapes Go.ChangeAt Go.RowKit Go.Deep
theorem cells_one {w : World} {base : Nat} {a : Addr} {cs : List Value} (h : w.cells? base a 1 = some cs) : ∃ v, cs = [v] ∧ w.cell? a = some v ∧ base ≤ a.block := by
  unfold World.cells? at h
  split at h
  · rename_i hb
    have hl := mapM_some_length h
    have hg := mapM_some_get h 0 0 rfl
    match cs, hl with
    | [v], _ => exact ⟨v, rfl, by simpa [Addr.add] using hg, hb⟩
  · cases h
theorem spot_of {w : World} {a : Addr} {v : Value} (h : w.cell? a = some v) : ∃ b off, a = ⟨b, off, Option.none⟩ ∧ b < w.heap.size := by
  obtain ⟨b, off, spot⟩ := a
  have hs : spot = Option.none := by simpa using World.cell?_spot h
  subst hs
  exact ⟨b, off, rfl, World.block_lt_of_cell? w ⟨b, off, Option.none⟩ h⟩
theorem trod_int1 {H : Type} {enc : TypeId × Value → H} {P : Program} {w : World} {base : Nat} {spare : Nat → Bool} {held : Bool} {fuel : Nat} {t : TypeId} {v : Value} {x : DataW H × List MemPlace} {k : IntKind}
    (ht : P.underlying t = some (.int k)) (h : DataW.trod enc P w base spare held fuel t [v] = some x) : ∃ n, v = .int k n := by
  obtain ⟨n, e1, _⟩ := DataW.trod_int ht h
  exact ⟨n, by simpa using e1⟩
/-- A slice whose elements have one cell each reads as a row of values. -/
theorem open_row {H : Type} {enc : TypeId × Value → H} {P : Program} {w : World} {spare : Nat → Bool} {held : Bool} {fuel : Nat} {t e : TypeId} {v : Value} {x : DataW H × List MemPlace}
    (ht : P.underlying t = some (.slice e)) (he : P.cellsOf e = 1) (h : DataW.trod enc P w 0 spare held fuel t [v] = some x) :
    ∃ (n : Nat) (vs : List Value), Rd w w.heap.size 1 v n vs ∧ vs.length = n ∧ ∀ (i : Nat) (u : Value), vs[i]? = some u → ∃ f y, DataW.trod enc P w 0 spare held f e [u] = some y := by
  rcases open_slice ht h with ⟨hv, _⟩ | ⟨a, len, cap, m, n, D, Pl, hv, hb, hl, hm, hmm, hx, hcell⟩
  · simp only [List.cons.injEq, and_true] at hv
    subst hv
    exact ⟨0, [], ⟨rfl, Option.none, 0, rfl, Nat.le_refl _, Nat.zero_le _, fun h => absurd h (by omega)⟩, rfl, fun i u hu => by simp at hu⟩
  · simp only [List.cons.injEq, and_true] at hv
    subst hv
    have hlm : len ≤ m := by rw [hmm]; split <;> omega
    have hk : ∀ i, ∃ u, i < len → w.cell? (a.add i) = some u ∧ ∃ y, DataW.trod enc P w 0 spare held n e [u] = some y := by
      intro i
      by_cases hi : i < len
      · obtain ⟨cs', hc1, hc2⟩ := hcell i (by omega)
        rw [he, Nat.mul_one] at hc1
        obtain ⟨u, rfl, hu, _⟩ := cells_one hc1
        exact ⟨u, fun _ => ⟨hu, _, hc2⟩⟩
      · exact ⟨undef, fun h => absurd h hi⟩
    obtain ⟨V, hV⟩ : ∃ V : Nat → Value, ∀ i, i < len → w.cell? (a.add i) = some (V i) ∧ ∃ y, DataW.trod enc P w 0 spare held n e [V i] = some y := ⟨fun i => Classical.choose (hk i), fun i => Classical.choose_spec (hk i)⟩
    clear hk
    refine ⟨len, (List.range len).map V, ⟨by simp, some a, cap, rfl, hl, hm, fun hpos => ?_⟩, by simp, fun i u hu => ?_⟩
    · have h0 := (hV 0 hpos).1
      obtain ⟨b, off, ha, hlt⟩ := spot_of h0
      have ha' : a = ⟨b, off, Option.none⟩ := by simpa [Addr.add] using ha
      subst ha'
      refine ⟨b, off, rfl, hlt, fun j u hu => ?_⟩
      have hj : j < len := by
        rcases Nat.lt_or_ge j len with h | h
        · exact h
        · rw [List.getElem?_eq_none (by simp; exact h)] at hu; cases hu
      simp [hj] at hu
      have := (hV j hj).1
      rw [hu, add_plain] at this
      exact this
    · have hj : i < len := by
        rcases Nat.lt_or_ge i len with h | h
        · exact h
        · rw [List.getElem?_eq_none (by simp; exact h)] at hu; cases hu
      simp [hj] at hu
      obtain ⟨_, y, hy⟩ := hV i hj
      rw [hu] at hy
      exact ⟨n, y, hy⟩
theorem ints_of (vs : List Value) (h : ∀ (i : Nat) (u : Value), vs[i]? = some u → ∃ n, u = Value.int .i64 n) : ∃ xs, vs = ints xs := by
  induction vs with
  | nil => exact ⟨[], rfl⟩
  | cons v r ih =>
    obtain ⟨n, hn⟩ := h 0 v rfl
    obtain ⟨xs, hxs⟩ := ih (fun i u hu => h (i + 1) u (by simpa using hu))
    exact ⟨n :: xs, by rw [hn, hxs]; rfl⟩
theorem open_intS {H : Type} {enc : TypeId × Value → H} {w : World} {spare : Nat → Bool} {held : Bool} {fuel : Nat} {v : Value} {x : DataW H × List MemPlace}
    (h : DataW.trod enc Tryd.prog w 0 spare held fuel 30 [v] = some x) : ∃ xs, RdI w w.heap.size v xs := by
  obtain ⟨n, vs, hr, hl, hk⟩ := open_row Tryd.underlying30 (by kernel_rfl) h
  obtain ⟨xs, rfl⟩ := ints_of vs (fun i u hu => by
    obtain ⟨f, y, hy⟩ := hk i u hu
    exact trod_int1 Tryd.underlying3 hy)
  have : xs.length = n := by simpa using hl
  subst this
  exact ⟨xs, hr⟩
end Go.Proofs.YtjnkdjokbamibaaDoor
/- Appending a slice of integers, whatever it is, to a row of the call's own; a copy of a slice. -/
namespace Go.Proofs.YtjnkdjokbamibaaDoor
open Go.RowKit
/-- An empty row that the call has made. -/
theorem GrowI.made (w : World) : GrowI w w.heap.size (w.alloc (.cells #[] 3)) (.slice (some ⟨w.heap.size, 0, Option.none⟩) 0 0) [] := by
  refine ⟨?_, (Below.refl _ _).alloc (Nat.le_refl _) _, by simp⟩
  have := World.ownsRow_made (w := w) (base := w.heap.size) (e := 3) (size := 1) #[] 0 (Nat.le_refl _) (Nat.zero_le _) rfl
  exact this
theorem GrowI.nil {w wr : World} (hb : Below w.heap.size w wr) : GrowI w w.heap.size wr (.slice Option.none 0 0) [] := ⟨World.ownsRow_nil _ _ _ _, hb, hb.size⟩
end Go.Proofs.YtjnkdjokbamibaaDoor
