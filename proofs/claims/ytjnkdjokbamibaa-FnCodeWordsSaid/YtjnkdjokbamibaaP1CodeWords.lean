/- Texts of one claim, joined: P, A1, A2, M1, M2, M3, O, M4, M5, D1, D7, J1, J2, B1, B4, J4, B3, C1, K, D3, D5, D8, E1, E2, H1. -/
import Derived.Test.YtjnkdjokbamibaaRows
import Derived.WalkKit
import Derived.ProofKit
import Derived.OpenShut
import Derived.Below
import Derived.ChangeSame
import Derived.WideKeyArgs
import Derived.Deep.SlicePairs
import Derived.Lib.SmallJoins
import Derived.StillTailTactics
import Derived.Laws.OwnMore
import Derived.Deep.DeepCutAuto
import Derived.BigQuiet
import Derived.Lib.SliceRun
import Derived.Deep.QuietTactic
import Derived.WalkLawsBesides
import Derived.WalkSpells
import Derived.Lib.Hide
import Derived.Laws.AppendOwn
import Derived.OwnWalk
import Derived.Test.YtjnkdjokbamibaaShelf
import Derived.Laws.MakeOwn
import Derived.Laws.Entries
import Derived.Deep.Slices
import Derived.Laws.IdiomStrings
import Derived.Laws.BitsLemmas
import Derived.Laws.Bits64
import Derived.Lib.SlBytesConst
import Derived.Shelf.GgClosure.Gives
/- The step from a walk to a row: a law that returns true and leaves all old memory as it was meets its row's post. -/
namespace Go.Proofs.Ytjnkdjokbamibaa
open Go.ChangeShapes Go.WideShapes Go.ChangeAt Go.RowKit Go.WideElems
theorem own : ownKnob Try.prog.godebug = Option.none := by kernel_rfl
theorem laidOut : laidOutB Try.prog = true := by kernel_rfl
theorem trodAll_stays {H : Type} {enc : TypeId × Value → H} {P : Program} (hl : laidOutB P = true) {W W' : World} {sp' : Nat → Bool} : ∀ (ts : List TypeId) (vs : List Value) (ds : List (DataW H)) (ps : List MemPlace),
    (ts.all fun t => P.readableRec t && decide (t < P.types.size)) = true → DataW.TrodAll enc P W 0 (fun _ => true) true ts vs ds ps → (∀ p ∈ ps, W.sameAt W' p) → (∀ p ∈ ps, sp' p.block = true) → DataW.TrodAll enc P W' 0 sp' true ts vs ds ps
  | [], vs, ds, ps, _, h, _, _ => by
    obtain ⟨rfl, rfl, rfl⟩ := trodAll_nil h
    exact trodAll_mk0
  | t :: ts, vs, ds, ps, hr, h, hs, hp => by
    obtain ⟨v, vs', d, ds', p, q, rfl, rfl, rfl, h0, h1⟩ := trodAll_cons h
    simp only [List.all_cons, Bool.and_eq_true, decide_eq_true_eq] at hr
    exact trodAll_cons_mk (Trod_stays hl hr.1.1 hr.1.2 h0 (fun x hx => hs x (List.mem_append_left _ hx)) (fun x hx => hp x (List.mem_append_left _ hx)))
      (trodAll_stays hl ts vs' ds' q hr.2 h1 (fun x hx => hs x (List.mem_append_right _ hx)) (fun x hx => hp x (List.mem_append_right _ hx)))
set_option maxRecDepth 100000 in
/-- The post of a law. -/
theorem law_post {H : Type} {enc : TypeId × Value → H} {f : Func} {s : ChangeSpec} {apart fresh handsOn again : Bool} {W W' : World} {args : Array Value} {ds gs : List (DataW H)} {before : List MemPlace}
    (hW : DataW.Whole enc Try.prog f.params.toList s.vars apart W args.toList ds gs before) (hvars : s.vars = []) (hrt : f.resultTypes = #[4])
    (hr : (f.params.toList.all fun t => Try.prog.readableRec t && decide (t < Try.prog.types.size)) = true)
    (hfn : (s.fn H (ds ++ gs)) = { results := [.lit (.bool true)], args := ds }) (hb : Below W.heap.size W W') :
    s.post enc Try.prog f apart fresh handsOn again W args (.bool true) W' := by
  have hlt : ∀ p ∈ before, p.block < W.heap.size := fun p hp => hW.lt p hp
  have hold : ∀ p ∈ before, (fun b => decide (b < W.heap.size)) p.block = true := fun p hp => by simpa using hlt p hp
  have hW0 := hW
  obtain ⟨p, q, hA, hV, rfl, hz, hn⟩ := hW
  rw [hvars] at hV
  obtain ⟨rfl, rfl⟩ := trodVars_none hV
  simp only [List.append_nil] at hlt hold hW0 hz hn
  have hres : ∀ (b : Nat) (sp : Nat → Bool) (hd : Bool), DataW.TrodAll enc Try.prog W' b sp hd f.resultTypes.toList ((Value.bool true).resultList f.resultTypes.size) (s.fn H (ds ++ [])).results [] := fun b sp hd => by
    rw [hfn, hrt]; exact trodAll_cons_mk (shut_bool Try.underlying4 _) trodAll_mk0
  have hargs : ∀ sp : Nat → Bool, (∀ x ∈ p, sp x.block = true) → DataW.TrodAll enc Try.prog W' 0 sp true f.params.toList args.toList (s.fn H (ds ++ [])).args p := fun sp hsp => by
    rw [hfn]; exact trodAll_stays laidOut _ _ _ _ hr hA (fun x hx => hb.same (hlt x hx)) hsp
  have hvs : ∀ sp : Nat → Bool, (∀ x ∈ p, sp x.block = true) → DataW.TrodVars enc Try.prog W' sp s.vars (s.fn H (ds ++ [])).vars [] := fun sp _ => by
    rw [hfn, hvars]; rfl
  refine ⟨ds, [], p, [], p, [], hW0, hres _ _ _, hargs _ hold, hvs _ hold, World.keptBut_mono (fun x hx => ⟨hx, ?_⟩) (hb.frame (· ∈ p)), fun _ => ?_⟩
  · exact Or.inr (by simpa using hx)
  · refine ⟨?_, _, _, ([] ++ p) ++ [], ⟨[] ++ p, [], trodAll_append (hargs _ (fun _ _ => rfl)) (hres _ _ _), hvs _ (fun _ _ => rfl), rfl, ?_, ?_⟩, ?_⟩
    · exact ok_one hrt rfl (okWide_bool_mk Try.underlying4 _)
    · intro b off hp
      have hin : MemPlace.cell b off ∈ p := by simpa using hp
      rw [hb.frozen (hlt _ hin)]
      exact hz b off hin
    · intro ha
      simpa using hn ha
    · intro x hx _
      simpa using hx
end Go.Proofs.Ytjnkdjokbamibaa
/- Contracts of the small functions on signals: each computes what the plain Lean function beside it says and leaves the world alone. -/
namespace Go.Proofs.Ytjnkdjokbamibaa
open Go.RowKit
def inB (n a b : Int) : Bool := decide (a ≤ n) && decide (n ≤ b)
theorem inB_iff {n a b : Int} : inB n a b = true ↔ a ≤ n ∧ n ≤ b := by simp [inB]
theorem within_any (n a b : Int) (w : World) : Calls Try.prog 128 #[.int .i64 n, .int .i64 a, .int .i64 b] w fun e w' => e = .returned (.bool (inB n a b)) ∧ w = w' := by
  go_enter Try.func128, Try.ntmps128
  go_wp2
  all_goals go_ret
  all_goals refine ⟨?_, rfl⟩
  all_goals simp [inB]; omega
theorem l1In_any (n a b : Int) (w : World) : Calls Try.prog 121 #[.int .i64 n, .int .i64 a, .int .i64 b] w fun e w' => e = .returned (.bool (inB n a b)) ∧ w = w' := by
  go_enter Try.func121, Try.ntmps121
  go_wp2
  all_goals go_ret
  all_goals refine ⟨?_, rfl⟩
  all_goals simp [inB]; omega
end Go.Proofs.Ytjnkdjokbamibaa
/- Contracts of the functions on letters and on the texts of signals: each computes what the plain Lean function beside it says and leaves the world alone. -/
namespace Go.Proofs.Ytjnkdjokbamibaa
open Go.RowKit
/-- Letters a to z alone. -/
def smallB (l : List UInt8) : Bool := l.all fun c => decide (97 ≤ c.toNat) && decide (c.toNat ≤ 122)
theorem ret_bool {a b : Bool} (h : a = b) : Ending.returned (.bool a) = Ending.returned (.bool b) := by rw [h]
theorem ret_int {k : IntKind} {a b : Int} (h : a = b) : Ending.returned (.int k a) = .returned (.int k b) := by rw [h]
def phraseB (l : List UInt8) : Bool := decide (1 ≤ l.length) && decide (l.length ≤ 12) && smallB l
theorem ret_val {a b : Value} (h : a = b) : Ending.returned a = Ending.returned b := by rw [h]
theorem int_val {k : IntKind} {a b : Int} (h : a = b) : Value.int k a = Value.int k b := by rw [h]
end Go.Proofs.Ytjnkdjokbamibaa
/- Words on slices of integers in memory: one that can be read, one that the call has made, one that it appends to. -/
namespace Go.Proofs.Ytjnkdjokbamibaa
open Go.RowKit
/-- The slice value v of n elements, size cells each, reads as the cells xs; they lie in a block below number hi. -/
def Rd (w : World) (hi size : Nat) (v : Value) (n : Nat) (xs : List Value) : Prop :=
  xs.length = n * size ∧ ∃ A c, v = .slice A n c ∧ n ≤ c ∧ c ≤ maxLen ∧ (0 < n → ∃ b off, A = some ⟨b, off, Option.none⟩ ∧ b < hi ∧ ∀ j u, xs[j]? = some u → w.cell? ⟨b, off + j, Option.none⟩ = some u)
abbrev ints (xs : List Int) : List Value := xs.map (Value.int .i64)
def RdI (w : World) (hi : Nat) (v : Value) (xs : List Int) : Prop := Rd w hi 1 v xs.length (ints xs)
/-- v is a row of ints of the call's own, in a block from lo to below hi. -/
def OwI (w : World) (lo hi : Nat) (v : Value) (xs : List Int) : Prop := w.ownsRow lo 3 1 v xs.length (ints xs) ∧ ∀ k, v.ownBlock = some k → k < hi
/-- v is what has been appended since the world w; below block number B nothing has turned. -/
def GrowI (w : World) (B : Nat) (wr : World) (v : Value) (xs : List Int) : Prop := wr.ownsRow B 3 1 v xs.length (ints xs) ∧ Below B w wr ∧ B ≤ wr.heap.size
theorem Rd.below {w w' : World} {hi size n : Nat} {v : Value} {xs : List Value} (h : Rd w hi size v n xs) {B : Nat} (hb : Below B w w') (hB : hi ≤ B) : Rd w' hi size v n xs := by
  obtain ⟨h0, A, c, h1, h2, h3, h4⟩ := h
  refine ⟨h0, A, c, h1, h2, h3, fun hn => ?_⟩
  obtain ⟨b, off, hA, hbl, hc⟩ := h4 hn
  exact ⟨b, off, hA, hbl, fun j u hu => (hb.cell (p := ⟨b, off + j, Option.none⟩) (by show b < B; omega)).trans (hc j u hu)⟩
theorem Rd.mono {w : World} {hi hi' size n : Nat} {v : Value} {xs : List Value} (h : Rd w hi size v n xs) (hB : hi ≤ hi') : Rd w hi' size v n xs := by
  obtain ⟨h0, A, c, h1, h2, h3, h4⟩ := h
  refine ⟨h0, A, c, h1, h2, h3, fun hn => ?_⟩
  obtain ⟨b, off, hA, hbl, hc⟩ := h4 hn
  exact ⟨b, off, hA, by omega, hc⟩
theorem RdI.below {w w' : World} {hi : Nat} {v : Value} {xs : List Int} (h : RdI w hi v xs) {B : Nat} (hb : Below B w w') (hB : hi ≤ B) : RdI w' hi v xs := Rd.below h hb hB
theorem RdI.mono {w : World} {hi hi' : Nat} {v : Value} {xs : List Int} (h : RdI w hi v xs) (hB : hi ≤ hi') : RdI w hi' v xs := Rd.mono h hB
theorem rd_of_owns {w : World} {lo hi size n : Nat} {e : TypeId} {v : Value} {xs : List Value} (h : w.ownsRow lo e size v n xs) (hh : ∀ k, v.ownBlock = some k → k < hi) : Rd w hi size v n xs := by
  refine ⟨h.1, ?_⟩
  have hc := fun g => h.cells (g := g)
  rcases h.2 with ⟨rfl, rfl⟩ | ⟨g, cap, cur, rfl, hb, hg, hn, hm, hs, ht⟩
  · exact ⟨Option.none, 0, rfl, Nat.le_refl _, Nat.zero_le _, fun h => absurd h (by omega)⟩
  · refine ⟨some ⟨g, 0, Option.none⟩, cap, rfl, hn, hm, fun _ => ⟨g, 0, rfl, hh g rfl, fun j u hu => ?_⟩⟩
    have := hc g rfl j u hu
    have hadd : (⟨g, 0, Option.none⟩ : Addr).add j = ⟨g, 0 + j, Option.none⟩ := by unfold Addr.add; split <;> simp_all
    rwa [hadd] at this
theorem OwI.rd {w : World} {lo hi : Nat} {v : Value} {xs : List Int} (h : OwI w lo hi v xs) : RdI w hi v xs := rd_of_owns h.1 h.2
theorem OwI.below {w w' : World} {lo hi : Nat} {v : Value} {xs : List Int} (h : OwI w lo hi v xs) {B : Nat} (hb : Below B w w') (hB : hi ≤ B) : OwI w' lo hi v xs := by
  refine ⟨⟨h.1.1, ?_⟩, h.2⟩
  have h2 := h.2
  rcases h.1.2 with hn | ⟨g, cap, cur, rfl, hl, hg, rest⟩
  · exact .inl hn
  · exact .inr ⟨g, cap, cur, rfl, hl, (hb.block g (by have := h2 g rfl; omega)).trans hg, rest⟩
theorem GrowI.start (w : World) : GrowI w w.heap.size w (.slice Option.none 0 0) [] := ⟨World.ownsRow_nil _ _ _ _, Below.refl _ _, Nat.le_refl _⟩
theorem GrowI.own {w wr : World} {B : Nat} {v : Value} {xs : List Int} (h : GrowI w B wr v xs) : OwI wr B wr.heap.size v xs := ⟨h.1, fun k hk => (h.1.lt k hk).2⟩
theorem GrowI.bel {w wr : World} {B : Nat} {v : Value} {xs : List Int} (h : GrowI w B wr v xs) : Below B w wr := h.2.1
theorem info_int : (Try.prog.info? 3).map (fun i => (i.zero, i.size, i.bytes)) = some (some (.int .i64 0), 1, 8) := by kernel_rfl
theorem one_cell (w : World) (u : Value) (t : TypeId) (j : Nat) (x : Value) (h : [u][j]? = some x) : (w.alloc (.cells #[u] t)).cell? ((⟨w.heap.size, 0, Option.none⟩ : Addr).add j) = some x := by
  match j, h with
  | 0, h => simp at h; subst h; simp [Addr.add]
theorem GrowI.app {w wr : World} {B : Nat} {v : Value} {xs : List Int} {ops : Array Oper} {rest : List Oper} {o : Oper} {a : Act} {Q : Exit → Act → World → Prop} {y : Int} (hgd : o.guard = Option.none) (s x : Operand)
    (ho : o.op = .call { callee := .builtin .append, args := #[s, x], argTypes := #[35, 35] }) (hG : GrowI w B wr v xs) (hlen : xs.length < 1099511627776)
    (hs : a.eval s = v) (hx : a.eval x = .slice (some ⟨wr.heap.size, 0, Option.none⟩) 1 1)
    (h : ∀ v' w', GrowI w B w' v' (xs ++ [y]) → wpList Try.prog ops Q rest (a.put o.dst v') w') : wpList Try.prog ops Q (o :: rest) a (wr.alloc (.cells #[.int .i64 y] 3)) := by
  obtain ⟨i, hi, hz0, hz1, hz2⟩ := info_parts info_int
  refine wpList_append_own _ hgd s x 35 ho B 3 i (.int .i64 0) 1 8 Try.underlying35 hi hz0 hz1 hz2 rfl (by decide) v xs.length (ints xs) hs (hG.1.alloc _) ⟨wr.heap.size, 0, Option.none⟩ 1 1 [.int .i64 y] hx rfl
    (one_cell _ _ _) (by intro u hu; simp at hu; subst hu; rfl) (by unfold maxLen; omega) (by omega) (by simp; have := hG.2.2; omega) ?_
  intro v' w' hown hgr _
  refine h v' w' ⟨?_, ?_, ?_⟩
  · simpa [ints] using hown
  · exact (hG.2.1.alloc hG.2.2 _).grown hgr (by simp; have := hG.2.2; omega) (fun k hk => ((hG.1.alloc (.cells #[.int .i64 y] 3)).lt k hk).1)
  · have h1 := hgr.size; have h2 := hG.2.2; simp at h1; omega
end Go.Proofs.Ytjnkdjokbamibaa
/- Contracts of the functions that gather the closed shutters of a signal, and of the distances. -/
namespace Go.Proofs.Ytjnkdjokbamibaa
open Go.RowKit
/-- A result that is a row of ints of the call's own. -/
def RetOwI (xs : List Int) (w : World) (e : Ending) (w' : World) : Prop := ∃ v, e = .returned v ∧ OwI w' w.heap.size w'.heap.size v xs ∧ Below w.heap.size w w'
theorem retOwI {w wr : World} {v : Value} {xs : List Int} (h : GrowI w w.heap.size wr v xs) : RetOwI xs w (.returned v) wr := ⟨v, rfl, h.own, h.bel⟩
end Go.Proofs.Ytjnkdjokbamibaa
/- Contracts of the helpers of the laws on slices of integers: copies, comparisons, marks; and of the tests that all numbers of a list lie within bounds. -/
namespace Go.Proofs.Ytjnkdjokbamibaa
open Go.RowKit
/-- Block g is just the cells cs of element type t. -/
def Blk (w : World) (g : Nat) (t : TypeId) (cs : List Value) : Prop := w.heap[g]? = some (.cells cs.toArray t (0, 0))
section
variable {w w' : World} {g : Nat} {t : TypeId} {cs : List Value}
theorem Blk.lt (h : Blk w g t cs) : g < w.heap.size := by
  rcases Nat.lt_or_ge g w.heap.size with hlt | hge
  · exact hlt
  · unfold Blk at h; rw [Array.getElem?_eq_none hge] at h; cases h
theorem Blk.cell (h : Blk w g t cs) (i : Nat) : w.cell? ⟨g, i, Option.none⟩ = cs[i]? := by
  have := cell_of_row w g i cs.toArray t (0, 0) h
  rw [this]; simp
theorem Blk.frozen (h : Blk w g t cs) (i : Nat) : w.frozen? ⟨g, i, Option.none⟩ = false := by
  unfold Blk at h
  simp [World.frozen?, h]
theorem Blk.new (w : World) (t : TypeId) (cs : Array Value) : Blk (w.alloc (.cells cs t)) w.heap.size t cs.toList := heap_alloc_new w _
theorem Blk.alloc (h : Blk w g t cs) (o : Obj) : Blk (w.alloc o) g t cs := (Below.heap_alloc w o g h.lt).trans h
theorem Blk.set_ (h : Blk w g t cs) (i : Nat) (u : Value) : Blk (w.setCell ⟨g, i, Option.none⟩ u) g t (cs.set i u) := by
  unfold Blk at h ⊢
  simp [World.setCell, Array.getElem?_modify, h]
theorem Blk.far (h : Blk w g t cs) {p : Addr} (hp : g ≠ p.block) (u : Value) : Blk (w.setCell p u) g t cs := (Below.heap_setCell w p u g hp).trans h
theorem Blk.below {B : Nat} (h : Blk w g t cs) (hb : Below B w w') (hg : g < B) : Blk w' g t cs := (hb.block g hg).trans h
end
theorem bel_drewN (B : Nat) (w : World) (n : Nat) : Below B w (w.drewN n) := ⟨rfl, rfl, rfl, Nat.le_refl _, fun _ _ => rfl⟩
theorem set_mid (A B : List Value) (u v : Value) : (A ++ u :: B).set A.length v = A ++ v :: B := by
  rw [List.set_append_right _ _ (Nat.le_refl _)]; simp
/-- Nothing outside the blocks from lo to below hi has turned, and none has come. -/
structure Keep (lo hi : Nat) (w w' : World) : Prop where
  os : w'.os = w.os
  tape : w'.tape = w.tape
  output : w'.output = w.output
  size : w'.heap.size = w.heap.size
  block : ∀ k, k < lo ∨ hi ≤ k → w'.heap[k]? = w.heap[k]?
theorem Keep.refl (lo hi : Nat) (w : World) : Keep lo hi w w := ⟨rfl, rfl, rfl, rfl, fun _ _ => rfl⟩
theorem Keep.trans {lo hi : Nat} {a b c : World} (h : Keep lo hi a b) (k : Keep lo hi b c) : Keep lo hi a c :=
  ⟨k.os.trans h.os, k.tape.trans h.tape, k.output.trans h.output, k.size.trans h.size, fun i hi => (k.block i hi).trans (h.block i hi)⟩
theorem keep_drewN (lo hi : Nat) (w : World) (n : Nat) : Keep lo hi w (w.drewN n) := ⟨rfl, rfl, rfl, rfl, fun _ _ => rfl⟩
theorem Keep.mono {lo hi lo' hi' : Nat} {w w' : World} (h : Keep lo hi w w') (h1 : lo' ≤ lo) (h2 : hi ≤ hi') : Keep lo' hi' w w' :=
  ⟨h.os, h.tape, h.output, h.size, fun k hk => h.block k (by omega)⟩
theorem Keep.setCell {lo hi : Nat} {a w : World} (h : Keep lo hi a w) {p : Addr} (h1 : lo ≤ p.block) (h2 : p.block < hi) (u : Value) : Keep lo hi a (w.setCell p u) :=
  h.trans ⟨rfl, rfl, rfl, by simp [World.setCell], fun k hk => Below.heap_setCell _ _ _ _ (by omega)⟩
theorem Keep.bel {lo hi : Nat} {w w' : World} (h : Keep lo hi w w') : Below lo w w' := ⟨h.os, h.tape, h.output, Nat.le_of_eq h.size.symm, fun k hk => h.block k (.inl hk)⟩
/-- Nothing but block b has turned, and none has come. -/
structure Only (b : Option Nat) (w w' : World) : Prop where
  os : w'.os = w.os
  tape : w'.tape = w.tape
  output : w'.output = w.output
  size : w'.heap.size = w.heap.size
  block : ∀ k, some k ≠ b → w'.heap[k]? = w.heap[k]?
theorem Only.refl (b : Option Nat) (w : World) : Only b w w := ⟨rfl, rfl, rfl, rfl, fun _ _ => rfl⟩
theorem Only.setCell {b : Nat} {a w : World} (h : Only (some b) a w) {p : Addr} (hp : p.block = b) (u : Value) : Only (some b) a (w.setCell p u) :=
  ⟨h.os, h.tape, h.output, by simpa [World.setCell] using h.size, fun k hk => (Below.heap_setCell _ _ _ _ (by rintro rfl; exact hk (by rw [hp]))).trans (h.block k hk)⟩
theorem Only.keep {b : Option Nat} {lo hi : Nat} {w w' : World} (h : Only b w w') (hb : ∀ g, b = some g → lo ≤ g ∧ g < hi) : Keep lo hi w w' :=
  ⟨h.os, h.tape, h.output, h.size, fun k hk => h.block k (fun e => by have := hb k e.symm; omega)⟩
theorem OwI.only {w w' : World} {lo hi : Nat} {b : Option Nat} {v : Value} {xs : List Int} (h : OwI w lo hi v xs) (hk : Only b w w') (hd : ∀ g, v.ownBlock = some g → b ≠ some g) : OwI w' lo hi v xs := by
  refine ⟨⟨h.1.1, ?_⟩, h.2⟩
  rcases h.1.2 with hn | ⟨g, cap, cur, rfl, hl, hg, rest⟩
  · exact .inl hn
  · exact .inr ⟨g, cap, cur, rfl, hl, (hk.block g (fun e => hd g rfl e.symm)).trans hg, rest⟩
theorem OwI.range {w : World} {lo hi : Nat} {v : Value} {xs : List Int} (h : OwI w lo hi v xs) : ∀ g, v.ownBlock = some g → lo ≤ g ∧ g < hi := fun g hg => ⟨(h.1.lt g hg).1, h.2 g hg⟩
theorem OwI.keep {w w' : World} {lo hi a b : Nat} {v : Value} {xs : List Int} (h : OwI w lo hi v xs) (hk : Keep a b w w') (hd : hi ≤ a ∨ b ≤ lo) : OwI w' lo hi v xs := by
  refine ⟨⟨h.1.1, ?_⟩, h.2⟩
  have h2 := h.2
  rcases h.1.2 with hn | ⟨g, cap, cur, rfl, hl, hg, rest⟩
  · exact .inl hn
  · exact .inr ⟨g, cap, cur, rfl, hl, (hk.block g (by have := h2 g rfl; omega)).trans hg, rest⟩
theorem own_of_blk {w : World} {lo hi g : Nat} {xs : List Int} (h : Blk w g 3 (ints xs)) (h1 : lo ≤ g) (h2 : g < hi) (hm : xs.length ≤ maxLen) : OwI w lo hi (.slice (some ⟨g, 0, Option.none⟩) xs.length xs.length) xs :=
  ⟨⟨by simp, .inr ⟨g, xs.length, (ints xs).toArray, rfl, h1, h, Nat.le_refl _, hm, by simp, by simp [ints, List.take_of_length_le]⟩⟩, fun k hk => by cases hk; exact h2⟩
theorem run_make_rowN {P : Program} (t e : TypeId) (i : TypeInfo) (z : Value) (ht : P.underlying t = some (.slice e)) (hi : P.info? e = some i) (hz : i.zero = some z)
    (kl kc : IntKind) (n c : Nat) (hnc : n ≤ c) (hbytes : i.bytes * c ≤ 281474976710656) (h63 : c ≤ 9223372036854775807) (w : World) :
    (Instr.makeSlice t (.int kl (n : Int)) (.int kc (c : Int))).run P w = .ok (.slice (some ⟨w.heap.size, 0, Option.none⟩) n c) (w.alloc (.cells (madeCells z.cells (c * i.size)) e)) := by
  have hb : (i.bytes : Int) * (c : Int) ≤ 281474976710656 := by
    have h : ((i.bytes * c : Nat) : Int) ≤ 281474976710656 := by omega
    rwa [Int.natCast_mul] at h
  have hr := run_make (P := P) w t e i z ht hi hz kl kc n c (by omega) (by omega) hb (by omega)
  simp only [Int.toNat_natCast] at hr
  exact hr
/-- Room for n integers, all 0, behind a name. -/
def zeros (n : Nat) : Array Value := (List.replicate n (Value.int .i64 0)).toArray
theorem make_ints (n : Nat) (hn : n ≤ 1099511627776) (w : World) :
    (Instr.makeSlice 35 (.int .i64 (n : Int)) (.int .i64 (n : Int))).run Try.prog w = .ok (.slice (some ⟨w.heap.size, 0, Option.none⟩) n n) (w.alloc (.cells (zeros n) 3)) := by
  obtain ⟨i, hi, hz0, hz1, hz2⟩ := info_parts info_int
  have h := run_make_rowN (P := Try.prog) 35 3 i (.int .i64 0) Try.underlying35 hi hz0 .i64 .i64 n n (Nat.le_refl _) (by rw [hz2]; omega) (by omega) w
  rw [h, hz1]
  have e : madeCells (Value.int .i64 0).cells (n * 1) = zeros n := by
    apply Array.ext
    · simp [madeCells, zeros]
    · intro j h1 h2
      simp [madeCells, zeros, Value.cells, Nat.mod_one]
  rw [e]
theorem Rd.at_ {w : World} {hi : Nat} {v : Value} {n : Nat} {xs : List Int} (h : Rd w hi 1 v n (ints xs)) {k : Nat} (hk : k < n) :
    ∃ b off c y, v = .slice (some ⟨b, off, Option.none⟩) n c ∧ b < hi ∧ xs[k]? = some y ∧ w.cell? ⟨b, off + k, Option.none⟩ = some (.int .i64 y) := by
  obtain ⟨h0, A, c, h1, _, _, h4⟩ := h
  obtain ⟨b, off, rfl, hb, hc⟩ := h4 (by omega)
  have hl : xs.length = n := by simpa using h0
  exact ⟨b, off, c, xs[k], h1, hb, by simp [hl, hk], hc k _ (by simp [hl, hk])⟩
theorem Rd.form {w : World} {hi size : Nat} {v : Value} {n : Nat} {xs : List Value} (h : Rd w hi size v n xs) : ∃ A c, v = .slice A n c ∧ n ≤ c ∧ n ≤ 9223372036854775807 := by
  obtain ⟨_, A, c, h1, h2, h3, _⟩ := h
  exact ⟨A, c, h1, h2, by unfold maxLen at h3; omega⟩
def allB (xs : List Int) (a b : Int) : Bool := xs.all fun x => inB x a b
theorem take_snocI {xs : List Int} {k : Nat} {y : Int} (h : xs[k]? = some y) : xs.take (k + 1) = xs.take k ++ [y] := by rw [List.take_add_one, h]; rfl
theorem allB_take {xs : List Int} {k : Nat} {y a b : Int} (h : xs[k]? = some y) (ht : allB (xs.take k) a b = true) (hy : inB y a b = true) : allB (xs.take (k + 1)) a b = true := by
  rw [take_snocI h]; unfold allB at *; rw [List.all_append, ht]; simp [hy]
theorem allB_no {xs : List Int} {k : Nat} {y a b : Int} (h : xs[k]? = some y) (hy : inB y a b = false) : allB xs a b = false := by
  unfold allB; rw [List.all_eq_false]
  exact ⟨y, List.mem_of_getElem? h, by simp [hy]⟩
theorem allB_full {xs : List Int} {k : Nat} {a b : Int} (h : ¬ k < xs.length) (ht : allB (xs.take k) a b = true) : allB xs a b = true := by rwa [List.take_of_length_le (by omega)] at ht
theorem allWithin_any (xs : List Int) (a b : Int) (v : Value) (hi : Nat) (w : World) (h : RdI w hi v xs) : Calls Try.prog 87 #[v, .int .i64 a, .int .i64 b] w fun e w' => e = .returned (.bool (allB xs a b)) ∧ w = w' := by
  obtain ⟨A, c, rfl, hc, hm⟩ := Rd.form h
  have H := Lib.hid h
  clear h
  go_enter Try.func87, Try.ntmps87
  go_wp2
  go_loop [11] (fun i => ∃ k : Nat, k ≤ xs.length ∧ i = .int .i64 k ∧ Hid (allB (xs.take k) a b = true)) (fun i => xs.length - (intOf i).toNat)
  case atStart => exact ⟨0, Nat.zero_le _, rfl, rfl⟩
  case round =>
    obtain ⟨k, hk, rfl, hall⟩ := hrel
    by_cases hlt : k < xs.length
    · obtain ⟨b', off, c', y, hv, _, hy, hcell⟩ := Rd.at_ H.out hlt
      cases hv
      have HY := Lib.hid hy
      clear hy
      cases hin : inB y a b
      · go_wp2_with (go_at_call 128; refine (within_any _ _ _ _).mono ?_; rintro e w' ⟨rfl, rfl⟩)
        go_ret
        exact ⟨ret_bool (allB_no HY.out hin).symm, rfl⟩
      · go_wp2_with (go_at_call 128; refine (within_any _ _ _ _).mono ?_; rintro e w' ⟨rfl, rfl⟩)
        go_round
        case rel => exact ⟨k + 1, by omega, by go_num, allB_take HY.out hall.out hin⟩
        case measure => simp [intOf]; omega
    · go_wp2
      go_ret
      exact ⟨ret_bool (allB_full hlt hall.out).symm, rfl⟩
theorem l1All_any (xs : List Int) (a b : Int) (v : Value) (hi : Nat) (w : World) (h : RdI w hi v xs) : Calls Try.prog 113 #[v, .int .i64 a, .int .i64 b] w fun e w' => e = .returned (.bool (allB xs a b)) ∧ w = w' := by
  obtain ⟨A, c, rfl, hc, hm⟩ := Rd.form h
  have H := Lib.hid h
  clear h
  go_enter Try.func113, Try.ntmps113
  go_wp2
  go_loop [11] (fun i => ∃ k : Nat, k ≤ xs.length ∧ i = .int .i64 k ∧ Hid (allB (xs.take k) a b = true)) (fun i => xs.length - (intOf i).toNat)
  case atStart => exact ⟨0, Nat.zero_le _, rfl, rfl⟩
  case round =>
    obtain ⟨k, hk, rfl, hall⟩ := hrel
    by_cases hlt : k < xs.length
    · obtain ⟨b', off, c', y, hv, _, hy, hcell⟩ := Rd.at_ H.out hlt
      cases hv
      have HY := Lib.hid hy
      clear hy
      cases hin : inB y a b
      · go_wp2_with (go_at_call 121; refine (l1In_any _ _ _ _).mono ?_; rintro e w' ⟨rfl, rfl⟩)
        go_ret
        exact ⟨ret_bool (allB_no HY.out hin).symm, rfl⟩
      · go_wp2_with (go_at_call 121; refine (l1In_any _ _ _ _).mono ?_; rintro e w' ⟨rfl, rfl⟩)
        go_round
        case rel => exact ⟨k + 1, by omega, by go_num, allB_take HY.out hall.out hin⟩
        case measure => simp [intOf]; omega
    · go_wp2
      go_ret
      exact ⟨ret_bool (allB_full hlt hall.out).symm, rfl⟩
theorem eq_take {xs ys : List Int} {k : Nat} {y : Int} (hx : xs[k]? = some y) (hy : ys[k]? = some y) (ht : xs.take k = ys.take k) : xs.take (k + 1) = ys.take (k + 1) := by rw [take_snocI hx, take_snocI hy, ht]
theorem eq_no {xs ys : List Int} {k : Nat} {x y : Int} (hx : xs[k]? = some x) (hy : ys[k]? = some y) (hne : x ≠ y) : decide (xs = ys) = false := by
  rw [decide_eq_false_iff_not]; rintro rfl; rw [hx] at hy; cases hy; exact hne rfl
theorem eq_full {xs ys : List Int} {k : Nat} (h : ¬ k < xs.length) (hl : xs.length = ys.length) (ht : xs.take k = ys.take k) : decide (xs = ys) = true := by
  rw [List.take_of_length_le (by omega), List.take_of_length_le (by omega)] at ht; simp [ht]
/-- The first k of the numbers, then zeros, in n cells. -/
def partI (xs : List Int) (k : Nat) : List Value := ints (xs.take k) ++ List.replicate (xs.length - k) (Value.int .i64 0)
theorem partI_zero (xs : List Int) : partI xs 0 = (zeros xs.length).toList := by simp [partI, zeros, ints]
theorem partI_full (xs : List Int) : partI xs xs.length = ints xs := by simp [partI, ints]
theorem partI_step {xs : List Int} {k : Nat} {y : Int} (h : xs[k]? = some y) : (partI xs k).set k (.int .i64 y) = partI xs (k + 1) := by
  have hk : k < xs.length := (List.getElem?_eq_some_iff.1 h).1
  have e : List.replicate (xs.length - k) (Value.int .i64 0) = Value.int .i64 0 :: List.replicate (xs.length - (k + 1)) (Value.int .i64 0) := by
    rw [show xs.length - k = (xs.length - (k + 1)) + 1 by omega]; rfl
  have hl : (ints (xs.take k)).length = k := by simp; omega
  unfold partI
  rw [e, take_snocI h]
  have := set_mid (ints (xs.take k)) (List.replicate (xs.length - (k + 1)) (Value.int .i64 0)) (Value.int .i64 0) (.int .i64 y)
  rw [hl] at this
  rw [this]; simp [ints]
theorem partI_at {xs : List Int} {k : Nat} (h : k < xs.length) : (partI xs k)[k]? = some (.int .i64 0) := by
  have hl : (ints (xs.take k)).length = k := by simp; omega
  unfold partI
  rw [List.getElem?_append_right (by omega), hl, Nat.sub_self, List.getElem?_replicate, if_pos (by omega)]
/-- Two results: a row of ints of the call's own, and a bool. -/
def RetOwT (xs : List Int) (b : Bool) (w : World) (e : Ending) (w' : World) : Prop := ∃ v, e = .returned (.tuple #[v, .bool b]) ∧ OwI w' w.heap.size w'.heap.size v xs ∧ Below w.heap.size w w'
theorem owI_nil (w : World) (lo hi : Nat) : OwI w lo hi (.slice Option.none 0 0) [] := ⟨World.ownsRow_nil _ _ _ _, fun k hk => by cases hk⟩
theorem OwI.form {w : World} {lo hi : Nat} {v : Value} {xs : List Int} (h : OwI w lo hi v xs) : ∃ A c, v = .slice A xs.length c ∧ xs.length ≤ 9223372036854775807 := by
  obtain ⟨A, c, h1, _, h2⟩ := Rd.form h.rd
  exact ⟨A, c, h1, h2⟩
end Go.Proofs.Ytjnkdjokbamibaa
/- What an argument that reads as data looks like in memory: slices of integers, slices of such slices. -/
namespace Go.Proofs.Ytjnkdjokbamibaa
open Go.ChangeShapes Go.WideShapes Go.ChangeAt Go.RowKit Go.Deep
theorem cells_one {w : World} {base : Nat} {a : Addr} {cs : List Value} (h : w.cells? base a 1 = some cs) : ∃ v, cs = [v] ∧ w.cell? a = some v ∧ base ≤ a.block := by
  unfold World.cells? at h
  split at h
  · rename_i hb
    have hl := mapM_some_length h
    have hg := mapM_some_get h 0 0 rfl
    match cs, hl with
    | [v], _ => exact ⟨v, rfl, by simpa [Addr.add] using hg, hb⟩
  · cases h
theorem spot_of {w : World} {a : Addr} {v : Value} (h : w.cell? a = some v) : ∃ b off, a = ⟨b, off, Option.none⟩ ∧ b < w.heap.size := by
  obtain ⟨b, off, spot⟩ := a
  have hs : spot = Option.none := by simpa using World.cell?_spot h
  subst hs
  exact ⟨b, off, rfl, World.block_lt_of_cell? w ⟨b, off, Option.none⟩ h⟩
/-- A slice whose elements have one cell each reads as a row of values. -/
theorem open_row {H : Type} {enc : TypeId × Value → H} {P : Program} {w : World} {spare : Nat → Bool} {held : Bool} {fuel : Nat} {t e : TypeId} {v : Value} {x : DataW H × List MemPlace}
    (ht : P.underlying t = some (.slice e)) (he : P.cellsOf e = 1) (h : DataW.trod enc P w 0 spare held fuel t [v] = some x) :
    ∃ (n : Nat) (vs : List Value), Rd w w.heap.size 1 v n vs ∧ vs.length = n ∧ ∀ (i : Nat) (u : Value), vs[i]? = some u → ∃ f y, DataW.trod enc P w 0 spare held f e [u] = some y := by
  rcases open_slice ht h with ⟨hv, _⟩ | ⟨a, len, cap, m, n, D, Pl, hv, hb, hl, hm, hmm, hx, hcell⟩
  · simp only [List.cons.injEq, and_true] at hv
    subst hv
    exact ⟨0, [], ⟨rfl, Option.none, 0, rfl, Nat.le_refl _, Nat.zero_le _, fun h => absurd h (by omega)⟩, rfl, fun i u hu => by simp at hu⟩
  · simp only [List.cons.injEq, and_true] at hv
    subst hv
    have hlm : len ≤ m := by rw [hmm]; split <;> omega
    have hk : ∀ i, ∃ u, i < len → w.cell? (a.add i) = some u ∧ ∃ y, DataW.trod enc P w 0 spare held n e [u] = some y := by
      intro i
      by_cases hi : i < len
      · obtain ⟨cs', hc1, hc2⟩ := hcell i (by omega)
        rw [he, Nat.mul_one] at hc1
        obtain ⟨u, rfl, hu, _⟩ := cells_one hc1
        exact ⟨u, fun _ => ⟨hu, _, hc2⟩⟩
      · exact ⟨undef, fun h => absurd h hi⟩
    obtain ⟨V, hV⟩ : ∃ V : Nat → Value, ∀ i, i < len → w.cell? (a.add i) = some (V i) ∧ ∃ y, DataW.trod enc P w 0 spare held n e [V i] = some y := ⟨fun i => Classical.choose (hk i), fun i => Classical.choose_spec (hk i)⟩
    clear hk
    refine ⟨len, (List.range len).map V, ⟨by simp, some a, cap, rfl, hl, hm, fun hpos => ?_⟩, by simp, fun i u hu => ?_⟩
    · have h0 := (hV 0 hpos).1
      obtain ⟨b, off, ha, hlt⟩ := spot_of h0
      have ha' : a = ⟨b, off, Option.none⟩ := by simpa [Addr.add] using ha
      subst ha'
      refine ⟨b, off, rfl, hlt, fun j u hu => ?_⟩
      have hj : j < len := by
        rcases Nat.lt_or_ge j len with h | h
        · exact h
        · rw [List.getElem?_eq_none (by simp; exact h)] at hu; cases hu
      simp [hj] at hu
      have := (hV j hj).1
      rw [hu, add_plain] at this
      exact this
    · have hj : i < len := by
        rcases Nat.lt_or_ge i len with h | h
        · exact h
        · rw [List.getElem?_eq_none (by simp; exact h)] at hu; cases hu
      simp [hj] at hu
      obtain ⟨_, y, hy⟩ := hV i hj
      rw [hu] at hy
      exact ⟨n, y, hy⟩
theorem slice_cells {P : Program} {w : World} {r : Reach} {b : Nat} {t e : TypeId} {v : Value} (ht : P.underlying t = some (.slice e)) (h : Value.okWide P w r b t v) : v.cells.toList = [v] := by
  obtain ⟨a, n, c, rfl⟩ := okWide_slice ht h
  rfl
end Go.Proofs.Ytjnkdjokbamibaa
/- Appending a slice of integers, whatever it is, to a row of the call's own; a copy of a slice. -/
namespace Go.Proofs.Ytjnkdjokbamibaa
open Go.RowKit
theorem run_append_nil {P : Program} {w : World} (base : Nat) (t ty e : TypeId) (i : TypeInfo) (size : Nat) (ht : P.underlying t = some (.slice e)) (hi : P.info? e = some i)
    (v : Value) (n : Nat) (xs : List Value) (hown : w.ownsRow base e size v n xs) (c : Nat) : (Builtin.append_ #[t, t] ty #[v, .slice Option.none 0 c]).run P w = .ok v w := by
  rcases hown.2 with ⟨rfl, rfl⟩ | ⟨g, cap, cur, rfl, _, _, hnc, _⟩
  · simp [Builtin.append_, run_underlying ht, sizeOf, typeInfo, hi, Builtin.lenOf, Builtin.firstCells]
  · simp [Builtin.append_, run_underlying ht, sizeOf, typeInfo, hi, Builtin.lenOf, Builtin.firstCells, hnc, storeCells]
theorem wp_append_nil {P : Program} {w : World} {ops : Array Oper} {rest : List Oper} {o : Oper} {a : Act} {Q : Exit → Act → World → Prop} (hgd : o.guard = Option.none) (s x : Operand) (t : TypeId)
    (ho : o.op = .call { callee := .builtin .append, args := #[s, x], argTypes := #[t, t] })
    (base : Nat) (e : TypeId) (i : TypeInfo) (size : Nat) (ht : P.underlying t = some (.slice e)) (hi : P.info? e = some i)
    (v : Value) (n : Nat) (xs : List Value) (hs : a.eval s = v) (hown : w.ownsRow base e size v n xs) (c : Nat) (hx : a.eval x = .slice Option.none 0 c)
    (h : wpList P ops Q rest (a.put o.dst v) w) : wpList P ops Q (o :: rest) a w := by
  refine wpList_plain hgd fun K hK => ?_
  have hr := run_append_nil (P := P) base t o.type e i size ht hi v n xs hown c
  unfold Oper.wp execOp
  simp only [ho, resolve, invoke, builtin, Sem.run_bind, Sem.run_pure, Result.andThen_ok, List.map_toArray, List.map_cons, List.map_nil, hs, hx, hr]
  exact hK _ _ h
theorem GrowI.appI {w wr : World} {B : Nat} {v u : Value} {xs ys : List Int} {hi : Nat} {ops : Array Oper} {rest : List Oper} {o : Oper} {a : Act} {Q : Exit → Act → World → Prop} (hgd : o.guard = Option.none) (s x : Operand)
    (ho : o.op = .call { callee := .builtin .append, args := #[s, x], argTypes := #[35, 35] }) (hG : GrowI w B wr v xs) (hR : RdI wr hi u ys) (hlen : xs.length + ys.length ≤ 1099511627776)
    (hs : a.eval s = v) (hx : a.eval x = u)
    (h : ∀ v' w', GrowI w B w' v' (xs ++ ys) → wpList Try.prog ops Q rest (a.put o.dst v') w') : wpList Try.prog ops Q (o :: rest) a wr := by
  obtain ⟨i, hi0, hz0, hz1, hz2⟩ := info_parts info_int
  obtain ⟨hl, A, c, rfl, hc1, hc2, hcell⟩ := hR
  rcases Nat.eq_zero_or_pos ys.length with h0 | hpos
  · have : ys = [] := List.eq_nil_of_length_eq_zero h0
    subst this
    rcases A with _ | ad
    · refine wp_append_nil hgd s x 35 ho B 3 i 1 Try.underlying35 hi0 v xs.length (ints xs) hs hG.1 c hx ?_
      have := h v wr (by simpa using hG)
      exact this
    · refine wpList_append_own _ hgd s x 35 ho B 3 i (.int .i64 0) 1 8 Try.underlying35 hi0 hz0 hz1 hz2 rfl (by decide) v xs.length (ints xs) hs hG.1 ad 0 c [] hx rfl
        (fun j u hj => by simp at hj) (by intro u hu; simp at hu) (by unfold maxLen; omega) (by omega) hG.2.2 ?_
      intro v' w' hown hgr _
      refine h v' w' ⟨by simpa using hown, hG.2.1.grown hgr hG.2.2 (fun k hk => (hG.1.lt k hk).1), ?_⟩
      have h1 := hgr.size; have h2 := hG.2.2; omega
  · obtain ⟨b, off, rfl, hb, hcc⟩ := hcell hpos
    refine wpList_append_own _ hgd s x 35 ho B 3 i (.int .i64 0) 1 8 Try.underlying35 hi0 hz0 hz1 hz2 rfl (by decide) v xs.length (ints xs) hs hG.1 ⟨b, off, Option.none⟩ ys.length c (ints ys) hx (by simp)
      (fun j u hj => by rw [Go.WideShapes.add_plain]; exact hcc j u hj) (by intro u hu; simp at hu; obtain ⟨z, _, rfl⟩ := hu; rfl) (by unfold maxLen; omega) (by omega) hG.2.2 ?_
    intro v' w' hown hgr _
    refine h v' w' ⟨by simpa [ints] using hown, hG.2.1.grown hgr hG.2.2 (fun k hk => (hG.1.lt k hk).1), ?_⟩
    have h1 := hgr.size; have h2 := hG.2.2; omega
/-- An empty row that the call has made. -/
theorem GrowI.made (w : World) : GrowI w w.heap.size (w.alloc (.cells #[] 3)) (.slice (some ⟨w.heap.size, 0, Option.none⟩) 0 0) [] := by
  refine ⟨?_, (Below.refl _ _).alloc (Nat.le_refl _) _, by simp⟩
  have := World.ownsRow_made (w := w) (base := w.heap.size) (e := 3) (size := 1) #[] 0 (Nat.le_refl _) (Nat.zero_le _) rfl
  exact this
theorem l1Own_any (xs : List Int) (v : Value) (hi : Nat) (w : World) (h : RdI w hi v xs) (hhi : hi ≤ w.heap.size) (hlen : xs.length ≤ 1099511627776) : Calls Try.prog 122 #[v] w (RetOwI xs w) := by
  obtain ⟨A, c, rfl, hc, hm⟩ := Rd.form h
  have h1 : RdI (w.alloc (.cells #[] 3)) hi (.slice A xs.length c) xs := Rd.below h ((Below.refl _ _).alloc (Nat.le_refl _) _) hhi
  have H := Lib.hid h1
  clear h h1
  go_enter Try.func122, Try.ntmps122
  go_wp2_with (at_builtin; refine GrowI.appI rfl (.tmp 3) (.tmp 4) rfl (GrowI.made w) H.out (by simpa using hlen) rfl rfl ?_; intro v' w1 hG')
  go_ret
  exact retOwI hG'
theorem GrowI.belowR {w wr wr' : World} {B : Nat} {v : Value} {xs : List Int} (h : GrowI w B wr v xs) (hb : Below wr.heap.size wr wr') : GrowI w B wr' v xs :=
  ⟨(h.own.below hb (Nat.le_refl _)).1, h.2.1.trans (hb.mono h.2.2), Nat.le_trans h.2.2 hb.size⟩
theorem GrowI.nil {w wr : World} (hb : Below w.heap.size w wr) : GrowI w w.heap.size wr (.slice Option.none 0 0) [] := ⟨World.ownsRow_nil _ _ _ _, hb, hb.size⟩
theorem retOwT {w wr : World} {v : Value} {xs : List Int} (b : Bool) (h : GrowI w w.heap.size wr v xs) : RetOwT xs b w (.returned (.tuple #[v, .bool b])) wr := ⟨v, rfl, h.own, h.bel⟩
end Go.Proofs.Ytjnkdjokbamibaa
/- Words on lists of rows of integers in memory, and the helpers of the laws on slices of slices of integers. -/
namespace Go.Proofs.Ytjnkdjokbamibaa
open Go.RowKit
/-- The slice values us read as the lists xss. -/
def RowsR (w : World) (hi : Nat) (us : List Value) (xss : List (List Int)) : Prop := us.length = xss.length ∧ ∀ (i : Nat) (u : Value) (xs : List Int), us[i]? = some u → xss[i]? = some xs → RdI w hi u xs
/-- The slice values us are rows of the call's own, no two of them one. -/
def RowsO (w : World) (lo hi : Nat) (us : List Value) (xss : List (List Int)) : Prop :=
  us.length = xss.length ∧ (∀ (i : Nat) (u : Value) (xs : List Int), us[i]? = some u → xss[i]? = some xs → OwI w lo hi u xs) ∧
  ∀ (i j : Nat) (u u' : Value), i < j → us[i]? = some u → us[j]? = some u' → ∀ g, u.ownBlock = some g → u'.ownBlock ≠ some g
theorem RowsR.below {w w' : World} {hi B : Nat} {us : List Value} {xss : List (List Int)} (h : RowsR w hi us xss) (hb : Below B w w') (hB : hi ≤ B) : RowsR w' hi us xss :=
  ⟨h.1, fun i u xs hu hx => (h.2 i u xs hu hx).below hb hB⟩
theorem RowsR.mono {w : World} {hi hi' : Nat} {us : List Value} {xss : List (List Int)} (h : RowsR w hi us xss) (hB : hi ≤ hi') : RowsR w hi' us xss :=
  ⟨h.1, fun i u xs hu hx => (h.2 i u xs hu hx).mono hB⟩
theorem RowsO.rd {w : World} {lo hi : Nat} {us : List Value} {xss : List (List Int)} (h : RowsO w lo hi us xss) : RowsR w hi us xss := ⟨h.1, fun i u xs hu hx => (h.2.1 i u xs hu hx).rd⟩
theorem RowsO.below {w w' : World} {lo hi B : Nat} {us : List Value} {xss : List (List Int)} (h : RowsO w lo hi us xss) (hb : Below B w w') (hB : hi ≤ B) : RowsO w' lo hi us xss :=
  ⟨h.1, fun i u xs hu hx => (h.2.1 i u xs hu hx).below hb hB, h.2.2⟩
theorem RowsO.keep {w w' : World} {lo hi a b : Nat} {us : List Value} {xss : List (List Int)} (h : RowsO w lo hi us xss) (hk : Keep a b w w') (hd : hi ≤ a ∨ b ≤ lo) : RowsO w' lo hi us xss :=
  ⟨h.1, fun i u xs hu hx => (h.2.1 i u xs hu hx).keep hk hd, h.2.2⟩
theorem OwI.mono {w : World} {lo hi lo' hi' : Nat} {v : Value} {xs : List Int} (h : OwI w lo hi v xs) (h1 : lo' ≤ lo) (h2 : hi ≤ hi') : OwI w lo' hi' v xs := by
  refine ⟨⟨h.1.1, ?_⟩, fun k hk => by have := h.2 k hk; omega⟩
  rcases h.1.2 with hn | ⟨g, cap, cur, rfl, hl, hg, rest⟩
  · exact .inl hn
  · exact .inr ⟨g, cap, cur, rfl, by omega, hg, rest⟩
theorem RowsO.nil (w : World) (lo hi : Nat) : RowsO w lo hi [] [] := ⟨rfl, fun i u xs hu _ => by simp at hu, fun i j u u' _ hu _ => by simp at hu⟩
theorem RowsO.mono {w : World} {lo hi lo' hi' : Nat} {us : List Value} {xss : List (List Int)} (h : RowsO w lo hi us xss) (h1 : lo' ≤ lo) (h2 : hi ≤ hi') : RowsO w lo' hi' us xss :=
  ⟨h.1, fun i u xs hu hx => (h.2.1 i u xs hu hx).mono h1 h2, h.2.2⟩
/-- One row more, made since. -/
theorem RowsO.snoc {w : World} {lo mid hi : Nat} {us : List Value} {xss : List (List Int)} {u : Value} {xs : List Int} (h : RowsO w lo mid us xss) (hu : OwI w mid hi u xs) (h1 : lo ≤ mid) (h2 : mid ≤ hi) : RowsO w lo hi (us ++ [u]) (xss ++ [xs]) := by
  have hl := h.1
  refine ⟨by simp [hl], fun i a b ha hb => ?_, fun i j a b hij ha hb g hg => ?_⟩
  · rcases Nat.lt_or_ge i us.length with hi | hi
    · rw [List.getElem?_append_left hi] at ha
      rw [List.getElem?_append_left (by omega)] at hb
      exact (h.2.1 i a b ha hb).mono (Nat.le_refl _) h2
    · rw [List.getElem?_append_right hi] at ha
      rw [List.getElem?_append_right (by omega)] at hb
      obtain ⟨hz, rfl⟩ : i - us.length = 0 ∧ u = a := by
        rcases Nat.eq_zero_or_pos (i - us.length) with e | e
        · rw [e] at ha; simp at ha; exact ⟨e, ha⟩
        · rw [List.getElem?_eq_none (by simp; omega)] at ha; cases ha
      rw [show i - xss.length = 0 by omega] at hb
      simp at hb
      subst hb
      exact hu.mono h1 (Nat.le_refl _)
  · rcases Nat.lt_or_ge i us.length with hi | hi
    · rw [List.getElem?_append_left hi] at ha
      rcases Nat.lt_or_ge j us.length with hj | hj
      · rw [List.getElem?_append_left hj] at hb
        exact h.2.2 i j a b hij ha hb g hg
      · rw [List.getElem?_append_right hj] at hb
        have hbu : u = b := by
          rcases Nat.eq_zero_or_pos (j - us.length) with e | e
          · rw [e] at hb; simpa using hb
          · rw [List.getElem?_eq_none (by simp; omega)] at hb; cases hb
        subst hbu
        intro hg2
        have h3 := (hu.range g hg2).1
        obtain ⟨xs', hxs⟩ : ∃ xs', xss[i]? = some xs' := ⟨xss[i], by simp [show i < xss.length by omega]⟩
        have h4 := ((h.2.1 i a xs' ha hxs).range g hg).2
        omega
    · rw [List.getElem?_append_right hi] at ha
      rw [List.getElem?_append_right (by omega)] at hb
      rw [List.getElem?_eq_none (by simp; omega)] at hb
      cases hb
/-- One row is marked: it reads anew, the others as they did. -/
theorem RowsO.only {w w' : World} {lo hi j : Nat} {us : List Value} {xss : List (List Int)} {u : Value} {ys : List Int} (h : RowsO w lo hi us xss) (hu : us[j]? = some u) (hk : Only u.ownBlock w w') (hy : OwI w' lo hi u ys) : RowsO w' lo hi us (xss.set j ys) := by
  refine ⟨by simp [h.1], fun i a b ha hb => ?_, h.2.2⟩
  by_cases e : i = j
  · subst e
    rw [hu] at ha; cases ha
    have hil : i < xss.length := by have := (List.getElem?_eq_some_iff.1 hu).1; have := h.1; omega
    rw [List.getElem?_set_self hil] at hb; cases hb
    exact hy
  · rw [List.getElem?_set_ne (fun e2 => e e2.symm)] at hb
    refine (h.2.1 i a b ha hb).only hk (fun g hg hg2 => ?_)
    rcases Nat.lt_or_gt_of_ne e with hlt | hlt
    · exact h.2.2 i j a u hlt ha hu g hg hg2
    · exact h.2.2 j i u a hlt hu ha g hg2 hg
def RdII (w : World) (hi : Nat) (v : Value) (xss : List (List Int)) : Prop := ∃ us, RowsR w hi us xss ∧ Rd w hi 1 v xss.length us
def OwII (w : World) (lo hi : Nat) (v : Value) (xss : List (List Int)) : Prop := ∃ us, RowsO w lo hi us xss ∧ w.ownsRow lo 35 1 v xss.length us ∧ ∀ k, v.ownBlock = some k → k < hi
theorem RdII.below {w w' : World} {hi : Nat} {v : Value} {xss : List (List Int)} (h : RdII w hi v xss) {B : Nat} (hb : Below B w w') (hB : hi ≤ B) : RdII w' hi v xss := by
  obtain ⟨us, h1, h2⟩ := h; exact ⟨us, h1.below hb hB, h2.below hb hB⟩
theorem owns_below {w w' : World} {lo hi size n : Nat} {e : TypeId} {v : Value} {xs : List Value} (h : w.ownsRow lo e size v n xs) (h2 : ∀ k, v.ownBlock = some k → k < hi) {B : Nat} (hb : Below B w w') (hB : hi ≤ B) : w'.ownsRow lo e size v n xs := by
  refine ⟨h.1, ?_⟩
  rcases h.2 with hn | ⟨g, cap, cur, rfl, hl, hg, rest⟩
  · exact .inl hn
  · exact .inr ⟨g, cap, cur, rfl, hl, (hb.block g (by have := h2 g rfl; omega)).trans hg, rest⟩
theorem owns_keep {w w' : World} {lo hi a b size n : Nat} {e : TypeId} {v : Value} {xs : List Value} (h : w.ownsRow lo e size v n xs) (h2 : ∀ k, v.ownBlock = some k → k < hi) (hk : Keep a b w w') (hd : hi ≤ a ∨ b ≤ lo) : w'.ownsRow lo e size v n xs := by
  refine ⟨h.1, ?_⟩
  rcases h.2 with hn | ⟨g, cap, cur, rfl, hl, hg, rest⟩
  · exact .inl hn
  · exact .inr ⟨g, cap, cur, rfl, hl, (hk.block g (by have := h2 g rfl; omega)).trans hg, rest⟩
theorem OwII.below {w w' : World} {lo hi : Nat} {v : Value} {xss : List (List Int)} (h : OwII w lo hi v xss) {B : Nat} (hb : Below B w w') (hB : hi ≤ B) : OwII w' lo hi v xss := by
  obtain ⟨us, h1, h2, h3⟩ := h; exact ⟨us, h1.below hb hB, owns_below h2 h3 hb hB, h3⟩
theorem OwII.keep {w w' : World} {lo hi a b : Nat} {v : Value} {xss : List (List Int)} (h : OwII w lo hi v xss) (hk : Keep a b w w') (hd : hi ≤ a ∨ b ≤ lo) : OwII w' lo hi v xss := by
  obtain ⟨us, h1, h2, h3⟩ := h; exact ⟨us, h1.keep hk hd, owns_keep h2 h3 hk hd, h3⟩
theorem OwII.rd {w : World} {lo hi : Nat} {v : Value} {xss : List (List Int)} (h : OwII w lo hi v xss) : RdII w hi v xss := by
  obtain ⟨us, h1, h2, h3⟩ := h; exact ⟨us, h1.rd, rd_of_owns h2 h3⟩
/-- The element at k: a cell with a slice value that reads as the k-th list. -/
theorem RdII.at_ {w : World} {hi : Nat} {v : Value} {xss : List (List Int)} (h : RdII w hi v xss) {k : Nat} (hk : k < xss.length) :
    ∃ b off c u xs, v = .slice (some ⟨b, off, Option.none⟩) xss.length c ∧ b < hi ∧ xss[k]? = some xs ∧ w.cell? ⟨b, off + k, Option.none⟩ = some u ∧ RdI w hi u xs := by
  obtain ⟨us, h1, h0, A, c, hv, _, _, h4⟩ := h
  obtain ⟨b, off, rfl, hb, hc⟩ := h4 (by omega)
  have hl := h1.1
  have hu : us[k]? = some us[k] := by simp [show k < us.length by omega]
  exact ⟨b, off, c, us[k], xss[k], hv, hb, by simp [hk], hc k _ hu, h1.2 k _ _ hu (by simp [hk])⟩
theorem RdII.form {w : World} {hi : Nat} {v : Value} {xss : List (List Int)} (h : RdII w hi v xss) : ∃ A c, v = .slice A xss.length c ∧ xss.length ≤ 9223372036854775807 := by
  obtain ⟨us, _, _, A, c, hv, h2, h3, _⟩ := h
  exact ⟨A, c, hv, by unfold maxLen at h3; omega⟩
theorem take_snocN {α : Type} {xs : List α} {k : Nat} {y : α} (h : xs[k]? = some y) : xs.take (k + 1) = xs.take k ++ [y] := by rw [List.take_add_one, h]; rfl
/-- All lists together. -/
def sizeII : List (List Int) → Nat
  | [] => 0
  | xs :: r => xs.length + sizeII r
/-- Room for n slices, all nil, behind a name. -/
def nils (n : Nat) : Array Value := (List.replicate n (Value.slice Option.none 0 0)).toArray
theorem info_ints : (Try.prog.info? 35).map (fun i => (i.zero, i.size, i.bytes)) = some (some (.slice Option.none 0 0), 1, 24) := by kernel_rfl
end Go.Proofs.Ytjnkdjokbamibaa
/- Words on books in memory; the helpers of the laws on phrases and books. -/
namespace Go.Proofs.Ytjnkdjokbamibaa
open Go.RowKit
/-- A phrase: its text and its signals. -/
abbrev Phr := ByteArray × List Int
/-- The cells of phrases: of each its text, then its slice. -/
def zipC : List ByteArray → List Value → List Value
  | t :: ts, u :: us => .string t :: u :: zipC ts us
  | _, _ => []
theorem zipC_at : ∀ (ts : List ByteArray) (us : List Value) (k : Nat) (t : ByteArray) (u : Value), ts[k]? = some t → us[k]? = some u → (zipC ts us)[k * 2]? = some (.string t) ∧ (zipC ts us)[k * 2 + 1]? = some u
  | [], _, k, t, u, h, _ => by simp at h
  | _ :: _, [], k, t, u, _, h => by simp at h
  | a :: ts, b :: us, 0, t, u, h, g => by simp at h g; subst h g; exact ⟨rfl, rfl⟩
  | a :: ts, b :: us, k + 1, t, u, h, g => by
    have := zipC_at ts us k t u (by simpa using h) (by simpa using g)
    simp only [zipC, show (k + 1) * 2 = k * 2 + 1 + 1 by omega, List.getElem?_cons_succ]
    exact this
theorem zipC_append : ∀ (ts : List ByteArray) (us : List Value) (t : ByteArray) (u : Value), us.length = ts.length → zipC (ts ++ [t]) (us ++ [u]) = zipC ts us ++ [.string t, u]
  | [], [], t, u, _ => rfl
  | [], _ :: _, _, _, h => by simp at h
  | _ :: _, [], _, _, h => by simp at h
  | a :: ts, b :: us, t, u, h => by simp only [List.cons_append, zipC, zipC_append ts us t u (by simpa using h)]
def txts (ps : List Phr) : List ByteArray := ps.map (·.1)
def sigs (ps : List Phr) : List (List Int) := ps.map (·.2)
def TxtOk (ps : List Phr) : Prop := ∀ p ∈ ps, p.1.size ≤ 9223372036854775807
/-- The slice value v reads as phrases. -/
def RdPS (w : World) (hi : Nat) (v : Value) (ps : List Phr) : Prop := ∃ us, RowsR w hi us (sigs ps) ∧ Rd w hi 2 v ps.length (zipC (txts ps) us) ∧ TxtOk ps
theorem RdPS.form {w : World} {hi : Nat} {v : Value} {ps : List Phr} (h : RdPS w hi v ps) : ∃ A c, v = .slice A ps.length c ∧ ps.length ≤ c ∧ ps.length ≤ 9223372036854775807 := by
  obtain ⟨us, _, ⟨_, A, c, hv, h2, h3, _⟩, _⟩ := h
  exact ⟨A, c, hv, h2, by unfold maxLen at h3; omega⟩
theorem RdPS.at_ {w : World} {hi : Nat} {v : Value} {ps : List Phr} (h : RdPS w hi v ps) {k : Nat} (hk : k < ps.length) :
    ∃ b off c u t xs, v = .slice (some ⟨b, off, Option.none⟩) ps.length c ∧ b < hi ∧ ps[k]? = some (t, xs) ∧ w.cell? ⟨b, off + k * 2, Option.none⟩ = some (.string t) ∧ w.cell? ⟨b, off + k * 2 + 1, Option.none⟩ = some u ∧ RdI w hi u xs ∧ t.size ≤ 9223372036854775807 := by
  obtain ⟨us, h1, ⟨h0, A, c, hv, _, _, h4⟩, ht⟩ := h
  obtain ⟨b, off, rfl, hb, hc⟩ := h4 (by omega)
  have hl : us.length = ps.length := by have := h1.1; simpa [sigs] using this
  have hu : us[k]? = some us[k] := by simp [show k < us.length by omega]
  have hz := zipC_at (txts ps) us k ps[k].1 us[k] (by simp [txts, hk]) hu
  refine ⟨b, off, c, us[k], ps[k].1, ps[k].2, hv, hb, by simp [hk], hc _ _ hz.1, ?_, h1.2 k _ _ hu (by simp [sigs, hk]), ht _ (List.getElem_mem hk)⟩
  have := hc _ _ hz.2
  rwa [← Nat.add_assoc] at this
theorem RdPS.below {w w' : World} {hi : Nat} {v : Value} {ps : List Phr} (h : RdPS w hi v ps) {B : Nat} (hb : Below B w w') (hB : hi ≤ B) : RdPS w' hi v ps := by
  obtain ⟨us, h1, h2, h3⟩ := h; exact ⟨us, h1.below hb hB, h2.below hb hB, h3⟩
def RdP (w : World) (hi : Nat) (v : Value) (p : Phr) : Prop := ∃ u, v = .agg #[.string p.1, u] ∧ RdI w hi u p.2 ∧ p.1.size ≤ 9223372036854775807
def RdB (w : World) (hi : Nat) (v : Value) (ps : List Phr) : Prop := ∃ u, v = .agg #[u] ∧ RdPS w hi u ps
def OwP (w : World) (lo hi : Nat) (v : Value) (p : Phr) : Prop := ∃ u, v = .agg #[.string p.1, u] ∧ OwI w lo hi u p.2 ∧ p.1.size ≤ 9223372036854775807
def OwPS (w : World) (lo hi : Nat) (v : Value) (ps : List Phr) : Prop := ∃ us, RowsO w lo hi us (sigs ps) ∧ w.ownsRow lo 40 2 v ps.length (zipC (txts ps) us) ∧ TxtOk ps ∧ ∀ k, v.ownBlock = some k → k < hi
def OwB (w : World) (lo hi : Nat) (v : Value) (ps : List Phr) : Prop := ∃ u, v = .agg #[u] ∧ OwPS w lo hi u ps
theorem RdP.below {w w' : World} {hi : Nat} {v : Value} {p : Phr} (h : RdP w hi v p) {B : Nat} (hb : Below B w w') (hB : hi ≤ B) : RdP w' hi v p := by
  obtain ⟨u, h1, h2, h3⟩ := h; exact ⟨u, h1, h2.below hb hB, h3⟩
theorem RdB.below {w w' : World} {hi : Nat} {v : Value} {ps : List Phr} (h : RdB w hi v ps) {B : Nat} (hb : Below B w w') (hB : hi ≤ B) : RdB w' hi v ps := by
  obtain ⟨u, h1, h2⟩ := h; exact ⟨u, h1, h2.below hb hB⟩
theorem OwP.below {w w' : World} {lo hi : Nat} {v : Value} {p : Phr} (h : OwP w lo hi v p) {B : Nat} (hb : Below B w w') (hB : hi ≤ B) : OwP w' lo hi v p := by
  obtain ⟨u, h1, h2, h3⟩ := h; exact ⟨u, h1, h2.below hb hB, h3⟩
theorem OwP.keep {w w' : World} {lo hi a b : Nat} {v : Value} {p : Phr} (h : OwP w lo hi v p) (hk : Keep a b w w') (hd : hi ≤ a ∨ b ≤ lo) : OwP w' lo hi v p := by
  obtain ⟨u, h1, h2, h3⟩ := h; exact ⟨u, h1, h2.keep hk hd, h3⟩
theorem OwPS.below {w w' : World} {lo hi : Nat} {v : Value} {ps : List Phr} (h : OwPS w lo hi v ps) {B : Nat} (hb : Below B w w') (hB : hi ≤ B) : OwPS w' lo hi v ps := by
  obtain ⟨us, h1, h2, h3, h4⟩ := h; exact ⟨us, h1.below hb hB, owns_below h2 h4 hb hB, h3, h4⟩
theorem OwPS.keep {w w' : World} {lo hi a b : Nat} {v : Value} {ps : List Phr} (h : OwPS w lo hi v ps) (hk : Keep a b w w') (hd : hi ≤ a ∨ b ≤ lo) : OwPS w' lo hi v ps := by
  obtain ⟨us, h1, h2, h3, h4⟩ := h; exact ⟨us, h1.keep hk hd, owns_keep h2 h4 hk hd, h3, h4⟩
theorem OwB.below {w w' : World} {lo hi : Nat} {v : Value} {ps : List Phr} (h : OwB w lo hi v ps) {B : Nat} (hb : Below B w w') (hB : hi ≤ B) : OwB w' lo hi v ps := by
  obtain ⟨u, h1, h2⟩ := h; exact ⟨u, h1, h2.below hb hB⟩
theorem OwB.keep {w w' : World} {lo hi a b : Nat} {v : Value} {ps : List Phr} (h : OwB w lo hi v ps) (hk : Keep a b w w') (hd : hi ≤ a ∨ b ≤ lo) : OwB w' lo hi v ps := by
  obtain ⟨u, h1, h2⟩ := h; exact ⟨u, h1, h2.keep hk hd⟩
theorem OwP.rd {w : World} {lo hi : Nat} {v : Value} {p : Phr} (h : OwP w lo hi v p) : RdP w hi v p := by
  obtain ⟨u, h1, h2, h3⟩ := h; exact ⟨u, h1, h2.rd, h3⟩
theorem OwPS.rd {w : World} {lo hi : Nat} {v : Value} {ps : List Phr} (h : OwPS w lo hi v ps) : RdPS w hi v ps := by
  obtain ⟨us, h1, h2, h3, h4⟩ := h; exact ⟨us, h1.rd, rd_of_owns h2 h4, h3⟩
theorem OwB.rd {w : World} {lo hi : Nat} {v : Value} {ps : List Phr} (h : OwB w lo hi v ps) : RdB w hi v ps := by
  obtain ⟨u, h1, h2⟩ := h; exact ⟨u, h1, h2.rd⟩
theorem info_phr : (Try.prog.info? 40).map (fun i => (i.zero, i.size, i.bytes)) = some (some (.agg #[.string { data := #[] }, .slice Option.none 0 0]), 2, 40) := by kernel_rfl
end Go.Proofs.Ytjnkdjokbamibaa
/- Marks on books: each text and each signal of a book that the call has copied is overwritten. -/
namespace Go.Proofs.Ytjnkdjokbamibaa
open Go.RowKit
/-- Of what was there only blocks from lo to below hi may have turned. -/
structure KeepG (lo hi : Nat) (w w' : World) : Prop where
  os : w'.os = w.os
  tape : w'.tape = w.tape
  output : w'.output = w.output
  size : w.heap.size ≤ w'.heap.size
  block : ∀ k, k < w.heap.size → (k < lo ∨ hi ≤ k) → w'.heap[k]? = w.heap[k]?
theorem KeepG.refl (lo hi : Nat) (w : World) : KeepG lo hi w w := ⟨rfl, rfl, rfl, Nat.le_refl _, fun _ _ _ => rfl⟩
theorem KeepG.trans {lo hi : Nat} {a b c : World} (h : KeepG lo hi a b) (k : KeepG lo hi b c) : KeepG lo hi a c :=
  ⟨k.os.trans h.os, k.tape.trans h.tape, k.output.trans h.output, Nat.le_trans h.size k.size, fun i h1 h2 => (k.block i (Nat.lt_of_lt_of_le h1 h.size) h2).trans (h.block i h1 h2)⟩
theorem Keep.g {lo hi : Nat} {w w' : World} (h : Keep lo hi w w') : KeepG lo hi w w' := ⟨h.os, h.tape, h.output, Nat.le_of_eq h.size.symm, fun k _ h2 => h.block k h2⟩
theorem below_g {lo hi : Nat} {w w' : World} (h : Below w.heap.size w w') : KeepG lo hi w w' := ⟨h.os, h.tape, h.output, h.size, fun k h1 _ => h.block k h1⟩
/-- In two steps: first the blocks turn, then new ones come. -/
theorem KeepG.split {lo hi : Nat} {w w' : World} (h : KeepG lo hi w w') : ∃ m, Keep lo hi w m ∧ Below m.heap.size m w' := by
  refine ⟨{ w' with heap := w'.heap.extract 0 w.heap.size }, ⟨h.os, h.tape, h.output, ?_, fun k hk => ?_⟩, ⟨rfl, rfl, rfl, ?_, fun k hk => ?_⟩⟩
  · have := h.size; simp; omega
  · by_cases hlt : k < w.heap.size
    · rw [← h.block k hlt hk]
      show (w'.heap.extract 0 w.heap.size)[k]? = _
      rw [Array.getElem?_extract]
      have := h.size
      rw [if_pos (by omega), Nat.zero_add]
    · rw [Array.getElem?_eq_none (xs := w.heap) (by omega)]
      show (w'.heap.extract 0 w.heap.size)[k]? = _
      rw [Array.getElem?_eq_none (by simp; omega)]
  · show (w'.heap.extract 0 w.heap.size).size ≤ w'.heap.size
    simp; omega
  · show w'.heap[k]? = (w'.heap.extract 0 w.heap.size)[k]?
    have hk' : k < w.heap.size := by have h1 := h.size; simp at hk; omega
    have := h.size
    rw [Array.getElem?_extract, if_pos (by omega), Nat.zero_add]
end Go.Proofs.Ytjnkdjokbamibaa
/- Contracts: what a cursor over bytes draws; its block alone turns, and new memory comes. -/
namespace Go.Proofs.Ytjnkdjokbamibaa
open Go.RowKit
def bytesV (zs : List UInt8) : List Value := zs.map fun z => Value.int .u8 (z.toNat : Int)
def RdU (w : World) (hi : Nat) (v : Value) (zs : List UInt8) : Prop := Rd w hi 1 v zs.length (bytesV zs)
theorem RdU.at_ {w : World} {hi : Nat} {v : Value} {zs : List UInt8} (h : RdU w hi v zs) {k : Nat} (hk : k < zs.length) :
    ∃ (b off c : Nat) (z : Int), v = .slice (some ⟨b, off, Option.none⟩) zs.length c ∧ b < hi ∧ w.cell? ⟨b, off + k, Option.none⟩ = some (.int .u8 z) ∧ 0 ≤ z ∧ z ≤ 255 := by
  obtain ⟨_, A, c, hv, _, _, h4⟩ := h
  obtain ⟨b, off, rfl, hb, hc⟩ := h4 (by omega)
  refine ⟨b, off, c, ((zs[k]).toNat : Int), hv, hb, hc k _ (by simp [bytesV, hk]), by omega, ?_⟩
  have := UInt8.toNat_lt zs[k]
  omega
/-- C is the block of a cursor that has been asked at most m times. -/
def Cur (w : World) (C m : Nat) : Prop := ∃ (v : Value) (zs : List UInt8) (p : Nat) (s : Int), Blk w C 89 [v, .int .i64 (p : Int), .int .u64 s] ∧ RdU w C v zs ∧ p ≤ m
theorem KeepG.drawN {C D : Nat} (w : World) (n : Nat) : KeepG C D w (w.drewN n) := (keep_drewN C D w n).g
theorem KeepG.set_ {C D : Nat} {a w : World} (h : KeepG C D a w) {p : Addr} (h1 : C ≤ p.block) (h2 : p.block < D) (u : Value) : KeepG C D a (w.setCell p u) :=
  h.trans ((Keep.refl C D w).setCell h1 h2 u).g
theorem mask255 (y : Int) : 0 ≤ wrap64 (bits .and .u64 (IntKind.u64.wrap y / 1099511627776) 255) ∧ wrap64 (bits .and .u64 (IntKind.u64.wrap y / 1099511627776) 255) ≤ 255 := by
  have e := IntKind.wrap_u64 y
  obtain ⟨x, hx⟩ : ∃ x, x = IntKind.u64.wrap y / 1099511627776 := ⟨_, rfl⟩
  have hx0 : 0 ≤ x := by omega
  have hx1 : x < 18446744073709551616 := by omega
  rw [← hx]
  have h := bits_mask .u64 64 (by decide) (fun n h0 h1 => by rw [IntKind.wrap_u64]; omega) 8 (by decide) x hx0 (by omega)
  have h2 : bits .and .u64 x 255 = x % 256 := by simpa using h
  rw [h2]
  unfold wrap64
  omega
set_option maxRecDepth 100000 in
set_option maxHeartbeats 1600000 in
theorem next_any (C m : Nat) (w : World) (h : Cur w C m) (hm : m ≤ 1099511627776) :
    Calls Try.prog 140 #[.pointer (some ⟨C, 0, Option.none⟩)] w fun e w' => ∃ z : Int, e = .returned (.int .i64 z) ∧ 0 ≤ z ∧ z ≤ 255 ∧ Cur w' C (m + 1) ∧ KeepG C (C + 1) w w' := by
  obtain ⟨v, zs, p, s, hb, hr, hp⟩ := h
  obtain ⟨A, c, rfl, hc, hlm⟩ := Rd.form hr
  have h0 := hb.cell 0
  have h1 := hb.cell 1
  have h2 := hb.cell 2
  have hf := fun i => hb.frozen i
  by_cases hlt : p < zs.length
  · obtain ⟨b, off, c', z, hv, hbl, hcell, hz0, hz1⟩ := hr.at_ hlt
    cases hv
    have HB := Lib.hid hb
    have HR := Lib.hid hr
    clear hb hr
    go_enter Try.func140, Try.ntmps140
    go_wp2_with fail
    go_quiet (fail)
    go_wp2_with fail
    clear h0 h1 h2 hf
    have HB1 : Hid (Blk (w.drewN nq) C 89 [(.slice (some ⟨b, off, Option.none⟩) zs.length c), .int .i64 (p : Int), .int .u64 s]) := HB.out
    have h01 : (w.drewN nq).cell? ⟨C, 0, Option.none⟩ = some (.slice (some ⟨b, off, Option.none⟩) zs.length c) := HB1.out.cell 0
    have h11 : (w.drewN nq).cell? ⟨C, 1, Option.none⟩ = some (.int .i64 (p : Int)) := HB1.out.cell 1
    have h21 : (w.drewN nq).cell? ⟨C, 2, Option.none⟩ = some (.int .u64 s) := HB1.out.cell 2
    have hf1 : ∀ i, (w.drewN nq).frozen? ⟨C, i, Option.none⟩ = false := fun i => HB1.out.frozen i
    have hc1 : (w.drewN nq).cell? ⟨b, off + p, Option.none⟩ = some (.int .u8 z) := hcell
    have HR1 : Hid (RdU (w.drewN nq) C (.slice (some ⟨b, off, Option.none⟩) zs.length c) zs) := HR.out
    have HK1 : Hid (KeepG C (C + 1) w (w.drewN nq)) := KeepG.drawN _ _
    generalize (w.drewN nq) = w1 at HB1 h01 h11 h21 hf1 hc1 HR1 HK1 ⊢
    clear HB HR hcell
    go_wp2_with fail
    go_quiet (fail)
    have HB2 : Hid (Blk (w1.drewN nq) C 89 [(.slice (some ⟨b, off, Option.none⟩) zs.length c), .int .i64 (p : Int), .int .u64 s]) := HB1.out
    have h02 : (w1.drewN nq).cell? ⟨C, 0, Option.none⟩ = some (.slice (some ⟨b, off, Option.none⟩) zs.length c) := HB2.out.cell 0
    have h12 : (w1.drewN nq).cell? ⟨C, 1, Option.none⟩ = some (.int .i64 (p : Int)) := HB2.out.cell 1
    have h22 : (w1.drewN nq).cell? ⟨C, 2, Option.none⟩ = some (.int .u64 s) := HB2.out.cell 2
    have hf2 : ∀ i, (w1.drewN nq).frozen? ⟨C, i, Option.none⟩ = false := fun i => HB2.out.frozen i
    have HR2 : Hid (RdU (w1.drewN nq) C (.slice (some ⟨b, off, Option.none⟩) zs.length c) zs) := HR1.out
    have HK2 : Hid (KeepG C (C + 1) w (w1.drewN nq)) := HK1.out.trans (KeepG.drawN _ _)
    clear hc1 h01 h11 h21 hf1
    generalize (w1.drewN nq) = w2 at HB2 h02 h12 h22 hf2 HR2 HK2 ⊢
    have hp1 : (0 : Int) ≤ (p : Int) + 1 := by omega
    have hS1 : ∀ x, (w2.setCell ⟨C, 1, Option.none⟩ x).cell? ⟨C, 2, Option.none⟩ = some (.int .u64 s) := fun x => (HB2.out.set_ 1 x).cell 2
    have hS2 : ∀ x, (w2.setCell ⟨C, 1, Option.none⟩ x).frozen? ⟨C, 2, Option.none⟩ = false := fun x => (HB2.out.set_ 1 x).frozen 2
    have hB3 : ∀ e, Blk ((w2.setCell ⟨C, 1, Option.none⟩ (.int .i64 ((p : Int) + 1))).setCell ⟨C, 2, Option.none⟩ (.int .u64 e)) C 89 [(.slice (some ⟨b, off, Option.none⟩) zs.length c), .int .i64 ((p : Int) + 1), .int .u64 e] := fun e => (HB2.out.set_ 1 _).set_ 2 _
    have hT0 : ∀ e, ((w2.setCell ⟨C, 1, Option.none⟩ (.int .i64 ((p : Int) + 1))).setCell ⟨C, 2, Option.none⟩ (.int .u64 e)).cell? ⟨C, 0, Option.none⟩ = some (.slice (some ⟨b, off, Option.none⟩) zs.length c) := fun e => (hB3 e).cell 0
    have hT1 : ∀ e, ((w2.setCell ⟨C, 1, Option.none⟩ (.int .i64 ((p : Int) + 1))).setCell ⟨C, 2, Option.none⟩ (.int .u64 e)).cell? ⟨C, 1, Option.none⟩ = some (.int .i64 ((p : Int) + 1)) := fun e => (hB3 e).cell 1
    have hT2 : ∀ e, ((w2.setCell ⟨C, 1, Option.none⟩ (.int .i64 ((p : Int) + 1))).setCell ⟨C, 2, Option.none⟩ (.int .u64 e)).cell? ⟨C, 2, Option.none⟩ = some (.int .u64 e) := fun e => (hB3 e).cell 2
    have hR3 : ∀ e, RdU ((w2.setCell ⟨C, 1, Option.none⟩ (.int .i64 ((p : Int) + 1))).setCell ⟨C, 2, Option.none⟩ (.int .u64 e)) C (.slice (some ⟨b, off, Option.none⟩) zs.length c) zs := fun e => HR2.out.below (((Below.refl C w2).setCell (p := ⟨C, 1, Option.none⟩) (Nat.le_refl _) _).setCell (p := ⟨C, 2, Option.none⟩) (Nat.le_refl _) _) (Nat.le_refl _)
    have hK3 : ∀ e, KeepG C (C + 1) w ((w2.setCell ⟨C, 1, Option.none⟩ (.int .i64 ((p : Int) + 1))).setCell ⟨C, 2, Option.none⟩ (.int .u64 e)) := fun e => (HK2.out.set_ (Nat.le_refl _) (Nat.lt_succ_self _) _).set_ (Nat.le_refl _) (Nat.lt_succ_self _) _
    have HB3 := Lib.hid hB3
    have HR3 := Lib.hid hR3
    have HK3 := Lib.hid hK3
    clear hB3 hR3 hK3
    go_wp2_with fail
    go_quiet (fail)
    go_wp2_with fail
    go_ret
    exact ⟨_, rfl, hz0, hz1, ⟨_, zs, p + 1, _, HB3.out _, HR3.out _, by omega⟩, (HK3.out _).trans (KeepG.drawN _ _)⟩
  · have HB := Lib.hid hb
    have HR := Lib.hid hr
    clear hb hr
    go_enter Try.func140, Try.ntmps140
    go_wp2_with fail
    go_quiet (fail)
    go_wp2_with fail
    clear h0 h1 h2 hf
    have HB2 : Hid (Blk (w.drewN nq) C 89 [(.slice A zs.length c), .int .i64 (p : Int), .int .u64 s]) := HB.out
    have h02 : (w.drewN nq).cell? ⟨C, 0, Option.none⟩ = some (.slice A zs.length c) := HB2.out.cell 0
    have h12 : (w.drewN nq).cell? ⟨C, 1, Option.none⟩ = some (.int .i64 (p : Int)) := HB2.out.cell 1
    have h22 : (w.drewN nq).cell? ⟨C, 2, Option.none⟩ = some (.int .u64 s) := HB2.out.cell 2
    have hf2 : ∀ i, (w.drewN nq).frozen? ⟨C, i, Option.none⟩ = false := fun i => HB2.out.frozen i
    have HR2 : Hid (RdU (w.drewN nq) C (.slice A zs.length c) zs) := HR.out
    have HK2 : Hid (KeepG C (C + 1) w (w.drewN nq)) := KeepG.drawN _ _
    generalize (w.drewN nq) = w2 at HB2 h02 h12 h22 hf2 HR2 HK2 ⊢
    have hp1 : (0 : Int) ≤ (p : Int) + 1 := by omega
    have hS1 : ∀ x, (w2.setCell ⟨C, 1, Option.none⟩ x).cell? ⟨C, 2, Option.none⟩ = some (.int .u64 s) := fun x => (HB2.out.set_ 1 x).cell 2
    have hS2 : ∀ x, (w2.setCell ⟨C, 1, Option.none⟩ x).frozen? ⟨C, 2, Option.none⟩ = false := fun x => (HB2.out.set_ 1 x).frozen 2
    have hB3 : ∀ e, Blk ((w2.setCell ⟨C, 1, Option.none⟩ (.int .i64 ((p : Int) + 1))).setCell ⟨C, 2, Option.none⟩ (.int .u64 e)) C 89 [(.slice A zs.length c), .int .i64 ((p : Int) + 1), .int .u64 e] := fun e => (HB2.out.set_ 1 _).set_ 2 _
    have hT0 : ∀ e, ((w2.setCell ⟨C, 1, Option.none⟩ (.int .i64 ((p : Int) + 1))).setCell ⟨C, 2, Option.none⟩ (.int .u64 e)).cell? ⟨C, 0, Option.none⟩ = some (.slice A zs.length c) := fun e => (hB3 e).cell 0
    have hT1 : ∀ e, ((w2.setCell ⟨C, 1, Option.none⟩ (.int .i64 ((p : Int) + 1))).setCell ⟨C, 2, Option.none⟩ (.int .u64 e)).cell? ⟨C, 1, Option.none⟩ = some (.int .i64 ((p : Int) + 1)) := fun e => (hB3 e).cell 1
    have hT2 : ∀ e, ((w2.setCell ⟨C, 1, Option.none⟩ (.int .i64 ((p : Int) + 1))).setCell ⟨C, 2, Option.none⟩ (.int .u64 e)).cell? ⟨C, 2, Option.none⟩ = some (.int .u64 e) := fun e => (hB3 e).cell 2
    have hR3 : ∀ e, RdU ((w2.setCell ⟨C, 1, Option.none⟩ (.int .i64 ((p : Int) + 1))).setCell ⟨C, 2, Option.none⟩ (.int .u64 e)) C (.slice A zs.length c) zs := fun e => HR2.out.below (((Below.refl C w2).setCell (p := ⟨C, 1, Option.none⟩) (Nat.le_refl _) _).setCell (p := ⟨C, 2, Option.none⟩) (Nat.le_refl _) _) (Nat.le_refl _)
    have hK3 : ∀ e, KeepG C (C + 1) w ((w2.setCell ⟨C, 1, Option.none⟩ (.int .i64 ((p : Int) + 1))).setCell ⟨C, 2, Option.none⟩ (.int .u64 e)) := fun e => (HK2.out.set_ (Nat.le_refl _) (Nat.lt_succ_self _) _).set_ (Nat.le_refl _) (Nat.lt_succ_self _) _
    have HB3 := Lib.hid hB3
    have HR3 := Lib.hid hR3
    have HK3 := Lib.hid hK3
    clear hB3 hR3 hK3
    go_wp2_with fail
    go_quiet (fail)
    go_wp2_with fail
    go_ret
    exact ⟨_, rfl, (mask255 _).1, (mask255 _).2, ⟨_, zs, p + 1, _, HB3.out _, HR3.out _, by omega⟩, (HK3.out _).trans (KeepG.drawN _ _)⟩
theorem Cur.mono {w : World} {C m m' : Nat} (h : Cur w C m) (hm : m ≤ m') : Cur w C m' := by
  obtain ⟨v, zs, p, s, h1, h2, h3⟩ := h
  exact ⟨v, zs, p, s, h1, h2, by omega⟩
theorem Cur.lt {w : World} {C m : Nat} (h : Cur w C m) : C < w.heap.size := by
  obtain ⟨v, zs, p, s, h1, _, _⟩ := h
  exact h1.lt
theorem Cur.alloc {w : World} {C m : Nat} (h : Cur w C m) (o : Obj) : Cur (w.alloc o) C m := by
  obtain ⟨v, zs, p, s, h1, h2, h3⟩ := h
  exact ⟨v, zs, p, s, h1.alloc o, h2.below ((Below.refl _ _).alloc (by have := h1.lt; omega) _) (Nat.le_refl _), h3⟩
/-- What a call that draws leaves: a number in a range, the cursor a little further, all other blocks as they were. -/
def Drawn (C m : Nat) (w : World) (p : Int → Prop) (e : Ending) (w' : World) : Prop := ∃ z : Int, e = .returned (.int .i64 z) ∧ p z ∧ Cur w' C m ∧ KeepG C (C + 1) w w'
set_option maxHeartbeats 800000 in
theorem pick_any (n : Int) (C m : Nat) (w : World) (h : Cur w C m) (hm : m ≤ 1099511627000) (h1 : 1 ≤ n) (h2 : n ≤ 1048576) :
    Calls Try.prog 94 #[.pointer (some ⟨C, 0, Option.none⟩), .int .i64 n] w (Drawn C (m + 2) w (fun z => 0 ≤ z ∧ z < n)) := by
  by_cases hn : n ≤ 1
  · have H := Lib.hid h
    clear h
    go_enter Try.func94, Try.ntmps94
    go_wp2_with fail
    go_ret
    exact ⟨0, rfl, ⟨Int.le_refl _, by omega⟩, H.out.mono (by omega), KeepG.refl _ _ _⟩
  · have cN := next_any C m w h (by omega)
    have CN := Lib.hid cN
    clear cN h
    by_cases hb : 200 < n
    · go_enter Try.func94, Try.ntmps94
      go_wp2_with fail
      refine CN.out.mono ?_
      rintro e w1 ⟨z, rfl, hz0, hz1, hc1, hk1⟩
      have cM := next_any C (m + 1) w1 hc1 (by omega)
      have CM := Lib.hid cM
      have HK1 := Lib.hid hk1
      clear cM hc1 hk1
      go_wp2_with fail
      refine CM.out.mono ?_
      rintro e w2 ⟨y, rfl, hy0, hy1, hc2, hk2⟩
      have HC2 := Lib.hid hc2
      have HK2 := Lib.hid hk2
      clear hc2 hk2
      have hq0 : 0 ≤ (z * 256 + y) % n := Int.emod_nonneg _ (by omega)
      have hq1 : (z * 256 + y) % n < n := Int.emod_lt_of_pos _ (by omega)
      have hnn : n ≠ 0 := by omega
      go_wp2_with fail
      go_ret
      refine ⟨(z * 256 + y) % n, ?_, ⟨hq0, hq1⟩, HC2.out, HK1.out.trans HK2.out⟩
      simp
      try rw [Int.tmod_eq_emod_of_nonneg (by omega)]
    · go_enter Try.func94, Try.ntmps94
      go_wp2_with fail
      refine CN.out.mono ?_
      rintro e w1 ⟨z, rfl, hz0, hz1, hc1, hk1⟩
      have HC1 := Lib.hid hc1
      have HK1 := Lib.hid hk1
      clear hc1 hk1
      have hq0 : 0 ≤ z % n := Int.emod_nonneg _ (by omega)
      have hq1 : z % n < n := Int.emod_lt_of_pos _ (by omega)
      have hnn : n ≠ 0 := by omega
      go_wp2_with fail
      go_ret
      refine ⟨z % n, ?_, ⟨hq0, hq1⟩, HC1.out.mono (by omega), HK1.out⟩
      simp
      try rw [Int.tmod_eq_emod_of_nonneg (by omega)]
theorem one_any (n : Int) (C m : Nat) (w : World) (h : Cur w C m) (hm : m ≤ 1099511627000) (h1 : 1 ≤ n) (h2 : n ≤ 1048576) :
    Calls Try.prog 93 #[.pointer (some ⟨C, 0, Option.none⟩), .int .i64 n] w fun e w' => ∃ b : Bool, e = .returned (.bool b) ∧ Cur w' C (m + 2) ∧ KeepG C (C + 1) w w' := by
  have cN := pick_any n C m w h hm h1 h2
  have CN := Lib.hid cN
  clear cN h
  go_enter Try.func93, Try.ntmps93
  go_wp2_with fail
  refine CN.out.mono ?_
  rintro e w1 ⟨z, rfl, hz, hc1, hk1⟩
  have HC1 := Lib.hid hc1
  have HK1 := Lib.hid hk1
  clear hc1 hk1
  go_wp2_with fail
  go_ret
  exact ⟨_, rfl, HC1.out, HK1.out⟩
/-- The slice value v is not empty, lies outside block C, and reads as xs. -/
def Lst (w : World) (C : Nat) (v : Value) (xs : List Int) : Prop := 1 ≤ xs.length ∧ xs.length ≤ 1048576 ∧ ∃ b off c, v = .slice (some ⟨b, off, Option.none⟩) xs.length c ∧ b ≠ C ∧ b < w.heap.size ∧ ∀ j x, xs[j]? = some x → w.cell? ⟨b, off + j, Option.none⟩ = some (.int .i64 x)
theorem KeepG.cell {lo hi : Nat} {w w' : World} (h : KeepG lo hi w w') {b o : Nat} (hb : b < w.heap.size) (hne : b < lo ∨ hi ≤ b) : w'.cell? ⟨b, o, Option.none⟩ = w.cell? ⟨b, o, Option.none⟩ := by
  unfold World.cell?
  rw [h.block b hb hne]
theorem lst_new (w : World) (C : Nat) (xs : List Int) (hC : C < w.heap.size) (h1 : 1 ≤ xs.length) (h2 : xs.length ≤ 1048576) : Lst (w.alloc (.cells (ints xs).toArray 3)) C (.slice (some ⟨w.heap.size, 0, Option.none⟩) xs.length xs.length) xs := by
  refine ⟨h1, h2, w.heap.size, 0, _, rfl, by omega, by simp, fun j x hj => ?_⟩
  rw [show (0 : Nat) + j = j by omega, (Blk.new w 3 (ints xs).toArray).cell j]
  simp [ints, hj]
theorem among_any (xs : List Int) (v : Value) (C m : Nat) (w : World) (h : Cur w C m) (hm : m ≤ 1099511627000) (hl : Lst w C v xs) :
    Calls Try.prog 110 #[.pointer (some ⟨C, 0, Option.none⟩), v] w (Drawn C (m + 2) w (fun z => z ∈ xs)) := by
  obtain ⟨l1, l2, b, off, c, rfl, hbC, hbw, hcell⟩ := hl
  have cN := pick_any (xs.length : Int) C m w h hm (by omega) (by omega)
  have CN := Lib.hid cN
  have HCE := Lib.hid hcell
  clear cN h hcell
  go_enter Try.func110, Try.ntmps110
  go_wp2_with fail
  refine CN.out.mono ?_
  rintro e w1 ⟨z, rfl, ⟨hz0, hz1⟩, hc1, hk1⟩
  obtain ⟨k, rfl⟩ : ∃ k : Nat, z = (k : Int) := ⟨z.toNat, by omega⟩
  have hx : xs[k]? = some xs[k] := by simp [show k < xs.length by omega]
  have hc := (hk1.cell (o := off + k) hbw (by omega)).trans (HCE.out k _ hx)
  have HX := Lib.hid (List.mem_of_getElem? hx)
  have HC1 := Lib.hid hc1
  have HK1 := Lib.hid hk1
  clear hc1 hk1 hx
  go_wp2_with fail
  go_ret
  exact ⟨_, rfl, HX.out, HC1.out, HK1.out⟩
end Go.Proofs.Ytjnkdjokbamibaa
/- Contracts: drawn signals, drawn texts of signals. -/
namespace Go.Proofs.Ytjnkdjokbamibaa
open Go.RowKit
theorem keepG_box {w w' : World} {o : Obj} (h : KeepG w.heap.size (w.heap.size + 1) (w.alloc o) w') : Below w.heap.size w w' := by
  have h0 : Below w.heap.size w (w.alloc o) := (Below.refl _ _).alloc (Nat.le_refl _) _
  refine ⟨h.os.trans h0.os, h.tape.trans h0.tape, h.output.trans h0.output, Nat.le_trans h0.size h.size, fun k hk => ?_⟩
  rw [h.block k (by have := h0.size; omega) (.inl hk)]
  exact h0.block k hk
theorem cur_new {w : World} {hi : Nat} {v : Value} {zs : List UInt8} (h : RdU w hi v zs) (hh : hi ≤ w.heap.size) : Cur (w.alloc (.cells #[v, .int .i64 0, .int .u64 0] 89)) w.heap.size 0 :=
  ⟨v, zs, 0, 0, Blk.new _ _ _, (Rd.mono h hh).below ((Below.refl _ _).alloc (Nat.le_refl _) _) (Nat.le_refl _), Nat.le_refl _⟩
end Go.Proofs.Ytjnkdjokbamibaa
/- Contracts of the powers, of FlatLength and of the closed shutters of the program. -/
namespace Go.Proofs.Ytjnkdjokbamibaa
open Go.RowKit
theorem wrap_id {n : Int} (h : -9223372036854775808 ≤ n) (h2 : n ≤ 9223372036854775807) : wrap64 n = n := IntWalk.wrap64_in n ⟨by omega, by omega⟩
theorem pow_le {r n : Nat} (hr : r ≤ 60) (hn : n ≤ 6) : r ^ n ≤ 46656000000 := by
  have h1 : r ^ n ≤ 60 ^ n := Nat.pow_le_pow_left hr n
  have h2 : 60 ^ n ≤ 60 ^ 6 := Nat.pow_le_pow_right (by omega) hn
  exact Nat.le_trans h1 (Nat.le_trans h2 (by decide))
theorem pow_step {r k n : Nat} (hr : r ≤ 60) (hn : n ≤ 6) (hk : k < n) : wrap64 (((r ^ k : Nat) : Int) * (r : Int)) = ((r ^ (k + 1) : Nat) : Int) := by
  have h := pow_le hr (show k + 1 ≤ 6 by omega)
  have e : ((r ^ k : Nat) : Int) * (r : Int) = ((r ^ (k + 1) : Nat) : Int) := by rw [Nat.pow_succ, Int.natCast_mul]
  rw [e]
  exact wrap_id (by omega) (by omega)
theorem cmPower_any (r n : Nat) (hr : r ≤ 60) (hn : n ≤ 6) (w : World) : Calls Try.prog 106 #[.int .i64 (r : Int), .int .i64 (n : Int)] w fun e w' => e = .returned (.int .i64 (r ^ n : Nat)) ∧ w = w' := by
  go_enter Try.func106, Try.ntmps106
  go_wp2
  go_loop [1, 5] (fun i p => ∃ j k : Nat, k ≤ n ∧ Hid (j + k = n) ∧ i = .int .i64 (j : Int) ∧ j ≤ n ∧ p = .int .i64 (r ^ k : Nat)) (fun i _ => (intOf i).toNat)
  case atStart => exact ⟨n, 0, by omega, by show _ = _; omega, rfl, by omega, rfl⟩
  case round =>
    obtain ⟨j, k, hk, hjk, rfl, hj, rfl⟩ := hrel
    by_cases hlt : 0 < j
    · go_wp2
      go_round
      case rel => exact ⟨j - 1, k + 1, by have := hjk.out; omega, by have := hjk.out; show _ = _; omega, by congr 1; omega, by omega, int_val (pow_step hr hn (by have := hjk.out; omega))⟩
      case measure => simp [intOf]; omega
    · obtain rfl : j = 0 := by omega
      have hkk : k = n := by have := hjk.out; omega
      subst hkk
      go_wp2
      go_ret
      exact ⟨rfl, rfl⟩
theorem powerOf_any (r n : Nat) (hr : r ≤ 60) (hn : n ≤ 6) (w : World) : Calls Try.prog 102 #[.int .i64 (r : Int), .int .i64 (n : Int)] w fun e w' => e = .returned (.int .i64 (r ^ n : Nat)) ∧ w = w' := by
  go_enter Try.func102, Try.ntmps102
  go_wp2
  go_loop [5, 7] (fun p i => ∃ k : Nat, k ≤ n ∧ i = .int .i64 (k : Int) ∧ p = .int .i64 (r ^ k : Nat)) (fun _ i => n - (intOf i).toNat)
  case atStart => exact ⟨0, by omega, rfl, rfl⟩
  case round =>
    obtain ⟨k, hk, rfl, rfl⟩ := hrel
    by_cases hlt : k < n
    · go_wp2
      go_round
      case rel => exact ⟨k + 1, by omega, by go_num, int_val (pow_step hr hn hlt)⟩
      case measure => simp [intOf]; omega
    · obtain rfl : k = n := by omega
      go_wp2
      go_ret
      exact ⟨rfl, rfl⟩
theorem cmBase_any (n : Int) (w : World) : Calls Try.prog 104 #[.int .i64 n] w fun e w' => e = .returned (.bool (inB n 2 60)) ∧ w = w' := by
  go_enter Try.func104, Try.ntmps104
  go_wp2_with (go_at_call 121; refine (l1In_any _ _ _ _).mono ?_; rintro e w' ⟨rfl, rfl⟩)
  go_ret
  exact ⟨rfl, rfl⟩
theorem isRadix_any (n : Int) (w : World) : Calls Try.prog 97 #[.int .i64 n] w fun e w' => e = .returned (.bool (inB n 2 60)) ∧ w = w' := by
  go_enter Try.func97, Try.ntmps97
  go_wp2_with (go_at_call 128; refine (within_any _ _ _ _).mono ?_; rintro e w' ⟨rfl, rfl⟩)
  go_ret
  exact ⟨rfl, rfl⟩
end Go.Proofs.Ytjnkdjokbamibaa
/- Contracts of SignalText: the text of a signal. -/
namespace Go.Proofs.Ytjnkdjokbamibaa
open Go.RowKit
open Go.WideShapes (add_plain)
/-- Block g is just the cells cs of element type t, with a frozen range. -/
def BlkF (w : World) (g : Nat) (t : TypeId) (cs : List Value) (fr : Nat × Nat) : Prop := w.heap[g]? = some (.cells cs.toArray t fr)
section
variable {w w' : World} {g : Nat} {t : TypeId} {cs : List Value} {fr : Nat × Nat}
theorem BlkF.lt (h : BlkF w g t cs fr) : g < w.heap.size := by
  rcases Nat.lt_or_ge g w.heap.size with hlt | hge
  · exact hlt
  · unfold BlkF at h; rw [Array.getElem?_eq_none hge] at h; cases h
theorem BlkF.cell (h : BlkF w g t cs fr) (i : Nat) : w.cell? ⟨g, i, Option.none⟩ = cs[i]? := by
  have := cell_of_row w g i cs.toArray t fr h
  rw [this]; simp
theorem BlkF.frozen (h : BlkF w g t cs fr) (i : Nat) (hi : i < fr.1) : w.frozen? ⟨g, i, Option.none⟩ = false := by
  unfold BlkF at h
  simp [World.frozen?, h]; omega
theorem BlkF.new (w : World) (t : TypeId) (cs : Array Value) (fr : Nat × Nat) : BlkF (w.alloc (.cells cs t fr)) w.heap.size t cs.toList fr := by
  show (w.heap.push (.cells cs t fr))[w.heap.size]? = _
  simp
theorem BlkF.set_ (h : BlkF w g t cs fr) (i : Nat) (u : Value) : BlkF (w.setCell ⟨g, i, Option.none⟩ u) g t (cs.set i u) fr := by
  unfold BlkF at h ⊢
  simp [World.setCell, Array.getElem?_modify, h]
theorem BlkF.below {B : Nat} (h : BlkF w g t cs fr) (hb : Below B w w') (hg : g < B) : BlkF w' g t cs fr := (hb.block g hg).trans h
end
end Go.Proofs.Ytjnkdjokbamibaa
/- Contracts: comparison of lists of numbers in a law, the bound on a law's inputs; what a list of bytes is; plain laws of signals. -/
namespace Go.Proofs.Ytjnkdjokbamibaa
open Go.RowKit Go.ChangeShapes Go.WideShapes Go.ChangeAt Go.Deep
theorem u8_of (vs : List Value) (h : ∀ (i : Nat) (u : Value), vs[i]? = some u → ∃ n, u = Value.int .u8 n ∧ 0 ≤ n ∧ n ≤ 255) : ∃ zs, vs = bytesV zs := by
  induction vs with
  | nil => exact ⟨[], rfl⟩
  | cons v r ih =>
    obtain ⟨n, hn, h0, h1⟩ := h 0 v rfl
    obtain ⟨zs, hzs⟩ := ih (fun i u hu => h (i + 1) u (by simpa using hu))
    refine ⟨UInt8.ofNat n.toNat :: zs, ?_⟩
    rw [hn, hzs]
    have : ((UInt8.ofNat n.toNat).toNat : Int) = n := by
      rw [UInt8.toNat_ofNat']
      omega
    simp [bytesV]
    omega
theorem trod_u8 {H : Type} {enc : TypeId × Value → H} {P : Program} {w : World} {base : Nat} {spare : Nat → Bool} {held : Bool} {fuel : Nat} {t : TypeId} {v : Value} {x : DataW H × List MemPlace}
    (ht : P.underlying t = some (.int .u8)) (h : DataW.trod enc P w base spare held fuel t [v] = some x) : ∃ n, v = .int .u8 n ∧ 0 ≤ n ∧ n ≤ 255 := by
  obtain ⟨n, e1, _, e3⟩ := DataW.trod_int ht h
  refine ⟨n, by simpa using e1, ?_⟩
  simp [Lit.wf] at e3
  have a0 : IntKind.u8.min = 0 := by decide
  have a1 : IntKind.u8.max = 255 := by decide
  omega
theorem open_byteS {H : Type} {enc : TypeId × Value → H} {w : World} {spare : Nat → Bool} {held : Bool} {fuel : Nat} {v : Value} {x : DataW H × List MemPlace}
    (h : DataW.trod enc Try.prog w 0 spare held fuel 45 [v] = some x) : ∃ zs, RdU w w.heap.size v zs := by
  obtain ⟨n, vs, hr, hl, hk⟩ := open_row Try.underlying45 (by kernel_rfl) h
  obtain ⟨zs, rfl⟩ := u8_of vs (fun i u hu => by
    obtain ⟨f, y, hy⟩ := hk i u hu
    exact trod_u8 Try.underlying5 hy)
  have : zs.length = n := by simpa [bytesV] using hl
  subst this
  exact ⟨zs, hr⟩
theorem RdU.below {w w' : World} {hi : Nat} {v : Value} {zs : List UInt8} (h : RdU w hi v zs) {B : Nat} (hb : Below B w w') (hB : hi ≤ B) : RdU w' hi v zs := Rd.below h hb hB
set_option maxHeartbeats 400000 in
theorem qInts_same (xs : List Int) (v u : Value) (hi hj : Nat) (w : World) (h : RdI w hi v xs) (g : RdI w hj u xs) : Calls Try.prog 56 #[v, u] w fun e w' => e = .returned (.bool true) ∧ ∃ n, w' = w.drewN n := by
  obtain ⟨A, c, rfl, hc, hm⟩ := Rd.form h
  obtain ⟨A', c', rfl, hc', hm'⟩ := Rd.form g
  have H := Lib.hid h
  have G := Lib.hid g
  clear h g
  go_enter Try.func56, Try.ntmps56
  go_wp2
  go_loopw [13] (fun i wr => ∃ k : Nat, k ≤ xs.length ∧ i = .int .i64 k ∧ ∃ n, wr = w.drewN n) (fun i _ => xs.length - (intOf i).toNat)
  case atStart => exact ⟨0, Nat.zero_le _, rfl, 0, rfl⟩
  case round =>
    obtain ⟨k, hk, rfl, n, rfl⟩ := hrel
    by_cases hlt : k < xs.length
    · obtain ⟨b1, o1, c1, x, hv, _, hx, hcell1⟩ := Rd.at_ H.out hlt
      cases hv
      obtain ⟨b2, o2, c2, y, hv, _, hy, hcell2⟩ := Rd.at_ G.out hlt
      injection hv with hv1 hv2 hv3
      subst hv1
      rw [hx] at hy
      cases hy
      clear hx hv2 hv3
      go_wp2
      go_quiet (fail)
      go_wp2
      go_roundw
      case rel => exact ⟨k + 1, by omega, by go_num, _, rfl⟩
      case measure => simp [intOf]; omega
    · go_wp2
      go_ret
      exact ⟨rfl, _, rfl⟩
end Go.Proofs.Ytjnkdjokbamibaa
/- Contracts of the sums of a word, of the cost of lengths and of their bounds. -/
namespace Go.Proofs.Ytjnkdjokbamibaa
open Go.RowKit
theorem allB_mem {xs : List Int} {k : Nat} {y a b : Int} (h : xs[k]? = some y) (hb : allB xs a b = true) : a ≤ y ∧ y ≤ b := by
  unfold allB at hb; rw [List.all_eq_true] at hb
  exact inB_iff.1 (hb y (List.mem_of_getElem? h))
end Go.Proofs.Ytjnkdjokbamibaa
/- Contracts of the comparisons of lists and of their beginnings, of the program and of the reference. -/
namespace Go.Proofs.Ytjnkdjokbamibaa
open Go.RowKit
/-- A slice cut off at its end. -/
theorem Rd.cut {w : World} {hi n c : Nat} {A : Option Addr} {xs : List Value} (h : Rd w hi 1 (.slice A n c) n xs) {k : Nat} (hk : k ≤ n) : Rd w hi 1 (.slice A k c) k (xs.take k) := by
  obtain ⟨h0, A', c', hv, h1, h2, h3⟩ := h
  cases hv
  refine ⟨by rw [List.length_take]; omega, A, c, rfl, by omega, h2, fun hp => ?_⟩
  obtain ⟨b, off, hA, hb, hc⟩ := h3 (by omega)
  refine ⟨b, off, hA, hb, fun j u hu => hc j u ?_⟩
  rw [List.getElem?_take] at hu
  split at hu
  · exact hu
  · cases hu
theorem RdI.cut {w : World} {hi c : Nat} {A : Option Addr} {xs : List Int} (h : RdI w hi (.slice A xs.length c) xs) {k : Nat} (hk : k ≤ xs.length) : RdI w hi (.slice A k c) (xs.take k) := by
  have h1 := Rd.cut h hk
  have hl : (xs.take k).length = k := by rw [List.length_take]; omega
  unfold RdI
  rw [hl]
  simpa [ints] using h1
/-- Does the first list begin the second? -/
def begB (xs ys : List Int) : Bool := decide (xs.length ≤ ys.length) && decide (xs = ys.take xs.length)
theorem begB_iff {xs ys : List Int} : begB xs ys = true ↔ xs <+: ys := by
  unfold begB
  rw [Bool.and_eq_true, decide_eq_true_eq, decide_eq_true_eq, List.prefix_iff_eq_take]
  constructor
  · rintro ⟨_, h⟩; exact h
  · intro h
    refine ⟨?_, h⟩
    have := congrArg List.length h
    rw [List.length_take] at this
    omega
set_option maxHeartbeats 400000 in
theorem l1Same_any (xs ys : List Int) (v u : Value) (hi hj : Nat) (w : World) (h : RdI w hi v xs) (g : RdI w hj u ys) : Calls Try.prog 148 #[v, u] w fun e w' => e = .returned (.bool (decide (xs = ys))) ∧ ∃ n, w' = w.drewN n := by
  obtain ⟨A, c, rfl, hc, hm⟩ := Rd.form h
  obtain ⟨A', c', rfl, hc', hm'⟩ := Rd.form g
  have H := Lib.hid h
  have G := Lib.hid g
  clear h g
  by_cases hl : xs.length = ys.length
  · have HL := Lib.hid hl
    rw [← hl]
    rw [← hl] at hc' hm'
    clear hl
    go_enter Try.func148, Try.ntmps148
    go_wp2
    go_loopw [13] (fun i wr => ∃ k : Nat, k ≤ xs.length ∧ i = .int .i64 k ∧ Hid (xs.take k = ys.take k) ∧ ∃ n, wr = w.drewN n) (fun i _ => xs.length - (intOf i).toNat)
    case atStart => exact ⟨0, Nat.zero_le _, rfl, rfl, 0, rfl⟩
    case round =>
      obtain ⟨k, hk, rfl, heq, n, rfl⟩ := hrel
      by_cases hlt : k < xs.length
      · obtain ⟨b1, o1, c1, x, hv, _, hx, hcell1⟩ := Rd.at_ H.out hlt
        cases hv
        obtain ⟨b2, o2, c2, y, hv, _, hy, hcell2⟩ := Rd.at_ G.out (by rw [← HL.out]; exact hlt)
        have HX := Lib.hid hx
        have HY := Lib.hid hy
        injection hv with hv1 hv2 hv3
        subst hv1
        clear hx hy hv2 hv3
        by_cases hxy : x = y
        · subst hxy
          go_wp2
          go_quiet (fail)
          go_wp2
          go_roundw
          case rel => exact ⟨k + 1, by omega, by go_num, eq_take HX.out HY.out heq.out, _, rfl⟩
          case measure => simp [intOf]; omega
        · have hbe : (x == y) = false := by simpa using hxy
          have hbn : (x != y) = true := by simpa using hxy
          go_wp2
          go_quiet (fail)
          go_wp2
          go_ret
          exact ⟨ret_bool (eq_no HX.out HY.out hxy).symm, _, World.drewN_drewN _ _ _⟩
      · go_wp2
        go_ret
        exact ⟨ret_bool (eq_full hlt HL.out heq.out).symm, _, rfl⟩
  · have hne : (((xs.length : Nat) : Int) != ((ys.length : Nat) : Int)) = true := by rw [bne_iff_ne]; omega
    go_enter Try.func148, Try.ntmps148
    go_wp2
    go_ret
    refine ⟨ret_bool ?_, 0, rfl⟩
    symm; rw [decide_eq_false_iff_not]; rintro rfl; exact hl rfl
set_option maxHeartbeats 400000 in
theorem slicesEqual_any (xs ys : List Int) (v u : Value) (hi hj : Nat) (w : World) (h : RdI w hi v xs) (g : RdI w hj u ys) : Calls Try.prog 147 #[v, u] w fun e w' => e = .returned (.bool (decide (xs = ys))) ∧ ∃ n, w' = w.drewN n := by
  obtain ⟨A, c, rfl, hc, hm⟩ := Rd.form h
  obtain ⟨A', c', rfl, hc', hm'⟩ := Rd.form g
  have H := Lib.hid h
  have G := Lib.hid g
  clear h g
  by_cases hl : xs.length = ys.length
  · have HL := Lib.hid hl
    rw [← hl]
    rw [← hl] at hc' hm'
    clear hl
    go_enter Try.func147, Try.ntmps147
    go_wp2
    go_loopw [13] (fun i wr => ∃ k : Nat, k ≤ xs.length ∧ i = .int .i64 k ∧ Hid (xs.take k = ys.take k) ∧ ∃ n, wr = w.drewN n) (fun i _ => xs.length - (intOf i).toNat)
    case atStart => exact ⟨0, Nat.zero_le _, rfl, rfl, 0, rfl⟩
    case round =>
      obtain ⟨k, hk, rfl, heq, n, rfl⟩ := hrel
      by_cases hlt : k < xs.length
      · obtain ⟨b1, o1, c1, x, hv, _, hx, hcell1⟩ := Rd.at_ H.out hlt
        cases hv
        obtain ⟨b2, o2, c2, y, hv, _, hy, hcell2⟩ := Rd.at_ G.out (by rw [← HL.out]; exact hlt)
        have HX := Lib.hid hx
        have HY := Lib.hid hy
        injection hv with hv1 hv2 hv3
        subst hv1
        clear hx hy hv2 hv3
        by_cases hxy : x = y
        · subst hxy
          go_wp2
          go_quiet (fail)
          go_wp2
          go_roundw
          case rel => exact ⟨k + 1, by omega, by go_num, eq_take HX.out HY.out heq.out, _, rfl⟩
          case measure => simp [intOf]; omega
        · have hbe : (x == y) = false := by simpa using hxy
          have hbn : (x != y) = true := by simpa using hxy
          go_wp2
          go_quiet (fail)
          go_wp2
          go_ret
          exact ⟨ret_bool (eq_no HX.out HY.out hxy).symm, _, World.drewN_drewN _ _ _⟩
      · go_wp2
        go_ret
        exact ⟨ret_bool (eq_full hlt HL.out heq.out).symm, _, rfl⟩
  · have hne : (((xs.length : Nat) : Int) != ((ys.length : Nat) : Int)) = true := by rw [bne_iff_ne]; omega
    go_enter Try.func147, Try.ntmps147
    go_wp2
    go_ret
    refine ⟨ret_bool ?_, 0, rfl⟩
    symm; rw [decide_eq_false_iff_not]; rintro rfl; exact hl rfl
theorem bkBegins_any (xs ys : List Int) (v u : Value) (hi hj : Nat) (w : World) (h : RdI w hi v xs) (g : RdI w hj u ys) : Calls Try.prog 117 #[v, u] w fun e w' => e = .returned (.bool (begB xs ys)) ∧ ∃ n, w' = w.drewN n := by
  obtain ⟨A, c, rfl, hc, hm⟩ := Rd.form h
  obtain ⟨A', c', rfl, hc', hm'⟩ := Rd.form g
  unfold begB
  by_cases hl : xs.length ≤ ys.length
  · rw [decide_eq_true hl, Bool.true_and]
    have H := Lib.hid h
    have G := Lib.hid (RdI.cut g hl)
    clear h g
    go_enter Try.func117, Try.ntmps117
    go_wp2_with fail
    refine (l1Same_any xs (ys.take xs.length) _ _ hi hj _ H.out G.out).mono ?_
    rintro e w' ⟨rfl, n, rfl⟩
    go_wp2
    go_ret
    exact ⟨rfl, n, rfl⟩
  · rw [decide_eq_false hl, Bool.false_and]
    clear h g
    go_enter Try.func117, Try.ntmps117
    go_wp2_with fail
    go_ret
    exact ⟨rfl, 0, rfl⟩
theorem begins_any (xs ys : List Int) (v u : Value) (hi hj : Nat) (w : World) (h : RdI w hi v xs) (g : RdI w hj u ys) : Calls Try.prog 116 #[v, u] w fun e w' => e = .returned (.bool (begB xs ys)) ∧ ∃ n, w' = w.drewN n := by
  obtain ⟨A, c, rfl, hc, hm⟩ := Rd.form h
  obtain ⟨A', c', rfl, hc', hm'⟩ := Rd.form g
  unfold begB
  by_cases hl : xs.length ≤ ys.length
  · rw [decide_eq_true hl, Bool.true_and]
    have H := Lib.hid h
    have G := Lib.hid (RdI.cut g hl)
    clear h g
    go_enter Try.func116, Try.ntmps116
    go_wp2_with fail
    refine (slicesEqual_any xs (ys.take xs.length) _ _ hi hj _ H.out G.out).mono ?_
    rintro e w' ⟨rfl, n, rfl⟩
    go_wp2
    go_ret
    exact ⟨rfl, n, rfl⟩
  · rw [decide_eq_false hl, Bool.false_and]
    clear h g
    go_enter Try.func116, Try.ntmps116
    go_wp2_with fail
    go_ret
    exact ⟨rfl, 0, rfl⟩
end Go.Proofs.Ytjnkdjokbamibaa
/- A drawn region whose operations only read old memory and whose calls may lay new memory: one walk in the order of the text serves every order. Facts on worlds that came later. -/
namespace Go.Proofs.Ytjnkdjokbamibaa
open Go Go.RowKit
/-- A world in which all below block B is as in w. -/
structure LaterW (B : Nat) (w : World) where
  val : World
  bel : Below B w val
instance laterSome {B : Nat} {w : World} : Nonempty (LaterW B w) := ⟨⟨w, Below.refl _ _⟩⟩
end Go.Proofs.Ytjnkdjokbamibaa
/- Contracts of the tests whether a book is valid, of the reference. -/
namespace Go.Proofs.Ytjnkdjokbamibaa
open Go.RowKit
def sigOk (xs : List Int) : Bool := inB xs.length 1 3 && allB xs 1 60
/-- The place of the phrase with some signals. -/
def sigIx (ps : List Phr) (xs : List Int) : Option Nat := ps.findIdx? fun p => decide (p.2 = xs)
def ixI : Option Nat → Int
  | some i => (i : Int)
  | Option.none => -1
theorem findIdx_take {α : Type} {f : α → Bool} {l : List α} {k : Nat} (h : ∀ j, j < k → ∀ x, l[j]? = some x → f x = false) {x : α} (hx : l[k]? = some x) (hf : f x = true) : l.findIdx? f = some k := by
  induction l generalizing k with
  | nil => simp at hx
  | cons a r ih =>
    rw [List.findIdx?_cons]
    cases k with
    | zero => simp at hx; subst hx; rw [hf]; rfl
    | succ k =>
      have ha : f a = false := h 0 (by omega) a rfl
      rw [ha]
      have := ih (k := k) (fun j hj x hx => h (j + 1) (by omega) x (by simpa using hx)) (by simpa using hx)
      rw [this]; rfl
theorem findIdx_none {α : Type} {f : α → Bool} {l : List α} (h : ∀ (j : Nat) (x : α), l[j]? = some x → f x = false) : l.findIdx? f = Option.none := by
  rw [List.findIdx?_eq_none_iff]
  intro x hx
  obtain ⟨j, hj⟩ := List.getElem?_of_mem hx
  exact h j x hj
def ltT (a b : ByteArray) : Bool := Op.bytesLess a.toList b.toList
def phrOk (p : Phr) : Bool := phraseB p.1.data.toList && sigOk p.2
/-- Is the phrase at j fine, and fine behind those before it? -/
def goodAt (ps : List Phr) (j : Nat) : Bool := match ps[j]? with
  | some p => phrOk p && ((match j with | 0 => true | i + 1 => match ps[i]? with | some q => ltT q.1 p.1 | Option.none => true) && (sigIx ps p.2 == some j))
  | Option.none => true
def goodB (ps : List Phr) : Bool := (List.range ps.length).all fun j => goodAt ps j
def bookB (ps : List Phr) : Bool := inB ps.length 1 40 && goodB ps
end Go.Proofs.Ytjnkdjokbamibaa
/- Contracts of the tests whether a book is valid, of the program; of the search for a phrase by a predicate. -/
namespace Go.Proofs.Ytjnkdjokbamibaa
open Go.RowKit
theorem zipC_take : ∀ (ts : List ByteArray) (us : List Value) (k : Nat), (zipC ts us).take (k * 2) = zipC (ts.take k) (us.take k)
  | [], us, k => by simp [zipC]
  | t :: ts, [], k => by simp [zipC]
  | t :: ts, u :: us, 0 => by simp [zipC]
  | t :: ts, u :: us, k + 1 => by simp only [zipC, List.take_succ_cons, show (k + 1) * 2 = k * 2 + 1 + 1 by omega, zipC_take ts us k]
theorem RowsR.take {w : World} {hi : Nat} {us : List Value} {xss : List (List Int)} (h : RowsR w hi us xss) (k : Nat) : RowsR w hi (us.take k) (xss.take k) := by
  refine ⟨by simp [h.1], fun i u xs hu hx => ?_⟩
  rw [List.getElem?_take] at hu hx
  split at hu
  · rename_i hlt; rw [if_pos hlt] at hx; exact h.2 i u xs hu hx
  · cases hu
theorem RdPS.cut {w : World} {hi n c : Nat} {A : Option Addr} {ps : List Phr} (h : RdPS w hi (.slice A n c) ps) {k : Nat} (hk : k ≤ ps.length) : RdPS w hi (.slice A k c) (ps.take k) := by
  obtain ⟨us, h1, ⟨h0, A', c', hv, h2, h3, h4⟩, ht⟩ := h
  cases hv
  refine ⟨us.take k, ?_, ⟨?_, A, c, ?_, ?_, h3, fun hp => ?_⟩, fun p hp => ht p (List.mem_of_mem_take hp)⟩
  · have := h1.take k; unfold sigs at *; rwa [← List.map_take] at this
  · have e := zipC_take (txts ps) us k
    unfold txts at *
    rw [← List.map_take] at e
    rw [← e, List.length_take, h0, List.length_take]; omega
  · rw [List.length_take]; congr 1; omega
  · rw [List.length_take]; omega
  · obtain ⟨b, off, hA, hb, hc⟩ := h4 (by rw [List.length_take] at hp; omega)
    refine ⟨b, off, hA, hb, fun j u hu => hc j u ?_⟩
    have e := zipC_take (txts ps) us k
    unfold txts at *
    rw [← List.map_take] at e
    rw [← e, List.getElem?_take] at hu
    split at hu
    · exact hu
    · cases hu
end Go.Proofs.Ytjnkdjokbamibaa
/- Contracts of the searches in a book by a text, by signals, and for texts of one letter; of the program and of the reference. -/
namespace Go.Proofs.Ytjnkdjokbamibaa
open Go.RowKit
theorem bookB_phr {ps : List Phr} {p : Phr} (h : bookB ps = true) (hp : p ∈ ps) : phrOk p = true := by
  obtain ⟨j, hj⟩ := List.getElem?_of_mem hp
  have hl := (List.getElem?_eq_some_iff.1 hj).1
  unfold bookB goodB at h
  rw [Bool.and_eq_true, List.all_eq_true] at h
  have := h.2 j (List.mem_range.2 hl)
  unfold goodAt at this
  rw [hj] at this
  simp only [Bool.and_eq_true] at this
  exact this.1
theorem bookB_len {ps : List Phr} (h : bookB ps = true) : 1 ≤ ps.length ∧ ps.length ≤ 40 := by
  unfold bookB at h
  rw [Bool.and_eq_true, inB_iff] at h
  omega
end Go.Proofs.Ytjnkdjokbamibaa
/- Plain laws: the tables of how many ways there are from each place on; their bounds. -/
namespace Go.Proofs.Ytjnkdjokbamibaa
/-- Phrases that fit at one place have lengths of their own. -/
def Apart (fit : Phr → Bool) (len : Phr → Nat) (r : Nat) (ps : List Phr) : Prop :=
  ps.Pairwise (fun p q => fit p = true → fit q = true → len p ≠ len q) ∧ ∀ p ∈ ps, fit p = true → 1 ≤ len p ∧ len p ≤ r
theorem Apart.take {fit : Phr → Bool} {len : Phr → Nat} {r : Nat} {ps : List Phr} (h : Apart fit len r ps) (j : Nat) : Apart fit len r (ps.take j) :=
  ⟨h.1.sublist (List.take_sublist j ps), fun p hp => h.2 p (List.mem_of_mem_take hp)⟩
/-- Numbers as cells. -/
abbrev nats (l : List Nat) : List Value := l.map fun m : Nat => Value.int .i64 (m : Int)
end Go.Proofs.Ytjnkdjokbamibaa
/- Plain laws on good books: no two phrases have one text, nor the same signals; phrases that fit at one place have lengths of their own. Slices cut off at their head. -/
namespace Go.Proofs.Ytjnkdjokbamibaa
open Go.RowKit
theorem phrOk_sig {p : Phr} (h : phrOk p = true) : 1 ≤ p.2.length ∧ p.2.length ≤ 3 ∧ allB p.2 1 60 = true := by
  unfold phrOk sigOk at h
  simp only [Bool.and_eq_true, inB_iff] at h
  obtain ⟨_, h1, h2⟩ := h
  exact ⟨by omega, by omega, h2⟩
theorem RdI.drop {w : World} {hi c : Nat} {b off : Nat} {xs : List Int} (h : RdI w hi (.slice (some ⟨b, off, Option.none⟩) xs.length c) xs) {k : Nat} (hk : k < xs.length) :
    RdI w hi (.slice (some ⟨b, off + k, Option.none⟩) (xs.length - k) (c - k)) (xs.drop k) := by
  obtain ⟨h0, A', c', hv, h1, h2, h3⟩ := h
  cases hv
  obtain ⟨b', off', hA, hb, hc⟩ := h3 (by omega)
  cases hA
  refine ⟨by simp, some ⟨b, off + k, Option.none⟩, c - k, by rw [List.length_drop], by rw [List.length_drop]; omega, by omega, fun _ => ⟨b, off + k, rfl, hb, fun j u hu => ?_⟩⟩
  have := hc (k + j) u (by
    rw [ints, List.getElem?_map, List.getElem?_drop] at hu
    rw [ints, List.getElem?_map]; exact hu)
  rwa [← Nat.add_assoc] at this
theorem wrap_in {x : Int} (h : -9223372036854775808 ≤ x ∧ x ≤ 9223372036854775807) : IntKind.i64.wrap x = x := IntWalk.i64_in _ h
end Go.Proofs.Ytjnkdjokbamibaa
/- Plain laws: the rests that stick out where two lists of phrases have the same signals so far. -/
namespace Go.Proofs.Ytjnkdjokbamibaa
open Go.RowKit
/-- A rest is put to the others, once. -/
def putR (L : List (List Int)) (r : List Int) : List (List Int) := if r ∈ L then L else L ++ [r]
theorem putR_pre {L : List (List Int)} {r : List Int} : L <+: putR L r := by
  unfold putR; split
  · exact List.prefix_refl _
  · exact List.prefix_append _ _
theorem putR_nodup {L : List (List Int)} {r : List Int} (h : L.Nodup) : (putR L r).Nodup := by
  unfold putR; split
  · exact h
  · rename_i hn
    rw [List.nodup_append]
    refine ⟨h, by simp, fun a ha b hb => ?_⟩
    rw [List.mem_singleton] at hb
    rintro rfl
    exact hn (hb ▸ ha)
/-- One pair of phrases. -/
def seed1 (ps : List Phr) (i : Nat) (x : Phr) (L : List (List Int)) (k : Nat) : List (List Int) := match ps[k]? with
  | some y => if i ≠ k ∧ begB x.2 y.2 = true then putR L (y.2.drop x.2.length) else L
  | Option.none => L
/-- One phrase with the first j others, the first i phrases with all others. -/
def seedK (ps : List Phr) (i : Nat) (x : Phr) (L : List (List Int)) (j : Nat) : List (List Int) := (List.range j).foldl (seed1 ps i x) L
def seedI (ps : List Phr) : Nat → List (List Int)
  | 0 => []
  | i + 1 => match ps[i]? with
    | some x => seedK ps i x (seedI ps i) ps.length
    | Option.none => seedI ps i
def seedR (ps : List Phr) : List (List Int) := seedI ps ps.length
theorem seedK_succ {ps : List Phr} {i j : Nat} {x : Phr} {L : List (List Int)} : seedK ps i x L (j + 1) = seed1 ps i x (seedK ps i x L j) j := by
  unfold seedK; rw [List.range_succ, List.foldl_append]; rfl
/-- One phrase behind, or ahead of, a rest. -/
def turn1 (x : List Int) (L : List (List Int)) (y : Phr) : List (List Int) :=
  let L1 := if begB x y.2 then putR L (y.2.drop x.length) else L
  if begB y.2 x then putR L1 (x.drop y.2.length) else L1
def turnR (ps : List Phr) (x : List Int) (L : List (List Int)) (j : Nat) : List (List Int) := (ps.take j).foldl (turn1 x) L
/-- From the n-th rest on, until nothing new is left. -/
def runR (ps : List Phr) : Nat → Nat → List (List Int) → List (List Int)
  | 0, _, L => L
  | f + 1, n, L => match L[n]? with
    | Option.none => L
    | some x => runR ps f (n + 1) (turnR ps x L ps.length)
/-- All rests. -/
def restsR (ps : List Phr) : List (List Int) := runR ps 200 0 (seedR ps)
theorem runR_on {ps : List Phr} {f n : Nat} {L : List (List Int)} {x : List Int} (h : L[n]? = some x) : runR ps (f + 1) n L = runR ps f (n + 1) (turnR ps x L ps.length) := by rw [runR, h]
theorem turn1_pre {x : List Int} {L : List (List Int)} {y : Phr} : L <+: turn1 x L y := by
  unfold turn1
  dsimp only
  split <;> split
  · exact putR_pre.trans putR_pre
  · exact putR_pre
  · exact putR_pre
  · exact List.prefix_refl _
theorem turn_pre {x : List Int} : ∀ (qs : List Phr) (L : List (List Int)), L <+: qs.foldl (turn1 x) L
  | [], L => List.prefix_refl _
  | q :: qs, L => by rw [List.foldl_cons]; exact turn1_pre.trans (turn_pre qs _)
theorem turnR_pre {ps : List Phr} {x : List Int} {L : List (List Int)} {j : Nat} : L <+: turnR ps x L j := turn_pre _ _
theorem turnR_mono {ps : List Phr} {x : List Int} {L : List (List Int)} {j k : Nat} (h : j ≤ k) : turnR ps x L j <+: turnR ps x L k := by
  unfold turnR
  have : ps.take k = ps.take j ++ (ps.take k).drop j := by
    have e := List.take_append_drop j (ps.take k)
    rw [List.take_take, Nat.min_eq_left h] at e
    exact e.symm
  rw [this, List.foldl_append]
  exact turn_pre _ _
theorem runR_pre {ps : List Phr} : ∀ (f n : Nat) (L : List (List Int)), L <+: runR ps f n L
  | 0, _, L => List.prefix_refl _
  | f + 1, n, L => by
    rw [runR]
    split
    · exact List.prefix_refl _
    · exact turnR_pre.trans (runR_pre f _ _)
/-- The ends of the signals of phrases. -/
def endsP (p : Phr) : List (List Int) := (List.range (p.2.length + 1)).map fun k => p.2.drop k
def endsB (ps : List Phr) : List (List Int) := ps.flatMap endsP
theorem ends_drop {ps : List Phr} {p : Phr} (h : p ∈ ps) {k : Nat} (hk : k ≤ p.2.length) : p.2.drop k ∈ endsB ps := by
  unfold endsB endsP
  rw [List.mem_flatMap]
  exact ⟨p, h, List.mem_map.2 ⟨k, List.mem_range.2 (by omega), rfl⟩⟩
theorem ends_again {ps : List Phr} {r : List Int} (h : r ∈ endsB ps) {k : Nat} (hk : k ≤ r.length) : r.drop k ∈ endsB ps := by
  unfold endsB endsP at h
  rw [List.mem_flatMap] at h
  obtain ⟨p, hp, h⟩ := h
  rw [List.mem_map] at h
  obtain ⟨j, hj, rfl⟩ := h
  rw [List.mem_range] at hj
  rw [List.drop_drop]
  rw [List.length_drop] at hk
  exact ends_drop hp (by omega)
theorem ends_len {ps : List Phr} (h : bookB ps = true) : (endsB ps).length ≤ 160 := by
  have h1 := bookB_len h
  have h2 : ∀ p ∈ ps, p.2.length ≤ 3 := fun p hp => (phrOk_sig (bookB_phr h hp)).2.1
  have h3 : (endsB ps).length ≤ 4 * ps.length := by
    unfold endsB
    clear h h1
    induction ps with
    | nil => simp
    | cons p l ih =>
      have := ih (fun q hq => h2 q (List.mem_cons_of_mem _ hq))
      have h4 := h2 p (by simp)
      rw [List.flatMap_cons, List.length_append, List.length_cons]
      unfold endsP at this ⊢
      rw [List.length_map, List.length_range]
      omega
  omega
theorem nodup_len {α : Type} [DecidableEq α] : ∀ (L E : List α), L.Nodup → (∀ x ∈ L, x ∈ E) → L.length ≤ E.length
  | [], E, _, _ => by simp
  | a :: L, E, h, hs => by
    rw [List.nodup_cons] at h
    have ha := hs a (by simp)
    have h1 := nodup_len L (E.erase a) h.2 (fun x hx => by
      have hne : x ≠ a := by rintro rfl; exact h.1 hx
      exact (List.mem_erase_of_ne hne).2 (hs x (List.mem_cons_of_mem _ hx)))
    have h2 := List.length_erase_of_mem ha
    have h3 : 0 < E.length := List.length_pos_of_mem ha
    rw [List.length_cons]
    omega
/-- A list of rests: none twice, all of them ends of phrases. -/
structure RestOk (ps : List Phr) (L : List (List Int)) : Prop where
  nodup : L.Nodup
  ends : ∀ r ∈ L, r ∈ endsB ps
theorem RestOk.nil (ps : List Phr) : RestOk ps [] := ⟨List.nodup_nil, fun r h => by cases h⟩
theorem RestOk.put {ps : List Phr} {L : List (List Int)} {r : List Int} (h : RestOk ps L) (hr : r ∈ endsB ps) : RestOk ps (putR L r) := by
  refine ⟨putR_nodup h.nodup, fun x hx => ?_⟩
  unfold putR at hx
  split at hx
  · exact h.ends x hx
  · rw [List.mem_append, List.mem_singleton] at hx
    rcases hx with hx | rfl
    · exact h.ends x hx
    · exact hr
theorem RestOk.len {ps : List Phr} {L : List (List Int)} (h : RestOk ps L) (hb : bookB ps = true) : L.length ≤ 160 := Nat.le_trans (nodup_len L _ h.nodup h.ends) (ends_len hb)
theorem begB_le {xs ys : List Int} (h : begB xs ys = true) : xs.length ≤ ys.length := by rw [begB_iff] at h; exact h.length_le
theorem RestOk.seed1 {ps : List Phr} {L : List (List Int)} (h : RestOk ps L) (i : Nat) (x : Phr) (k : Nat) : RestOk ps (seed1 ps i x L k) := by
  unfold Go.Proofs.Ytjnkdjokbamibaa.seed1
  split
  · rename_i y hy
    split
    · rename_i hc
      exact h.put (ends_drop (List.mem_of_getElem? hy) (begB_le hc.2))
    · exact h
  · exact h
theorem RestOk.seedK {ps : List Phr} {L : List (List Int)} (h : RestOk ps L) (i : Nat) (x : Phr) : ∀ j, RestOk ps (seedK ps i x L j)
  | 0 => h
  | j + 1 => by rw [seedK_succ]; exact (RestOk.seedK h i x j).seed1 i x j
theorem RestOk.seedI (ps : List Phr) : ∀ i, RestOk ps (seedI ps i)
  | 0 => RestOk.nil ps
  | i + 1 => by
    rw [Go.Proofs.Ytjnkdjokbamibaa.seedI]
    split
    · exact (RestOk.seedI ps i).seedK _ _ _
    · exact RestOk.seedI ps i
theorem RestOk.turn1 {ps : List Phr} {L : List (List Int)} {x : List Int} {y : Phr} (h : RestOk ps L) (hx : x ∈ endsB ps) (hy : y ∈ ps) : RestOk ps (turn1 x L y) := by
  unfold Go.Proofs.Ytjnkdjokbamibaa.turn1
  dsimp only
  have h1 : RestOk ps (if begB x y.2 then putR L (y.2.drop x.length) else L) := by
    split
    · rename_i hb; exact h.put (ends_drop hy (begB_le hb))
    · exact h
  split
  · rename_i hb; exact h1.put (ends_again hx (begB_le hb))
  · exact h1
theorem RestOk.turnR {ps : List Phr} {L : List (List Int)} {x : List Int} (h : RestOk ps L) (hx : x ∈ endsB ps) (j : Nat) : RestOk ps (turnR ps x L j) := by
  unfold Go.Proofs.Ytjnkdjokbamibaa.turnR
  have : ∀ (qs : List Phr), (∀ q ∈ qs, q ∈ ps) → ∀ L, RestOk ps L → RestOk ps (qs.foldl (Go.Proofs.Ytjnkdjokbamibaa.turn1 x) L) := by
    intro qs
    induction qs with
    | nil => intro _ L h; exact h
    | cons q qs ih =>
      intro hq L h
      rw [List.foldl_cons]
      exact ih (fun r hr => hq r (List.mem_cons_of_mem _ hr)) _ (h.turn1 hx (hq q (by simp)))
  exact this _ (fun q hq => List.mem_of_mem_take hq) L h
/-- So far: the n-th rest is next. -/
def RunTo (ps : List Phr) (n : Nat) (L : List (List Int)) : Prop := RestOk ps L ∧ n ≤ L.length ∧ runR ps (200 - n) n L = restsR ps
theorem RunTo.start (ps : List Phr) : RunTo ps 0 (seedR ps) := ⟨RestOk.seedI ps ps.length, Nat.zero_le _, rfl⟩
theorem RunTo.bd {ps : List Phr} {n : Nat} {L : List (List Int)} (h : RunTo ps n L) (hb : bookB ps = true) : L.length ≤ 160 ∧ n ≤ 160 := by
  have h1 := h.1.len hb
  have h2 := h.2.1
  omega
theorem RunTo.on {ps : List Phr} {n : Nat} {L : List (List Int)} {x : List Int} (h : RunTo ps n L) (hb : bookB ps = true) (hx : L[n]? = some x) : RunTo ps (n + 1) (turnR ps x L ps.length) := by
  have h0 := h.bd hb
  have hn := (List.getElem?_eq_some_iff.1 hx).1
  have hr := h.1.turnR (h.1.ends x (List.mem_of_getElem? hx)) ps.length
  have hp : L.length ≤ (turnR ps x L ps.length).length := (turnR_pre).length_le
  refine ⟨hr, by omega, ?_⟩
  have h3 := h.2.2
  rw [show 200 - n = (200 - (n + 1)) + 1 by omega, runR_on hx] at h3
  exact h3
theorem RunTo.sub {ps : List Phr} {n : Nat} {L : List (List Int)} (h : RunTo ps n L) : L <+: restsR ps := by
  rw [← h.2.2]; exact runR_pre _ _ _
/-- While the n-th rest is held against the phrases. -/
theorem RunTo.mid {ps : List Phr} {n : Nat} {L : List (List Int)} {x : List Int} (h : RunTo ps n L) (hb : bookB ps = true) (hx : L[n]? = some x) {j : Nat} (hj : j ≤ ps.length) : turnR ps x L j <+: restsR ps ∧ RestOk ps (turnR ps x L j) ∧ (turnR ps x L j).length ≤ 160 ∧ (turnR ps x L j)[n]? = some x := by
  have hr := h.1.turnR (h.1.ends x (List.mem_of_getElem? hx)) j
  refine ⟨(turnR_mono hj).trans (h.on hb hx).sub, hr, hr.len hb, ?_⟩
  obtain ⟨t, ht⟩ := turnR_pre (ps := ps) (x := x) (L := L) (j := j)
  rw [← ht, List.getElem?_append_left (List.getElem?_eq_some_iff.1 hx).1]
  exact hx
end Go.Proofs.Ytjnkdjokbamibaa
