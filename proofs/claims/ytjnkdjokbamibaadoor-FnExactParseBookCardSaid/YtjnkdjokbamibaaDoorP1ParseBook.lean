/- Texts of one claim, joined: P, A1, A2, M1, M3, M4. -/
import Derived.Test.YtjnkdjokbamibaaDoorRows
import Derived.WalkKit
import Derived.ProofKit
import Derived.OpenShut
import Derived.Below
import Derived.ChangeSame
import Derived.WideKeyArgs
import Derived.Test.YtjnkdjokbamibaaDoorShelf
import Derived.Deep.Slices
import Derived.Deep.SlicePairs
import Derived.Lib.SmallJoins
import Derived.WalkLawsBesides
import Derived.WalkSpells
import Derived.Lib.Hide
import Derived.Laws.AppendOwn
import Derived.OwnWalk
import Derived.Laws.MakeOwn
import Derived.Laws.Entries
import Derived.Deep.QuietTactic
import Derived.BigQuiet
/- The step from a walk to a row: a law that returns true and leaves all old memory as it was meets its row's post. -/
namespace Go.Proofs.YtjnkdjokbamibaaDoor
open Go.ChangeShapes Go.WideShapes Go.ChangeAt Go.RowKit Go.WideElems
theorem own : ownKnob Tryd.prog.godebug = Option.none := by kernel_rfl
theorem laidOut : laidOutB Tryd.prog = true := by kernel_rfl
theorem trodAll_stays {H : Type} {enc : TypeId × Value → H} {P : Program} (hl : laidOutB P = true) {W W' : World} {sp' : Nat → Bool} : ∀ (ts : List TypeId) (vs : List Value) (ds : List (DataW H)) (ps : List MemPlace),
    (ts.all fun t => P.readableRec t && decide (t < P.types.size)) = true → DataW.TrodAll enc P W 0 (fun _ => true) true ts vs ds ps → (∀ p ∈ ps, W.sameAt W' p) → (∀ p ∈ ps, sp' p.block = true) → DataW.TrodAll enc P W' 0 sp' true ts vs ds ps
  | [], vs, ds, ps, _, h, _, _ => by
    obtain ⟨rfl, rfl, rfl⟩ := trodAll_nil h
    exact trodAll_mk0
  | t :: ts, vs, ds, ps, hr, h, hs, hp => by
    obtain ⟨v, vs', d, ds', p, q, rfl, rfl, rfl, h0, h1⟩ := trodAll_cons h
    simp only [List.all_cons, Bool.and_eq_true, decide_eq_true_eq] at hr
    exact trodAll_cons_mk (Trod_stays hl hr.1.1 hr.1.2 h0 (fun x hx => hs x (List.mem_append_left _ hx)) (fun x hx => hp x (List.mem_append_left _ hx)))
      (trodAll_stays hl ts vs' ds' q hr.2 h1 (fun x hx => hs x (List.mem_append_right _ hx)) (fun x hx => hp x (List.mem_append_right _ hx)))
set_option maxRecDepth 100000 in
/-- The post of a law. -/
theorem law_post {H : Type} {enc : TypeId × Value → H} {f : Func} {s : ChangeSpec} {apart fresh handsOn again : Bool} {W W' : World} {args : Array Value} {ds gs : List (DataW H)} {before : List MemPlace}
    (hW : DataW.Whole enc Tryd.prog f.params.toList s.vars apart W args.toList ds gs before) (hvars : s.vars = []) (hrt : f.resultTypes = #[4])
    (hr : (f.params.toList.all fun t => Tryd.prog.readableRec t && decide (t < Tryd.prog.types.size)) = true)
    (hfn : (s.fn H (ds ++ gs)) = { results := [.lit (.bool true)], args := ds }) (hb : Below W.heap.size W W') :
    s.post enc Tryd.prog f apart fresh handsOn again W args (.bool true) W' := by
  have hlt : ∀ p ∈ before, p.block < W.heap.size := fun p hp => hW.lt p hp
  have hold : ∀ p ∈ before, (fun b => decide (b < W.heap.size)) p.block = true := fun p hp => by simpa using hlt p hp
  have hW0 := hW
  obtain ⟨p, q, hA, hV, rfl, hz, hn⟩ := hW
  rw [hvars] at hV
  obtain ⟨rfl, rfl⟩ := trodVars_none hV
  simp only [List.append_nil] at hlt hold hW0 hz hn
  have hres : ∀ (b : Nat) (sp : Nat → Bool) (hd : Bool), DataW.TrodAll enc Tryd.prog W' b sp hd f.resultTypes.toList ((Value.bool true).resultList f.resultTypes.size) (s.fn H (ds ++ [])).results [] := fun b sp hd => by
    rw [hfn, hrt]; exact trodAll_cons_mk (shut_bool Tryd.underlying4 _) trodAll_mk0
  have hargs : ∀ sp : Nat → Bool, (∀ x ∈ p, sp x.block = true) → DataW.TrodAll enc Tryd.prog W' 0 sp true f.params.toList args.toList (s.fn H (ds ++ [])).args p := fun sp hsp => by
    rw [hfn]; exact trodAll_stays laidOut _ _ _ _ hr hA (fun x hx => hb.same (hlt x hx)) hsp
  have hvs : ∀ sp : Nat → Bool, (∀ x ∈ p, sp x.block = true) → DataW.TrodVars enc Tryd.prog W' sp s.vars (s.fn H (ds ++ [])).vars [] := fun sp _ => by
    rw [hfn, hvars]; rfl
  refine ⟨ds, [], p, [], p, [], hW0, hres _ _ _, hargs _ hold, hvs _ hold, World.keptBut_mono (fun x hx => ⟨hx, ?_⟩) (hb.frame (· ∈ p)), fun _ => ?_⟩
  · exact Or.inr (by simpa using hx)
  · refine ⟨?_, _, _, ([] ++ p) ++ [], ⟨[] ++ p, [], trodAll_append (hargs _ (fun _ _ => rfl)) (hres _ _ _), hvs _ (fun _ _ => rfl), rfl, ?_, ?_⟩, ?_⟩
    · exact ok_one hrt rfl (okWide_bool_mk Tryd.underlying4 _)
    · intro b off hp
      have hin : MemPlace.cell b off ∈ p := by simpa using hp
      rw [hb.frozen (hlt _ hin)]
      exact hz b off hin
    · intro ha
      simpa using hn ha
    · intro x hx _
      simpa using hx
end Go.Proofs.YtjnkdjokbamibaaDoor
/- Contracts of the small functions on signals: each computes what the plain Lean function beside it says and leaves the world alone. -/
namespace Go.Proofs.YtjnkdjokbamibaaDoor
open Go.RowKit
def inB (n a b : Int) : Bool := decide (a ≤ n) && decide (n ≤ b)
theorem inB_iff {n a b : Int} : inB n a b = true ↔ a ≤ n ∧ n ≤ b := by simp [inB]
theorem inB_false {n a b : Int} (h : ¬ (a ≤ n ∧ n ≤ b)) : inB n a b = false := by
  rcases hb : inB n a b
  · rfl
  · exact absurd (inB_iff.1 hb) h
theorem within_any (n a b : Int) (w : World) : Calls Tryd.prog 52 #[.int .i64 n, .int .i64 a, .int .i64 b] w fun e w' => e = .returned (.bool (inB n a b)) ∧ w = w' := by
  go_enter Tryd.func52, Tryd.ntmps52
  go_wp2
  all_goals go_ret
  all_goals refine ⟨?_, rfl⟩
  all_goals simp [inB]; omega
theorem l1In_any (n a b : Int) (w : World) : Calls Tryd.prog 43 #[.int .i64 n, .int .i64 a, .int .i64 b] w fun e w' => e = .returned (.bool (inB n a b)) ∧ w = w' := by
  go_enter Tryd.func43, Tryd.ntmps43
  go_wp2
  all_goals go_ret
  all_goals refine ⟨?_, rfl⟩
  all_goals simp [inB]; omega
end Go.Proofs.YtjnkdjokbamibaaDoor
/- Contracts of the functions on letters and on the texts of signals: each computes what the plain Lean function beside it says and leaves the world alone. -/
namespace Go.Proofs.YtjnkdjokbamibaaDoor
open Go.RowKit
/-- Letters a to z alone. -/
def smallB (l : List UInt8) : Bool := l.all fun c => decide (97 ≤ c.toNat) && decide (c.toNat ≤ 122)
theorem take_snoc (s : ByteArray) (k : Nat) (h : k < s.size) : s.data.toList.take (k + 1) = s.data.toList.take k ++ [s[k]] := by
  rw [List.take_succ_eq_append_getElem (by simpa using h)]; rfl
theorem smallB_step (s : ByteArray) (k : Nat) (h : k < s.size) (ht : smallB (s.data.toList.take k) = true) (h1 : 97 ≤ s[k].toNat) (h2 : s[k].toNat ≤ 122) : smallB (s.data.toList.take (k + 1)) = true := by
  rw [take_snoc s k h]; unfold smallB at *; rw [List.all_append, ht]; simp [h1, h2]
theorem smallB_no (s : ByteArray) (k : Nat) (h : k < s.size) (h1 : ¬ (97 ≤ s[k].toNat ∧ s[k].toNat ≤ 122)) : smallB s.data.toList = false := by
  unfold smallB
  rw [List.all_eq_false]
  refine ⟨s[k], ?_, ?_⟩
  · exact List.getElem_mem (l := s.data.toList) (by simpa using h)
  · simpa using h1
theorem smallB_all (s : ByteArray) (k : Nat) (h : ¬ k < s.size) (ht : smallB (s.data.toList.take k) = true) : smallB s.data.toList = true := by
  rwa [List.take_of_length_le (by simp; omega)] at ht
theorem ret_bool {a b : Bool} (h : a = b) : Ending.returned (.bool a) = Ending.returned (.bool b) := by rw [h]
theorem ret_int {k : IntKind} {a b : Int} (h : a = b) : Ending.returned (.int k a) = .returned (.int k b) := by rw [h]
def phraseB (l : List UInt8) : Bool := decide (1 ≤ l.length) && decide (l.length ≤ 12) && smallB l
theorem phraseB_in (l : List UInt8) (h : 1 ≤ l.length) (h1 : l.length ≤ 12) : phraseB l = smallB l := by simp [phraseB, h, h1]
theorem phraseB_out (l : List UInt8) (h : ¬ (1 ≤ l.length ∧ l.length ≤ 12)) : phraseB l = false := by
  unfold phraseB
  by_cases h1 : 1 ≤ l.length
  · simp [show ¬ l.length ≤ 12 by omega]
  · simp [h1]
theorem phraseB_of (s : ByteArray) (b : Bool) (h : (smallB s.data.toList && decide (s.size ≤ 12)) = b) : phraseB s.data.toList = (b && !s.toList.isEmpty) := by
  subst h
  rw [ByteArray.toList_eq]
  unfold phraseB
  have e : s.data.toList.length = s.size := by simp
  rw [e]
  have e2 : (!s.data.toList.isEmpty) = decide (1 ≤ s.size) := by
    rw [← e]; cases s.data.toList <;> simp
  rw [e2]
  cases smallB s.data.toList <;> cases decide (s.size ≤ 12) <;> cases decide (1 ≤ s.size) <;> rfl
theorem ret_val {a b : Value} (h : a = b) : Ending.returned a = Ending.returned b := by rw [h]
theorem int_val {k : IntKind} {a b : Int} (h : a = b) : Value.int k a = Value.int k b := by rw [h]
theorem isSmall_any (s : ByteArray) (hs : s.size ≤ maxLen) (w : World) : Calls Tryd.prog 89 #[.string s] w fun e w' => e = .returned (.bool (smallB s.data.toList)) ∧ w = w' := by
  unfold maxLen at hs
  go_enter Tryd.func89, Tryd.ntmps89
  go_wp2
  go_loop [3] (fun i => ∃ k : Nat, k ≤ s.size ∧ i = .int .i64 k ∧ Hid (smallB (s.data.toList.take k) = true)) (fun i => s.size - (intOf i).toNat)
  case atStart => exact ⟨0, Nat.zero_le _, rfl, rfl⟩
  case round =>
    obtain ⟨k, hk, rfl, hsm⟩ := hrel
    by_cases hlt : k < s.size
    · go_wp2
      · go_ret
        exact ⟨ret_bool (smallB_no s k hlt (by omega)).symm, rfl⟩
      · go_round
        case rel => exact ⟨k + 1, by omega, by go_num, smallB_step s k hlt hsm.out (by omega) (by omega)⟩
        case measure => simp [intOf]; omega
      · go_ret
        exact ⟨ret_bool (smallB_no s k hlt (by omega)).symm, rfl⟩
    · go_wp2
      go_ret
      exact ⟨ret_bool (smallB_all s k hlt hsm.out).symm, rfl⟩
theorem IsPhraseText_any (s : ByteArray) (hs : s.size ≤ maxLen) (w : World) : Calls Tryd.prog 71 #[.string s] w fun e w' => e = .returned (.bool (phraseB s.data.toList)) ∧ w = w' := by
  unfold maxLen at hs
  go_enter Tryd.func71, Tryd.ntmps71
  go_wp2_with (go_at_call 89; refine (isSmall_any _ hs _).mono ?_; rintro e w' ⟨rfl, rfl⟩)
  all_goals go_ret
  all_goals refine ⟨ret_bool ?_, rfl⟩
  · rw [phraseB_in _ (by simp; omega) (by simp; omega)]
  · rw [phraseB_out _ (by simp; omega)]
  · rw [phraseB_out _ (by simp; omega)]
theorem bkLetters_any (s : ByteArray) (hs : s.size ≤ maxLen) (w : World) : Calls Tryd.prog 65 #[.string s] w fun e w' => e = .returned (.bool (smallB s.data.toList && decide (s.size ≤ 12))) ∧ w = w' := by
  unfold maxLen at hs
  go_enter Tryd.func65, Tryd.ntmps65
  go_wp2
  go_loop [3] (fun i => ∃ k : Nat, k ≤ s.size ∧ i = .int .i64 k ∧ Hid (smallB (s.data.toList.take k) = true)) (fun i => s.size - (intOf i).toNat)
  case atStart => exact ⟨0, Nat.zero_le _, rfl, rfl⟩
  case round =>
    obtain ⟨k, hk, rfl, hsm⟩ := hrel
    by_cases hlt : k < s.size
    · go_wp2
      · go_ret
        exact ⟨ret_bool (by rw [smallB_no s k hlt (by omega)]; rfl), rfl⟩
      · go_round
        case rel => exact ⟨k + 1, by omega, by go_num, smallB_step s k hlt hsm.out (by omega) (by omega)⟩
        case measure => simp [intOf]; omega
      · go_ret
        exact ⟨ret_bool (by rw [smallB_no s k hlt (by omega)]; rfl), rfl⟩
    · go_wp2
      go_ret
      exact ⟨ret_bool (by rw [smallB_all s k hlt hsm.out, Bool.true_and]; exact decide_eq_decide.2 (by omega)), rfl⟩
theorem bkPhraseText_any (s : ByteArray) (hs : s.size ≤ maxLen) (w : World) : Calls Tryd.prog 44 #[.string s] w fun e w' => e = .returned (.bool (phraseB s.data.toList)) ∧ w = w' := by
  cases hsm : (smallB s.data.toList && decide (s.size ≤ 12))
  · go_enter Tryd.func44, Tryd.ntmps44
    go_wp2_with (go_at_call 65; refine (bkLetters_any _ hs _).mono ?_; rintro e w' ⟨rfl, rfl⟩)
    go_ret
    exact ⟨ret_bool (phraseB_of s false hsm).symm, rfl⟩
  · go_enter Tryd.func44, Tryd.ntmps44
    go_wp2_with (go_at_call 65; refine (bkLetters_any _ hs _).mono ?_; rintro e w' ⟨rfl, rfl⟩)
    go_ret
    exact ⟨ret_bool (phraseB_of s true hsm).symm, rfl⟩
end Go.Proofs.YtjnkdjokbamibaaDoor
/- Words on slices of integers in memory: one that can be read, one that the call has made, one that it appends to. -/
namespace Go.Proofs.YtjnkdjokbamibaaDoor
open Go.RowKit
/-- The slice value v of n elements, size cells each, reads as the cells xs; they lie in a block below number hi. -/
def Rd (w : World) (hi size : Nat) (v : Value) (n : Nat) (xs : List Value) : Prop :=
  xs.length = n * size ∧ ∃ A c, v = .slice A n c ∧ n ≤ c ∧ c ≤ maxLen ∧ (0 < n → ∃ b off, A = some ⟨b, off, Option.none⟩ ∧ b < hi ∧ ∀ j u, xs[j]? = some u → w.cell? ⟨b, off + j, Option.none⟩ = some u)
abbrev ints (xs : List Int) : List Value := xs.map (Value.int .i64)
def RdI (w : World) (hi : Nat) (v : Value) (xs : List Int) : Prop := Rd w hi 1 v xs.length (ints xs)
/-- v is a row of ints of the call's own, in a block from lo to below hi. -/
def OwI (w : World) (lo hi : Nat) (v : Value) (xs : List Int) : Prop := w.ownsRow lo 3 1 v xs.length (ints xs) ∧ ∀ k, v.ownBlock = some k → k < hi
/-- v is what has been appended since the world w; below block number B nothing has turned. -/
def GrowI (w : World) (B : Nat) (wr : World) (v : Value) (xs : List Int) : Prop := wr.ownsRow B 3 1 v xs.length (ints xs) ∧ Below B w wr ∧ B ≤ wr.heap.size
theorem Rd.below {w w' : World} {hi size n : Nat} {v : Value} {xs : List Value} (h : Rd w hi size v n xs) {B : Nat} (hb : Below B w w') (hB : hi ≤ B) : Rd w' hi size v n xs := by
  obtain ⟨h0, A, c, h1, h2, h3, h4⟩ := h
  refine ⟨h0, A, c, h1, h2, h3, fun hn => ?_⟩
  obtain ⟨b, off, hA, hbl, hc⟩ := h4 hn
  exact ⟨b, off, hA, hbl, fun j u hu => (hb.cell (p := ⟨b, off + j, Option.none⟩) (by show b < B; omega)).trans (hc j u hu)⟩
theorem Rd.mono {w : World} {hi hi' size n : Nat} {v : Value} {xs : List Value} (h : Rd w hi size v n xs) (hB : hi ≤ hi') : Rd w hi' size v n xs := by
  obtain ⟨h0, A, c, h1, h2, h3, h4⟩ := h
  refine ⟨h0, A, c, h1, h2, h3, fun hn => ?_⟩
  obtain ⟨b, off, hA, hbl, hc⟩ := h4 hn
  exact ⟨b, off, hA, by omega, hc⟩
theorem RdI.below {w w' : World} {hi : Nat} {v : Value} {xs : List Int} (h : RdI w hi v xs) {B : Nat} (hb : Below B w w') (hB : hi ≤ B) : RdI w' hi v xs := Rd.below h hb hB
theorem RdI.mono {w : World} {hi hi' : Nat} {v : Value} {xs : List Int} (h : RdI w hi v xs) (hB : hi ≤ hi') : RdI w hi' v xs := Rd.mono h hB
theorem rd_of_owns {w : World} {lo hi size n : Nat} {e : TypeId} {v : Value} {xs : List Value} (h : w.ownsRow lo e size v n xs) (hh : ∀ k, v.ownBlock = some k → k < hi) : Rd w hi size v n xs := by
  refine ⟨h.1, ?_⟩
  have hc := fun g => h.cells (g := g)
  rcases h.2 with ⟨rfl, rfl⟩ | ⟨g, cap, cur, rfl, hb, hg, hn, hm, hs, ht⟩
  · exact ⟨Option.none, 0, rfl, Nat.le_refl _, Nat.zero_le _, fun h => absurd h (by omega)⟩
  · refine ⟨some ⟨g, 0, Option.none⟩, cap, rfl, hn, hm, fun _ => ⟨g, 0, rfl, hh g rfl, fun j u hu => ?_⟩⟩
    have := hc g rfl j u hu
    have hadd : (⟨g, 0, Option.none⟩ : Addr).add j = ⟨g, 0 + j, Option.none⟩ := by unfold Addr.add; split <;> simp_all
    rwa [hadd] at this
theorem OwI.rd {w : World} {lo hi : Nat} {v : Value} {xs : List Int} (h : OwI w lo hi v xs) : RdI w hi v xs := rd_of_owns h.1 h.2
theorem OwI.below {w w' : World} {lo hi : Nat} {v : Value} {xs : List Int} (h : OwI w lo hi v xs) {B : Nat} (hb : Below B w w') (hB : hi ≤ B) : OwI w' lo hi v xs := by
  refine ⟨⟨h.1.1, ?_⟩, h.2⟩
  have h2 := h.2
  rcases h.1.2 with hn | ⟨g, cap, cur, rfl, hl, hg, rest⟩
  · exact .inl hn
  · exact .inr ⟨g, cap, cur, rfl, hl, (hb.block g (by have := h2 g rfl; omega)).trans hg, rest⟩
theorem GrowI.start (w : World) : GrowI w w.heap.size w (.slice Option.none 0 0) [] := ⟨World.ownsRow_nil _ _ _ _, Below.refl _ _, Nat.le_refl _⟩
theorem GrowI.own {w wr : World} {B : Nat} {v : Value} {xs : List Int} (h : GrowI w B wr v xs) : OwI wr B wr.heap.size v xs := ⟨h.1, fun k hk => (h.1.lt k hk).2⟩
theorem GrowI.bel {w wr : World} {B : Nat} {v : Value} {xs : List Int} (h : GrowI w B wr v xs) : Below B w wr := h.2.1
theorem info_int : (Tryd.prog.info? 3).map (fun i => (i.zero, i.size, i.bytes)) = some (some (.int .i64 0), 1, 8) := by kernel_rfl
theorem one_cell (w : World) (u : Value) (t : TypeId) (j : Nat) (x : Value) (h : [u][j]? = some x) : (w.alloc (.cells #[u] t)).cell? ((⟨w.heap.size, 0, Option.none⟩ : Addr).add j) = some x := by
  match j, h with
  | 0, h => simp at h; subst h; simp [Addr.add]
theorem GrowI.app {w wr : World} {B : Nat} {v : Value} {xs : List Int} {ops : Array Oper} {rest : List Oper} {o : Oper} {a : Act} {Q : Exit → Act → World → Prop} {y : Int} (hgd : o.guard = Option.none) (s x : Operand)
    (ho : o.op = .call { callee := .builtin .append, args := #[s, x], argTypes := #[30, 30] }) (hG : GrowI w B wr v xs) (hlen : xs.length < 1099511627776)
    (hs : a.eval s = v) (hx : a.eval x = .slice (some ⟨wr.heap.size, 0, Option.none⟩) 1 1)
    (h : ∀ v' w', GrowI w B w' v' (xs ++ [y]) → wpList Tryd.prog ops Q rest (a.put o.dst v') w') : wpList Tryd.prog ops Q (o :: rest) a (wr.alloc (.cells #[.int .i64 y] 3)) := by
  obtain ⟨i, hi, hz0, hz1, hz2⟩ := info_parts info_int
  refine wpList_append_own _ hgd s x 30 ho B 3 i (.int .i64 0) 1 8 Tryd.underlying30 hi hz0 hz1 hz2 rfl (by decide) v xs.length (ints xs) hs (hG.1.alloc _) ⟨wr.heap.size, 0, Option.none⟩ 1 1 [.int .i64 y] hx rfl
    (one_cell _ _ _) (by intro u hu; simp at hu; subst hu; rfl) (by unfold maxLen; omega) (by omega) (by simp; have := hG.2.2; omega) ?_
  intro v' w' hown hgr _
  refine h v' w' ⟨?_, ?_, ?_⟩
  · simpa [ints] using hown
  · exact (hG.2.1.alloc hG.2.2 _).grown hgr (by simp; have := hG.2.2; omega) (fun k hk => ((hG.1.alloc (.cells #[.int .i64 y] 3)).lt k hk).1)
  · have h1 := hgr.size; have h2 := hG.2.2; simp at h1; omega
end Go.Proofs.YtjnkdjokbamibaaDoor
/- Contracts of the helpers of the laws on slices of integers: copies, comparisons, marks; and of the tests that all numbers of a list lie within bounds. -/
namespace Go.Proofs.YtjnkdjokbamibaaDoor
open Go.RowKit
/-- Block g is just the cells cs of element type t. -/
def Blk (w : World) (g : Nat) (t : TypeId) (cs : List Value) : Prop := w.heap[g]? = some (.cells cs.toArray t (0, 0))
section
variable {w w' : World} {g : Nat} {t : TypeId} {cs : List Value}
theorem Blk.lt (h : Blk w g t cs) : g < w.heap.size := by
  rcases Nat.lt_or_ge g w.heap.size with hlt | hge
  · exact hlt
  · unfold Blk at h; rw [Array.getElem?_eq_none hge] at h; cases h
theorem Blk.cell (h : Blk w g t cs) (i : Nat) : w.cell? ⟨g, i, Option.none⟩ = cs[i]? := by
  have := cell_of_row w g i cs.toArray t (0, 0) h
  rw [this]; simp
theorem Blk.frozen (h : Blk w g t cs) (i : Nat) : w.frozen? ⟨g, i, Option.none⟩ = false := by
  unfold Blk at h
  simp [World.frozen?, h]
theorem Blk.new (w : World) (t : TypeId) (cs : Array Value) : Blk (w.alloc (.cells cs t)) w.heap.size t cs.toList := heap_alloc_new w _
theorem Blk.alloc (h : Blk w g t cs) (o : Obj) : Blk (w.alloc o) g t cs := (Below.heap_alloc w o g h.lt).trans h
theorem Blk.set_ (h : Blk w g t cs) (i : Nat) (u : Value) : Blk (w.setCell ⟨g, i, Option.none⟩ u) g t (cs.set i u) := by
  unfold Blk at h ⊢
  simp [World.setCell, Array.getElem?_modify, h]
theorem Blk.far (h : Blk w g t cs) {p : Addr} (hp : g ≠ p.block) (u : Value) : Blk (w.setCell p u) g t cs := (Below.heap_setCell w p u g hp).trans h
theorem Blk.below {B : Nat} (h : Blk w g t cs) (hb : Below B w w') (hg : g < B) : Blk w' g t cs := (hb.block g hg).trans h
end
theorem bel_drewN (B : Nat) (w : World) (n : Nat) : Below B w (w.drewN n) := ⟨rfl, rfl, rfl, Nat.le_refl _, fun _ _ => rfl⟩
theorem set_mid (A B : List Value) (u v : Value) : (A ++ u :: B).set A.length v = A ++ v :: B := by
  rw [List.set_append_right _ _ (Nat.le_refl _)]; simp
/-- Nothing outside the blocks from lo to below hi has turned, and none has come. -/
structure Keep (lo hi : Nat) (w w' : World) : Prop where
  os : w'.os = w.os
  tape : w'.tape = w.tape
  output : w'.output = w.output
  size : w'.heap.size = w.heap.size
  block : ∀ k, k < lo ∨ hi ≤ k → w'.heap[k]? = w.heap[k]?
theorem Keep.refl (lo hi : Nat) (w : World) : Keep lo hi w w := ⟨rfl, rfl, rfl, rfl, fun _ _ => rfl⟩
theorem Keep.trans {lo hi : Nat} {a b c : World} (h : Keep lo hi a b) (k : Keep lo hi b c) : Keep lo hi a c :=
  ⟨k.os.trans h.os, k.tape.trans h.tape, k.output.trans h.output, k.size.trans h.size, fun i hi => (k.block i hi).trans (h.block i hi)⟩
theorem Keep.mono {lo hi lo' hi' : Nat} {w w' : World} (h : Keep lo hi w w') (h1 : lo' ≤ lo) (h2 : hi ≤ hi') : Keep lo' hi' w w' :=
  ⟨h.os, h.tape, h.output, h.size, fun k hk => h.block k (by omega)⟩
theorem Keep.setCell {lo hi : Nat} {a w : World} (h : Keep lo hi a w) {p : Addr} (h1 : lo ≤ p.block) (h2 : p.block < hi) (u : Value) : Keep lo hi a (w.setCell p u) :=
  h.trans ⟨rfl, rfl, rfl, by simp [World.setCell], fun k hk => Below.heap_setCell _ _ _ _ (by omega)⟩
theorem Keep.bel {lo hi : Nat} {w w' : World} (h : Keep lo hi w w') : Below lo w w' := ⟨h.os, h.tape, h.output, Nat.le_of_eq h.size.symm, fun k hk => h.block k (.inl hk)⟩
/-- Nothing but block b has turned, and none has come. -/
structure Only (b : Option Nat) (w w' : World) : Prop where
  os : w'.os = w.os
  tape : w'.tape = w.tape
  output : w'.output = w.output
  size : w'.heap.size = w.heap.size
  block : ∀ k, some k ≠ b → w'.heap[k]? = w.heap[k]?
theorem Only.refl (b : Option Nat) (w : World) : Only b w w := ⟨rfl, rfl, rfl, rfl, fun _ _ => rfl⟩
theorem Only.setCell {b : Nat} {a w : World} (h : Only (some b) a w) {p : Addr} (hp : p.block = b) (u : Value) : Only (some b) a (w.setCell p u) :=
  ⟨h.os, h.tape, h.output, by simpa [World.setCell] using h.size, fun k hk => (Below.heap_setCell _ _ _ _ (by rintro rfl; exact hk (by rw [hp]))).trans (h.block k hk)⟩
theorem Only.keep {b : Option Nat} {lo hi : Nat} {w w' : World} (h : Only b w w') (hb : ∀ g, b = some g → lo ≤ g ∧ g < hi) : Keep lo hi w w' :=
  ⟨h.os, h.tape, h.output, h.size, fun k hk => h.block k (fun e => by have := hb k e.symm; omega)⟩
theorem OwI.only {w w' : World} {lo hi : Nat} {b : Option Nat} {v : Value} {xs : List Int} (h : OwI w lo hi v xs) (hk : Only b w w') (hd : ∀ g, v.ownBlock = some g → b ≠ some g) : OwI w' lo hi v xs := by
  refine ⟨⟨h.1.1, ?_⟩, h.2⟩
  rcases h.1.2 with hn | ⟨g, cap, cur, rfl, hl, hg, rest⟩
  · exact .inl hn
  · exact .inr ⟨g, cap, cur, rfl, hl, (hk.block g (fun e => hd g rfl e.symm)).trans hg, rest⟩
theorem OwI.range {w : World} {lo hi : Nat} {v : Value} {xs : List Int} (h : OwI w lo hi v xs) : ∀ g, v.ownBlock = some g → lo ≤ g ∧ g < hi := fun g hg => ⟨(h.1.lt g hg).1, h.2 g hg⟩
theorem OwI.keep {w w' : World} {lo hi a b : Nat} {v : Value} {xs : List Int} (h : OwI w lo hi v xs) (hk : Keep a b w w') (hd : hi ≤ a ∨ b ≤ lo) : OwI w' lo hi v xs := by
  refine ⟨⟨h.1.1, ?_⟩, h.2⟩
  have h2 := h.2
  rcases h.1.2 with hn | ⟨g, cap, cur, rfl, hl, hg, rest⟩
  · exact .inl hn
  · exact .inr ⟨g, cap, cur, rfl, hl, (hk.block g (by have := h2 g rfl; omega)).trans hg, rest⟩
/-- Room for n integers, all 0, behind a name. -/
def zeros (n : Nat) : Array Value := (List.replicate n (Value.int .i64 0)).toArray
theorem Rd.at_ {w : World} {hi : Nat} {v : Value} {n : Nat} {xs : List Int} (h : Rd w hi 1 v n (ints xs)) {k : Nat} (hk : k < n) :
    ∃ b off c y, v = .slice (some ⟨b, off, Option.none⟩) n c ∧ b < hi ∧ xs[k]? = some y ∧ w.cell? ⟨b, off + k, Option.none⟩ = some (.int .i64 y) := by
  obtain ⟨h0, A, c, h1, _, _, h4⟩ := h
  obtain ⟨b, off, rfl, hb, hc⟩ := h4 (by omega)
  have hl : xs.length = n := by simpa using h0
  exact ⟨b, off, c, xs[k], h1, hb, by simp [hl, hk], hc k _ (by simp [hl, hk])⟩
theorem Rd.form {w : World} {hi size : Nat} {v : Value} {n : Nat} {xs : List Value} (h : Rd w hi size v n xs) : ∃ A c, v = .slice A n c ∧ n ≤ c ∧ n ≤ 9223372036854775807 := by
  obtain ⟨_, A, c, h1, h2, h3, _⟩ := h
  exact ⟨A, c, h1, h2, by unfold maxLen at h3; omega⟩
def allB (xs : List Int) (a b : Int) : Bool := xs.all fun x => inB x a b
theorem take_snocI {xs : List Int} {k : Nat} {y : Int} (h : xs[k]? = some y) : xs.take (k + 1) = xs.take k ++ [y] := by rw [List.take_add_one, h]; rfl
theorem allB_take {xs : List Int} {k : Nat} {y a b : Int} (h : xs[k]? = some y) (ht : allB (xs.take k) a b = true) (hy : inB y a b = true) : allB (xs.take (k + 1)) a b = true := by
  rw [take_snocI h]; unfold allB at *; rw [List.all_append, ht]; simp [hy]
theorem allB_no {xs : List Int} {k : Nat} {y a b : Int} (h : xs[k]? = some y) (hy : inB y a b = false) : allB xs a b = false := by
  unfold allB; rw [List.all_eq_false]
  exact ⟨y, List.mem_of_getElem? h, by simp [hy]⟩
theorem allB_full {xs : List Int} {k : Nat} {a b : Int} (h : ¬ k < xs.length) (ht : allB (xs.take k) a b = true) : allB xs a b = true := by rwa [List.take_of_length_le (by omega)] at ht
theorem allWithin_any (xs : List Int) (a b : Int) (v : Value) (hi : Nat) (w : World) (h : RdI w hi v xs) : Calls Tryd.prog 58 #[v, .int .i64 a, .int .i64 b] w fun e w' => e = .returned (.bool (allB xs a b)) ∧ w = w' := by
  obtain ⟨A, c, rfl, hc, hm⟩ := Rd.form h
  have H := Lib.hid h
  clear h
  go_enter Tryd.func58, Tryd.ntmps58
  go_wp2
  go_loop [11] (fun i => ∃ k : Nat, k ≤ xs.length ∧ i = .int .i64 k ∧ Hid (allB (xs.take k) a b = true)) (fun i => xs.length - (intOf i).toNat)
  case atStart => exact ⟨0, Nat.zero_le _, rfl, rfl⟩
  case round =>
    obtain ⟨k, hk, rfl, hall⟩ := hrel
    by_cases hlt : k < xs.length
    · obtain ⟨b', off, c', y, hv, _, hy, hcell⟩ := Rd.at_ H.out hlt
      cases hv
      have HY := Lib.hid hy
      clear hy
      cases hin : inB y a b
      · go_wp2_with (go_at_call 52; refine (within_any _ _ _ _).mono ?_; rintro e w' ⟨rfl, rfl⟩)
        go_ret
        exact ⟨ret_bool (allB_no HY.out hin).symm, rfl⟩
      · go_wp2_with (go_at_call 52; refine (within_any _ _ _ _).mono ?_; rintro e w' ⟨rfl, rfl⟩)
        go_round
        case rel => exact ⟨k + 1, by omega, by go_num, allB_take HY.out hall.out hin⟩
        case measure => simp [intOf]; omega
    · go_wp2
      go_ret
      exact ⟨ret_bool (allB_full hlt hall.out).symm, rfl⟩
theorem l1All_any (xs : List Int) (a b : Int) (v : Value) (hi : Nat) (w : World) (h : RdI w hi v xs) : Calls Tryd.prog 57 #[v, .int .i64 a, .int .i64 b] w fun e w' => e = .returned (.bool (allB xs a b)) ∧ w = w' := by
  obtain ⟨A, c, rfl, hc, hm⟩ := Rd.form h
  have H := Lib.hid h
  clear h
  go_enter Tryd.func57, Tryd.ntmps57
  go_wp2
  go_loop [11] (fun i => ∃ k : Nat, k ≤ xs.length ∧ i = .int .i64 k ∧ Hid (allB (xs.take k) a b = true)) (fun i => xs.length - (intOf i).toNat)
  case atStart => exact ⟨0, Nat.zero_le _, rfl, rfl⟩
  case round =>
    obtain ⟨k, hk, rfl, hall⟩ := hrel
    by_cases hlt : k < xs.length
    · obtain ⟨b', off, c', y, hv, _, hy, hcell⟩ := Rd.at_ H.out hlt
      cases hv
      have HY := Lib.hid hy
      clear hy
      cases hin : inB y a b
      · go_wp2_with (go_at_call 43; refine (l1In_any _ _ _ _).mono ?_; rintro e w' ⟨rfl, rfl⟩)
        go_ret
        exact ⟨ret_bool (allB_no HY.out hin).symm, rfl⟩
      · go_wp2_with (go_at_call 43; refine (l1In_any _ _ _ _).mono ?_; rintro e w' ⟨rfl, rfl⟩)
        go_round
        case rel => exact ⟨k + 1, by omega, by go_num, allB_take HY.out hall.out hin⟩
        case measure => simp [intOf]; omega
    · go_wp2
      go_ret
      exact ⟨ret_bool (allB_full hlt hall.out).symm, rfl⟩
theorem eq_take {xs ys : List Int} {k : Nat} {y : Int} (hx : xs[k]? = some y) (hy : ys[k]? = some y) (ht : xs.take k = ys.take k) : xs.take (k + 1) = ys.take (k + 1) := by rw [take_snocI hx, take_snocI hy, ht]
theorem eq_no {xs ys : List Int} {k : Nat} {x y : Int} (hx : xs[k]? = some x) (hy : ys[k]? = some y) (hne : x ≠ y) : decide (xs = ys) = false := by
  rw [decide_eq_false_iff_not]; rintro rfl; rw [hx] at hy; cases hy; exact hne rfl
theorem eq_full {xs ys : List Int} {k : Nat} (h : ¬ k < xs.length) (hl : xs.length = ys.length) (ht : xs.take k = ys.take k) : decide (xs = ys) = true := by
  rw [List.take_of_length_le (by omega), List.take_of_length_le (by omega)] at ht; simp [ht]
theorem eqIntS_any (xs ys : List Int) (v u : Value) (hi hj : Nat) (w : World) (h : RdI w hi v xs) (g : RdI w hj u ys) : Calls Tryd.prog 15 #[v, u] w fun e w' => e = .returned (.bool (decide (xs = ys))) ∧ ∃ n, w' = w.drewN n := by
  obtain ⟨A, c, rfl, hc, hm⟩ := Rd.form h
  obtain ⟨A', c', rfl, hc', hm'⟩ := Rd.form g
  have H := Lib.hid h
  have G := Lib.hid g
  clear h g
  by_cases hl : xs.length = ys.length
  · have HL := Lib.hid hl
    rw [← hl]
    rw [← hl] at hc' hm'
    clear hl
    go_enter Tryd.func15, Tryd.ntmps15
    go_wp2
    go_loopw [5] (fun i wr => ∃ k : Nat, k ≤ xs.length ∧ i = .int .i64 k ∧ Hid (xs.take k = ys.take k) ∧ ∃ n, wr = w.drewN n) (fun i _ => xs.length - (intOf i).toNat)
    case atStart => exact ⟨0, Nat.zero_le _, rfl, rfl, 0, rfl⟩
    case round =>
      obtain ⟨k, hk, rfl, heq, n, rfl⟩ := hrel
      by_cases hlt : k < xs.length
      · obtain ⟨b1, o1, c1, x, hv, _, hx, hcell1⟩ := Rd.at_ H.out hlt
        cases hv
        obtain ⟨b2, o2, c2, y, hv, _, hy, hcell2⟩ := Rd.at_ G.out (by rw [← HL.out]; exact hlt)
        have HX := Lib.hid hx
        have HY := Lib.hid hy
        injection hv with hv1 hv2 hv3
        subst hv1
        clear hx hy hv2 hv3
        by_cases hxy : x = y
        · subst hxy
          go_wp2
          go_quiet (fail)
          go_wp2
          go_roundw
          case rel => exact ⟨k + 1, by omega, by go_num, eq_take HX.out HY.out heq.out, _, rfl⟩
          case measure => simp [intOf]; omega
        · have hbe : (x == y) = false := by simpa using hxy
          have hbn : (x != y) = true := by simpa using hxy
          go_wp2
          go_quiet (fail)
          go_wp2
          go_ret
          exact ⟨ret_bool (eq_no HX.out HY.out hxy).symm, _, World.drewN_drewN _ _ _⟩
      · go_wp2
        go_ret
        exact ⟨ret_bool (eq_full hlt HL.out heq.out).symm, _, rfl⟩
  · have hne : (((xs.length : Nat) : Int) != ((ys.length : Nat) : Int)) = true := by rw [bne_iff_ne]; omega
    go_enter Tryd.func15, Tryd.ntmps15
    go_wp2
    go_ret
    refine ⟨ret_bool ?_, 0, rfl⟩
    symm; rw [decide_eq_false_iff_not]; rintro rfl; exact hl rfl
/-- n numbers from k on. -/
def marks (k n : Nat) : List Int := (List.range n).map fun i : Nat => ((k + i : Nat) : Int)
theorem marks_len (k n : Nat) : (marks k n).length = n := by simp [marks]
theorem marks_succ (k n : Nat) : marks k (n + 1) = marks k n ++ [((k + n : Nat) : Int)] := by simp [marks, List.range_succ]
theorem marks_at {k n j : Nat} (h : j < n) : (marks k n)[j]? = some ((k + j : Nat) : Int) := by simp [marks, h]
/-- Behind j rounds: j marks, then what was there. -/
def mixI (k j : Nat) (xs : List Int) (rest : List Value) : List Value := ints (marks k j) ++ (ints (xs.drop j) ++ rest)
theorem mixI_step {k j : Nat} {xs : List Int} {rest : List Value} (h : j < xs.length) : (mixI k j xs rest).set j (.int .i64 ((k + j : Nat) : Int)) = mixI k (j + 1) xs rest := by
  have e : xs.drop j = xs[j] :: xs.drop (j + 1) := List.drop_eq_getElem_cons h
  have hl : (ints (marks k j)).length = j := by simp [marks_len]
  unfold mixI
  rw [e]
  have := set_mid (ints (marks k j)) (ints (xs.drop (j + 1)) ++ rest) (.int .i64 xs[j]) (.int .i64 ((k + j : Nat) : Int))
  rw [hl] at this
  simp only [ints, List.map_cons, List.cons_append] at this ⊢
  rw [this, marks_succ]; simp
theorem mixI_at {k j : Nat} {xs : List Int} {rest : List Value} (h : j < xs.length) : ∃ u, (mixI k j xs rest)[j]? = some (.int .i64 u) := by
  have hl : (ints (marks k j)).length = j := by simp [marks_len]
  unfold mixI
  rw [List.getElem?_append_right (by omega), hl, Nat.sub_self, List.drop_eq_getElem_cons h]
  exact ⟨xs[j], rfl⟩
set_option maxHeartbeats 400000 in
theorem markIntS_only (xs : List Int) (v : Value) (lo hi k : Nat) (w : World) (h : OwI w lo hi v xs) (hk : k ≤ 1099511627776) (hlen : xs.length ≤ 1099511627776) :
    Calls Tryd.prog 22 #[v, .int .i64 (k : Int)] w fun e w' => e = .returned (.int .i64 ((k + xs.length : Nat) : Int)) ∧ OwI w' lo hi v (marks k xs.length) ∧ Only v.ownBlock w w' := by
  rcases h.1.2 with ⟨rfl, hn⟩ | ⟨g, cap, cur, rfl, hg1, hg2, hcap, hm, hs, ht⟩
  · have : xs = [] := List.eq_nil_of_length_eq_zero hn
    subst this
    have H := Lib.hid h
    clear h hn
    go_enter Tryd.func22, Tryd.ntmps22
    go_wp2
    go_loop [1, 5] (fun q i => i = .int .i64 0 ∧ q = .int .i64 (k : Int)) (fun _ _ => 0)
    case atStart => exact ⟨rfl, rfl⟩
    case round =>
      obtain ⟨rfl, rfl⟩ := hrel
      go_wp2
      go_ret
      exact ⟨rfl, H.out, Only.refl _ _⟩
  · have hg3 := h.2 g rfl
    have hrest : ∃ rest, cur.toList = ints xs ++ rest ∧ rest.length = cap - xs.length := ⟨cur.toList.drop xs.length, by rw [← List.take_append_drop xs.length cur.toList]; congr 1 <;> simp_all, by simp; omega⟩
    obtain ⟨rest, hcur, hrl⟩ := hrest
    have hb0 : Blk w g 3 (mixI k 0 xs rest) := by
      unfold Blk; rw [hg2]; congr 2
      unfold mixI; simp [marks, ← hcur]
    have HL := Lib.hid hrl
    clear hg2 hs ht hcur hrl h
    unfold maxLen at hm
    go_enter Tryd.func22, Tryd.ntmps22
    go_wp2
    go_loopw [1, 5] (fun q i wr => ∃ j : Nat, j ≤ xs.length ∧ i = .int .i64 j ∧ q = .int .i64 ((k + j : Nat) : Int) ∧ Blk wr g 3 (mixI k j xs rest) ∧ Only (some g) w wr) (fun _ i _ => xs.length - (intOf i).toNat)
    case atStart => exact ⟨0, Nat.zero_le _, rfl, rfl, hb0, Only.refl _ _⟩
    case round =>
      obtain ⟨j, hj, rfl, rfl, hblk, hkeep⟩ := hrel
      by_cases hlt : j < xs.length
      · obtain ⟨u, hu⟩ := mixI_at (k := k) (rest := rest) hlt
        have hcell2 := hblk.cell j
        rw [hu] at hcell2
        have hfr := hblk.frozen j
        clear hu
        go_wp2
        go_roundw
        case rel => exact ⟨j + 1, by omega, by go_num, int_val (by omega), by rw [← mixI_step hlt]; exact hblk.set_ _ _, hkeep.setCell (p := ⟨g, j, Option.none⟩) rfl _⟩
        case measure => simp [intOf]; omega
      · obtain rfl : j = xs.length := by omega
        go_wp2
        go_ret
        refine ⟨rfl, ⟨⟨by simp [marks_len], .inr ⟨g, cap, (mixI k xs.length xs rest).toArray, by rw [marks_len], hg1, hblk, by rw [marks_len]; exact hcap, by unfold maxLen; omega, ?_, ?_⟩⟩, fun q hq => by cases hq; exact hg3⟩, hkeep⟩
        · have := HL.out; simp [mixI, marks_len]; omega
        · simp [mixI, marks_len, ints]
theorem heldIntS_any (n : Nat) (v : Value) (hi k : Nat) (w : World) (h : RdI w hi v (marks k n)) (hk : k ≤ 1099511627776) (hlen : n ≤ 1099511627776) :
    Calls Tryd.prog 23 #[v, .int .i64 (k : Int)] w fun e w' => e = .returned (.int .i64 ((k + n : Nat) : Int)) ∧ w = w' := by
  unfold RdI at h
  rw [marks_len] at h
  obtain ⟨A, c, rfl, hc, hm⟩ := Rd.form h
  have H := Lib.hid h
  clear h
  go_enter Tryd.func23, Tryd.ntmps23
  go_wp2
  go_loop [1, 5] (fun q i => ∃ j : Nat, j ≤ n ∧ i = .int .i64 j ∧ q = .int .i64 ((k + j : Nat) : Int)) (fun _ i => n - (intOf i).toNat)
  case atStart => exact ⟨0, Nat.zero_le _, rfl, rfl⟩
  case round =>
    obtain ⟨j, hj, rfl, rfl⟩ := hrel
    by_cases hlt : j < n
    · obtain ⟨b1, o1, c1, x, hv, _, hx, hcell1⟩ := Rd.at_ H.out hlt
      cases hv
      rw [marks_at hlt] at hx
      cases hx
      go_wp2
      go_round
      case rel => exact ⟨j + 1, by omega, by go_num, int_val (by omega)⟩
      case measure => simp [intOf]; omega
    · obtain rfl : j = n := by omega
      go_wp2
      go_ret
      exact ⟨rfl, rfl⟩
/-- Two results: a row of ints of the call's own, and a bool. -/
def RetOwT (xs : List Int) (b : Bool) (w : World) (e : Ending) (w' : World) : Prop := ∃ v, e = .returned (.tuple #[v, .bool b]) ∧ OwI w' w.heap.size w'.heap.size v xs ∧ Below w.heap.size w w'
theorem OwI.form {w : World} {lo hi : Nat} {v : Value} {xs : List Int} (h : OwI w lo hi v xs) : ∃ A c, v = .slice A xs.length c ∧ xs.length ≤ 9223372036854775807 := by
  obtain ⟨A, c, h1, _, h2⟩ := Rd.form h.rd
  exact ⟨A, c, h1, h2⟩
theorem eqIntS_same (xs : List Int) (v u : Value) (hi hj : Nat) (w : World) (h : RdI w hi v xs) (g : RdI w hj u xs) : Calls Tryd.prog 15 #[v, u] w fun e w' => e = .returned (.bool true) ∧ ∃ n, w' = w.drewN n :=
  (eqIntS_any xs xs v u hi hj w h g).mono fun _ _ ⟨he, hw⟩ => ⟨by rw [he]; simp, hw⟩
theorem eqIntS_sameB (xs : List Int) (v u : Value) (hi hj : Nat) (w : World) (h : RdI w hi v xs) (g : RdI w hj u xs) : Calls Tryd.prog 15 #[v, u] w fun e w' => e = .returned (.bool true) ∧ Below w.heap.size w w' :=
  (eqIntS_same xs v u hi hj w h g).mono fun _ _ ⟨he, _, hw⟩ => ⟨he, by rw [hw]; exact bel_drewN _ _ _⟩
end Go.Proofs.YtjnkdjokbamibaaDoor
/- Appending a slice of integers, whatever it is, to a row of the call's own; a copy of a slice. -/
namespace Go.Proofs.YtjnkdjokbamibaaDoor
open Go.RowKit
theorem run_append_nil {P : Program} {w : World} (base : Nat) (t ty e : TypeId) (i : TypeInfo) (size : Nat) (ht : P.underlying t = some (.slice e)) (hi : P.info? e = some i)
    (v : Value) (n : Nat) (xs : List Value) (hown : w.ownsRow base e size v n xs) (c : Nat) : (Builtin.append_ #[t, t] ty #[v, .slice Option.none 0 c]).run P w = .ok v w := by
  rcases hown.2 with ⟨rfl, rfl⟩ | ⟨g, cap, cur, rfl, _, _, hnc, _⟩
  · simp [Builtin.append_, run_underlying ht, sizeOf, typeInfo, hi, Builtin.lenOf, Builtin.firstCells]
  · simp [Builtin.append_, run_underlying ht, sizeOf, typeInfo, hi, Builtin.lenOf, Builtin.firstCells, hnc, storeCells]
/-- An empty row that the call has made. -/
theorem GrowI.made (w : World) : GrowI w w.heap.size (w.alloc (.cells #[] 3)) (.slice (some ⟨w.heap.size, 0, Option.none⟩) 0 0) [] := by
  refine ⟨?_, (Below.refl _ _).alloc (Nat.le_refl _) _, by simp⟩
  have := World.ownsRow_made (w := w) (base := w.heap.size) (e := 3) (size := 1) #[] 0 (Nat.le_refl _) (Nat.zero_le _) rfl
  exact this
theorem GrowI.belowR {w wr wr' : World} {B : Nat} {v : Value} {xs : List Int} (h : GrowI w B wr v xs) (hb : Below wr.heap.size wr wr') : GrowI w B wr' v xs :=
  ⟨(h.own.below hb (Nat.le_refl _)).1, h.2.1.trans (hb.mono h.2.2), Nat.le_trans h.2.2 hb.size⟩
theorem GrowI.nil {w wr : World} (hb : Below w.heap.size w wr) : GrowI w w.heap.size wr (.slice Option.none 0 0) [] := ⟨World.ownsRow_nil _ _ _ _, hb, hb.size⟩
theorem retOwT {w wr : World} {v : Value} {xs : List Int} (b : Bool) (h : GrowI w w.heap.size wr v xs) : RetOwT xs b w (.returned (.tuple #[v, .bool b])) wr := ⟨v, rfl, h.own, h.bel⟩
end Go.Proofs.YtjnkdjokbamibaaDoor
