/- Contracts: the search of the least lengths. -/
import Derived.Test.YtabiobjcfopakaaR2
import Derived.Test.YtabiobjcfopakaaR7
import Derived.Test.YtabiobjcfopakaaE3
namespace Go.Proofs.Ytabiobjcfopakaa
open Go.RowKit
/-- One number is appended to a row of the call's own: it goes behind the row, or the row goes to a new block. -/
theorem run_appI {w : World} {B : Nat} {v : Value} {xs : List Int} {y : Int} (ty : TypeId) (hown : w.ownsRow B 3 1 v xs.length (ints xs)) (hlen : xs.length < 1048576) (hB : B ≤ w.heap.size) (ad : Addr)
    (hnew : ∀ j u, [Value.int .i64 y][j]? = some u → w.cell? (ad.add j) = some u) :
    ∃ v' w', (Builtin.append_ #[29, 29] ty #[v, .slice (some ad) 1 1]).run Try.prog w = .ok v' w' ∧ w'.ownsRow B 3 1 v' (xs.length + 1) (ints (xs ++ [y])) ∧ w.grownBy w' v.ownBlock ∧ ∀ g, v'.ownBlock = some g → v.ownBlock = some g ∨ w.heap.size ≤ g := by
  obtain ⟨i, hi, hz0, hz1, hz2⟩ := info_parts info_int
  have h1 : ∀ u ∈ [Value.int .i64 y], u.oneCell' = true := by intro u hu; simp at hu; subst hu; rfl
  obtain ⟨v', w', hr, ho, hg, _⟩ := run_append_own (P := Try.prog) w B 29 ty 3 i (.int .i64 0) 1 8 Try.underlying29 hi hz0 hz1 hz2 rfl (by decide) v xs.length (ints xs) hown ad 1 1 [.int .i64 y] rfl hnew h1 (by unfold maxLen; omega) (by omega) hB
  refine ⟨v', w', hr, by simpa [ints] using ho, hg, ?_⟩
  rcases hown.2 with ⟨rfl, hn⟩ | ⟨g, cap, cur, rfl, hbg, hgg, hnc, hcm, hcs, htake⟩
  · have hx : xs = [] := List.eq_nil_of_length_eq_zero hn
    subst hx
    have h2 := _root_.Go.run_append_nil (P := Try.prog) w 29 ty 3 i (.int .i64 0) Try.underlying29 hi hz0 ad 1 1 [.int .i64 y] (by rw [hz1]; rfl) hnew (by omega) (by omega) (by rw [hz2]; omega)
    rw [h2] at hr
    cases hr
    intro g hg2
    cases hg2
    exact .inr (Nat.le_refl _)
  · by_cases hroom : xs.length + 1 ≤ cap
    · have h2 := run_append_room (P := Try.prog) w 29 ty 3 i Try.underlying29 hi g xs.length cap cur hgg ad 1 1 [.int .i64 y] (by rw [hz1]; rfl) hnew h1 hroom (by rw [hz1, hcs]; simp; omega)
      rw [h2] at hr
      cases hr
      intro g2 hg2
      exact .inl hg2
    · have hfit : Builtin.nextslicecap (xs.length + 1) cap * i.bytes ≤ 281474976710656 := by rw [hz2]; exact growslice_fits (by omega) (by omega)
      have h2 := run_append_grow (P := Try.prog) w 29 ty 3 i (.int .i64 0) Try.underlying29 hi hz0 ⟨g, 0, Option.none⟩ xs.length cap (ints xs) (by rw [hz1]; simp) (hown.cells (g := g) rfl) ad 1 1 [.int .i64 y] (by rw [hz1]; rfl) hnew (by omega) (by omega) hfit
      rw [h2] at hr
      cases hr
      intro g2 hg2
      cases hg2
      exact .inr (Nat.le_refl _)
theorem wpList_appI {w : World} {B : Nat} {v : Value} {xs : List Int} {y : Int} {ops : Array Oper} {rest : List Oper} {o : Oper} {a : Act} {Q : Exit → Act → World → Prop} (hgd : o.guard = Option.none) (s x : Operand)
    (ho : o.op = .call { callee := .builtin .append, args := #[s, x], argTypes := #[29, 29] }) (hown : w.ownsRow B 3 1 v xs.length (ints xs)) (hlen : xs.length < 1048576) (hB : B ≤ w.heap.size)
    (hs : a.eval s = v) (hx : a.eval x = .slice (some ⟨w.heap.size, 0, Option.none⟩) 1 1)
    (h : ∀ v' w', w'.ownsRow B 3 1 v' (xs.length + 1) (ints (xs ++ [y])) → (w.alloc (.cells #[.int .i64 y] 3)).grownBy w' v.ownBlock → (∀ g, v'.ownBlock = some g → v.ownBlock = some g ∨ w.heap.size < g) → wpList Try.prog ops Q rest (a.put o.dst v') w') :
    wpList Try.prog ops Q (o :: rest) a (w.alloc (.cells #[.int .i64 y] 3)) := by
  refine wpList_plain hgd fun K hK => ?_
  obtain ⟨v', w', hr, h1, h2, h3⟩ := run_appI (y := y) o.type (hown.alloc (.cells #[.int .i64 y] 3)) hlen (by simp; omega) ⟨w.heap.size, 0, Option.none⟩ (one_cell _ _ _)
  unfold Oper.wp execOp
  simp only [ho, resolve, invoke, builtin, Sem.run_bind, Sem.run_pure, Result.andThen_ok, List.map_toArray, List.map_cons, List.map_nil, hs, hx, hr]
  refine hK _ _ (h _ _ h1 h2 fun g hg => ?_)
  rcases h3 g hg with e | e
  · exact .inl e
  · right; simp at e; omega
theorem owns_take {w : World} {B g n c : Nat} {xs : List Int} {y : Int} (h : w.ownsRow B 3 1 (.slice (some ⟨g, 0, Option.none⟩) (n + 1) c) (n + 1) (ints (xs ++ [y]))) (hn : xs.length = n) : w.ownsRow B 3 1 (.slice (some ⟨g, 0, Option.none⟩) n c) n (ints xs) := by
  refine ⟨by simp [hn], ?_⟩
  rcases h.2 with ⟨e, _⟩ | ⟨g2, cap, cur, e, hb, hg, hnc, hm, hs, ht⟩
  · cases e
  · cases e
    refine .inr ⟨g, c, cur, rfl, hb, hg, by omega, hm, hs, ?_⟩
    have h2 := congrArg (List.take n) ht
    rw [List.take_take, Nat.min_eq_left (by omega)] at h2
    rw [Nat.mul_one, h2]
    simp [ints, hn]
/-- Below block B nothing but block S has turned. -/
structure ButS (B S : Nat) (w w' : World) : Prop where
  os : w'.os = w.os
  tape : w'.tape = w.tape
  output : w'.output = w.output
  size : w.heap.size ≤ w'.heap.size
  block : ∀ k, k < B → k ≠ S → w'.heap[k]? = w.heap[k]?
theorem ButS.refl (B S : Nat) (w : World) : ButS B S w w := ⟨rfl, rfl, rfl, Nat.le_refl _, fun _ _ _ => rfl⟩
theorem ButS.trans {B S : Nat} {a b c : World} (h : ButS B S a b) (k : ButS B S b c) : ButS B S a c :=
  ⟨k.os.trans h.os, k.tape.trans h.tape, k.output.trans h.output, Nat.le_trans h.size k.size, fun i h1 h2 => (k.block i h1 h2).trans (h.block i h1 h2)⟩
theorem below_butS {B S : Nat} {w w' : World} (h : Below B w w') : ButS B S w w' := ⟨h.os, h.tape, h.output, h.size, fun k hk _ => h.block k hk⟩
theorem butS_set {B S : Nat} (w : World) {p : Addr} (hp : p.block = S) (u : Value) : ButS B S w (w.setCell p u) :=
  ⟨rfl, rfl, rfl, by simp [World.setCell], fun k _ hk => Below.heap_setCell _ _ _ _ (by rw [hp]; exact hk)⟩
theorem butS_drewN (B S : Nat) (w : World) (n : Nat) : ButS B S w (w.drewN n) := ⟨rfl, rfl, rfl, Nat.le_refl _, fun _ _ _ => rfl⟩
theorem butS_grown {B S : Nat} {w w' : World} {row : Option Nat} (h : w.grownBy w' row) (hB : B ≤ w.heap.size) (hr : ∀ k, row = some k → B ≤ k) : ButS B S w w' :=
  ⟨h.os, h.tape, h.output, h.size, fun k hk _ => h.block k (by omega) (fun e => by have := hr k e.symm; omega)⟩
/-- The best list so far lies in a block of its own. -/
def bestV (w : World) (B : Nat) (A : Option Addr) (bv : Value) (least : Int) : Cand → Prop
  | Option.none => bv = .slice Option.none 0 0
  | some (l, k) => ∃ g c, bv = .slice (some ⟨g, 0, Option.none⟩) l.length c ∧ w.ownsRow B 3 1 bv l.length (ints (waysI l)) ∧ least = k ∧ ∀ o, A = some o → o.block ≠ g
structure Srch (w0 w : World) (B S bw cw : Nat) (W : List Int) (r L : Nat) (A : Option Addr) (ca : Nat) (bv : Value) (least : Int) (acc : List Nat) (bs : Cand) : Prop where
  blk : Blk w S 160 [.slice (some ⟨bw, 0, Option.none⟩) W.length cw, .int .i64 (r : Int), .int .i64 (L : Int), .slice A acc.length ca, bv, .int .i64 least]
  sb : S < B
  bwB : bw < B
  bwS : bw ≠ S
  wts : ∀ j x, W[j]? = some x → w.cell? ⟨bw, j, Option.none⟩ = some (.int .i64 x)
  len : w.ownsRow B 3 1 (.slice A acc.length ca) acc.length (ints (waysI acc))
  best : bestV w B A bv least bs
  size : B ≤ w.heap.size
  fr : ButS B S w0 w
theorem ButS.cell {B S : Nat} {w w' : World} (h : ButS B S w w') {b o : Nat} (hb : b < B) (hne : b ≠ S) : w'.cell? ⟨b, o, Option.none⟩ = w.cell? ⟨b, o, Option.none⟩ := by
  unfold World.cell?
  rw [h.block b hb hne]
theorem bestV_grown {w w' : World} {B : Nat} {A A' : Option Addr} {bv : Value} {least : Int} {bs : Cand} {row : Option Nat} (h : bestV w B A bv least bs) (hg : w.grownBy w' row) (hrow : ∀ k, row = some k → (∃ o, A = some o ∧ o.block = k) ∨ k < B)
    (hA : ∀ o, A' = some o → (∃ o2, A = some o2 ∧ o2.block = o.block) ∨ w.heap.size ≤ o.block) : bestV w' B A' bv least bs := by
  cases bs with
  | none => exact h
  | some x =>
    obtain ⟨l, k⟩ := x
    obtain ⟨g, c, rfl, ho, hk, hne⟩ := h
    have hgl := ho.lt g rfl
    refine ⟨g, c, rfl, ho.kept hg (.inr fun e => ?_), hk, fun o ho2 e => ?_⟩
    · rcases hrow g (by rw [← e]; rfl) with ⟨o, h1, h2⟩ | h1
      · exact hne o h1 h2
      · omega
    · rcases hA o ho2 with ⟨o2, h1, h2⟩ | h1
      · exact hne o2 h1 (h2.trans e)
      · omega
theorem grown_set {w : World} {S : Nat} {p : Addr} (hp : p.block = S) (u : Value) : w.grownBy (w.setCell p u) (some S) :=
  ⟨rfl, rfl, rfl, by simp [World.setCell], fun k _ hk => Below.heap_setCell _ _ _ _ (by rw [hp]; exact fun e => hk (by rw [e]))⟩
theorem grown_drewN (w : World) (n : Nat) (row : Option Nat) : w.grownBy (w.drewN n) row := ⟨rfl, rfl, rfl, Nat.le_refl _, fun _ _ _ => rfl⟩
theorem Srch.drewN {w0 w : World} {B S bw cw : Nat} {W : List Int} {r L : Nat} {A : Option Addr} {ca : Nat} {bv : Value} {least : Int} {acc : List Nat} {bs : Cand} (h : Srch w0 w B S bw cw W r L A ca bv least acc bs) (n : Nat) : Srch w0 (w.drewN n) B S bw cw W r L A ca bv least acc bs :=
  ⟨h.blk, h.sb, h.bwB, h.bwS, h.wts, h.len, bestV_grown h.best (grown_drewN w n Option.none) (fun k e => by cases e) (fun o e => .inl ⟨o, e, rfl⟩), h.size, h.fr.trans (butS_drewN _ _ _ _)⟩
/-- A number has been appended to the lengths, and stored. -/
theorem Srch.push {w0 w w' : World} {B S bw cw : Nat} {W : List Int} {r L : Nat} {A A' : Option Addr} {ca ca' : Nat} {bv : Value} {least : Int} {acc : List Nat} {bs : Cand} {m : Nat} (h : Srch w0 w B S bw cw W r L A ca bv least acc bs)
    (ho : w'.ownsRow B 3 1 (.slice A' (acc.length + 1) ca') (acc.length + 1) (ints (waysI acc ++ [(m : Int)]))) (hg : (w.alloc (.cells #[.int .i64 (m : Int)] 3)).grownBy w' (Value.slice A acc.length ca).ownBlock)
    (hA : ∀ g, (Value.slice A' (acc.length + 1) ca').ownBlock = some g → (Value.slice A acc.length ca).ownBlock = some g ∨ w.heap.size < g) :
    Srch w0 (w'.setCell ⟨S, 3, Option.none⟩ (.slice A' (acc.length + 1) ca')) B S bw cw W r L A' ca' bv least (acc ++ [m]) bs := by
  have hsl := h.blk.lt
  have hrow : ∀ k, (Value.slice A acc.length ca).ownBlock = some k → B ≤ k := fun k hk => (h.len.lt k hk).1
  have hg2 : w.grownBy w' (Value.slice A acc.length ca).ownBlock := ⟨hg.os, hg.tape, hg.output, by have := hg.size; simp at this; omega, fun k hk hne => (hg.block k (by simp; omega) hne).trans (Below.heap_alloc w _ k hk)⟩
  have hbk : Blk w' S 160 [.slice (some ⟨bw, 0, Option.none⟩) W.length cw, .int .i64 (r : Int), .int .i64 (L : Int), .slice A acc.length ca, bv, .int .i64 least] :=
    (hg2.block S hsl (fun e => by have := hrow S e.symm; have := h.sb; omega)).trans h.blk
  have hset := hbk.set_ 3 (.slice A' (acc.length + 1) ca')
  have hb1 : ButS B S w w' := butS_grown hg2 h.size hrow
  have hb2 := hb1.trans (butS_set w' (p := ⟨S, 3, Option.none⟩) rfl (.slice A' (acc.length + 1) ca'))
  have hl : (acc ++ [m]).length = acc.length + 1 := by simp
  have hown2 := ho.kept (grown_set (w := w') (p := ⟨S, 3, Option.none⟩) rfl (.slice A' (acc.length + 1) ca')) (.inr fun e => by have := (ho.lt S e).1; have := h.sb; omega)
  have hob : ∀ (A : Option Addr) n c o, A = some o → (Value.slice A n c).ownBlock = some o.block := fun A n c o e => by rw [e]; rfl
  have hbo : ∀ (A : Option Addr) n c k, (Value.slice A n c).ownBlock = some k → ∃ o, A = some o ∧ o.block = k := fun A n c k e => by
    cases A with
    | none => cases e
    | some o => cases e; exact ⟨o, rfl, rfl⟩
  refine ⟨?_, h.sb, h.bwB, h.bwS, fun j x hx => (hb2.cell h.bwB h.bwS).trans (h.wts j x hx), ?_, ?_, ?_, h.fr.trans hb2⟩
  · rw [hl]; exact hset
  · rw [hl]
    have : waysI (acc ++ [m]) = waysI acc ++ [(m : Int)] := by unfold waysI; simp
    rw [this]; exact hown2
  · refine bestV_grown (bestV_grown h.best hg2 (fun k e => .inl (hbo _ _ _ k e)) (A' := A') fun o e => ?_) (grown_set (w := w') (p := ⟨S, 3, Option.none⟩) rfl _) (fun k e => .inr (by cases e; exact h.sb)) (fun o e => .inl ⟨o, e, rfl⟩)
    rcases hA o.block (hob _ _ _ o e) with e2 | e2
    · exact .inl (hbo _ _ _ _ e2)
    · exact .inr (by omega)
  · have := h.size; have := hg2.size; show B ≤ (w'.setCell _ _).heap.size; simp [World.setCell]; omega
/-- The last length is taken off again. -/
theorem Srch.pop {w0 w : World} {B S bw cw : Nat} {W : List Int} {r L : Nat} {g ca : Nat} {bv : Value} {least : Int} {acc : List Nat} {bs : Cand} {m : Nat} (h : Srch w0 w B S bw cw W r L (some ⟨g, 0, Option.none⟩) ca bv least (acc ++ [m]) bs) :
    Srch w0 (w.setCell ⟨S, 3, Option.none⟩ (.slice (some ⟨g, 0, Option.none⟩) acc.length ca)) B S bw cw W r L (some ⟨g, 0, Option.none⟩) ca bv least acc bs := by
  have hset := h.blk.set_ 3 (.slice (some ⟨g, 0, Option.none⟩) acc.length ca)
  have hl : (acc ++ [m]).length = acc.length + 1 := by simp
  have hw : waysI (acc ++ [m]) = waysI acc ++ [(m : Int)] := by unfold waysI; simp
  have hlen := h.len
  rw [hl, hw] at hlen
  have ho := owns_take hlen (by unfold waysI; simp)
  have hb2 := butS_set (B := B) w (p := ⟨S, 3, Option.none⟩) rfl (.slice (some ⟨g, 0, Option.none⟩) acc.length ca)
  have hown2 := ho.kept (grown_set (w := w) (p := ⟨S, 3, Option.none⟩) rfl (.slice (some ⟨g, 0, Option.none⟩) acc.length ca)) (.inr fun e => by have := (ho.lt S e).1; have := h.sb; omega)
  refine ⟨hset, h.sb, h.bwB, h.bwS, fun j x hx => (hb2.cell h.bwB h.bwS).trans (h.wts j x hx), hown2, bestV_grown h.best (grown_set (w := w) (p := ⟨S, 3, Option.none⟩) rfl _) (fun k e => .inr (by cases e; exact h.sb)) (fun o e => .inl ⟨o, e, rfl⟩), ?_, h.fr.trans hb2⟩
  show B ≤ (w.setCell _ _).heap.size
  have := h.size; simp [World.setCell]; omega
/-- A full list is the best one so far: a copy of it is kept. -/
theorem Srch.keep {w0 w w' : World} {B S bw cw : Nat} {W : List Int} {r L : Nat} {A : Option Addr} {ca g c : Nat} {bv : Value} {least cost : Int} {acc : List Nat} {bs : Cand} (h : Srch w0 w B S bw cw W r L A ca bv least acc bs)
    (ho : w'.ownsRow w.heap.size 3 1 (.slice (some ⟨g, 0, Option.none⟩) acc.length c) acc.length (ints (waysI acc))) (hb : Below w.heap.size w w') :
    Srch w0 ((w'.setCell ⟨S, 4, Option.none⟩ (.slice (some ⟨g, 0, Option.none⟩) acc.length c)).setCell ⟨S, 5, Option.none⟩ (.int .i64 cost)) B S bw cw W r L A ca (.slice (some ⟨g, 0, Option.none⟩) acc.length c) cost acc (some (acc, cost)) := by
  have hsl := h.blk.lt
  have hset := ((h.blk.below hb hsl).set_ 4 (.slice (some ⟨g, 0, Option.none⟩) acc.length c)).set_ 5 (.int .i64 cost)
  have hgw : w.grownBy w' Option.none := ⟨hb.os, hb.tape, hb.output, hb.size, fun k hk _ => hb.block k hk⟩
  have hb1 : ButS B S w w' := below_butS (hb.mono h.size)
  have hb2 := (hb1.trans (butS_set w' (p := ⟨S, 4, Option.none⟩) rfl (.slice (some ⟨g, 0, Option.none⟩) acc.length c))).trans (butS_set _ (p := ⟨S, 5, Option.none⟩) rfl (.int .i64 cost))
  have hs1 := h.size
  have hs2 := hb.size
  have hself : ∀ {xs : List Value} {n : Nat} {v : Value} {Bx : Nat}, w'.ownsRow Bx 3 1 v n xs → S < Bx → ((w'.setCell ⟨S, 4, Option.none⟩ (.slice (some ⟨g, 0, Option.none⟩) acc.length c)).setCell ⟨S, 5, Option.none⟩ (.int .i64 cost)).ownsRow Bx 3 1 v n xs := by
    intro xs n v Bx hx hS
    have h1 := hx.kept (grown_set (w := w') (p := ⟨S, 4, Option.none⟩) rfl (.slice (some ⟨g, 0, Option.none⟩) acc.length c)) (.inr fun e => by have := (hx.lt S e).1; omega)
    exact h1.kept (grown_set (p := ⟨S, 5, Option.none⟩) rfl (.int .i64 cost)) (.inr fun e => by have := (h1.lt S e).1; omega)
  have hlen := h.len.kept hgw (by cases hv : (Value.slice A acc.length ca).ownBlock <;> simp)
  have hgl := ho.lt g rfl
  have hdown : w'.ownsRow B 3 1 (.slice (some ⟨g, 0, Option.none⟩) acc.length c) acc.length (ints (waysI acc)) := by
    refine ⟨ho.1, ?_⟩
    rcases ho.2 with hn | ⟨g2, cap, cur, e, hl, rest⟩
    · exact .inl hn
    · exact .inr ⟨g2, cap, cur, e, by omega, rest⟩
  refine ⟨hset, h.sb, h.bwB, h.bwS, fun j x hx => (hb2.cell h.bwB h.bwS).trans (h.wts j x hx), hself hlen h.sb, ⟨g, c, rfl, hself hdown h.sb, rfl, fun o e e2 => ?_⟩, ?_, h.fr.trans hb2⟩
  · have := (h.len.lt o.block (by rw [e]; rfl)).2
    omega
  · show B ≤ ((w'.setCell _ _).setCell _ _).heap.size
    simp [World.setCell]; omega
theorem Srch.form {w0 w : World} {B S bw cw : Nat} {W : List Int} {r L : Nat} {A : Option Addr} {ca : Nat} {bv : Value} {least : Int} {acc : List Nat} {bs : Cand} (h : Srch w0 w B S bw cw W r L A ca bv least acc bs) (h1 : 1 ≤ acc.length) :
    ∃ g, A = some ⟨g, 0, Option.none⟩ ∧ acc.length ≤ ca ∧ ca ≤ maxLen ∧ ∀ (j x : Nat), acc[j]? = some x → w.cell? ⟨g, j, Option.none⟩ = some (.int .i64 (x : Int)) := by
  rcases h.len.2 with ⟨e, hn⟩ | ⟨g, cap, cur, e, _, _, hnc, hcm, _⟩
  · omega
  · cases e
    refine ⟨g, rfl, hnc, hcm, fun j x hx => ?_⟩
    have := h.len.cells (g := g) rfl j (.int .i64 (x : Int)) (by unfold waysI; simp [hx])
    have hadd : (⟨g, 0, Option.none⟩ : Addr).add j = ⟨g, 0 + j, Option.none⟩ := by unfold Addr.add; split <;> simp_all
    rw [hadd, Nat.zero_add] at this
    exact this
end Go.Proofs.Ytabiobjcfopakaa
