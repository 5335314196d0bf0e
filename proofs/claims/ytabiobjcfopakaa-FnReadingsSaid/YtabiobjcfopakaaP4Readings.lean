/- Texts of one claim, joined: R8, C2, E8, E9, H2, R12, R13, R14, R15, R17, R18, T1, T3, T4. -/
import Derived.StillTailTactics
import Derived.Deep.RegionLaw
import Derived.BigRegion
import Derived.Deep.Onto
import Derived.Test.YtabiobjcfopakaaP3Readings
/- Contracts: the search of the least lengths. -/
namespace Go.Proofs.Ytabiobjcfopakaa
open Go.RowKit
/-- Below block B nothing but block S has turned. -/
structure ButS (B S : Nat) (w w' : World) : Prop where
  os : w'.os = w.os
  tape : w'.tape = w.tape
  output : w'.output = w.output
  size : w.heap.size ≤ w'.heap.size
  block : ∀ k, k < B → k ≠ S → w'.heap[k]? = w.heap[k]?
theorem ButS.refl (B S : Nat) (w : World) : ButS B S w w := ⟨rfl, rfl, rfl, Nat.le_refl _, fun _ _ _ => rfl⟩
theorem ButS.trans {B S : Nat} {a b c : World} (h : ButS B S a b) (k : ButS B S b c) : ButS B S a c :=
  ⟨k.os.trans h.os, k.tape.trans h.tape, k.output.trans h.output, Nat.le_trans h.size k.size, fun i h1 h2 => (k.block i h1 h2).trans (h.block i h1 h2)⟩
theorem below_butS {B S : Nat} {w w' : World} (h : Below B w w') : ButS B S w w' := ⟨h.os, h.tape, h.output, h.size, fun k hk _ => h.block k hk⟩
theorem butS_set {B S : Nat} (w : World) {p : Addr} (hp : p.block = S) (u : Value) : ButS B S w (w.setCell p u) :=
  ⟨rfl, rfl, rfl, by simp [World.setCell], fun k _ hk => Below.heap_setCell _ _ _ _ (by rw [hp]; exact hk)⟩
theorem butS_drewN (B S : Nat) (w : World) (n : Nat) : ButS B S w (w.drewN n) := ⟨rfl, rfl, rfl, Nat.le_refl _, fun _ _ _ => rfl⟩
theorem butS_grown {B S : Nat} {w w' : World} {row : Option Nat} (h : w.grownBy w' row) (hB : B ≤ w.heap.size) (hr : ∀ k, row = some k → B ≤ k) : ButS B S w w' :=
  ⟨h.os, h.tape, h.output, h.size, fun k hk _ => h.block k (by omega) (fun e => by have := hr k e.symm; omega)⟩
/-- The best list so far lies in a block of its own. -/
def bestV (w : World) (B : Nat) (A : Option Addr) (bv : Value) (least : Int) : Cand → Prop
  | Option.none => bv = .slice Option.none 0 0
  | some (l, k) => ∃ g c, bv = .slice (some ⟨g, 0, Option.none⟩) l.length c ∧ w.ownsRow B 3 1 bv l.length (ints (waysI l)) ∧ least = k ∧ ∀ o, A = some o → o.block ≠ g
structure Srch (w0 w : World) (B S bw cw : Nat) (W : List Int) (r L : Nat) (A : Option Addr) (ca : Nat) (bv : Value) (least : Int) (acc : List Nat) (bs : Cand) : Prop where
  blk : Blk w S 160 [.slice (some ⟨bw, 0, Option.none⟩) W.length cw, .int .i64 (r : Int), .int .i64 (L : Int), .slice A acc.length ca, bv, .int .i64 least]
  sb : S < B
  bwB : bw < B
  bwS : bw ≠ S
  wts : ∀ j x, W[j]? = some x → w.cell? ⟨bw, j, Option.none⟩ = some (.int .i64 x)
  len : w.ownsRow B 3 1 (.slice A acc.length ca) acc.length (ints (waysI acc))
  best : bestV w B A bv least bs
  size : B ≤ w.heap.size
  fr : ButS B S w0 w
theorem ButS.cell {B S : Nat} {w w' : World} (h : ButS B S w w') {b o : Nat} (hb : b < B) (hne : b ≠ S) : w'.cell? ⟨b, o, Option.none⟩ = w.cell? ⟨b, o, Option.none⟩ := by
  unfold World.cell?
  rw [h.block b hb hne]
theorem bestV_grown {w w' : World} {B : Nat} {A A' : Option Addr} {bv : Value} {least : Int} {bs : Cand} {row : Option Nat} (h : bestV w B A bv least bs) (hg : w.grownBy w' row) (hrow : ∀ k, row = some k → (∃ o, A = some o ∧ o.block = k) ∨ k < B)
    (hA : ∀ o, A' = some o → (∃ o2, A = some o2 ∧ o2.block = o.block) ∨ w.heap.size ≤ o.block) : bestV w' B A' bv least bs := by
  cases bs with
  | none => exact h
  | some x =>
    obtain ⟨l, k⟩ := x
    obtain ⟨g, c, rfl, ho, hk, hne⟩ := h
    have hgl := ho.lt g rfl
    refine ⟨g, c, rfl, ho.kept hg (.inr fun e => ?_), hk, fun o ho2 e => ?_⟩
    · rcases hrow g (by rw [← e]; rfl) with ⟨o, h1, h2⟩ | h1
      · exact hne o h1 h2
      · omega
    · rcases hA o ho2 with ⟨o2, h1, h2⟩ | h1
      · exact hne o2 h1 (h2.trans e)
      · omega
theorem grown_set {w : World} {S : Nat} {p : Addr} (hp : p.block = S) (u : Value) : w.grownBy (w.setCell p u) (some S) :=
  ⟨rfl, rfl, rfl, by simp [World.setCell], fun k _ hk => Below.heap_setCell _ _ _ _ (by rw [hp]; exact fun e => hk (by rw [e]))⟩
theorem grown_drewN (w : World) (n : Nat) (row : Option Nat) : w.grownBy (w.drewN n) row := ⟨rfl, rfl, rfl, Nat.le_refl _, fun _ _ _ => rfl⟩
theorem Srch.drewN {w0 w : World} {B S bw cw : Nat} {W : List Int} {r L : Nat} {A : Option Addr} {ca : Nat} {bv : Value} {least : Int} {acc : List Nat} {bs : Cand} (h : Srch w0 w B S bw cw W r L A ca bv least acc bs) (n : Nat) : Srch w0 (w.drewN n) B S bw cw W r L A ca bv least acc bs :=
  ⟨h.blk, h.sb, h.bwB, h.bwS, h.wts, h.len, bestV_grown h.best (grown_drewN w n Option.none) (fun k e => by cases e) (fun o e => .inl ⟨o, e, rfl⟩), h.size, h.fr.trans (butS_drewN _ _ _ _)⟩
/-- A number has been appended to the lengths, and stored. -/
theorem Srch.push {w0 w w' : World} {B S bw cw : Nat} {W : List Int} {r L : Nat} {A A' : Option Addr} {ca ca' : Nat} {bv : Value} {least : Int} {acc : List Nat} {bs : Cand} {m : Nat} (h : Srch w0 w B S bw cw W r L A ca bv least acc bs)
    (ho : w'.ownsRow B 3 1 (.slice A' (acc.length + 1) ca') (acc.length + 1) (ints (waysI acc ++ [(m : Int)]))) (hg : (w.alloc (.cells #[.int .i64 (m : Int)] 3)).grownBy w' (Value.slice A acc.length ca).ownBlock)
    (hA : ∀ g, (Value.slice A' (acc.length + 1) ca').ownBlock = some g → (Value.slice A acc.length ca).ownBlock = some g ∨ w.heap.size < g) :
    Srch w0 (w'.setCell ⟨S, 3, Option.none⟩ (.slice A' (acc.length + 1) ca')) B S bw cw W r L A' ca' bv least (acc ++ [m]) bs := by
  have hsl := h.blk.lt
  have hrow : ∀ k, (Value.slice A acc.length ca).ownBlock = some k → B ≤ k := fun k hk => (h.len.lt k hk).1
  have hg2 : w.grownBy w' (Value.slice A acc.length ca).ownBlock := ⟨hg.os, hg.tape, hg.output, by have := hg.size; simp at this; omega, fun k hk hne => (hg.block k (by simp; omega) hne).trans (Below.heap_alloc w _ k hk)⟩
  have hbk : Blk w' S 160 [.slice (some ⟨bw, 0, Option.none⟩) W.length cw, .int .i64 (r : Int), .int .i64 (L : Int), .slice A acc.length ca, bv, .int .i64 least] :=
    (hg2.block S hsl (fun e => by have := hrow S e.symm; have := h.sb; omega)).trans h.blk
  have hset := hbk.set_ 3 (.slice A' (acc.length + 1) ca')
  have hb1 : ButS B S w w' := butS_grown hg2 h.size hrow
  have hb2 := hb1.trans (butS_set w' (p := ⟨S, 3, Option.none⟩) rfl (.slice A' (acc.length + 1) ca'))
  have hl : (acc ++ [m]).length = acc.length + 1 := by simp
  have hown2 := ho.kept (grown_set (w := w') (p := ⟨S, 3, Option.none⟩) rfl (.slice A' (acc.length + 1) ca')) (.inr fun e => by have := (ho.lt S e).1; have := h.sb; omega)
  have hob : ∀ (A : Option Addr) n c o, A = some o → (Value.slice A n c).ownBlock = some o.block := fun A n c o e => by rw [e]; rfl
  have hbo : ∀ (A : Option Addr) n c k, (Value.slice A n c).ownBlock = some k → ∃ o, A = some o ∧ o.block = k := fun A n c k e => by
    cases A with
    | none => cases e
    | some o => cases e; exact ⟨o, rfl, rfl⟩
  refine ⟨?_, h.sb, h.bwB, h.bwS, fun j x hx => (hb2.cell h.bwB h.bwS).trans (h.wts j x hx), ?_, ?_, ?_, h.fr.trans hb2⟩
  · rw [hl]; exact hset
  · rw [hl]
    have : waysI (acc ++ [m]) = waysI acc ++ [(m : Int)] := by unfold waysI; simp
    rw [this]; exact hown2
  · refine bestV_grown (bestV_grown h.best hg2 (fun k e => .inl (hbo _ _ _ k e)) (A' := A') fun o e => ?_) (grown_set (w := w') (p := ⟨S, 3, Option.none⟩) rfl _) (fun k e => .inr (by cases e; exact h.sb)) (fun o e => .inl ⟨o, e, rfl⟩)
    rcases hA o.block (hob _ _ _ o e) with e2 | e2
    · exact .inl (hbo _ _ _ _ e2)
    · exact .inr (by omega)
  · have := h.size; have := hg2.size; show B ≤ (w'.setCell _ _).heap.size; simp [World.setCell]; omega
/-- A full list is the best one so far: a copy of it is kept. -/
theorem Srch.keep {w0 w w' : World} {B S bw cw : Nat} {W : List Int} {r L : Nat} {A : Option Addr} {ca g c : Nat} {bv : Value} {least cost : Int} {acc : List Nat} {bs : Cand} (h : Srch w0 w B S bw cw W r L A ca bv least acc bs)
    (ho : w'.ownsRow w.heap.size 3 1 (.slice (some ⟨g, 0, Option.none⟩) acc.length c) acc.length (ints (waysI acc))) (hb : Below w.heap.size w w') :
    Srch w0 ((w'.setCell ⟨S, 4, Option.none⟩ (.slice (some ⟨g, 0, Option.none⟩) acc.length c)).setCell ⟨S, 5, Option.none⟩ (.int .i64 cost)) B S bw cw W r L A ca (.slice (some ⟨g, 0, Option.none⟩) acc.length c) cost acc (some (acc, cost)) := by
  have hsl := h.blk.lt
  have hset := ((h.blk.below hb hsl).set_ 4 (.slice (some ⟨g, 0, Option.none⟩) acc.length c)).set_ 5 (.int .i64 cost)
  have hgw : w.grownBy w' Option.none := ⟨hb.os, hb.tape, hb.output, hb.size, fun k hk _ => hb.block k hk⟩
  have hb1 : ButS B S w w' := below_butS (hb.mono h.size)
  have hb2 := (hb1.trans (butS_set w' (p := ⟨S, 4, Option.none⟩) rfl (.slice (some ⟨g, 0, Option.none⟩) acc.length c))).trans (butS_set _ (p := ⟨S, 5, Option.none⟩) rfl (.int .i64 cost))
  have hs1 := h.size
  have hs2 := hb.size
  have hself : ∀ {xs : List Value} {n : Nat} {v : Value} {Bx : Nat}, w'.ownsRow Bx 3 1 v n xs → S < Bx → ((w'.setCell ⟨S, 4, Option.none⟩ (.slice (some ⟨g, 0, Option.none⟩) acc.length c)).setCell ⟨S, 5, Option.none⟩ (.int .i64 cost)).ownsRow Bx 3 1 v n xs := by
    intro xs n v Bx hx hS
    have h1 := hx.kept (grown_set (w := w') (p := ⟨S, 4, Option.none⟩) rfl (.slice (some ⟨g, 0, Option.none⟩) acc.length c)) (.inr fun e => by have := (hx.lt S e).1; omega)
    exact h1.kept (grown_set (p := ⟨S, 5, Option.none⟩) rfl (.int .i64 cost)) (.inr fun e => by have := (h1.lt S e).1; omega)
  have hlen := h.len.kept hgw (by cases hv : (Value.slice A acc.length ca).ownBlock <;> simp)
  have hgl := ho.lt g rfl
  have hdown : w'.ownsRow B 3 1 (.slice (some ⟨g, 0, Option.none⟩) acc.length c) acc.length (ints (waysI acc)) := by
    refine ⟨ho.1, ?_⟩
    rcases ho.2 with hn | ⟨g2, cap, cur, e, hl, rest⟩
    · exact .inl hn
    · exact .inr ⟨g2, cap, cur, e, by omega, rest⟩
  refine ⟨hset, h.sb, h.bwB, h.bwS, fun j x hx => (hb2.cell h.bwB h.bwS).trans (h.wts j x hx), hself hlen h.sb, ⟨g, c, rfl, hself hdown h.sb, rfl, fun o e e2 => ?_⟩, ?_, h.fr.trans hb2⟩
  · have := (h.len.lt o.block (by rw [e]; rfl)).2
    omega
  · show B ≤ ((w'.setCell _ _).setCell _ _).heap.size
    simp [World.setCell]; omega
theorem Srch.form {w0 w : World} {B S bw cw : Nat} {W : List Int} {r L : Nat} {A : Option Addr} {ca : Nat} {bv : Value} {least : Int} {acc : List Nat} {bs : Cand} (h : Srch w0 w B S bw cw W r L A ca bv least acc bs) (h1 : 1 ≤ acc.length) :
    ∃ g, A = some ⟨g, 0, Option.none⟩ ∧ acc.length ≤ ca ∧ ca ≤ maxLen ∧ ∀ (j x : Nat), acc[j]? = some x → w.cell? ⟨g, j, Option.none⟩ = some (.int .i64 (x : Int)) := by
  rcases h.len.2 with ⟨e, hn⟩ | ⟨g, cap, cur, e, _, _, hnc, hcm, _⟩
  · omega
  · cases e
    refine ⟨g, rfl, hnc, hcm, fun j x hx => ?_⟩
    have := h.len.cells (g := g) rfl j (.int .i64 (x : Int)) (by unfold waysI; simp [hx])
    have hadd : (⟨g, 0, Option.none⟩ : Addr).add j = ⟨g, 0 + j, Option.none⟩ := by unfold Addr.add; split <;> simp_all
    rw [hadd, Nat.zero_add] at this
    exact this
end Go.Proofs.Ytabiobjcfopakaa
/- Contracts of the tests whether words are a code, and of the words written one after the other; of the program and of the reference. -/
namespace Go.Proofs.Ytabiobjcfopakaa
open Go.RowKit
def wordOk (xs : List Int) : Bool := inB xs.length 1 6 && allB xs 0 59
def noClash (xss : List (List Int)) : Bool := (List.range xss.length).all fun i => (List.range xss.length).all fun k => i == k || !begB (xss.getD i []) (xss.getD k [])
def codeB (xss : List (List Int)) : Bool := inB xss.length 1 20 && (xss.all wordOk && noClash xss)
end Go.Proofs.Ytabiobjcfopakaa
/- Plain laws on reading words: the first word that begins digits is the only one; the words read one after the other. -/
namespace Go.Proofs.Ytabiobjcfopakaa
open Go.RowKit
/-- The first word that begins digits. -/
def ixC (code : List (List Int)) (ds : List Int) : Option Nat := code.findIdx? fun x => begB x ds
def readF (code : List (List Int)) : Nat → List Int → Option (List Int)
  | _, [] => some []
  | 0, _ :: _ => Option.none
  | n + 1, d :: ds => match ixC code (d :: ds) with
    | Option.none => Option.none
    | some i => (readF code n ((d :: ds).drop (code.getD i []).length)).map fun r => (i : Int) :: r
def readW (code : List (List Int)) (ds : List Int) : Option (List Int) := readF code ds.length ds
theorem readW_nil (code : List (List Int)) : readW code [] = some [] := rfl
theorem code_pos {code : List (List Int)} (h : codeB code = true) {x : List Int} (hx : x ∈ code) : 1 ≤ x.length ∧ x.length ≤ 6 := by
  unfold codeB at h
  simp only [Bool.and_eq_true, List.all_eq_true] at h
  have := h.2.1 x hx
  unfold wordOk at this
  rw [Bool.and_eq_true, inB_iff] at this
  omega
theorem ixC_some {code : List (List Int)} {ds : List Int} {i : Nat} (h : ixC code ds = some i) : ∃ x, code[i]? = some x ∧ begB x ds = true ∧ i < code.length := by
  unfold ixC at h
  rw [List.findIdx?_eq_some_iff_getElem] at h
  obtain ⟨hl, h1, _⟩ := h
  exact ⟨code[i], List.getElem?_eq_getElem hl, h1, hl⟩
theorem readF_enough {code : List (List Int)} (h : codeB code = true) : ∀ (n : Nat) (ds : List Int), ds.length ≤ n → readF code n ds = readF code ds.length ds
  | _, [], _ => by cases ‹Nat› <;> rfl
  | 0, d :: ds, hl => by simp at hl
  | n + 1, d :: ds, hl => by
    simp only [List.length_cons, readF]
    cases e : ixC code (d :: ds) with
    | none => rfl
    | some i =>
      obtain ⟨x, hx, hb, _⟩ := ixC_some e
      have hp := code_pos h (List.mem_of_getElem? hx)
      have hg : code.getD i [] = x := by rw [List.getD_eq_getElem?_getD, hx]; rfl
      have hlen : ((d :: ds).drop x.length).length ≤ ds.length := by rw [List.length_drop, List.length_cons]; omega
      simp only [hg]
      rw [readF_enough h n _ (by simp only [List.length_cons] at hl; omega), readF_enough h ds.length _ hlen]
theorem readW_step {code : List (List Int)} (h : codeB code = true) {ds x : List Int} {i : Nat} (he : ixC code ds = some i) (hx : code[i]? = some x) (hd : 0 < ds.length) : readW code ds = (readW code (ds.drop x.length)).map fun r => (i : Int) :: r := by
  cases ds with
  | nil => simp at hd
  | cons d ds =>
    have hp := code_pos h (List.mem_of_getElem? hx)
    have hg : code.getD i [] = x := by rw [List.getD_eq_getElem?_getD, hx]; rfl
    unfold readW
    simp only [List.length_cons, readF, he, hg]
    rw [readF_enough h ds.length _ (by rw [List.length_drop, List.length_cons]; omega)]
/-- What is read so far, and what is left. -/
def ReadTo (code : List (List Int)) (ds L rest : List Int) : Prop := readW code ds = (readW code rest).map fun r => L ++ r
theorem ReadTo.start (code : List (List Int)) (ds : List Int) : ReadTo code ds [] ds := by unfold ReadTo; cases readW code ds <;> simp
theorem ReadTo.next {code : List (List Int)} (h : codeB code = true) {ds L rest x : List Int} {i : Nat} (hr : ReadTo code ds L rest) (he : ixC code rest = some i) (hx : code[i]? = some x) (hd : 0 < rest.length) : ReadTo code ds (L ++ [(i : Int)]) (rest.drop x.length) := by
  unfold ReadTo at *
  rw [hr, readW_step h he hx hd]
  cases readW code (rest.drop x.length) <;> simp
def digB (ds : List Int) : Bool := decide (ds.length ≤ 180) && allB ds 0 59
def readRes (code : List (List Int)) (ds : List Int) : List Int × Bool :=
  if codeB code && digB ds then match readW code ds with
    | some L => (L, true)
    | Option.none => ([], false)
  else ([], false)
theorem ReadTo.done {code : List (List Int)} {ds L : List Int} (hc : (codeB code && digB ds) = true) (h : ReadTo code ds L []) : readRes code ds = (L, true) := by
  unfold ReadTo at h
  rw [readW_nil] at h
  unfold readRes
  rw [hc, h]; simp
def lenV : Value → Nat
  | .slice _ n _ => n
  | _ => 0
end Go.Proofs.Ytabiobjcfopakaa
/- Contracts: digits read as words; of the program and of the reference. -/
namespace Go.Proofs.Ytabiobjcfopakaa
open Go.RowKit
/-- What is asked of a predicate on lists. -/
def PredI (g : Nat) (lb : Array Value) (hi : Nat) (p : List Int → Bool) (w : World) : Prop :=
  ∀ (n : Nat) (x : List Int) (u : Value), RdI (w.drewN n) hi u x → Calls Try.prog g (#[u] ++ lb) (w.drewN n) fun e w' => e = .returned (.bool (p x)) ∧ ∃ m, w' = (w.drewN n).drewN m
set_option maxHeartbeats 800000 in
theorem indexII_any (xss : List (List Int)) (v : Value) (hi : Nat) (w : World) (g : Nat) (lb : Array Value) (p : List Int → Bool) (h : RdII w hi v xss) (hp : PredI g lb hi p w)
    (eg : ∀ args w, (callFunc g args).run Try.prog w = .ok (.enter g args) w) :
    Calls Try.prog 206 #[v, .func (.func g) #[] lb] w fun e w' => e = .returned (.int .i64 (ixI (xss.findIdx? p))) ∧ ∃ n, w' = w.drewN n := by
  obtain ⟨A, c, rfl, hm⟩ := h.form
  have H := Lib.hid h
  have HP := Lib.hid hp
  clear h hp
  go_enter Try.func206, Try.ntmps206
  go_wp2
  go_loopw [8] (fun i wr => ∃ k : Nat, k ≤ xss.length ∧ i = .int .i64 k ∧ Hid (∀ j, j < k → ∀ x, xss[j]? = some x → p x = false) ∧ ∃ n, wr = w.drewN n) (fun i _ => xss.length - (intOf i).toNat)
  case atStart => exact ⟨0, Nat.zero_le _, rfl, fun j hj => by omega, 0, rfl⟩
  case round =>
    obtain ⟨k, hk, rfl, hno, n, rfl⟩ := hrel
    by_cases hlt : k < xss.length
    · obtain ⟨b1, o1, c1, a, xs, hv, _, hx, hcell1, hra⟩ := H.out.at_ hlt
      cases hv
      obtain ⟨A2, c2, rfl, hc2, hm2⟩ := Rd.form hra
      have hcall := HP.out n xs _ (show RdI (w.drewN n) hi _ _ from hra)
      have HX := Lib.hid hx
      clear hra hx
      cases hq : p xs
      · have HQ := Lib.hid hq
        rw [hq] at hcall
        clear hq
        have HC := Lib.hid hcall
        clear hcall
        go_wp2_with (go_at_fn g; refine HC.out.mono ?_; rintro e w' ⟨rfl, m, rfl⟩)
        go_roundw
        case rel => exact ⟨k + 1, by omega, by go_num, fun j hj x hx => by
          by_cases e : j = k
          · subst e; rw [HX.out] at hx; cases hx; exact HQ.out
          · exact hno.out j (by omega) x hx, n + m, by first | rfl | rw [World.drewN_drewN]⟩
        case measure => (simp [intOf]; try omega)
      · have HQ := Lib.hid hq
        rw [hq] at hcall
        clear hq
        have HC := Lib.hid hcall
        clear hcall
        go_wp2_with (go_at_fn g; refine HC.out.mono ?_; rintro e w' ⟨rfl, m, rfl⟩)
        go_ret
        refine ⟨ret_int ?_, n + m, by first | rfl | rw [World.drewN_drewN]⟩
        rw [findIdx_take (fun j hj x hx => hno.out j hj x hx) HX.out HQ.out]
        rfl
    · obtain rfl : k = xss.length := by omega
      go_wp2_with fail
      go_ret
      refine ⟨ret_int ?_, n, rfl⟩
      rw [findIdx_none (fun j x hx => hno.out j (List.getElem?_eq_some_iff.1 hx).1 x hx)]
      rfl
end Go.Proofs.Ytabiobjcfopakaa
/- A list of rests in memory: each lies in old memory or is a row of the call's own; one more is put to the others; of the program and of the reference. -/
namespace Go.Proofs.Ytabiobjcfopakaa
open Go.RowKit
/-- The slice value u reads as xs, in memory below B, or in a block of ints. -/
def El (w : World) (B : Nat) (u : Value) (xs : List Int) : Prop :=
  RdI w w.heap.size u xs ∧ ∀ (b off n c : Nat), u = .slice (some ⟨b, off, Option.none⟩) n c → 0 < n → b < B ∨ ∃ cur fz, w.heap[b]? = some (.cells cur 3 fz)
theorem El.rd {w : World} {B : Nat} {u : Value} {xs : List Int} (h : El w B u xs) (_ : B ≤ w.heap.size) : RdI w w.heap.size u xs := h.1
theorem el_old {w : World} {B : Nat} {u : Value} {xs : List Int} (h : RdI w B u xs) (hB : B ≤ w.heap.size) : El w B u xs := by
  refine ⟨h.mono hB, fun b off n c hu hn => .inl ?_⟩
  obtain ⟨_, A, c', h1, _, _, h4⟩ := h
  rw [hu] at h1
  injection h1 with e1 e2 e3
  obtain ⟨b', off', hA, hb, _⟩ := h4 (by omega)
  rw [← e1] at hA
  cases hA
  exact hb
theorem el_own {w : World} {B lo : Nat} {u : Value} {xs : List Int} (h : OwI w lo w.heap.size u xs) : El w B u xs := by
  refine ⟨h.rd, fun b off n c hu _ => .inr ?_⟩
  rcases h.1.2 with ⟨rfl, _⟩ | ⟨g, cap, cur, rfl, _, hg, _⟩
  · cases hu
  · cases hu
    exact ⟨_, _, hg⟩
theorem El.below {w w' : World} {B : Nat} {u : Value} {xs : List Int} (h : El w B u xs) (_ : B ≤ w.heap.size) (hb : Below w.heap.size w w') : El w' B u xs := by
  refine ⟨(RdI.below h.1 hb (Nat.le_refl _)).mono hb.size, fun b off n c hu hn => ?_⟩
  rcases h.2 b off n c hu hn with h2 | ⟨cur, fz, h2⟩
  · exact .inl h2
  · exact .inr ⟨cur, fz, (hb.block b (Array.getElem?_eq_some_iff.1 h2).1).trans h2⟩
/-- Blocks other than rows of slices, and boxes of such, stand. -/
def Fr (w w' : World) : Prop := ∀ (k : Nat) (c : Array Value) (e : TypeId) (fz : Nat × Nat), w.heap[k]? = some (.cells c e fz) → e ≠ 29 → e ≠ 61 → w'.heap[k]? = some (.cells c e fz)
theorem Fr.refl (w : World) : Fr w w := fun _ _ _ _ h _ _ => h
theorem Fr.trans {a b c : World} (h : Fr a b) (g : Fr b c) : Fr a c := fun k x e fz hk h1 h2 => g k x e fz (h k x e fz hk h1 h2) h1 h2
theorem fr_below {w w' : World} (h : Below w.heap.size w w') : Fr w w' := fun k _ _ _ hk _ _ => (h.block k (Array.getElem?_eq_some_iff.1 hk).1).trans hk
theorem fr_drewN (w : World) (n : Nat) : Fr w (w.drewN n) := fun _ _ _ _ h _ _ => h
theorem Blk.fr {w w' : World} {g : Nat} {t : TypeId} {cs : List Value} (h : Blk w g t cs) (hf : Fr w w') (h1 : t ≠ 29) (h2 : t ≠ 61) : Blk w' g t cs := hf _ _ _ _ h h1 h2
theorem El.fr {a w w' : World} {B : Nat} {u : Value} {xs : List Int} (h : El w B u xs) (hb : Below B a w) (hb' : Below B a w') (hs : w.heap.size ≤ w'.heap.size) (hf : Fr w w') : El w' B u xs := by
  obtain ⟨⟨h0, A, c, h1, h2, h3, h4⟩, h5⟩ := h
  refine ⟨⟨h0, A, c, h1, h2, h3, fun hn => ?_⟩, fun b off n c hu hn => ?_⟩
  · obtain ⟨b, off, hA, hbl, hc⟩ := h4 hn
    refine ⟨b, off, hA, by omega, fun j u hu => ?_⟩
    rcases h5 b off _ _ (by rw [h1, hA]) hn with h6 | ⟨cur, fz, h6⟩
    · rw [hb'.cell (p := ⟨b, off + j, Option.none⟩) h6, ← hb.cell (p := ⟨b, off + j, Option.none⟩) h6]
      exact hc j u hu
    · have h7 := hf _ _ _ _ h6 (by decide) (by decide)
      rw [← hc j u hu, cell_of_row w b (off + j) cur _ fz h6, cell_of_row w' b (off + j) cur _ fz h7]
  · rcases h5 b off n c hu hn with h6 | ⟨cur, fz, h6⟩
    · exact .inl h6
    · exact .inr ⟨cur, fz, hf _ _ _ _ h6 (by decide) (by decide)⟩
/-- v is a row of rests, appended to since the world w; below block number B nothing has turned. -/
def GrowL (w : World) (B : Nat) (wr : World) (v : Value) (xss : List (List Int)) : Prop :=
  (∃ us : List Value, us.length = xss.length ∧ (∀ (i : Nat) (u : Value) (xs : List Int), us[i]? = some u → xss[i]? = some xs → El wr B u xs) ∧ wr.ownsRow B 29 1 v xss.length us) ∧ Below B w wr ∧ B ≤ wr.heap.size
theorem GrowL.start (w : World) {B : Nat} (hB : B = w.heap.size) : GrowL w B w (.slice Option.none 0 0) [] := by
  subst hB
  exact ⟨⟨[], rfl, fun i u xs hu _ => by simp at hu, World.ownsRow_nil _ _ _ _⟩, Below.refl _ _, Nat.le_refl _⟩
theorem GrowL.belowR {w wr wr' : World} {B : Nat} {v : Value} {xss : List (List Int)} (h : GrowL w B wr v xss) (hb : Below wr.heap.size wr wr') : GrowL w B wr' v xss := by
  obtain ⟨⟨us, h1, h2, h3⟩, h4, h5⟩ := h
  exact ⟨⟨us, h1, fun i u xs hu hx => (h2 i u xs hu hx).below h5 hb, owns_below h3 (fun k hk => (h3.lt k hk).2) hb (Nat.le_refl _)⟩, h4.trans (hb.mono h5), Nat.le_trans h5 hb.size⟩
theorem GrowL.form {w wr : World} {B : Nat} {v : Value} {xss : List (List Int)} (h : GrowL w B wr v xss) : ∃ A c, v = .slice A xss.length c ∧ xss.length ≤ 9223372036854775807 := by
  obtain ⟨⟨us, h1, h2, h3⟩, h4, h5⟩ := h
  obtain ⟨A, c, hv, _, hm⟩ := Rd.form (rd_of_owns h3 (fun k hk => (h3.lt k hk).2))
  exact ⟨A, c, hv, hm⟩
theorem GrowL.rd {w wr : World} {B : Nat} {v : Value} {xss : List (List Int)} (h : GrowL w B wr v xss) : RdII wr wr.heap.size v xss := by
  obtain ⟨⟨us, h1, h2, h3⟩, h4, h5⟩ := h
  exact ⟨us, ⟨h1, fun i u xs hu hx => (h2 i u xs hu hx).rd h5⟩, rd_of_owns h3 (fun k hk => (h3.lt k hk).2)⟩
theorem GrowL.at_ {w wr : World} {B : Nat} {v : Value} {xss : List (List Int)} (h : GrowL w B wr v xss) {k : Nat} (hk : k < xss.length) :
    ∃ b off c u xs, v = .slice (some ⟨b, off, Option.none⟩) xss.length c ∧ xss[k]? = some xs ∧ wr.cell? ⟨b, off + k, Option.none⟩ = some u ∧ El wr B u xs := by
  obtain ⟨⟨us, h1, h2, h3⟩, h4, h5⟩ := h
  obtain ⟨_, A, c, hv, _, _, h6⟩ := rd_of_owns h3 (fun k hk => (h3.lt k hk).2)
  obtain ⟨b, off, rfl, hb, hc⟩ := h6 (by omega)
  have hu : us[k]? = some us[k] := by simp [show k < us.length by omega]
  exact ⟨b, off, c, us[k], xss[k], hv, by simp [hk], hc k _ hu, h2 k _ _ hu (by simp [hk])⟩
/-- One rest more behind the row. -/
theorem GrowL.app {w wr : World} {B : Nat} {v : Value} {xss : List (List Int)} {ops : Array Oper} {rest : List Oper} {o : Oper} {a : Act} {Q : Exit → Act → World → Prop} {A : Option Addr} {n c : Nat} {xs : List Int} (hgd : o.guard = Option.none) (s x : Operand)
    (ho : o.op = .call { callee := .builtin .append, args := #[s, x], argTypes := #[61, 61] }) (hG : GrowL w B wr v xss) (hu : El wr B (.slice A n c) xs) (hlen : xss.length < 1048576)
    (hs : a.eval s = v) (hx : a.eval x = .slice (some ⟨wr.heap.size, 0, Option.none⟩) 1 1)
    (h : ∀ v' w', GrowL w B w' v' (xss ++ [xs]) → Fr wr w' → wr.heap.size ≤ w'.heap.size → (∀ g, g < wr.heap.size → v.ownBlock ≠ some g → w'.heap[g]? = wr.heap[g]?) → wpList Try.prog ops Q rest (a.put o.dst v') w') : wpList Try.prog ops Q (o :: rest) a (wr.alloc (.cells #[.slice A n c] 29)) := by
  obtain ⟨i, hi, hz0, hz1, hz2⟩ := info_parts info_ints
  obtain ⟨⟨us, h1, h2, h3⟩, h4, h5⟩ := hG
  refine wpList_append_own _ hgd s x 61 ho B 29 i (.slice Option.none 0 0) 1 24 Try.underlying61 hi hz0 hz1 hz2 rfl (by decide) v xss.length us hs (h3.alloc _) ⟨wr.heap.size, 0, Option.none⟩ 1 1 [.slice A n c] hx rfl
    (one_cell _ _ _) (by intro u hu; simp at hu; subst hu; rfl) (by unfold maxLen; omega) (by omega) (by simp; omega) ?_
  intro v' w' hown hgr _
  have hsz := hgr.size
  have hsz2 : wr.heap.size + 1 ≤ w'.heap.size := by simpa using hsz
  have hfar : ∀ g, g < wr.heap.size → v.ownBlock ≠ some g → w'.heap[g]? = wr.heap[g]? := fun g hg hne => (hgr.block g (by simp; omega) (fun e => hne e.symm)).trans (Below.heap_alloc wr _ g hg)
  have hfr : Fr wr w' := by
    intro k cs e fz hk e1 e2
    have hlt := (Array.getElem?_eq_some_iff.1 hk).1
    rw [hfar k hlt (fun hv => ?_)]
    · exact hk
    · rcases h3.2 with ⟨rfl, _⟩ | ⟨g, cap, cur, rfl, _, hg, _⟩
      · cases hv
      · cases hv
        rw [hk] at hg
        cases hg
        exact e1 rfl
  have hb' : Below B w w' := (h4.alloc h5 _).grown hgr (by simp; omega) (fun k hk => ((h3.alloc (.cells #[.slice A n c] 29)).lt k hk).1)
  refine h v' w' ⟨⟨us ++ [.slice A n c], by simp [h1], fun j u ys hju hjy => ?_, by simpa using hown⟩, hb', by omega⟩ hfr (by omega) hfar
  rcases Nat.lt_or_ge j us.length with hj | hj
  · rw [List.getElem?_append_left hj] at hju
    rw [List.getElem?_append_left (by omega)] at hjy
    exact (h2 j u ys hju hjy).fr h4 hb' (by omega) hfr
  · rw [List.getElem?_append_right hj] at hju
    rw [List.getElem?_append_right (by omega)] at hjy
    have hj0 : j - us.length = 0 := by
      rcases Nat.eq_zero_or_pos (j - us.length) with e | e
      · exact e
      · rw [List.getElem?_eq_none (by simp; omega)] at hju; cases hju
    rw [hj0] at hju
    rw [show j - xss.length = 0 by omega] at hjy
    simp at hju hjy
    subst hju hjy
    exact hu.fr h4 hb' (by omega) hfr
theorem RdI.dropLe {w : World} {hi c : Nat} {b off : Nat} {xs : List Int} (h : RdI w hi (.slice (some ⟨b, off, Option.none⟩) xs.length c) xs) {k : Nat} (hk : k ≤ xs.length) :
    RdI w hi (.slice (some ⟨b, off + k, Option.none⟩) (xs.length - k) (c - k)) (xs.drop k) := by
  rcases Nat.lt_or_ge k xs.length with hlt | hge
  · exact h.drop hlt
  · obtain rfl : k = xs.length := by omega
    obtain ⟨h0, A', c', hv, h1, h2, _⟩ := h
    cases hv
    refine ⟨by simp, some ⟨b, off + xs.length, Option.none⟩, c - xs.length, by rw [List.length_drop], by rw [List.length_drop]; omega, by omega, fun h => ?_⟩
    rw [List.length_drop] at h
    omega
theorem El.drop {w : World} {B : Nat} {c : Nat} {b off : Nat} {xs : List Int} (h : El w B (.slice (some ⟨b, off, Option.none⟩) xs.length c) xs) {k : Nat} (hk : k ≤ xs.length) :
    El w B (.slice (some ⟨b, off + k, Option.none⟩) (xs.length - k) (c - k)) (xs.drop k) := by
  refine ⟨h.1.dropLe hk, fun b' off' n' c' hu hn => ?_⟩
  cases hu
  exact h.2 b off xs.length c rfl (by omega)
theorem notIn_full {xss : List (List Int)} {r : List Int} (h : ∀ j, j < xss.length → xss[j]? ≠ some r) : r ∉ xss := by
  intro hm
  obtain ⟨j, hj⟩ := List.getElem?_of_mem hm
  exact h j (List.getElem?_eq_some_iff.1 hj).1 hj
set_option maxRecDepth 100000 in
set_option maxHeartbeats 1600000 in
theorem bkPut_any (a : World) (B : Nat) (xss : List (List Int)) (r : List Int) (v u : Value) (hi : Nat) (w : World) (h : GrowL a B w v xss) (g : RdI w hi u r) (hg : hi ≤ w.heap.size) (hlen : xss.length ≤ 160) (hr : r.length ≤ 1000) :
    Calls Try.prog 216 #[v, u] w fun e w' => ∃ v', e = .returned v' ∧ GrowL a B w' v' (putR xss r) ∧ Fr w w' ∧ w.heap.size ≤ w'.heap.size := by
  obtain ⟨A, c, rfl, hm⟩ := h.form
  obtain ⟨A', c', rfl, hc', hm'⟩ := Rd.form g
  have H := Lib.hid h
  have G := Lib.hid g
  clear h g
  go_enter Try.func216, Try.ntmps216
  go_wp2_with fail
  go_loopw [9] (fun i wr => ∃ k : Nat, k ≤ xss.length ∧ i = .int .i64 k ∧ Hid (∀ j, j < k → xss[j]? ≠ some r) ∧ ∃ n, wr = w.drewN n) (fun i _ => xss.length - (intOf i).toNat)
  case atStart => exact ⟨0, Nat.zero_le _, rfl, fun j hj => by omega, 0, rfl⟩
  case round =>
    obtain ⟨k, hk, rfl, hno, n, rfl⟩ := hrel
    by_cases hlt : k < xss.length
    · obtain ⟨b1, o1, c1, u1, xs, hv, hx, hcell1, hel⟩ := H.out.at_ hlt
      injection hv with hv1 hv2 hv3
      subst hv1
      obtain ⟨A2, c2, rfl, hc2, hm2⟩ := Rd.form (hel.rd H.out.2.2)
      have HX := Lib.hid hx
      have HE := Lib.hid (hel.rd H.out.2.2)
      clear hv2 hv3 hx hel
      have cS := l1Same_any xs r (.slice A2 xs.length c2) (.slice A' r.length c') w.heap.size hi (w.drewN n) (show RdI (w.drewN n) _ _ _ from HE.out) (show RdI (w.drewN n) _ _ _ from G.out)
      by_cases he : xs = r
      · rw [decide_eq_true he] at cS
        have CS := Lib.hid cS
        have HM : Hid (r ∈ xss) := by show r ∈ xss; rw [← he]; exact List.mem_of_getElem? HX.out
        clear cS he
        go_wp2_with fail
        refine CS.out.mono ?_
        rintro e w2 ⟨rfl, m, rfl⟩
        go_wp2_with fail
        go_ret
        refine ⟨_, rfl, ?_, fr_drewN _ _, Nat.le_refl _⟩
        rw [putR_old HM.out]
        exact H.out.belowR (bel_drewN _ _ _)
      · rw [decide_eq_false he] at cS
        have CS := Lib.hid cS
        have HN : Hid (xss[k]? ≠ some r) := by show _ ≠ _; rw [HX.out]; intro e; exact he (Option.some.inj e)
        clear cS he
        go_wp2_with fail
        refine CS.out.mono ?_
        rintro e w2 ⟨rfl, m, rfl⟩
        go_wp2_with fail
        go_roundw
        case rel => exact ⟨k + 1, by omega, by go_num, fun j hj => by
          by_cases e : j = k
          · subst e; exact HN.out
          · exact hno.out j (by omega), n + m, by first | rfl | rw [World.drewN_drewN]⟩
        case measure => (simp [intOf]; try omega)
    · obtain rfl : k = xss.length := by omega
      have HNI := Lib.hid (notIn_full hno.out)
      have cO := l1Own_any r (.slice A' r.length c') hi (w.drewN n) (show RdI (w.drewN n) _ _ _ from G.out) hg (by omega)
      have CO := Lib.hid cO
      clear cO
      go_wp2_with fail
      refine CO.out.mono ?_
      rintro e w2 ⟨q, rfl, hq, hb2⟩
      obtain ⟨Aq, cq, rfl, hqm⟩ := hq.form
      have HG2 := Lib.hid (H.out.belowR ((bel_drewN _ w n).trans hb2))
      have HE2 : Hid (El w2 B (.slice Aq r.length cq) r) := el_own hq
      have HF2 := Lib.hid ((fr_drewN w n).trans (fr_below hb2))
      have hs2 : w.heap.size ≤ w2.heap.size := hb2.size
      clear hq hb2
      go_wp2_with (at_builtin; refine GrowL.app rfl (.tmp 18) (.tmp 21) rfl HG2.out HE2.out (by omega) rfl rfl ?_; intro v' w3 hG' hF' hs' _)
      go_ret
      refine ⟨_, rfl, ?_, HF2.out.trans hF', by omega⟩
      rw [putR_new HNI.out]
      exact hG'
theorem readOneWay11_any (xs ys : List Int) (u s : Value) (B hi hj : Nat) (w : World) (h : RdI w hi u xs) (g : RdI w hj s ys) (hc : w.cell? ⟨B, 0, Option.none⟩ = some s) :
    Calls Try.prog 220 #[u, .pointer (some ⟨B, 0, Option.none⟩)] w fun e w' => e = .returned (.bool (decide (xs = ys))) ∧ ∃ n, w' = w.drewN n := by
  obtain ⟨A, c, rfl, hc1, hm⟩ := Rd.form h
  obtain ⟨A', c', rfl, hc2, hm'⟩ := Rd.form g
  have H := Lib.hid h
  have G := Lib.hid g
  clear h g
  go_enter Try.func220, Try.ntmps220
  go_wp2_with fail
  refine (slicesEqual_any xs ys _ _ hi hj _ H.out G.out).mono ?_
  rintro e w' ⟨rfl, n, rfl⟩
  go_wp2_with fail
  go_ret
  exact ⟨rfl, n, rfl⟩
theorem containsII_any (xss : List (List Int)) (v : Value) (hi : Nat) (w : World) (g : Nat) (lb : Array Value) (p : List Int → Bool) (h : RdII w hi v xss) (hp : PredI g lb hi p w)
    (eg : ∀ args w, (callFunc g args).run Try.prog w = .ok (.enter g args) w) :
    Calls Try.prog 219 #[v, .func (.func g) #[] lb] w fun e w' => e = .returned (.bool (xss.any p)) ∧ ∃ n, w' = w.drewN n := by
  have cI := indexII_any xss v hi w g lb p h hp eg
  cases hf : xss.findIdx? p with
  | none =>
    rw [hf] at cI
    simp only [ixI] at cI
    have hno : xss.any p = false := by
      rw [List.any_eq_false]
      intro x hx
      rw [List.findIdx?_eq_none_iff] at hf
      simpa using hf x hx
    rw [hno]
    have CI := Lib.hid cI
    clear cI hf hno
    go_enter Try.func219, Try.ntmps219
    go_wp2_with fail
    refine CI.out.mono ?_
    rintro e w' ⟨rfl, n, rfl⟩
    go_wp2_with fail
    go_ret
    exact ⟨rfl, n, rfl⟩
  | some i =>
    rw [hf] at cI
    simp only [ixI] at cI
    have hyes : xss.any p = true := by
      rw [List.any_eq_true]
      rw [List.findIdx?_eq_some_iff_getElem] at hf
      obtain ⟨hl, h1, _⟩ := hf
      exact ⟨xss[i], List.getElem_mem hl, h1⟩
    rw [hyes]
    have hi0 : (0 : Int) ≤ (i : Int) := by omega
    have CI := Lib.hid cI
    clear cI hf hyes
    go_enter Try.func219, Try.ntmps219
    go_wp2_with fail
    refine CI.out.mono ?_
    rintro e w' ⟨rfl, n, rfl⟩
    go_wp2_with fail
    go_ret
    exact ⟨rfl, n, rfl⟩
/-- The box of the rests. -/
def BoxL (a : World) (B : Nat) (w : World) (L : Nat) (xss : List (List Int)) : Prop := ∃ v, Blk w L 61 [v] ∧ GrowL a B w v xss ∧ B ≤ L
theorem BoxL.belowR {a w w' : World} {B L : Nat} {xss : List (List Int)} (h : BoxL a B w L xss) (hb : Below w.heap.size w w') : BoxL a B w' L xss := by
  obtain ⟨v, h1, h2, h3⟩ := h
  exact ⟨v, h1.below hb h1.lt, h2.belowR hb, h3⟩
set_option maxRecDepth 100000 in
set_option maxHeartbeats 1600000 in
theorem readOneWay1_any (a : World) (B L : Nat) (xss : List (List Int)) (r : List Int) (u : Value) (w : World) (h : BoxL a B w L xss) (g : El w B u r) (hlen : xss.length ≤ 160) (hr : r.length ≤ 1000) :
    Calls Try.prog 218 #[u, .pointer (some ⟨L, 0, Option.none⟩)] w fun e w' => (∃ z, e = .returned z) ∧ BoxL a B w' L (putR xss r) ∧ Fr w w' ∧ w.heap.size ≤ w'.heap.size := by
  obtain ⟨v, hbx, hG, hBL⟩ := h
  obtain ⟨A, c, rfl, hm⟩ := hG.form
  obtain ⟨A', c', rfl, hc', hm'⟩ := Rd.form g.1
  have hba : Below w.heap.size w (w.alloc (.cells #[.slice A' r.length c'] 29)) := (Below.refl _ _).alloc (Nat.le_refl _) _
  have hLlt := hbx.lt
  have hBw := hG.2.2
  have HBX : Hid (Blk (w.alloc (.cells #[.slice A' r.length c'] 29)) L 61 [.slice A xss.length c]) := hbx.alloc _
  have HG1 : Hid (GrowL a B (w.alloc (.cells #[.slice A' r.length c'] 29)) (.slice A xss.length c) xss) := hG.belowR hba
  have HR1 : Hid (El (w.alloc (.cells #[.slice A' r.length c'] 29)) B (.slice A' r.length c') r) := g.below hBw hba
  have HF1 := Lib.hid (fr_below hba)
  have hcr : (w.alloc (.cells #[.slice A' r.length c'] 29)).cell? ⟨w.heap.size, 0, Option.none⟩ = some (.slice A' r.length c') := (Blk.new w 29 #[.slice A' r.length c']).cell 0
  have HCR := Lib.hid hcr
  have hpred : PredI 220 #[.pointer (some ⟨w.heap.size, 0, Option.none⟩)] (w.alloc (.cells #[.slice A' r.length c'] 29)).heap.size (fun x => decide (x = r)) (w.alloc (.cells #[.slice A' r.length c'] 29)) := by
    intro n x u hu
    exact readOneWay11_any x r u (.slice A' r.length c') w.heap.size _ (w.alloc (.cells #[.slice A' r.length c'] 29)).heap.size _ hu (show RdI ((w.alloc (.cells #[.slice A' r.length c'] 29)).drewN n) _ _ _ from HR1.out.1) hcr
  have cC := containsII_any xss (.slice A xss.length c) _ _ _ _ _ HG1.out.rd hpred (enters_of Try.func220 (by kernel_rfl) rfl)
  have hcb := HBX.out.cell 0
  clear hbx hG g hba hpred hcr
  by_cases hmem : r ∈ xss
  · rw [show xss.any (fun x => decide (x = r)) = true by rw [List.any_eq_true]; exact ⟨r, hmem, by simp⟩] at cC
    have CC := Lib.hid cC
    have HM := Lib.hid hmem
    clear cC hmem
    go_enter Try.func218, Try.ntmps218
    go_wp2_with fail
    refine CC.out.mono ?_
    rintro e w2 ⟨rfl, n, rfl⟩
    go_wp2_with fail
    refine bodyPost_end (results_none Try.results218 _ _ _) rfl ?_
    refine ⟨⟨_, rfl⟩, ⟨.slice A xss.length c, HBX.out, ?_, hBL⟩, HF1.out.trans (fr_drewN _ _), by simp⟩
    rw [putR_old HM.out]
    exact HG1.out.belowR (bel_drewN _ _ _)
  · rw [show xss.any (fun x => decide (x = r)) = false by rw [List.any_eq_false]; intro x hx; simp only [decide_eq_true_eq]; rintro rfl; exact hmem hx] at cC
    have CC := Lib.hid cC
    have HM := Lib.hid hmem
    clear cC hmem
    go_enter Try.func218, Try.ntmps218
    go_wp2_with fail
    refine CC.out.mono ?_
    rintro e w2 ⟨rfl, n, rfl⟩
    have hcb2 : ((w.alloc (.cells #[.slice A' r.length c'] 29)).drewN n).cell? ⟨L, 0, Option.none⟩ = some (.slice A xss.length c) := hcb
    have hcr2 : ((w.alloc (.cells #[.slice A' r.length c'] 29)).drewN n).cell? ⟨w.heap.size, 0, Option.none⟩ = some (.slice A' r.length c') := HCR.out
    have HG2 : Hid (GrowL a B ((w.alloc (.cells #[.slice A' r.length c'] 29)).drewN n) (.slice A xss.length c) xss) := HG1.out.belowR (bel_drewN _ _ _)
    have HE2 : Hid (El ((w.alloc (.cells #[.slice A' r.length c'] 29)).drewN n) B (.slice A' r.length c') r) := HR1.out.below (by simp; omega) (bel_drewN _ _ _)
    have HBX2 : Hid (Blk ((w.alloc (.cells #[.slice A' r.length c'] 29)).drewN n) L 61 [.slice A xss.length c]) := HBX.out
    have HF2 := Lib.hid (HF1.out.trans (fr_drewN _ n))
    have hs2 : w.heap.size + 1 ≤ ((w.alloc (.cells #[.slice A' r.length c'] 29)).drewN n).heap.size := by show _ ≤ (w.alloc _).heap.size; simp
    clear hcb HCR HBX HG1 HR1 HF1
    generalize ((w.alloc (.cells #[.slice A' r.length c'] 29)).drewN n) = wq at hcb2 hcr2 HG2 HE2 HBX2 HF2 hs2 ⊢
    have hne : (Value.slice A xss.length c).ownBlock ≠ some L := by
      intro e
      obtain ⟨⟨us, _, _, h3⟩, _, _⟩ := HG2.out
      rcases h3.2 with ⟨hn, _⟩ | ⟨g, cap, cur, hv, _, hg, _⟩
      · rw [hn] at e; cases e
      · rw [hv] at e
        cases e
        have := HBX2.out
        unfold Blk at this
        rw [hg] at this
        simp at this
    have HNE := Lib.hid hne
    clear hne
    go_wp2_with (at_builtin; refine GrowL.app rfl (.tmp 7) (.tmp 9) rfl HG2.out HE2.out (by omega) rfl rfl ?_; intro v' w3 hG' hF' hs' hfar; obtain ⟨Av, cv, hv', _⟩ := hG'.form; rw [List.length_append, List.length_singleton] at hv'; subst hv'; have hk3 : Blk w3 L 61 [.slice A xss.length c] := (hfar L (by omega) HNE.out).trans HBX2.out; have hc3 := hk3.cell 0; have hf3 := hk3.frozen 0; have HG3 := Lib.hid hG'; have HK3 := Lib.hid hk3; have HF3 := Lib.hid hF'; clear hG' hk3 hF' hfar)
    refine bodyPost_end (results_none Try.results218 _ _ _) rfl ?_
    have hset : Fr w3 (w3.setCell ⟨L, 0, Option.none⟩ (.slice Av (xss.length + 1) cv)) := by
      intro k cs e fz hk e1 e2
      rw [Below.heap_setCell _ _ _ _ (fun he => ?_)]
      · exact hk
      · have := HK3.out
        unfold Blk at this
        rw [show L = k from he.symm] at this
        rw [hk] at this
        cases this
        exact e2 rfl
    refine ⟨⟨_, rfl⟩, ⟨_, HK3.out.set_ 0 (.slice Av (xss.length + 1) cv), ?_, hBL⟩, (HF2.out.trans HF3.out).trans hset, by show w.heap.size ≤ (w3.setCell _ _).heap.size; simp [World.setCell]; omega⟩
    rw [putR_new HM.out]
    obtain ⟨⟨us, h1, h2, h3⟩, h4, h5⟩ := HG3.out
    have hb' := h4.setCell (p := ⟨L, 0, Option.none⟩) hBL (.slice Av (xss.length + 1) cv)
    have hsz' : (w3.setCell ⟨L, 0, Option.none⟩ (.slice Av (xss.length + 1) cv)).heap.size = w3.heap.size := by simp [World.setCell]
    refine ⟨⟨us, h1, fun i u ys hu hy => (h2 i u ys hu hy).fr h4 hb' (by omega) hset, ⟨h3.1, ?_⟩⟩, hb', by omega⟩
    rcases h3.2 with hn | ⟨g, cap, cur, hvv, hl, hg, rest⟩
    · exact .inl hn
    · refine .inr ⟨g, cap, cur, hvv, hl, (Below.heap_setCell _ _ _ _ (fun he => ?_)).trans hg, rest⟩
      have := HK3.out
      unfold Blk at this
      rw [show L = g from he.symm] at this
      rw [hg] at this
      simp at this
end Go.Proofs.Ytabiobjcfopakaa
/- Contracts: the order of the weights, by the reference. -/
namespace Go.Proofs.Ytabiobjcfopakaa
open Go.RowKit
/-- A slice of numbers is appended to a row of the call's own: the run. -/
theorem run_appR {w : World} {B hi : Nat} {v u : Value} {xs ys : List Int} (ty : TypeId) (hown : w.ownsRow B 3 1 v xs.length (ints xs)) (hB : B ≤ w.heap.size) (hR : RdI w hi u ys) (hlen : xs.length + ys.length ≤ 1048576) :
    ∃ v' w', (Builtin.append_ #[29, 29] ty #[v, u]).run Try.prog w = .ok v' w' ∧ w'.ownsRow B 3 1 v' (xs ++ ys).length (ints (xs ++ ys)) ∧ w.grownBy w' v.ownBlock := by
  obtain ⟨i, hi0, hz0, hz1, hz2⟩ := info_parts info_int
  obtain ⟨hl, A, c, rfl, hc1, hc2, hcell⟩ := hR
  rcases A with _ | ad
  · have h0 : ys = [] := by
      rcases Nat.eq_zero_or_pos ys.length with h | h
      · exact List.eq_nil_of_length_eq_zero h
      · obtain ⟨b, off, e, _⟩ := hcell h; cases e
    subst h0
    exact ⟨v, w, run_append_nil B 29 ty 3 i 1 Try.underlying29 hi0 v xs.length (ints xs) hown c, by simpa using hown, World.grownBy.refl _ _⟩
  · have hnews : ∀ j u, (ints ys)[j]? = some u → w.cell? (ad.add j) = some u := by
      intro j u hj
      rcases Nat.eq_zero_or_pos ys.length with h | h
      · rw [List.eq_nil_of_length_eq_zero h] at hj; simp at hj
      · obtain ⟨b, off, e, _, hcc⟩ := hcell h
        cases e
        rw [Go.WideShapes.add_plain]; exact hcc j u hj
    obtain ⟨v', w', hr, ho, hg, _⟩ := run_append_own (P := Try.prog) w B 29 ty 3 i (.int .i64 0) 1 8 Try.underlying29 hi0 hz0 hz1 hz2 rfl (by decide) v xs.length (ints xs) hown ad ys.length c (ints ys) (by simp) hnews
      (by intro u hu; simp at hu; obtain ⟨z, _, rfl⟩ := hu; rfl) (by unfold maxLen; omega) (by omega) hB
    exact ⟨v', w', hr, by simpa [ints] using ho, hg⟩
/-- The same at a step of a region that draws its order. -/
theorem step_appR {w0 w : World} {B hi : Nat} {v u : Value} {xs ys : List Int} {ops : Array Oper} {o : Oper} {a : Act} {K : Act → World → Prop} {Q : Exit → Act → World → Prop} {E : Prop} (hgd : o.guard = Option.none) (s x : Operand)
    (ho : o.op = .call { callee := .builtin .append, args := #[s, x], argTypes := #[29, 29] }) (hG : GrowI w0 B w v xs) (hR : RdI w hi u ys) (hlen : xs.length + ys.length ≤ 1048576) (hs : a.eval s = v) (hx : a.eval x = u)
    (h : ∀ v' w', GrowI w0 B w' v' (xs ++ ys) → K (a.put o.dst v') w') : if Region.wanted o (yielded ops a.tmps) = true then Oper.wp Try.prog o a w K Q else E := by
  have hw : Region.wanted o (yielded ops a.tmps) = true := by simp [Region.wanted, hgd]
  rw [if_pos hw]
  obtain ⟨v', w', hr, h1, h2⟩ := run_appR o.type hG.1 hG.2.2 hR hlen
  unfold Oper.wp execOp
  simp only [ho, resolve, invoke, builtin, Sem.run_bind, Sem.run_pure, Result.andThen_ok, List.map_toArray, List.map_cons, List.map_nil, hs, hx, hr]
  exact h v' w' ⟨h1, hG.2.1.grown h2 hG.2.2 (fun k hk => (hG.1.lt k hk).1), Nat.le_trans hG.2.2 h2.size⟩
theorem one_rd (w : World) (x : Int) : RdI (w.alloc (.cells #[.int .i64 x] 3)) (w.heap.size + 1) (.slice (some ⟨w.heap.size, 0, Option.none⟩) 1 1) [x] := by
  refine ⟨rfl, _, 1, rfl, Nat.le_refl _, by decide, fun _ => ⟨w.heap.size, 0, rfl, by omega, fun j u hj => ?_⟩⟩
  match j, hj with
  | 0, hj =>
    simp at hj; subst hj
    exact (Blk.new w 3 #[.int .i64 x]).cell 0
end Go.Proofs.Ytabiobjcfopakaa
/- Contracts: the table of the reference, newly made. -/
namespace Go.Proofs.Ytabiobjcfopakaa
open Go.RowKit
abbrev slN (g n : Nat) : Value := .slice (some ⟨g, 0, Option.none⟩) n n
/-- What is left of the weights from each index on. -/
def restL (Z : List Int) : List Int := (List.range (Z.length + 1)).map fun j => sumW (Z.drop j)
/-- Blocks of other types than some have not turned. -/
structure Frs (ts : List TypeId) (w w' : World) : Prop where
  os : w'.os = w.os
  tape : w'.tape = w.tape
  output : w'.output = w.output
  size : w.heap.size ≤ w'.heap.size
  block : ∀ (k : Nat) (c : Array Value) (e : TypeId) (fz : Nat × Nat), w.heap[k]? = some (.cells c e fz) → e ∉ ts → w'.heap[k]? = some (.cells c e fz)
theorem Frs.refl (ts : List TypeId) (w : World) : Frs ts w w := ⟨rfl, rfl, rfl, Nat.le_refl _, fun _ _ _ _ h _ => h⟩
theorem Frs.trans {ts : List TypeId} {a b c : World} (h : Frs ts a b) (k : Frs ts b c) : Frs ts a c :=
  ⟨k.os.trans h.os, k.tape.trans h.tape, k.output.trans h.output, Nat.le_trans h.size k.size, fun i x e fz h1 h2 => k.block i x e fz (h.block i x e fz h1 h2) h2⟩
/-- One level of the table: its rows lie in the blocks gs. -/
structure LevOk (w : World) (n1 : Nat) (x : Nat × Nat × List Nat) : Prop where
  len : x.2.2.length = n1
  row : ∃ cur : Array Value, w.heap[x.1]? = some (.cells cur 29 (0, 0)) ∧ cur.toList.take n1 = x.2.2.map fun g => slN g n1
  zero : ∀ g ∈ x.2.2, Blk w g 3 (ints (List.replicate n1 0))
theorem LevOk.below {B : Nat} {w w' : World} {n1 : Nat} {x : Nat × Nat × List Nat} (h : LevOk w n1 x) (hb : Below B w w') (hx : w.heap.size ≤ B) : LevOk w' n1 x := by
  obtain ⟨cur, hc, ht⟩ := h.row
  exact ⟨h.len, ⟨cur, (hb.block _ (by have := (Array.getElem?_eq_some_iff.1 hc).1; omega)).trans hc, ht⟩, fun g hg => (h.zero g hg).below hb (by have := (h.zero g hg).lt; omega)⟩
def lvV (n1 : Nat) (x : Nat × Nat × List Nat) : Value := .slice (some ⟨x.1, 0, Option.none⟩) n1 x.2.1
def flatG (lev : List (Nat × Nat × List Nat)) : List Nat := lev.flatMap fun x => x.2.2
structure Levs (w : World) (T n1 : Nat) (lev : List (Nat × Nat × List Nat)) : Prop where
  ok : ∀ x ∈ lev, LevOk w n1 x
  nodup : (flatG lev).Nodup
  range : ∀ g ∈ flatG lev, T < g ∧ g < w.heap.size
theorem Levs.nil (w : World) (T n1 : Nat) : Levs w T n1 [] := ⟨by simp, by simp [flatG], by simp [flatG]⟩
theorem Blk.heap_ne {w : World} {g h : Nat} {t t' : TypeId} {cs : List Value} {cur : Array Value} {fz : Nat × Nat} (hb : Blk w g t cs) (hh : w.heap[h]? = some (.cells cur t' fz)) (ht : t ≠ t') : g ≠ h := by
  rintro rfl
  unfold Blk at hb
  rw [hb] at hh
  cases hh
  exact ht rfl
end Go.Proofs.Ytabiobjcfopakaa
/- Contracts: the reference makes its table. -/
namespace Go.Proofs.Ytabiobjcfopakaa
open Go.RowKit
/-- What cmNew hands back. -/
def TabNew (Z : List Int) (r L : Nat) (w0 w : World) (T : Nat) : Prop := ∃ (K : Option Addr) (ck : Nat) (lev : List (Nat × Nat × List Nat)), w0.heap.size < T ∧ Blk w T 180 [slN w0.heap.size (Z.length + 1), .int .i64 (r : Int), .int .i64 (L : Int), .slice K (L + 1) ck] ∧
  Blk w w0.heap.size 3 (ints (restL Z)) ∧ lev.length = L + 1 ∧ w.ownsRow (T + 1) 61 1 (.slice K (L + 1) ck) (L + 1) (lev.map (lvV (Z.length + 1))) ∧ Levs w T (Z.length + 1) lev ∧ Below w0.heap.size w0 w
end Go.Proofs.Ytabiobjcfopakaa
/- Contracts: the least cost by the table of the reference. -/
namespace Go.Proofs.Ytabiobjcfopakaa
open Go.RowKit
def levAt (lev : List (Nat × Nat × List Nat)) (l : Nat) : Nat × Nat × List Nat := lev.getD l (0, 0, [])
def gAt (lev : List (Nat × Nat × List Nat)) (l d : Nat) : Nat := (levAt lev l).2.2.getD d 0
/-- Only blocks of the table's rows have turned. -/
structure FrG (gs : List Nat) (w w' : World) : Prop where
  os : w'.os = w.os
  tape : w'.tape = w.tape
  output : w'.output = w.output
  size : w'.heap.size = w.heap.size
  block : ∀ k, k ∉ gs → w'.heap[k]? = w.heap[k]?
theorem FrG.refl (gs : List Nat) (w : World) : FrG gs w w := ⟨rfl, rfl, rfl, rfl, fun _ _ => rfl⟩
theorem FrG.trans {gs : List Nat} {a b c : World} (h : FrG gs a b) (k : FrG gs b c) : FrG gs a c :=
  ⟨k.os.trans h.os, k.tape.trans h.tape, k.output.trans h.output, k.size.trans h.size, fun i hi => (k.block i hi).trans (h.block i hi)⟩
structure Tbl (w : World) (T Rb k0 ck : Nat) (Z : List Int) (r L : Nat) (lev : List (Nat × Nat × List Nat)) (f : Nat → Nat → Nat → Int) : Prop where
  blk : Blk w T 180 [slN Rb (Z.length + 1), .int .i64 (r : Int), .int .i64 (L : Int), .slice (some ⟨k0, 0, Option.none⟩) (L + 1) ck]
  rest : Blk w Rb 3 (ints (restL Z))
  outer : ∀ l, l ≤ L → w.cell? ⟨k0, l, Option.none⟩ = some (lvV (Z.length + 1) (levAt lev l))
  mid : ∀ l d, l ≤ L → d ≤ Z.length → w.cell? ⟨(levAt lev l).1, d, Option.none⟩ = some (slN (gAt lev l d) (Z.length + 1))
  rows : ∀ l d, l ≤ L → d ≤ Z.length → Blk w (gAt lev l d) 3 (ints ((List.range (Z.length + 1)).map (f l d)))
  mem : ∀ l d, l ≤ L → d ≤ Z.length → gAt lev l d ∈ flatG lev
  inj : ∀ l d l' d', l ≤ L → d ≤ Z.length → l' ≤ L → d' ≤ Z.length → gAt lev l d = gAt lev l' d' → l = l' ∧ d = d'
  far : ∀ g ∈ flatG lev, g ≠ T ∧ g ≠ Rb ∧ g ≠ k0 ∧ ∀ l, l ≤ L → g ≠ (levAt lev l).1
def upd (f : Nat → Nat → Nat → Int) (l d i : Nat) (v : Int) : Nat → Nat → Nat → Int := fun l' d' i' => if l' = l ∧ d' = d ∧ i' = i then v else f l' d' i'
theorem map_upd {f : Nat → Int} {n i : Nat} {v : Int} : ((List.range n).map f).set i v = (List.range n).map fun j => if j = i then v else f j := by
  refine List.ext_getElem (by simp) fun j h1 h2 => ?_
  rw [List.getElem_set]
  simp only [List.getElem_map, List.getElem_range]
  by_cases e : i = j
  · rw [if_pos e, if_pos e.symm]
  · rw [if_neg e, if_neg (fun h => e h.symm)]
theorem cell_far {w : World} {g i b o : Nat} {u v : Value} (h : w.cell? ⟨b, o, Option.none⟩ = some v) (hne : g ≠ b) : (w.setCell ⟨g, i, Option.none⟩ u).cell? ⟨b, o, Option.none⟩ = some v := by
  unfold World.cell? at h ⊢
  rw [Below.heap_setCell w _ u b (fun e => hne e.symm)]
  exact h
theorem Tbl.set {w : World} {T Rb k0 ck : Nat} {Z : List Int} {r L : Nat} {lev : List (Nat × Nat × List Nat)} {f : Nat → Nat → Nat → Int} (h : Tbl w T Rb k0 ck Z r L lev f) {l d i : Nat} (hl : l ≤ L) (hd : d ≤ Z.length) (v : Int) :
    Tbl (w.setCell ⟨gAt lev l d, i, Option.none⟩ (.int .i64 v)) T Rb k0 ck Z r L lev (upd f l d i v) := by
  have hg := h.far _ (h.mem l d hl hd)
  refine ⟨h.blk.far (p := ⟨gAt lev l d, i, Option.none⟩) (fun e => hg.1 e.symm) _, h.rest.far (p := ⟨gAt lev l d, i, Option.none⟩) (fun e => hg.2.1 e.symm) _, fun l' hl' => cell_far (h.outer l' hl') hg.2.2.1, fun l' d' hl' hd' => cell_far (h.mid l' d' hl' hd') (hg.2.2.2 l' hl'), fun l' d' hl' hd' => ?_, h.mem, h.inj, h.far⟩
  by_cases e : l' = l ∧ d' = d
  · obtain ⟨rfl, rfl⟩ := e
    have h1 := (h.rows l' d' hl' hd').set_ i (.int .i64 v)
    have h2 : (ints ((List.range (Z.length + 1)).map (f l' d'))).set i (.int .i64 v) = ints ((List.range (Z.length + 1)).map (upd f l' d' i v l' d')) := by
      unfold ints
      rw [← List.map_set, map_upd]
      simp [upd]
    rw [h2] at h1
    exact h1
  · have h1 := (h.rows l' d' hl' hd').far (p := ⟨gAt lev l d, i, Option.none⟩) (fun e2 => e (h.inj l' d' l d hl' hd' hl hd e2)) (.int .i64 v)
    have h2 : upd f l d i v l' d' = f l' d' := by
      funext j
      unfold upd
      rw [if_neg (fun h => e ⟨h.1, h.2.1⟩)]
    rw [h2]
    exact h1
theorem Tbl.cell {w : World} {T Rb k0 ck : Nat} {Z : List Int} {r L : Nat} {lev : List (Nat × Nat × List Nat)} {f : Nat → Nat → Nat → Int} (h : Tbl w T Rb k0 ck Z r L lev f) {l d i : Nat} (hl : l ≤ L) (hd : d ≤ Z.length) (hi : i ≤ Z.length) :
    w.cell? ⟨gAt lev l d, i, Option.none⟩ = some (.int .i64 (f l d i)) := by
  rw [(h.rows l d hl hd).cell i]
  unfold ints
  rw [List.getElem?_map, List.getElem?_map, List.getElem?_range (by omega)]; rfl
/-- What stands in the table is right. -/
def InvT (Z : List Int) (r L : Nat) (f : Nat → Nat → Nat → Int) : Prop := ∀ l d i, 1 ≤ l → l ≤ L → d ≤ Z.length → i ≤ Z.length - d → f l d i = 0 ∨ f l d i = relC r L (Z.drop d) l i + 1
theorem InvT.set {Z : List Int} {r L : Nat} {f : Nat → Nat → Nat → Int} (h : InvT Z r L f) {l d i : Nat} {v : Int} (hv : v = relC r L (Z.drop d) l i + 1) : InvT Z r L (upd f l d i v) := by
  intro l' d' i' h1 h2 h3 h4
  unfold upd
  split
  · rename_i e
    obtain ⟨rfl, rfl, rfl⟩ := e
    exact .inr hv
  · exact h l' d' i' h1 h2 h3 h4
/-- Worlds behind calls that fill the table. -/
structure LaterX (w : World) (T Rb k0 ck : Nat) (Z : List Int) (r L : Nat) (lev : List (Nat × Nat × List Nat)) where
  val : World
  f : Nat → Nat → Nat → Int
  tbl : Tbl val T Rb k0 ck Z r L lev f
  inv : InvT Z r L f
  fr : FrG (flatG lev) w val
theorem Tbl.drewN {w : World} {T Rb k0 ck : Nat} {Z : List Int} {r L : Nat} {lev : List (Nat × Nat × List Nat)} {f : Nat → Nat → Nat → Int} (h : Tbl w T Rb k0 ck Z r L lev f) (n : Nat) : Tbl (w.drewN n) T Rb k0 ck Z r L lev f :=
  ⟨h.blk, h.rest, h.outer, h.mid, h.rows, h.mem, h.inj, h.far⟩
section
variable {w : World} {T Rb k0 ck : Nat} {Z : List Int} {r L : Nat} {lev : List (Nat × Nat × List Nat)}
end
end Go.Proofs.Ytabiobjcfopakaa
/- Contracts: LeastLengths and LeastCost of the reference. -/
namespace Go.Proofs.Ytabiobjcfopakaa
open Go.RowKit
theorem flat_inj : ∀ (lev : List (Nat × Nat × List Nat)), (flatG lev).Nodup → ∀ (l d l' d' : Nat) (x x' : Nat × Nat × List Nat) (g : Nat), lev[l]? = some x → lev[l']? = some x' → x.2.2[d]? = some g → x'.2.2[d']? = some g → l = l' ∧ d = d'
  | [], _, l, d, l', d', x, x', g, h, _, _, _ => by simp at h
  | y :: lev, hn, l, d, l', d', x, x', g, h1, h2, h3, h4 => by
    have hf : flatG (y :: lev) = y.2.2 ++ flatG lev := by simp [flatG]
    rw [hf, List.nodup_append] at hn
    have hmem : ∀ (k : Nat) (z : Nat × Nat × List Nat), lev[k]? = some z → ∀ b ∈ z.2.2, b ∈ flatG lev := fun k z hz b hb => by
      unfold flatG; rw [List.mem_flatMap]; exact ⟨z, List.mem_of_getElem? hz, hb⟩
    cases l with
    | zero =>
      rw [List.getElem?_cons_zero] at h1; cases h1
      cases l' with
      | zero =>
        rw [List.getElem?_cons_zero] at h2; cases h2
        have := (List.getElem?_inj (i := d) (j := d') (List.getElem?_eq_some_iff.1 h3).1 hn.1).1 (by rw [h3, h4])
        exact ⟨rfl, this⟩
      | succ l' =>
        rw [List.getElem?_cons_succ] at h2
        exact absurd rfl (hn.2.2 g (List.mem_of_getElem? h3) g (hmem l' x' h2 g (List.mem_of_getElem? h4)))
    | succ l =>
      rw [List.getElem?_cons_succ] at h1
      cases l' with
      | zero =>
        rw [List.getElem?_cons_zero] at h2; cases h2
        exact absurd rfl (hn.2.2 g (List.mem_of_getElem? h4) g (hmem l x h1 g (List.mem_of_getElem? h3)))
      | succ l' =>
        rw [List.getElem?_cons_succ] at h2
        have := flat_inj lev hn.2.1 l d l' d' x x' g h1 h2 h3 h4
        exact ⟨by omega, this.2⟩
/-- A newly made table holds noughts. -/
theorem TabNew.tbl {Z : List Int} {r L : Nat} {w0 w : World} {T : Nat} (h : TabNew Z r L w0 w T) : ∃ k0 ck lev, Tbl w T w0.heap.size k0 ck Z r L lev (fun _ _ _ => 0) ∧ (∀ g ∈ flatG lev, T < g ∧ g < w.heap.size) ∧ w0.heap.size < T ∧ Below w0.heap.size w0 w := by
  obtain ⟨K, ck, lev, hT, hblk, hrest, hll, how, hlv, hbl⟩ := h
  obtain ⟨k0, rfl, cur0, hcur0⟩ : ∃ k0, K = some ⟨k0, 0, Option.none⟩ ∧ ∃ cur, w.heap[k0]? = some (.cells cur 61 (0, 0)) := by
    rcases how.2 with ⟨_, e⟩ | ⟨g, cap, cur, e, _, hg, _⟩
    · omega
    · cases e; exact ⟨g, rfl, cur, hg⟩
  have hlev : ∀ l, l ≤ L → ∃ x, lev[l]? = some x ∧ levAt lev l = x := by
    intro l hl
    have h1 := List.getElem?_eq_getElem (l := lev) (i := l) (by omega)
    exact ⟨lev[l], h1, by unfold levAt; rw [List.getD_eq_getElem?_getD, h1]; rfl⟩
  have hg : ∀ l d, l ≤ L → d ≤ Z.length → ∃ x g, lev[l]? = some x ∧ levAt lev l = x ∧ x.2.2[d]? = some g ∧ gAt lev l d = g := by
    intro l d hl hd
    obtain ⟨x, h1, h2⟩ := hlev l hl
    have hlen := (hlv.ok x (List.mem_of_getElem? h1)).len
    have h3 := List.getElem?_eq_getElem (l := x.2.2) (i := d) (by omega)
    exact ⟨x, x.2.2[d], h1, h2, h3, by unfold gAt; rw [h2, List.getD_eq_getElem?_getD, h3]; rfl⟩
  have hmem : ∀ l d, l ≤ L → d ≤ Z.length → gAt lev l d ∈ flatG lev := by
    intro l d hl hd
    obtain ⟨x, g, h1, _, h3, h4⟩ := hg l d hl hd
    rw [h4]; unfold flatG; rw [List.mem_flatMap]
    exact ⟨x, List.mem_of_getElem? h1, List.mem_of_getElem? h3⟩
  have hzero : ∀ g ∈ flatG lev, Blk w g 3 (ints (List.replicate (Z.length + 1) 0)) := by
    intro g hgm
    unfold flatG at hgm
    rw [List.mem_flatMap] at hgm
    obtain ⟨x, hx, hgx⟩ := hgm
    exact (hlv.ok x hx).zero g hgx
  refine ⟨k0, ck, lev, ⟨hblk, hrest, fun l hl => ?_, fun l d hl hd => ?_, fun l d hl hd => ?_, hmem, fun l d l' d' hl hd hl' hd' e => ?_, fun g hgm => ?_⟩, hlv.range, hT, hbl⟩
  · obtain ⟨x, h1, h2⟩ := hlev l hl
    have h3 := how.cells (g := k0) rfl l (lvV (Z.length + 1) x) (by rw [List.getElem?_map, h1]; rfl)
    have hadd : (⟨k0, 0, Option.none⟩ : Addr).add l = ⟨k0, 0 + l, Option.none⟩ := by unfold Addr.add; split <;> simp_all
    rw [hadd, Nat.zero_add] at h3
    rw [h2]; exact h3
  · obtain ⟨x, g, h1, h2, h3, h4⟩ := hg l d hl hd
    obtain ⟨cur, hc, ht⟩ := (hlv.ok x (List.mem_of_getElem? h1)).row
    rw [h2, h4]
    have h5 := congrArg (fun l : List Value => l[d]?) ht
    simp only [List.getElem?_map, h3, List.getElem?_take] at h5
    rw [if_pos (by omega)] at h5
    rw [cell_of_row w x.1 d cur 29 (0, 0) hc]
    simpa using h5
  · have := hzero _ (hmem l d hl hd)
    rw [show (List.range (Z.length + 1)).map (fun _ => (0 : Int)) = List.replicate (Z.length + 1) 0 by rw [List.map_const']; simp]
    exact this
  · obtain ⟨x, g, h1, _, h3, h4⟩ := hg l d hl hd
    obtain ⟨x', g', h1', _, h3', h4'⟩ := hg l' d' hl' hd'
    rw [h4, h4'] at e
    subst e
    exact flat_inj lev hlv.nodup l d l' d' x x' g h1 h1' h3 h3'
  · have hz := hzero g hgm
    have hr := hlv.range g hgm
    refine ⟨by omega, by omega, hz.heap_ne hcur0 (by decide), fun l hl => ?_⟩
    obtain ⟨x, h1, h2⟩ := hlev l hl
    obtain ⟨cur, hc, _⟩ := (hlv.ok x (List.mem_of_getElem? h1)).row
    rw [h2]
    exact hz.heap_ne hc (by decide)
/-- All blocks of the table lie below N. -/
structure TLt (N T Rb k0 : Nat) (Z : List Int) (L : Nat) (lev : List (Nat × Nat × List Nat)) : Prop where
  t : T < N
  rb : Rb < N
  k : k0 < N
  lv : ∀ l, l ≤ L → (levAt lev l).1 < N
  g : ∀ l d, l ≤ L → d ≤ Z.length → gAt lev l d < N
theorem Tbl.same {w w' : World} {T Rb k0 ck N : Nat} {Z : List Int} {r L : Nat} {lev : List (Nat × Nat × List Nat)} {f : Nat → Nat → Nat → Int} (h : Tbl w T Rb k0 ck Z r L lev f) (hl : TLt N T Rb k0 Z L lev) (hb : Below N w w') : Tbl w' T Rb k0 ck Z r L lev f :=
  ⟨h.blk.below hb hl.t, h.rest.below hb hl.rb, fun l h1 => (hb.cell (p := ⟨k0, l, Option.none⟩) hl.k).trans (h.outer l h1), fun l d h1 h2 => (hb.cell (p := ⟨(levAt lev l).1, d, Option.none⟩) (hl.lv l h1)).trans (h.mid l d h1 h2), fun l d h1 h2 => (h.rows l d h1 h2).below hb (hl.g l d h1 h2), h.mem, h.inj, h.far⟩
theorem FrG.bel {gs : List Nat} {w w' : World} {B : Nat} (h : FrG gs w w') (hg : ∀ g ∈ gs, B ≤ g) : Below B w w' := ⟨h.os, h.tape, h.output, Nat.le_of_eq h.size.symm, fun k hk => h.block k (fun hm => by have := hg k hm; omega)⟩
end Go.Proofs.Ytabiobjcfopakaa
/- Contracts: LeastLengths and LeastCost of the reference. -/
namespace Go.Proofs.Ytabiobjcfopakaa
open Go.RowKit
/-- What is still to be laid out: the list found for what is left. -/
def Left (r L : Nat) (Z : List Int) (X : List Nat) (level done free : Nat) : Prop := ∃ y, lvl r L (Z.drop done) level free = some y ∧ X.drop done = y.1
theorem Left.start {r L : Nat} {Z : List Int} {x : List Nat × Int} (hr : 1 ≤ r) (hL : 1 ≤ L) (hZ : ∀ w ∈ Z, 0 ≤ w) (h : bst r L Z 1 (r ^ L) = some x) : Left r L Z x.1 1 0 (min r Z.length) := by
  refine ⟨x, ?_, by simp⟩
  rw [List.drop_zero, lvl_min hr hZ]
  unfold lvl
  rw [show r * r ^ (L - 1) = r ^ L by rw [Nat.mul_comm, ← Nat.pow_succ]; congr 1; omega]
  exact h
/-- One level is laid out. -/
theorem Left.step {r L : Nat} {Z : List Int} {X : List Nat} {level done free : Nat} (hr : 1 ≤ r) (hZ : ∀ w ∈ Z, 0 ≤ w) (hb : (L : Int) * sumW (Z.drop done) < 1000000000) (h : Left r L Z X level done free) (hf : free ≤ Z.length - done) (h1 : 1 ≤ level) (hd : done < Z.length) :
    level ≤ L ∧ ∃ t, t ≤ free ∧ withC r L (Z.drop done) level free t = relC r L (Z.drop done) level free ∧ (∀ s, t < s → s ≤ free → relC r L (Z.drop done) level free < withC r L (Z.drop done) level free s) ∧
      (∀ k, k < t → X[done + k]? = some level) ∧ Left r L Z X (level + 1) (done + t) (min ((free - t) * r) (Z.length - (done + t))) := by
  obtain ⟨y, hy, hX⟩ := h
  have hne : Z.drop done ≠ [] := by intro e; have := congrArg List.length e; rw [List.length_drop, List.length_nil] at this; omega
  have hlL : level ≤ L := by
    rcases Nat.lt_or_ge L level with h2 | h2
    · rw [lvl_end hne h2] at hy; cases hy
    · exact h2
  have hZd : ∀ w ∈ Z.drop done, 0 ≤ w := fun w hw => hZ w (List.mem_of_mem_drop hw)
  obtain ⟨t, z, ht, hw, hs, hz, he⟩ := lvl_greedy hr hZd (by rw [List.length_drop]; exact hf) h1 hlL hb hy
  refine ⟨hlL, t, ht, hw, hs, fun k hk => ?_, z, ?_, ?_⟩
  · have h2 : (X.drop done)[k]? = some level := by
      rw [hX, he, List.getElem?_append_left (by simp; exact hk), List.getElem?_replicate, if_pos hk]
    rwa [List.getElem?_drop] at h2
  · rw [List.drop_drop] at hz
    have h3 := lvl_min (r := r) (L := L) hr (ws := Z.drop (done + t)) (fun w hw => hZ w (List.mem_of_mem_drop hw)) (level := level + 1) (f := (free - t) * r)
    rw [List.length_drop] at h3
    rw [h3]; exact hz
  · rw [← List.drop_drop, hX, he]
    simp
end Go.Proofs.Ytabiobjcfopakaa
/- Contracts: drawn lists of numbers: weights, lengths; numbers of digits. -/
namespace Go.Proofs.Ytabiobjcfopakaa
open Go.RowKit
theorem KeepG.fresh {C D : Nat} {w0 w w' : World} (h : KeepG C D w0 w) (hb : Below w0.heap.size w w') : KeepG C D w0 w' :=
  ⟨hb.os.trans h.os, hb.tape.trans h.tape, hb.output.trans h.output, Nat.le_trans h.size hb.size, fun k hk hn => (hb.block k hk).trans (h.block k hk hn)⟩
theorem KeepG.alloc {C D : Nat} {w0 w : World} (h : KeepG C D w0 w) (o : Obj) : KeepG C D w0 (w.alloc o) := h.trans (below_g ((Below.refl _ w).alloc (Nat.le_refl _) o))
theorem Cur.fresh {w w' : World} {C m B : Nat} (h : Cur w C m) (hb : Below B w w') (hC : C < B) : Cur w' C m := by
  obtain ⟨v, zs, p, s, h1, h2, h3⟩ := h
  exact ⟨v, zs, p, s, h1.below hb hC, Rd.below h2 hb (by omega), h3⟩
theorem owns_keepG {w w' : World} {lo C size n : Nat} {e : TypeId} {v : Value} {xs : List Value} (h : w.ownsRow lo e size v n xs) (hk : KeepG C (C + 1) w w') (hC : C < lo) : w'.ownsRow lo e size v n xs := by
  refine ⟨h.1, ?_⟩
  rcases h.2 with hn | ⟨g, cap, cur, rfl, hl, hg, rest⟩
  · exact .inl hn
  · exact .inr ⟨g, cap, cur, rfl, hl, (hk.block g (Array.getElem?_eq_some_iff.1 hg).1 (by omega)).trans hg, rest⟩
/-- A row of numbers drawn since the world w0; the cursor at C. -/
def DrL (w0 : World) (C m : Nat) (wr : World) (v : Value) (xs : List Int) : Prop := wr.ownsRow w0.heap.size 3 1 v xs.length (ints xs) ∧ Cur wr C m ∧ KeepG C (C + 1) w0 wr
theorem DrL.start {w : World} {C m : Nat} (h : Cur w C m) : DrL w C m w (.slice Option.none 0 0) [] := ⟨World.ownsRow_nil _ _ _ _, h, KeepG.refl _ _ _⟩
theorem DrL.step {w0 wr w' : World} {C m m' : Nat} {v : Value} {xs : List Int} (h : DrL w0 C m wr v xs) (hC : C < w0.heap.size) (hc : Cur w' C m') (hk : KeepG C (C + 1) wr w') : DrL w0 C m' w' v xs :=
  ⟨owns_keepG h.1 hk hC, hc, h.2.2.trans hk⟩
theorem DrL.alloc {w0 wr : World} {C m : Nat} {v : Value} {xs : List Int} (h : DrL w0 C m wr v xs) (o : Obj) : DrL w0 C m (wr.alloc o) v xs :=
  ⟨h.1.alloc o, h.2.1.alloc o, h.2.2.trans (below_g ((Below.refl _ wr).alloc (Nat.le_refl _) o))⟩
theorem DrL.mono {w0 wr : World} {C m m' : Nat} {v : Value} {xs : List Int} (h : DrL w0 C m wr v xs) (hm : m ≤ m') : DrL w0 C m' wr v xs := ⟨h.1, h.2.1.mono hm, h.2.2⟩
theorem DrL.le {w0 wr : World} {C m : Nat} {v : Value} {xs : List Int} (h : DrL w0 C m wr v xs) : w0.heap.size ≤ wr.heap.size := h.2.2.size
theorem DrL.own {w0 wr : World} {C m : Nat} {v : Value} {xs : List Int} (h : DrL w0 C m wr v xs) : OwI wr w0.heap.size wr.heap.size v xs := ⟨h.1, fun k hk => (h.1.lt k hk).2⟩
theorem DrL.rd {w0 wr : World} {C m : Nat} {v : Value} {xs : List Int} (h : DrL w0 C m wr v xs) : RdI wr wr.heap.size v xs := h.own.rd
theorem DrL.form {w0 wr : World} {C m : Nat} {v : Value} {xs : List Int} (h : DrL w0 C m wr v xs) : ∃ A c, v = .slice A xs.length c := by
  obtain ⟨A, c, hv, _⟩ := Rd.form h.rd
  exact ⟨A, c, hv⟩
theorem DrL.grow {w0 wr w' : World} {C m : Nat} {v v' : Value} {xs ys : List Int} (h : DrL w0 C m wr v xs) (hC : C < w0.heap.size) (hG : GrowI wr w0.heap.size w' v' ys) : DrL w0 C m w' v' ys :=
  ⟨hG.1, h.2.1.fresh hG.2.1 hC, h.2.2.fresh hG.2.1⟩
theorem DrL.gr {w0 wr : World} {C m : Nat} {v : Value} {xs : List Int} (h : DrL w0 C m wr v xs) : GrowI wr w0.heap.size wr v xs := ⟨h.1, Below.refl _ _, h.le⟩
theorem DrL.pos {w0 wr : World} {C m : Nat} {v : Value} {xs : List Int} (h : DrL w0 C m wr v xs) (hp : 0 < xs.length) : ∃ g c, v = .slice (some ⟨g, 0, Option.none⟩) xs.length c ∧ w0.heap.size ≤ g := by
  rcases h.1.2 with ⟨_, e⟩ | ⟨g, cap, cur, hv, hl, _⟩
  · omega
  · exact ⟨g, cap, hv, hl⟩
theorem DrL.cell {w0 wr : World} {C m g c : Nat} {xs : List Int} (h : DrL w0 C m wr (.slice (some ⟨g, 0, Option.none⟩) xs.length c) xs) {j : Nat} (hj : j < xs.length) : wr.cell? ⟨g, j, Option.none⟩ = some (.int .i64 xs[j]) ∧ wr.frozen? ⟨g, j, Option.none⟩ = false := by
  refine ⟨?_, h.1.frozenAt j⟩
  rw [h.1.cellAt j (by omega)]
  simp [ints, hj]
theorem DrL.put {w0 wr : World} {C m g c : Nat} {xs : List Int} (h : DrL w0 C m wr (.slice (some ⟨g, 0, Option.none⟩) xs.length c) xs) (hC : C < w0.heap.size) (hg : w0.heap.size ≤ g) (j : Nat) (y : Int) :
    DrL w0 C m (wr.setCell ⟨g, j, Option.none⟩ (.int .i64 y)) (.slice (some ⟨g, 0, Option.none⟩) xs.length c) (xs.set j y) := by
  have h1 := (h.1.stored j (.int .i64 y)).1
  have hb : Below w0.heap.size wr (wr.setCell ⟨g, j, Option.none⟩ (.int .i64 y)) := (Below.refl _ _).setCell hg _
  refine ⟨?_, h.2.1.fresh hb hC, h.2.2.fresh hb⟩
  have h2 : ints (xs.set j y) = (ints xs).set j (.int .i64 y) := by unfold ints; rw [List.map_set]
  rw [h2, List.length_set]
  exact h1
/-- What a call that draws a list leaves. -/
def DrewL (C m N : Nat) (w : World) (e : Ending) (w' : World) : Prop := ∃ v xs, e = .returned v ∧ xs.length ≤ N ∧ DrL w C m w' v xs
end Go.Proofs.Ytabiobjcfopakaa
/- Typed rows: slices of numbers and phrases of a drawn book, of which only the kind of the cells is known. -/
namespace Go.Proofs.Ytabiobjcfopakaa
open Go.RowKit
/-- A slice of p to 1000 numbers in a row of numbers from block lo on; what it holds is of no matter. -/
def IntSl (w : World) (lo p : Nat) (u : Value) : Prop :=
  (u = .slice Option.none 0 0 ∧ p = 0) ∨ ∃ (b n c : Nat) (cur : Array Value), u = .slice (some ⟨b, 0, Option.none⟩) n c ∧ lo ≤ b ∧ (p ≤ n ∧ n ≤ 1000 ∧ n ≤ c) ∧ c ≤ 9223372036854775807 ∧ w.heap[b]? = some (.cells cur 3 (0, 0)) ∧ ∀ j, j < n → ∃ z : Int, cur[j]? = some (.int .i64 z)
/-- Rows of numbers stay rows of numbers. -/
def IntsKept (lo : Nat) (w w' : World) : Prop := ∀ (b : Nat) (cur : Array Value), lo ≤ b → w.heap[b]? = some (.cells cur 3 (0, 0)) → ∃ cur' : Array Value, w'.heap[b]? = some (.cells cur' 3 (0, 0)) ∧ ∀ (j : Nat) (z : Int), cur[j]? = some (.int .i64 z) → ∃ z' : Int, cur'[j]? = some (.int .i64 z')
theorem IntsKept.same {lo : Nat} {w w' : World} (h : ∀ (b : Nat) (cur : Array Value), lo ≤ b → w.heap[b]? = some (.cells cur 3 (0, 0)) → w'.heap[b]? = w.heap[b]?) : IntsKept lo w w' := fun b cur hb hg => ⟨cur, (h b cur hb hg).trans hg, fun _ z hz => ⟨z, hz⟩⟩
theorem IntsKept.refl (lo : Nat) (w : World) : IntsKept lo w w := .same fun _ _ _ _ => rfl
theorem IntsKept.trans {lo : Nat} {a b c : World} (h : IntsKept lo a b) (g : IntsKept lo b c) : IntsKept lo a c := fun k cur hk hg => by
  obtain ⟨c1, h1, h2⟩ := h k cur hk hg
  obtain ⟨c2, g1, g2⟩ := g k c1 hk h1
  refine ⟨c2, g1, fun j z hz => ?_⟩
  obtain ⟨z1, hz1⟩ := h2 j z hz
  exact g2 j z1 hz1
theorem IntsKept.keepG {lo C : Nat} {w w' : World} (h : KeepG C (C + 1) w w') (hC : C < lo) : IntsKept lo w w' := .same fun b _ hb hg => h.block b (Array.getElem?_eq_some_iff.1 hg).1 (by omega)
theorem IntsKept.below {lo : Nat} {w w' : World} (h : Below w.heap.size w w') : IntsKept lo w w' := .same fun b _ _ hg => h.block b (Array.getElem?_eq_some_iff.1 hg).1
theorem IntsKept.alloc {lo : Nat} {w w' : World} (h : IntsKept lo w w') (o : Obj) : IntsKept lo w (w'.alloc o) := h.trans (.below ((Below.refl _ _).alloc (Nat.le_refl _) _))
/-- A store into a row of another kind. -/
theorem IntsKept.far {lo : Nat} {w : World} {p : Addr} {u : Value} (h : ∀ cur, w.heap[p.block]? ≠ some (.cells cur 3 (0, 0))) : IntsKept lo w (w.setCell p u) := .same fun b cur _ hg => Below.heap_setCell w p u b (fun e => h cur (by rw [← e]; exact hg))
theorem IntsKept.setInt {lo : Nat} {w : World} {b i : Nat} (z : Int) : IntsKept lo w (w.setCell ⟨b, i, Option.none⟩ (.int .i64 z)) := fun k cur hk hg => by
  by_cases e : k = b
  · subst e
    refine ⟨cur.setIfInBounds i (.int .i64 z), heap_setCell_same w k i cur 3 (.int .i64 z) hg, fun j y hy => ?_⟩
    by_cases e2 : i = j
    · subst e2
      have hl := (Array.getElem?_eq_some_iff.1 hy).1
      exact ⟨z, by simp [hl]⟩
    · exact ⟨y, by rw [Array.getElem?_setIfInBounds, if_neg e2]; exact hy⟩
  · exact ⟨cur, (Below.heap_setCell w ⟨b, i, Option.none⟩ _ k e).trans hg, fun _ y hy => ⟨y, hy⟩⟩
theorem IntSl.kept {lo p : Nat} {w w' : World} {u : Value} (h : IntSl w lo p u) (hk : IntsKept lo w w') : IntSl w' lo p u := by
  rcases h with h0 | ⟨b, n, c, cur, rfl, hb, hn, hc, hg, hz⟩
  · exact .inl h0
  · obtain ⟨cur', h1, h2⟩ := hk b cur hb hg
    refine .inr ⟨b, n, c, cur', rfl, hb, hn, hc, h1, fun j hj => ?_⟩
    obtain ⟨z, hz1⟩ := hz j hj
    exact h2 j z hz1
theorem IntSl.nil (w : World) (lo : Nat) : IntSl w lo 0 (.slice Option.none 0 0) := .inl ⟨rfl, rfl⟩
theorem IntSl.own {w : World} {lo p : Nat} {v : Value} {xs : List Int} (h : w.ownsRow lo 3 1 v xs.length (ints xs)) (hp : p ≤ xs.length) (hx : xs.length ≤ 1000) : IntSl w lo p v := by
  rcases h.2 with ⟨rfl, hz⟩ | ⟨g, cap, cur, rfl, hl, hg, hn, hm, hs, ht⟩
  · exact .inl ⟨rfl, by omega⟩
  · refine .inr ⟨g, xs.length, cap, cur, rfl, hl, ⟨hp, hx, hn⟩, by unfold maxLen at hm; omega, hg, fun j hj => ⟨xs[j], ?_⟩⟩
    have h1 : (ints xs)[j]? = some (.int .i64 xs[j]) := by simp [ints, hj]
    rw [← ht, List.getElem?_take, if_pos (by omega)] at h1
    simpa using h1
theorem IntSl.zero {w : World} {lo p : Nat} {u : Value} (h : IntSl w lo p u) : IntSl w lo 0 u := by
  rcases h with ⟨rfl, _⟩ | ⟨b, n, c, cur, h1, h2, h3, h4⟩
  · exact .inl ⟨rfl, rfl⟩
  · exact .inr ⟨b, n, c, cur, h1, h2, ⟨Nat.zero_le _, h3.2⟩, h4⟩
theorem IntSl.form {w : World} {lo p : Nat} {u : Value} (h : IntSl w lo p u) : ∃ A n c, u = .slice A n c ∧ p ≤ n ∧ n ≤ 1000 := by
  rcases h with ⟨rfl, h0⟩ | ⟨b, n, c, cur, rfl, _, h3, _⟩
  · exact ⟨_, _, _, rfl, by omega, by omega⟩
  · exact ⟨_, _, _, rfl, h3.1, h3.2.1⟩
theorem IntSl.rd {w : World} {lo p : Nat} {u : Value} (h : IntSl w lo p u) : ∃ xs : List Int, RdI w w.heap.size u xs := by
  rcases h with ⟨rfl, _⟩ | ⟨b, n, c, cur, rfl, hb, hn, hc, hg, hz⟩
  · exact ⟨[], (owI_nil w 0 w.heap.size).rd⟩
  · have hz' : ∃ f : Nat → Int, ∀ j, j < n → cur[j]? = some (.int .i64 (f j)) := by
      refine ⟨fun j => if h : j < n then Classical.choose (hz j h) else 0, fun j hj => ?_⟩
      dsimp only
      rw [dif_pos hj]
      exact Classical.choose_spec (hz j hj)
    obtain ⟨f, hf⟩ := hz'
    have hl : ((List.range n).map f).length = n := by simp
    refine ⟨(List.range n).map f, by simp, some ⟨b, 0, Option.none⟩, c, by rw [hl], by rw [hl]; exact hn.2.2, by unfold maxLen; omega, fun _ => ⟨b, 0, rfl, (Array.getElem?_eq_some_iff.1 hg).1, fun j x hx => ?_⟩⟩
    rw [show (0 : Nat) + j = j by omega, cell_of_row w b j cur 3 (0, 0) hg]
    unfold ints at hx
    rw [List.map_map, List.getElem?_map] at hx
    by_cases hj : j < n
    · rw [List.getElem?_range hj] at hx
      rw [hf j hj]
      exact hx
    · rw [List.getElem?_eq_none (by simp; omega)] at hx; cases hx
/-- A row of n phrases of the call's own, of which only the kind is known. -/
def BookR (w : World) (lo p : Nat) (v : Value) (n : Nat) : Prop := ∃ (ts : List ByteArray) (us : List Value), ts.length = n ∧ us.length = n ∧ w.ownsRow lo 60 2 v n (zipC ts us) ∧ (∀ t ∈ ts, t.size ≤ 1000) ∧ ∀ u ∈ us, IntSl w lo p u
theorem BookR.nil (w : World) (lo p : Nat) : BookR w lo p (.slice Option.none 0 0) 0 := ⟨[], [], rfl, rfl, World.ownsRow_nil _ _ _ _, by simp, by simp⟩
theorem BookR.step {w w' : World} {lo p C n : Nat} {v : Value} (h : BookR w lo p v n) (hk : KeepG C (C + 1) w w') (hC : C < lo) : BookR w' lo p v n := by
  obtain ⟨ts, us, h1, h2, h3, h4, h5⟩ := h
  exact ⟨ts, us, h1, h2, owns_keepG h3 hk hC, h4, fun u hu => (h5 u hu).kept (.keepG hk hC)⟩
theorem BookR.zero {w : World} {lo p n : Nat} {v : Value} (h : BookR w lo p v n) : BookR w lo 0 v n := by
  obtain ⟨ts, us, h1, h2, h3, h4, h5⟩ := h
  exact ⟨ts, us, h1, h2, h3, h4, fun u hu => (h5 u hu).zero⟩
theorem BookR.rd {w : World} {lo p n : Nat} {v : Value} (h : BookR w lo p v n) : ∃ ps : List Phr, ps.length = n ∧ RdPS w w.heap.size v ps := by
  classical
  obtain ⟨ts, us, h1, h2, h3, h4, h5⟩ := h
  have hx : ∃ f : Value → List Int, ∀ u ∈ us, RdI w w.heap.size u (f u) := by
    refine ⟨fun u => if h : u ∈ us then Classical.choose (h5 u h).rd else [], fun u hu => ?_⟩
    dsimp only
    rw [dif_pos hu]
    exact Classical.choose_spec (h5 u hu).rd
  obtain ⟨f, hf⟩ := hx
  have ht : txts (ts.zip (us.map f)) = ts := by unfold txts; rw [List.map_fst_zip]; simp; omega
  have hs : sigs (ts.zip (us.map f)) = us.map f := by unfold sigs; rw [List.map_snd_zip]; simp; omega
  have hl : (ts.zip (us.map f)).length = n := by simp; omega
  refine ⟨ts.zip (us.map f), hl, us, ⟨by rw [hs]; simp, fun i u xs hu hx => ?_⟩, ?_, fun p hp => ?_⟩
  · rw [hs, List.getElem?_map, hu] at hx
    cases hx
    exact hf u (List.mem_of_getElem? hu)
  · rw [ht, hl]
    exact rd_of_owns h3 (fun k hk => (h3.lt k hk).2)
  · have := h4 p.1 (List.of_mem_zip hp).1
    omega
end Go.Proofs.Ytabiobjcfopakaa
/- A drawn book's row: a phrase is appended; a text, a slice of signals is stored. -/
namespace Go.Proofs.Ytabiobjcfopakaa
open Go.RowKit
/-- Blocks that are no rows of phrases stand. -/
def FrP (w w' : World) : Prop := ∀ (k : Nat) (c : Array Value) (e : TypeId) (fz : Nat × Nat), w.heap[k]? = some (.cells c e fz) → e ≠ 60 → w'.heap[k]? = some (.cells c e fz)
theorem Blk.frP {w w' : World} {g : Nat} {t : TypeId} {cs : List Value} (h : Blk w g t cs) (hf : FrP w w') (h1 : t ≠ 60) : Blk w' g t cs := hf _ _ _ _ h h1
theorem FrP.ints {w w' : World} (h : FrP w w') (lo : Nat) : IntsKept lo w w' := .same fun b cur _ hg => (h b cur 3 (0, 0) hg (by decide)).trans hg.symm
theorem two_cells (w : World) (u v : Value) (t : TypeId) (j : Nat) (x : Value) (h : [u, v][j]? = some x) : (w.alloc (.cells #[u, v] t)).cell? ((⟨w.heap.size, 0, Option.none⟩ : Addr).add j) = some x := by
  rw [Go.WideShapes.add_plain, show (0 : Nat) + j = j by omega, (Blk.new w t #[u, v]).cell j]
  exact h
theorem BookR.app {wr : World} {lo p n : Nat} {v : Value} {t : ByteArray} {A : Option Addr} {n1 c1 : Nat} {ops : Array Oper} {rest : List Oper} {o : Oper} {a : Act} {Q : Exit → Act → World → Prop} (hgd : o.guard = Option.none) (s x : Operand)
    (ho : o.op = .call { callee := .builtin .append, args := #[s, x], argTypes := #[46, 46] }) (hG : BookR wr lo p v n) (hlo : lo ≤ wr.heap.size) (hu : IntSl wr lo p (.slice A n1 c1)) (ht : t.size ≤ 1000) (hlen : n < 1000000)
    (hs : a.eval s = v) (hx : a.eval x = .slice (some ⟨wr.heap.size, 0, Option.none⟩) 1 1)
    (h : ∀ v' w', BookR w' lo p v' (n + 1) → Below lo wr w' → FrP wr w' → wr.heap.size ≤ w'.heap.size → wpList Try.prog ops Q rest (a.put o.dst v') w') : wpList Try.prog ops Q (o :: rest) a (wr.alloc (.cells #[.string t, .slice A n1 c1] 60)) := by
  obtain ⟨i, hi, hz0, hz1, hz2⟩ := info_parts info_phr
  obtain ⟨ts, us, h1, h2, h3, h4, h5⟩ := hG
  refine wpList_append_own _ hgd s x 46 ho lo 60 i (.agg #[.string { data := #[] }, .slice Option.none 0 0]) 2 40 Try.underlying46 hi hz0 hz1 hz2 rfl (by decide) v n (zipC ts us) hs (h3.alloc _) ⟨wr.heap.size, 0, Option.none⟩ 1 1 [.string t, .slice A n1 c1] hx rfl
    (two_cells _ _ _ _) (by intro u hu; simp at hu; rcases hu with rfl | rfl <;> rfl) (by unfold maxLen; omega) (by omega) (by simp; omega) ?_
  intro v' w' hown hgr _
  have hsz := hgr.size
  have hsz2 : wr.heap.size + 1 ≤ w'.heap.size := by simpa using hsz
  have hfar : ∀ g, g < wr.heap.size → v.ownBlock ≠ some g → w'.heap[g]? = wr.heap[g]? := fun g hg hne => (hgr.block g (by simp; omega) (fun e => hne e.symm)).trans (Below.heap_alloc wr _ g hg)
  have hfr : FrP wr w' := by
    intro k cs e fz hk e1
    have hlt := (Array.getElem?_eq_some_iff.1 hk).1
    rw [hfar k hlt (fun hv => ?_)]
    · exact hk
    · rcases h3.2 with ⟨rfl, _⟩ | ⟨g, cap, cur, rfl, _, hg, _⟩
      · cases hv
      · cases hv
        rw [hk] at hg
        cases hg
        exact e1 rfl
  have hb' : Below lo wr w' := ((Below.refl lo wr).alloc hlo _).grown hgr (by simp; omega) (fun k hk => ((h3.alloc (.cells #[.string t, .slice A n1 c1] 60)).lt k hk).1)
  refine h v' w' ⟨ts ++ [t], us ++ [.slice A n1 c1], by simp [h1], by simp [h2], ?_, fun t' ht' => ?_, fun u hu' => ?_⟩ hb' hfr (by omega)
  · rw [zipC_append ts us t _ (by omega)]
    simpa using hown
  · rw [List.mem_append, List.mem_singleton] at ht'
    rcases ht' with ht' | rfl
    · exact h4 _ ht'
    · exact ht
  · rw [List.mem_append, List.mem_singleton] at hu'
    rcases hu' with hu' | rfl
    · exact (h5 _ hu').kept (hfr.ints lo)
    · exact hu.kept (hfr.ints lo)
theorem zipC_setT : ∀ (ts : List ByteArray) (us : List Value) (j : Nat) (t : ByteArray), (zipC ts us).set (j * 2) (.string t) = zipC (ts.set j t) us
  | [], _, _, _ => rfl
  | _ :: _, [], 0, _ => rfl
  | _ :: _, [], _ + 1, _ => rfl
  | a :: ts, b :: us, 0, t => rfl
  | a :: ts, b :: us, j + 1, t => by
    rw [show (j + 1) * 2 = j * 2 + 1 + 1 by omega]
    simp only [zipC, List.set_cons_succ, zipC_setT ts us j t]
theorem zipC_setU : ∀ (ts : List ByteArray) (us : List Value) (j : Nat) (u : Value), (zipC ts us).set (j * 2 + 1) u = zipC ts (us.set j u)
  | [], _, _, _ => rfl
  | _ :: _, [], _, _ => by simp [zipC]
  | a :: ts, b :: us, 0, t => rfl
  | a :: ts, b :: us, j + 1, t => by
    rw [show (j + 1) * 2 + 1 = j * 2 + 1 + 1 + 1 by omega]
    simp only [zipC, List.set_cons_succ, zipC_setU ts us j t]
theorem BookR.pos {w : World} {lo p n : Nat} {v : Value} (h : BookR w lo p v n) (hn : 0 < n) : ∃ g c, v = .slice (some ⟨g, 0, Option.none⟩) n c ∧ lo ≤ g ∧ ∃ cur, w.heap[g]? = some (.cells cur 60 (0, 0)) := by
  obtain ⟨ts, us, h1, h2, h3, h4, h5⟩ := h
  rcases h3.2 with ⟨_, e⟩ | ⟨g, cap, cur, hv, hl, hg, _⟩
  · omega
  · exact ⟨g, cap, hv, hl, cur, hg⟩
theorem BookR.form {w : World} {lo p n : Nat} {v : Value} (h : BookR w lo p v n) : ∃ A c, v = .slice A n c := by
  obtain ⟨ps, h1, h2⟩ := h.rd
  obtain ⟨A, c, h3, _⟩ := h2.form
  exact ⟨A, c, by rw [h3, h1]⟩
theorem BookR.at_ {w : World} {lo p n g c : Nat} (h : BookR w lo p (.slice (some ⟨g, 0, Option.none⟩) n c) n) {j : Nat} (hj : j < n) :
    ∃ (t : ByteArray) (u : Value), w.cell? ⟨g, j * 2, Option.none⟩ = some (.string t) ∧ w.cell? ⟨g, j * 2 + 1, Option.none⟩ = some u ∧ IntSl w lo p u ∧ t.size ≤ 1000 ∧ w.frozen? ⟨g, j * 2, Option.none⟩ = false ∧ w.frozen? ⟨g, j * 2 + 1, Option.none⟩ = false := by
  obtain ⟨ts, us, h1, h2, h3, h4, h5⟩ := h
  have ht : ts[j]? = some ts[j] := by simp [show j < ts.length by omega]
  have hu : us[j]? = some us[j] := by simp [show j < us.length by omega]
  have hz := zipC_at ts us j _ _ ht hu
  exact ⟨ts[j], us[j], (h3.cellAt _ (by omega)).trans hz.1, (h3.cellAt _ (by omega)).trans hz.2, h5 _ (List.mem_of_getElem? hu), h4 _ (List.mem_of_getElem? ht), h3.frozenAt _, h3.frozenAt _⟩
theorem BookR.setText {w : World} {lo p n g c : Nat} (h : BookR w lo p (.slice (some ⟨g, 0, Option.none⟩) n c) n) {cur : Array Value} (hg : w.heap[g]? = some (.cells cur 60 (0, 0))) (j : Nat) {t : ByteArray} (ht : t.size ≤ 1000) : BookR (w.setCell ⟨g, j * 2, Option.none⟩ (.string t)) lo p (.slice (some ⟨g, 0, Option.none⟩) n c) n := by
  obtain ⟨ts, us, h1, h2, h3, h4, h5⟩ := h
  have h6 := (h3.stored (j * 2) (.string t)).1
  rw [zipC_setT] at h6
  refine ⟨ts.set j t, us, by simp [h1], h2, h6, fun t' ht' => ?_, fun u hu => (h5 u hu).kept (.far fun cur' e => ?_)⟩
  · rcases List.mem_or_eq_of_mem_set ht' with h7 | rfl
    · exact h4 _ h7
    · exact ht
  · rw [hg] at e; cases e
theorem BookR.setSig {w : World} {lo p n g c : Nat} (h : BookR w lo p (.slice (some ⟨g, 0, Option.none⟩) n c) n) {cur : Array Value} (hg : w.heap[g]? = some (.cells cur 60 (0, 0))) (j : Nat) {u : Value} (hu : IntSl w lo p u) : BookR (w.setCell ⟨g, j * 2 + 1, Option.none⟩ u) lo p (.slice (some ⟨g, 0, Option.none⟩) n c) n := by
  obtain ⟨ts, us, h1, h2, h3, h4, h5⟩ := h
  have h6 := (h3.stored (j * 2 + 1) u).1
  rw [zipC_setU] at h6
  have hk : IntsKept lo w (w.setCell ⟨g, j * 2 + 1, Option.none⟩ u) := .far fun cur' e => by rw [hg] at e; cases e
  refine ⟨ts, us.set j u, h1, by simp [h2], h6, h4, fun u' hu' => ?_⟩
  rcases List.mem_or_eq_of_mem_set hu' with h7 | rfl
  · exact (h5 _ h7).kept hk
  · exact hu.kept hk
/-- A store elsewhere. -/
theorem BookR.far {w : World} {lo k n : Nat} {v : Value} (h : BookR w lo k v n) {p : Addr} {u : Value} {cur : Array Value} {e : TypeId} {fz : Nat × Nat} (hg : w.heap[p.block]? = some (.cells cur e fz)) (he : e ≠ 60 ∨ v.ownBlock ≠ some p.block) (hk : IntsKept lo w (w.setCell p u)) : BookR (w.setCell p u) lo k v n := by
  obtain ⟨ts, us, h1, h2, h3, h4, h5⟩ := h
  refine ⟨ts, us, h1, h2, ⟨h3.1, ?_⟩, h4, fun u' hu' => (h5 u' hu').kept hk⟩
  rcases h3.2 with h6 | ⟨g, cap, cur', rfl, hl, hg', rest⟩
  · exact .inl h6
  · have hne : g ≠ p.block := by
      rintro rfl
      rcases he with he | he
      · rw [hg] at hg'; cases hg'; exact he rfl
      · exact he rfl
    exact .inr ⟨g, cap, cur', rfl, hl, (Below.heap_setCell w p u g hne).trans hg', rest⟩
end Go.Proofs.Ytabiobjcfopakaa
