/- Contracts: the least cost by the table of the reference. -/
import Derived.Test.YtabiobjcfopakaaR14
import Derived.Test.YtabiobjcfopakaaK
namespace Go.Proofs.Ytabiobjcfopakaa
open Go.RowKit
def levAt (lev : List (Nat × Nat × List Nat)) (l : Nat) : Nat × Nat × List Nat := lev.getD l (0, 0, [])
def gAt (lev : List (Nat × Nat × List Nat)) (l d : Nat) : Nat := (levAt lev l).2.2.getD d 0
/-- Only blocks of the table's rows have turned. -/
structure FrG (gs : List Nat) (w w' : World) : Prop where
  os : w'.os = w.os
  tape : w'.tape = w.tape
  output : w'.output = w.output
  size : w'.heap.size = w.heap.size
  block : ∀ k, k ∉ gs → w'.heap[k]? = w.heap[k]?
theorem FrG.refl (gs : List Nat) (w : World) : FrG gs w w := ⟨rfl, rfl, rfl, rfl, fun _ _ => rfl⟩
theorem FrG.trans {gs : List Nat} {a b c : World} (h : FrG gs a b) (k : FrG gs b c) : FrG gs a c :=
  ⟨k.os.trans h.os, k.tape.trans h.tape, k.output.trans h.output, k.size.trans h.size, fun i hi => (k.block i hi).trans (h.block i hi)⟩
theorem frG_set {gs : List Nat} (w : World) {g i : Nat} (hg : g ∈ gs) (u : Value) : FrG gs w (w.setCell ⟨g, i, Option.none⟩ u) :=
  ⟨rfl, rfl, rfl, by simp [World.setCell], fun k hk => Below.heap_setCell _ _ _ _ (fun e => hk (by rw [e]; exact hg))⟩
theorem frG_drewN (gs : List Nat) (w : World) (n : Nat) : FrG gs w (w.drewN n) := ⟨rfl, rfl, rfl, rfl, fun _ _ => rfl⟩
structure Tbl (w : World) (T Rb k0 ck : Nat) (Z : List Int) (r L : Nat) (lev : List (Nat × Nat × List Nat)) (f : Nat → Nat → Nat → Int) : Prop where
  blk : Blk w T 180 [slN Rb (Z.length + 1), .int .i64 (r : Int), .int .i64 (L : Int), .slice (some ⟨k0, 0, Option.none⟩) (L + 1) ck]
  rest : Blk w Rb 3 (ints (restL Z))
  outer : ∀ l, l ≤ L → w.cell? ⟨k0, l, Option.none⟩ = some (lvV (Z.length + 1) (levAt lev l))
  mid : ∀ l d, l ≤ L → d ≤ Z.length → w.cell? ⟨(levAt lev l).1, d, Option.none⟩ = some (slN (gAt lev l d) (Z.length + 1))
  rows : ∀ l d, l ≤ L → d ≤ Z.length → Blk w (gAt lev l d) 3 (ints ((List.range (Z.length + 1)).map (f l d)))
  mem : ∀ l d, l ≤ L → d ≤ Z.length → gAt lev l d ∈ flatG lev
  inj : ∀ l d l' d', l ≤ L → d ≤ Z.length → l' ≤ L → d' ≤ Z.length → gAt lev l d = gAt lev l' d' → l = l' ∧ d = d'
  far : ∀ g ∈ flatG lev, g ≠ T ∧ g ≠ Rb ∧ g ≠ k0 ∧ ∀ l, l ≤ L → g ≠ (levAt lev l).1
def upd (f : Nat → Nat → Nat → Int) (l d i : Nat) (v : Int) : Nat → Nat → Nat → Int := fun l' d' i' => if l' = l ∧ d' = d ∧ i' = i then v else f l' d' i'
theorem map_upd {f : Nat → Int} {n i : Nat} {v : Int} : ((List.range n).map f).set i v = (List.range n).map fun j => if j = i then v else f j := by
  refine List.ext_getElem (by simp) fun j h1 h2 => ?_
  rw [List.getElem_set]
  simp only [List.getElem_map, List.getElem_range]
  by_cases e : i = j
  · rw [if_pos e, if_pos e.symm]
  · rw [if_neg e, if_neg (fun h => e h.symm)]
theorem cell_far {w : World} {g i b o : Nat} {u v : Value} (h : w.cell? ⟨b, o, Option.none⟩ = some v) (hne : g ≠ b) : (w.setCell ⟨g, i, Option.none⟩ u).cell? ⟨b, o, Option.none⟩ = some v := by
  unfold World.cell? at h ⊢
  rw [Below.heap_setCell w _ u b (fun e => hne e.symm)]
  exact h
theorem Tbl.set {w : World} {T Rb k0 ck : Nat} {Z : List Int} {r L : Nat} {lev : List (Nat × Nat × List Nat)} {f : Nat → Nat → Nat → Int} (h : Tbl w T Rb k0 ck Z r L lev f) {l d i : Nat} (hl : l ≤ L) (hd : d ≤ Z.length) (v : Int) :
    Tbl (w.setCell ⟨gAt lev l d, i, Option.none⟩ (.int .i64 v)) T Rb k0 ck Z r L lev (upd f l d i v) := by
  have hg := h.far _ (h.mem l d hl hd)
  refine ⟨h.blk.far (p := ⟨gAt lev l d, i, Option.none⟩) (fun e => hg.1 e.symm) _, h.rest.far (p := ⟨gAt lev l d, i, Option.none⟩) (fun e => hg.2.1 e.symm) _, fun l' hl' => cell_far (h.outer l' hl') hg.2.2.1, fun l' d' hl' hd' => cell_far (h.mid l' d' hl' hd') (hg.2.2.2 l' hl'), fun l' d' hl' hd' => ?_, h.mem, h.inj, h.far⟩
  by_cases e : l' = l ∧ d' = d
  · obtain ⟨rfl, rfl⟩ := e
    have h1 := (h.rows l' d' hl' hd').set_ i (.int .i64 v)
    have h2 : (ints ((List.range (Z.length + 1)).map (f l' d'))).set i (.int .i64 v) = ints ((List.range (Z.length + 1)).map (upd f l' d' i v l' d')) := by
      unfold ints
      rw [← List.map_set, map_upd]
      simp [upd]
    rw [h2] at h1
    exact h1
  · have h1 := (h.rows l' d' hl' hd').far (p := ⟨gAt lev l d, i, Option.none⟩) (fun e2 => e (h.inj l' d' l d hl' hd' hl hd e2)) (.int .i64 v)
    have h2 : upd f l d i v l' d' = f l' d' := by
      funext j
      unfold upd
      rw [if_neg (fun h => e ⟨h.1, h.2.1⟩)]
    rw [h2]
    exact h1
theorem Tbl.cell {w : World} {T Rb k0 ck : Nat} {Z : List Int} {r L : Nat} {lev : List (Nat × Nat × List Nat)} {f : Nat → Nat → Nat → Int} (h : Tbl w T Rb k0 ck Z r L lev f) {l d i : Nat} (hl : l ≤ L) (hd : d ≤ Z.length) (hi : i ≤ Z.length) :
    w.cell? ⟨gAt lev l d, i, Option.none⟩ = some (.int .i64 (f l d i)) := by
  rw [(h.rows l d hl hd).cell i]
  unfold ints
  rw [List.getElem?_map, List.getElem?_map, List.getElem?_range (by omega)]; rfl
theorem Tbl.restc {w : World} {T Rb k0 ck : Nat} {Z : List Int} {r L : Nat} {lev : List (Nat × Nat × List Nat)} {f : Nat → Nat → Nat → Int} (h : Tbl w T Rb k0 ck Z r L lev f) {d : Nat} (hd : d ≤ Z.length) : w.cell? ⟨Rb, d, Option.none⟩ = some (.int .i64 (sumW (Z.drop d))) := by
  rw [h.rest.cell d]
  unfold ints
  rw [List.getElem?_map, restL_at hd]; rfl
/-- What stands in the table is right. -/
def InvT (Z : List Int) (r L : Nat) (f : Nat → Nat → Nat → Int) : Prop := ∀ l d i, 1 ≤ l → l ≤ L → d ≤ Z.length → i ≤ Z.length - d → f l d i = 0 ∨ f l d i = relC r L (Z.drop d) l i + 1
theorem InvT.set {Z : List Int} {r L : Nat} {f : Nat → Nat → Nat → Int} (h : InvT Z r L f) {l d i : Nat} {v : Int} (hv : v = relC r L (Z.drop d) l i + 1) : InvT Z r L (upd f l d i v) := by
  intro l' d' i' h1 h2 h3 h4
  unfold upd
  split
  · rename_i e
    obtain ⟨rfl, rfl, rfl⟩ := e
    exact .inr hv
  · exact h l' d' i' h1 h2 h3 h4
/-- Worlds behind calls that fill the table. -/
structure LaterX (w : World) (T Rb k0 ck : Nat) (Z : List Int) (r L : Nat) (lev : List (Nat × Nat × List Nat)) where
  val : World
  f : Nat → Nat → Nat → Int
  tbl : Tbl val T Rb k0 ck Z r L lev f
  inv : InvT Z r L f
  fr : FrG (flatG lev) w val
theorem Tbl.drewN {w : World} {T Rb k0 ck : Nat} {Z : List Int} {r L : Nat} {lev : List (Nat × Nat × List Nat)} {f : Nat → Nat → Nat → Int} (h : Tbl w T Rb k0 ck Z r L lev f) (n : Nat) : Tbl (w.drewN n) T Rb k0 ck Z r L lev f :=
  ⟨h.blk, h.rest, h.outer, h.mid, h.rows, h.mem, h.inj, h.far⟩
def PostX (w : World) (T Rb k0 ck : Nat) (Z : List Int) (r L : Nat) (lev : List (Nat × Nat × List Nat)) (v : Int) (e : Ending) (w' : World) : Prop := e = .returned (.int .i64 v) ∧ ∃ x : LaterX w T Rb k0 ck Z r L lev, w' = x.val
section
variable {w : World} {T Rb k0 ck : Nat} {Z : List Int} {r L : Nat} {lev : List (Nat × Nat × List Nat)}
theorem wp_region_laterX {P : Program} {id : Nat} {Q : Exit → Act → World → Prop} {a : Act} {l : List Oper} {f : Nat → Nat → Nat → Int} (ht : Tbl w T Rb k0 ck Z r L lev f) (hi : InvT Z r L f) (hm : P.follows .mixedOrders = true) (hB : Region.lexB .any l.toArray = true)
    (h : wpQuiet P l.toArray (fun w' => ∃ x : LaterX w T Rb k0 ck Z r L lev, w' = x.val) (fun a' => ∀ w', (∃ x : LaterX w T Rb k0 ck Z r L lev, w' = x.val) → Q .normal a' w') l a) : (Code.region id l.toArray true).wp P Q a w :=
  wp_region_quiet (C := fun w' => ∃ x : LaterX w T Rb k0 ck Z r L lev, w' = x.val) hm hB ⟨⟨_, f, ht.drewN 1, hi, frG_drewN _ _ _⟩, rfl⟩ (by simpa using h)
theorem laterX_nil {P : Program} {ops : Array Oper} {C : World → Prop} {a : Act} {Q : Act → World → Prop}
    (h : ∀ x : LaterX w T Rb k0 ck Z r L lev, Q a x.val) : wpQuiet P ops C (fun a' => ∀ w', (∃ x : LaterX w T Rb k0 ck Z r L lev, w' = x.val) → Q a' w') [] a :=
  wpQuiet_nil fun _ ⟨x, e⟩ => e ▸ h x
theorem laterX_of {P : Program} {fn : FuncId} {args : Array Value} {x : LaterX w T Rb k0 ck Z r L lev} {v : Int} (h : Calls P fn args x.val (PostX x.val T Rb k0 ck Z r L lev v)) :
    Calls P fn args x.val fun e w'' => e = .returned (.int .i64 v) ∧ ∃ y : LaterX w T Rb k0 ck Z r L lev, w'' = y.val :=
  h.mono fun _ _ ⟨he, y, hy⟩ => ⟨he, ⟨y.val, y.f, y.tbl, y.inv, x.fr.trans y.fr⟩, hy⟩
theorem laterX_same {P : Program} {fn : FuncId} {args : Array Value} {x : LaterX w T Rb k0 ck Z r L lev} {v : Value} (h : Calls P fn args x.val fun e w' => e = .returned v ∧ x.val = w') :
    Calls P fn args x.val fun e w'' => e = .returned v ∧ ∃ y : LaterX w T Rb k0 ck Z r L lev, w'' = y.val :=
  h.mono fun _ _ ⟨he, hb⟩ => ⟨he, x, hb.symm⟩
end
theorem l1LeastI_any (a b : Int) (w : World) : Calls Try.prog 232 #[.int .i64 a, .int .i64 b] w fun e w' => e = .returned (.int .i64 (min a b)) ∧ w = w' := by
  by_cases h : a < b
  · go_enter Try.func232, Try.ntmps232
    go_wp2
    go_ret
    exact ⟨ret_int (by omega), rfl⟩
  · go_enter Try.func232, Try.ntmps232
    go_wp2
    go_ret
    exact ⟨ret_int (by omega), rfl⟩
set_option maxRecDepth 100000 in
set_option maxHeartbeats 4000000 in
theorem with_any {T Rb k0 ck : Nat} {Z : List Int} {r L : Nat} {lev : List (Nat × Nat × List Nat)} {f : Nat → Nat → Nat → Int} {l d fr t : Nat} (w : World) (ht : Tbl w T Rb k0 ck Z r L lev f) (hi : InvT Z r L f) (hl : l ≤ L) (hL : L ≤ 6) (hd : d ≤ Z.length) (hn : Z.length ≤ 20) (hr : r ≤ 60) (hf : fr ≤ 20) (htf : t ≤ fr) (hdt : d + t ≤ Z.length)
    (hs : 0 ≤ sumW (Z.drop d) ∧ sumW (Z.drop d) ≤ 200000) (hrc : 0 ≤ relC r L (Z.drop (d + t)) (l + 1) ((fr - t) * r) ∧ relC r L (Z.drop (d + t)) (l + 1) ((fr - t) * r) ≤ 1000000000)
    (hc : ∀ x : LaterX w T Rb k0 ck Z r L lev, Calls Try.prog 233 #[.pointer (some ⟨T, 0, Option.none⟩), .int .i64 ((l + 1 : Nat) : Int), .int .i64 ((d + t : Nat) : Int), .int .i64 (((fr - t) * r : Nat) : Int)] x.val (PostX x.val T Rb k0 ck Z r L lev (relC r L (Z.drop (d + t)) (l + 1) ((fr - t) * r)))) :
    Calls Try.prog 234 #[.pointer (some ⟨T, 0, Option.none⟩), .int .i64 (l : Int), .int .i64 (d : Int), .int .i64 (fr : Int), .int .i64 (t : Int)] w (PostX w T Rb k0 ck Z r L lev (withC r L (Z.drop d) l fr t)) := by
  have hne : Nonempty (LaterX w T Rb k0 ck Z r L lev) := ⟨⟨w, f, ht, hi, FrG.refl _ _⟩⟩
  have hT0 : ∀ x : LaterX w T Rb k0 ck Z r L lev, x.val.cell? ⟨T, 0, Option.none⟩ = some (slN Rb (Z.length + 1)) := fun x => x.tbl.blk.cell 0
  have hT1 : ∀ x : LaterX w T Rb k0 ck Z r L lev, x.val.cell? ⟨T, 1, Option.none⟩ = some (.int .i64 (r : Int)) := fun x => x.tbl.blk.cell 1
  obtain ⟨y, hy⟩ : ∃ y, y = sumW (Z.drop d) := ⟨_, rfl⟩
  have hRc : ∀ x : LaterX w T Rb k0 ck Z r L lev, x.val.cell? ⟨Rb, d, Option.none⟩ = some (.int .i64 y) := fun x => by rw [hy]; exact x.tbl.restc hd
  obtain ⟨q, hq⟩ : ∃ q, q = relC r L (Z.drop (d + t)) (l + 1) ((fr - t) * r) := ⟨_, rfl⟩
  have HV : Hid (withC r L (Z.drop d) l fr t = min 1000000000 (y + q)) := by
    show _ = _
    unfold withC
    rw [List.drop_drop, hy, hq]
  rw [← hy] at hs
  rw [← hq] at hrc hc
  obtain ⟨m, hm⟩ : ∃ m, m = fr - t := ⟨_, rfl⟩
  have hsub : (fr : Int) - (t : Int) = (m : Int) := by omega
  have HM : Hid ((m : Int) * (r : Int) = (((fr - t) * r : Nat) : Int)) := by show _ = _; rw [hm]; simp
  have hmb : 0 ≤ (m : Int) * (r : Int) ∧ (m : Int) * (r : Int) ≤ 1200 := by
    have h1 : m * r ≤ 20 * 60 := Nat.mul_le_mul (by omega) hr
    have h2 : (m : Int) * (r : Int) = ((m * r : Nat) : Int) := by simp
    rw [h2]
    omega
  have CC : Hid (∀ x : LaterX w T Rb k0 ck Z r L lev, Calls Try.prog 233 #[.pointer (some ⟨T, 0, Option.none⟩), .int .i64 ((l : Int) + 1), .int .i64 ((d : Int) + (t : Int)), .int .i64 ((m : Int) * (r : Int))] x.val (PostX x.val T Rb k0 ck Z r L lev q)) := by
    intro x
    have := hc x
    rw [← HM.out] at this
    exact this
  have HT := Lib.hid ht
  have HI := Lib.hid hi
  have hdi : (d : Int) < (Z.length : Int) + 1 := by omega
  clear ht hi hc hy hq hm
  go_enter Try.func234, Try.ntmps234
  go_wp2_with fail
  refine wp_region_laterX HT.out HI.out (by kernel_rfl) (by kernel_rfl) ?_
  (repeat (go_big_quiet_step ((first | (go_at_call 233; exact laterX_of (CC.out _)) | (go_at_call 232; exact laterX_same (l1LeastI_any _ _ _))))))
  refine laterX_nil ?_
  intro x
  go_wp2_with fail
  go_ret
  exact ⟨by rw [HV.out]; rfl, x, rfl⟩
end Go.Proofs.Ytabiobjcfopakaa
