/- Texts of one claim, joined: W8, H2Z, W2. -/
import Derived.Deep.AppendSrc
import Derived.Deep.RegionLaw
import Derived.Test.YtjnkdjokbamibaaGreatDoorP13Books
/- Contracts: slices.Delete, slices.Insert on a row of phrases that the call has made. -/
namespace Go.Proofs.YtjnkdjokbamibaaGreatDoor
open Go.RowKit
set_option maxRecDepth 100000 in
set_option maxHeartbeats 4000000 in
theorem deleteP_any (g n i j : Nat) (z : Int) (cs : List Value) (w : World) (h : Blk w g 45 cs) (hl : cs.length = n * 2) (hij : j = i + 1) (hj : j ≤ n) (hn : n ≤ 1048576) (h1 : ∀ u ∈ cs, u.oneCell' = true) (hz : z = (j : Int)) :
    Calls Tryz.prog 82 #[.slice (some ⟨g, 0, Option.none⟩) n n, .int .i64 (i : Int), .int .i64 z] w fun e w' =>
      e = .returned (.slice (some ⟨g, 0, Option.none⟩) (n - 1) n) ∧ Blk w' g 45 (cs.take (i * 2) ++ cs.drop (j * 2) ++ [.string { data := #[] }, .slice Option.none 0 0]) ∧ Only (some g) w w' := by
  subst hz
  obtain ⟨i0, hi0, hz0, hz1, hz2⟩ := info_parts info_phr
  obtain ⟨news, hnews⟩ : ∃ news, news = cs.drop (j * 2) := ⟨_, rfl⟩
  have hlen : news.length = (n - j) * 2 := by rw [hnews, List.length_drop, hl]; omega
  have hget : ∀ t u, news[t]? = some u → cs[j * 2 + t]? = some u := fun t u hu => by rw [hnews, List.getElem?_drop] at hu; exact hu
  obtain ⟨A, hA, hsrc⟩ : ∃ A : Addr, (if n = j then some (⟨g, 0, Option.none⟩ : Addr) else some ⟨g, j * 2, Option.none⟩) = some A ∧ Hid (∀ t u, news[t]? = some u → w.drew.cell? (A.add t) = some u) := by
    by_cases hnj : n = j
    · refine ⟨⟨g, 0, Option.none⟩, by simp [hnj], fun t u hu => ?_⟩
      have h0 : news.length = 0 := by rw [hlen]; omega
      rw [List.length_eq_zero_iff.1 h0] at hu
      simp at hu
    · refine ⟨⟨g, j * 2, Option.none⟩, by simp [hnj], fun t u hu => ?_⟩
      rw [Go.WideShapes.add_plain]
      exact (h.cell _).trans (hget t u hu)
  have s1 : Hid (news.length = (n - j) * 2) := hlen
  have s2 : Hid (∀ u ∈ news, u.oneCell' = true) := fun u hu => h1 u (by rw [hnews] at hu; exact List.mem_of_mem_drop hu)
  have hcs : ∀ k, k < n * 2 → (w.drew.cell? ⟨g, k, Option.none⟩).isSome = true := fun k hk => by
    have : w.drew.cell? ⟨g, k, Option.none⟩ = cs[k]? := h.cell k
    rw [this, List.getElem?_eq_getElem (by omega)]; rfl
  have s3 : Hid (∀ t, t < news.length → (w.drew.cell? ⟨g, 0 + i * 2 + t, Option.none⟩).isSome = true ∧ w.drew.frozen? ⟨g, 0 + i * 2 + t, Option.none⟩ = false) := fun t ht => ⟨hcs _ (by rw [hlen] at ht; omega), h.frozen _⟩
  obtain ⟨W1, hW1⟩ : ∃ W1, W1 = w.drew.setCells g (0 + i * 2) news := ⟨_, rfl⟩
  have hB1 : Blk W1 g 45 (cs.take (i * 2) ++ news ++ cs.drop (i * 2 + news.length)) := by
    rw [hW1, Nat.zero_add]
    exact blk_setCells news (i * 2) (show Blk w.drew g 45 cs from h) (by rw [hlen, hl]; omega)
  have hO1 : Only (some g) w W1 := by rw [hW1]; exact only_setCells news _ (only_drew (Only.refl _ _))
  have hT : (cs.take (i * 2)).length = i * 2 := by rw [List.length_take, hl]; omega
  have hBl : (cs.take (i * 2) ++ news ++ cs.drop (i * 2 + news.length)).length = n * 2 := by rw [List.length_append, List.length_append, hT, List.length_drop, hl, hlen]; omega
  have hcl : ∀ ty c, (Builtin.clear_ #[39] ty #[.slice (some ⟨g, (i + (n - j)) * 2, Option.none⟩) (n - (i + (n - j))) c]).run Tryz.prog W1 = .ok (.tuple #[]) (W1.setCells g ((i + (n - j)) * 2) [.string { data := #[] }, .slice Option.none 0 0]) := fun ty c => by
    rw [show n - (i + (n - j)) = 1 by omega]
    exact run_clearP W1 ty g _ c _ hB1 (by rw [hBl]; omega)
  have hB2 : Blk (W1.setCells g ((i + (n - j)) * 2) [.string { data := #[] }, .slice Option.none 0 0]) g 45 (cs.take (i * 2) ++ news ++ [.string { data := #[] }, .slice Option.none 0 0]) := by
    have h5 := blk_setCells [.string { data := #[] }, .slice Option.none 0 0] ((i + (n - j)) * 2) hB1 (by rw [hBl]; simp; omega)
    have hk : (i + (n - j)) * 2 = (cs.take (i * 2) ++ news).length := by rw [List.length_append, hT, hlen]; omega
    rw [List.take_append_of_le_length (by omega), List.take_of_length_le (by omega), List.drop_of_length_le (by rw [hBl]; simp; omega), List.append_nil] at h5
    exact h5
  have hO2 : Only (some g) w (W1.setCells g ((i + (n - j)) * 2) [.string { data := #[] }, .slice Option.none 0 0]) := only_setCells _ _ hO1
  rw [← hnews]
  have HB2 := Lib.hid hB2
  have HO2 := Lib.hid hO2
  have hW : Hid (W1 = w.drew.setCells g (0 + i * 2) news) := hW1
  have hne : ¬ ((i : Int) = (j : Int)) := by omega
  have hne2 : ((i : Int) == (j : Int)) = false := by rw [beq_eq_false_iff_ne]; omega
  have hii : i ≤ n := by omega
  have hij2 : i ≤ j := by omega
  have HIJ := Lib.hid hij
  have hlt : i < j := by omega
  clear hij hB1 hO1 hBl hT hB2 hO2 hcs hlen hget hnews hW1 h h1
  go_enter Tryz.func82, Tryz.ntmps82
  go_wp2_with fail
  go_region_law (refine step_append_room rfl (.tmp 22) (.tmp 25) 39 rfl 45 i0 2 Tryz.underlying39 hi0 hz1 g 0 i n (by simp [Act.eval, Act.put]) A (n - j) (n - j) news (by simp [Act.eval, Act.put]) s1.out hsrc.out s2.out (by omega) s3.out ?_; rw [← hW.out])
  go_wp2_with fail
  go_ret
  exact ⟨by rw [show n - 1 = i + (n - j) by have := HIJ.out; omega]; rfl, HB2.out, HO2.out⟩
theorem copy_any {W W1 : World} {g : Nat} {cs : List Value} (h : Blk W1 g 45 cs) (hW : W.heap = W1.heap) : Blk W g 45 cs := by unfold Blk at *; rw [hW]; exact h
theorem heap_setCells (b : Nat) : ∀ (vs : List Value) (o : Nat) {w w' : World}, w.heap = w'.heap → (w.setCells b o vs).heap = (w'.setCells b o vs).heap
  | [], _, _, _, h => h
  | v :: r, o, w, w', h => by
    unfold World.setCells
    exact heap_setCells b r (o + 1) (by simp only [World.setCell, h])
theorem copy_runP {w : World} {ops : Array Oper} {rest : List Oper} {o : Oper} {a : Act} {Q : Exit → Act → World → Prop} (hgd : o.guard = Option.none) (d s : Operand)
    (ho : o.op = .call { callee := .builtin .copy, args := #[d, s], argTypes := #[39, 39] }) (v u : Value) (hd : a.eval d = v) (hs : a.eval s = u) {v' : Value} {w' : World}
    (hr : (Builtin.copy_ #[39, 39] o.type #[v, u]).run Tryz.prog w = .ok v' w') (h : wpList Tryz.prog ops Q rest (a.put o.dst v') w') : wpList Tryz.prog ops Q (o :: rest) a w := by
  refine wpList_plain hgd fun _ hK => ?_
  unfold Oper.wp execOp
  simp only [ho, resolve, invoke, builtin, Sem.run_bind, Sem.run_pure, Result.andThen_ok, List.map_toArray, List.map_cons, List.map_nil, hd, hs, hr]
  exact hK _ _ h
theorem step_copyP {ops : Array Oper} {o : Oper} {a : Act} {w : World} {K : Act → World → Prop} {Q : Exit → Act → World → Prop} {E : Prop}
    (hg : o.guard = Option.none) (d x : Operand) (hop : o.op = Op.call { callee := Callee.builtin Builtin.copy, args := #[d, x], argTypes := #[39, 39] })
    (v u : Value) (hd : a.eval d = v) (hx : a.eval x = u) {v' : Value} {w' : World} (hr : (Builtin.copy_ #[39, 39] o.type #[v, u]).run Tryz.prog w = .ok v' w') (hK : K (a.put o.dst v') w') :
    if Region.wanted o (yielded ops a.tmps) = true then Oper.wp Tryz.prog o a w K Q else E := by
  have hw : Region.wanted o (yielded ops a.tmps) = true := by simp [Region.wanted, hg]
  rw [if_pos hw]
  unfold Oper.wp
  simp [execOp, hop, resolve, invoke, builtin, hd, hx, hr, Result.andThen]
  exact hK
theorem zero_len (n : Nat) : (Builtin.zeroCells (Value.agg #[.string { data := #[] }, .slice Option.none 0 0]).cells n).size = n * 2 := by simp [Builtin.zeroCells, Value.cells]
/-- What the call gives: a row of its own with the phrase in its place. -/
def Inserted (cs vs : List Value) (n i : Nat) (w : World) (e : Ending) (w' : World) : Prop := ∃ cap, e = .returned (.slice (some ⟨w.heap.size, 0, Option.none⟩) (n + 1) cap) ∧ w'.ownsRow w.heap.size 45 2 (.slice (some ⟨w.heap.size, 0, Option.none⟩) (n + 1) cap) (n + 1) (cs.take (i * 2) ++ vs ++ cs.drop (i * 2)) ∧ w.heap.size < w'.heap.size ∧ Below w.heap.size w w'
theorem inserted_of {cs vs : List Value} {n i G : Nat} {w w' : World} {row : List Value} (hb : Below w.heap.size w w') (hs : w.heap.size < w'.heap.size) (hB : Blk w' w.heap.size 45 (cs.take (i * 2) ++ vs ++ cs.drop (i * 2) ++ row)) (hG : n + 1 ≤ G) (hGm : G ≤ maxLen) (hl : (cs.take (i * 2) ++ vs ++ cs.drop (i * 2)).length = (n + 1) * 2) (hr : row.length = (G - (n + 1)) * 2) :
    Inserted cs vs n i w (.returned (.slice (some ⟨w.heap.size, 0, Option.none⟩) (n + 1) G)) w' :=
  ⟨G, rfl, ⟨hl, .inr ⟨w.heap.size, G, _, rfl, Nat.le_refl _, hB, hG, hGm, by rw [List.size_toArray, List.length_append, hl, hr]; omega, by simp only []; rw [List.take_append_of_le_length (by omega), List.take_of_length_le (by omega)]⟩⟩, hs, hb⟩
set_option maxRecDepth 100000 in
set_option maxHeartbeats 4000000 in
theorem insertP_end (g n vb : Nat) (cs vs : List Value) (w : World) (h : Blk w g 45 cs) (hl : cs.length = n * 2) (hn : n ≤ 1000) (hv : Blk w vb 45 vs) (hvl : vs.length = 2) (h1v : ∀ u ∈ vs, u.oneCell' = true) :
    Calls Tryz.prog 78 #[.slice (some ⟨g, 0, Option.none⟩) n n, .int .i64 (n : Int), .slice (some ⟨vb, 0, Option.none⟩) 1 1] w (Inserted cs vs n n w) := by
  obtain ⟨i0, hi0, hz0, hz1, hz2⟩ := info_parts info_phr
  have hold : (Builtin.firstCells i0.size n (.slice (some ⟨g, 0, Option.none⟩) n n)).run Tryz.prog w.drew = .ok cs.toArray w.drew :=
    run_firstCells_some w.drew i0.size n ⟨g, 0, Option.none⟩ n n cs (by rw [hz1, hl]) (fun j v hj => by rw [Go.WideShapes.add_plain, Nat.zero_add]; exact (h.cell j).trans hj)
  have hsrc : Src Tryz.prog i0.size 39 (.slice (some ⟨vb, 0, Option.none⟩) 1 1) 1 vs w :=
    Src.ofSlice w Tryz.underlying39 ⟨vb, 0, Option.none⟩ 1 1 vs (by rw [hz1, hvl]) (fun j v hj => by rw [Go.WideShapes.add_plain, Nat.zero_add]; exact (hv.cell j).trans hj) h1v
  have hrun : ∀ ty, (Builtin.append_ #[39, 39] ty #[.slice (some ⟨g, 0, Option.none⟩) n n, .slice (some ⟨vb, 0, Option.none⟩) 1 1]).run Tryz.prog w = .ok (.slice (some ⟨w.heap.size, 0, Option.none⟩) (n + 1) (grownCap w (n + 1) n 45))
      (w.drew.alloc (.cells ((cs ++ vs).toArray ++ Builtin.zeroCells (Value.agg #[.string { data := #[] }, .slice Option.none 0 0]).cells (grownCap w (n + 1) n 45 - (n + 1))) 45)) := fun ty =>
    run_append_grow_src w 39 39 ty 45 i0 _ Tryz.underlying39 hi0 hz0 (some ⟨g, 0, Option.none⟩) n n cs hold _ 1 vs hsrc (by omega) (by omega) (by rw [hz2]; exact growslice_fits (by omega) (by omega))
  have hGn : n + 1 ≤ grownCap w (n + 1) n 45 := grownCap_ge w _ _ _
  have hGm := grownCap_le_maxLen w (n + 1) n 45 (by unfold maxLen; omega)
  obtain ⟨G, hG⟩ : ∃ G, G = grownCap w (n + 1) n 45 := ⟨_, rfl⟩
  rw [← hG] at hrun hGn hGm
  obtain ⟨W1, hW1⟩ : ∃ W1, W1 = w.drew.alloc (.cells ((cs ++ vs).toArray ++ Builtin.zeroCells (Value.agg #[.string { data := #[] }, .slice Option.none 0 0]).cells (G - (n + 1))) 45) := ⟨_, rfl⟩
  rw [← hW1] at hrun
  have HI : Hid (Inserted cs vs n n w (.returned (.slice (some ⟨w.heap.size, 0, Option.none⟩) (n + 1) G)) W1) := by
    refine inserted_of (row := (Builtin.zeroCells (Value.agg #[.string { data := #[] }, .slice Option.none 0 0]).cells (G - (n + 1))).toList) ?_ ?_ ?_ hGn hGm ?_ ?_
    · rw [hW1]; exact ((Below.refl _ _).drew : Below w.heap.size w w.drew).alloc (Nat.le_refl _) _
    · rw [hW1]; show w.heap.size < (w.drew.alloc _).heap.size; simp
    · have hb := Blk.new w.drew 45 ((cs ++ vs).toArray ++ Builtin.zeroCells (Value.agg #[.string { data := #[] }, .slice Option.none 0 0]).cells (G - (n + 1)))
      rw [← hW1] at hb
      rw [List.take_of_length_le (by omega), List.drop_of_length_le (by omega), List.append_nil]
      simpa using hb
    · rw [List.take_of_length_le (by omega), List.drop_of_length_le (by omega), List.append_nil, List.length_append, hl, hvl]; omega
    · rw [Array.length_toList, zero_len]
  have hz : ((1 : Int) == 0) = false := rfl
  have hnn : ((n : Int) == (n : Int)) = true := by simp
  clear hold hsrc hG hW1 h hv h1v hGn hGm
  go_enter Tryz.func78, Tryz.ntmps78
  go_wp2_with (at_builtin; refine Lib.wpList_append_run _ rfl _ _ _ _ rfl _ _ rfl rfl _ _ (hrun _) ?_)
  go_ret
  exact HI.out
set_option maxRecDepth 100000 in
set_option maxHeartbeats 4000000 in
theorem insertP_mid (g n i vb : Nat) (cs vs : List Value) (w : World) (h : Blk w g 45 cs) (hl : cs.length = n * 2) (hi : i < n) (hn : n ≤ 1000) (hv : Blk w vb 45 vs) (hvl : vs.length = 2) (h1 : ∀ u ∈ cs, u.oneCell' = true) (h1v : ∀ u ∈ vs, u.oneCell' = true) :
    Calls Tryz.prog 78 #[.slice (some ⟨g, 0, Option.none⟩) n n, .int .i64 (i : Int), .slice (some ⟨vb, 0, Option.none⟩) 1 1] w (Inserted cs vs n i w) := by
  obtain ⟨i0, hi0, hz0, hz1, hz2⟩ := info_parts info_phr
  have hgw := h.lt
  have hvw := hv.lt
  have hTl : (cs.take (i * 2)).length = i * 2 := by rw [List.length_take, hl]; omega
  have hkk : (n : Int) + 1 - (i : Int) = ((n + 1 - i : Nat) : Int) := by omega
  have hik : i + (n + 1 - i) = n + 1 := by omega
  have hold : (Builtin.firstCells i0.size i (.slice (some ⟨g, 0, Option.none⟩) i n)).run Tryz.prog w.drew = .ok (cs.take (i * 2)).toArray w.drew :=
    run_firstCells_some w.drew i0.size i ⟨g, 0, Option.none⟩ i n (cs.take (i * 2)) (by rw [hz1, hTl]) (fun j v hj => by
      rw [Go.WideShapes.add_plain, Nat.zero_add]
      rw [List.getElem?_take] at hj
      split at hj
      · exact (h.cell j).trans hj
      · cases hj)
  have hrun : ∀ ty, (Builtin.append_ #[39, 3] ty #[.slice (some ⟨g, 0, Option.none⟩) i n, .int .i64 ((n : Int) + 1 - (i : Int))]).run Tryz.prog w = .ok (.slice (some ⟨w.heap.size, 0, Option.none⟩) (n + 1) (grownCap w (n + 1) n 45))
      (w.drew.alloc (.cells ((cs.take (i * 2)).toArray ++ Builtin.zeroCells (Value.agg #[.string { data := #[] }, .slice Option.none 0 0]).cells (n + 1 - i) ++ Builtin.zeroCells (Value.agg #[.string { data := #[] }, .slice Option.none 0 0]).cells (grownCap w (n + 1) n 45 - (n + 1))) 45)) := fun ty => by
    have h := Lib.run_append_grow_zeros w 39 3 ty 45 i0 _ .i64 .i64 Tryz.underlying39 Tryz.underlying3 hi0 hz0 (some ⟨g, 0, Option.none⟩) i n (cs.take (i * 2)) hold (n + 1 - i) (by omega) (by omega) (by omega) (by omega) (by rw [hz2]; omega) (by rw [hz2, hik]; exact growslice_fits (by omega) (by omega))
    rw [hik] at h
    rw [hkk]
    exact h
  have hGn : n + 1 ≤ grownCap w (n + 1) n 45 := grownCap_ge w _ _ _
  have hGm := grownCap_le_maxLen w (n + 1) n 45 (by unfold maxLen; omega)
  obtain ⟨G, hG⟩ : ∃ G, G = grownCap w (n + 1) n 45 := ⟨_, rfl⟩
  rw [← hG] at hrun hGn hGm
  obtain ⟨ROW, hROW⟩ : ∃ ROW : Array Value, ROW = (cs.take (i * 2)).toArray ++ Builtin.zeroCells (Value.agg #[.string { data := #[] }, .slice Option.none 0 0]).cells (n + 1 - i) ++ Builtin.zeroCells (Value.agg #[.string { data := #[] }, .slice Option.none 0 0]).cells (G - (n + 1)) := ⟨_, rfl⟩
  rw [← hROW] at hrun
  have hRl : ROW.size = G * 2 := by rw [hROW, Array.size_append, Array.size_append, zero_len, zero_len, List.size_toArray, hTl]; omega
  have hRt : ROW.toList.take (i * 2) = cs.take (i * 2) := by
    rw [hROW, Array.toList_append, Array.toList_append, List.append_assoc, List.take_append_of_le_length (by simp [hTl]), List.take_of_length_le (by simp [hTl])]
  obtain ⟨W1, hW1⟩ : ∃ W1, W1 = w.drew.alloc (.cells ROW 45) := ⟨_, rfl⟩
  have hB1 : Blk W1 w.heap.size 45 ROW.toList := by rw [hW1]; exact Blk.new w.drew 45 ROW
  have hlo1 : Below w.heap.size w W1 := by rw [hW1]; exact ((Below.refl _ _).drew : Below w.heap.size w w.drew).alloc (Nat.le_refl _) _
  have hv1 : Blk W1 vb 45 vs := hv.below hlo1 hvw
  have hg1 : Blk W1 g 45 cs := h.below hlo1 hgw
  have hRL : ROW.toList.length = G * 2 := by rw [Array.length_toList]; exact hRl
  have hcpA : ∀ (W : World), W.heap = W1.heap → ∀ ty dc, (Builtin.copy_ #[39, 39] ty #[.slice (some ⟨w.heap.size, i * 2, Option.none⟩) (n + 1 - i) dc, .slice (some ⟨vb, 0, Option.none⟩) 1 1]).run Tryz.prog W = .ok (goInt 1) (W.setCells w.heap.size (i * 2) vs) := fun W hW ty dc =>
    run_copyP W ty w.heap.size (i * 2) (n + 1 - i) dc ⟨vb, 0, Option.none⟩ 1 1 1 ROW.toList vs (copy_any hB1 hW) (by simp only [Nat.min_def]; split <;> omega) (by omega) (fun j v hj => by rw [Go.WideShapes.add_plain, Nat.zero_add]; exact ((copy_any hv1 hW).cell j).trans hj) (by rw [hvl, hRL]; omega) h1v
  obtain ⟨W2, hW2⟩ : ∃ W2, W2 = W1.setCells w.heap.size (i * 2) vs := ⟨_, rfl⟩
  have hB2 : Blk W2 w.heap.size 45 (ROW.toList.take (i * 2) ++ vs ++ ROW.toList.drop (i * 2 + vs.length)) := by rw [hW2]; exact blk_setCells vs (i * 2) hB1 (by rw [hvl, hRL]; omega)
  have hg2 : Blk W2 g 45 cs := by
    rw [hW2]
    exact ((only_setCells vs (i * 2) (Only.refl (some w.heap.size) W1)).block g (by simp; omega)).trans hg1
  have hB2l : (ROW.toList.take (i * 2) ++ vs ++ ROW.toList.drop (i * 2 + vs.length)).length = G * 2 := by
    rw [List.length_append, List.length_append, List.length_take, List.length_drop, hRL, hvl]; omega
  have hdl : (cs.drop (i * 2)).length = (n - i) * 2 := by rw [List.length_drop, hl]; omega
  have hcpB : ∀ (W : World), W.heap = W2.heap → ∀ ty dc sc, (Builtin.copy_ #[39, 39] ty #[.slice (some ⟨w.heap.size, (i + 1) * 2, Option.none⟩) (n + 1 - (i + 1)) dc, .slice (some ⟨g, i * 2, Option.none⟩) (n - i) sc]).run Tryz.prog W = .ok (goInt ((n - i : Nat) : Int)) (W.setCells w.heap.size ((i + 1) * 2) (cs.drop (i * 2))) := fun W hW ty dc sc =>
    run_copyP W ty w.heap.size ((i + 1) * 2) (n + 1 - (i + 1)) dc ⟨g, i * 2, Option.none⟩ (n - i) sc (n - i) _ (cs.drop (i * 2)) (copy_any hB2 hW) (by simp only [Nat.min_def]; split <;> omega) hdl (fun j v hj => by rw [Go.WideShapes.add_plain]; rw [List.getElem?_drop] at hj; exact ((copy_any hg2 hW).cell _).trans hj) (by rw [hdl, hB2l]; omega) (fun v hv => h1 v (List.mem_of_mem_drop hv))
  obtain ⟨W3, hW3⟩ : ∃ W3, W3 = W2.setCells w.heap.size ((i + 1) * 2) (cs.drop (i * 2)) := ⟨_, rfl⟩
  have HI : Hid (∀ W : World, W.heap = W3.heap → Below w.heap.size w W → Inserted cs vs n i w (.returned (.slice (some ⟨w.heap.size, 0, Option.none⟩) (n + 1) G)) W) := by
    intro W hW hbW
    have hB3 := blk_setCells (cs.drop (i * 2)) ((i + 1) * 2) hB2 (by rw [hdl, hB2l]; omega)
    rw [← hW3] at hB3
    have hk : (ROW.toList.take (i * 2) ++ vs).length = (i + 1) * 2 := by rw [List.length_append, List.length_take, hRL, hvl]; omega
    rw [List.take_append_of_le_length (by omega), List.take_of_length_le (by omega), hRt] at hB3
    refine inserted_of hbW ?_ (copy_any hB3 hW) hGn hGm (by rw [List.length_append, List.length_append, hTl, hvl, hdl]; omega) (by rw [List.length_drop, ← hRt, hB2l, hdl]; omega)
    have := (copy_any hB3 hW).lt
    exact this
  have hbX : ∀ W : World, Below w.heap.size w W → ∀ (vs : List Value) (o : Nat), Below w.heap.size w (W.setCells w.heap.size o vs) := fun W hW vs o => below_setCellsP vs o hW (Nat.le_refl _)
  have HW2 := Lib.hid hW2
  have HW3 := Lib.hid hW3
  have HBX := Lib.hid hbX
  have HLO := Lib.hid hlo1
  have hGi : ¬ (G = i) := by omega
  have hGi1 : ¬ (G = i + 1) := by omega
  have hni : ¬ (n = i) := by omega
  have hG63 : G ≤ 9223372036854775807 := by unfold maxLen at hGm; omega
  have hz : ((1 : Int) == 0) = false := rfl
  have hnn : ((i : Int) == (n : Int)) = false := by rw [beq_eq_false_iff_ne]; omega
  have hin : i ≤ n := by omega
  have hw1 : IntKind.i64.wrap ((i : Int) + 1) = (i : Int) + 1 := by rw [IntKind.wrap_i64]; omega
  have hb1 : (0 : Int) ≤ (i : Int) + 1 := by omega
  have hb2 : (i : Int) + 1 ≤ (n : Int) + 1 := by omega
  have htn : ((i : Int) + 1).toNat = i + 1 := by omega
  have hcap : (n : Int) < (n : Int) + 1 := by omega
  clear hkk hik hold hROW hG hRl hRt hB1 hv1 hg1 hRL hB2 hg2 hB2l hdl h hv h1 h1v hTl hGm hW2 hW3 hbX hlo1
  have hE1 : ((w.alloc (.cells ROW 45)).drew).heap = W1.heap := by rw [hW1]; rfl
  have hF1 : (((w.alloc (.cells ROW 45)).drew.setCells w.heap.size (i * 2) vs).drew).heap = W2.heap := by rw [HW2.out]; exact heap_setCells _ _ _ hE1
  have HLO2 : Hid (Below w.heap.size w (w.alloc (.cells ROW 45)).drew) := (((Below.refl _ _).alloc (Nat.le_refl _) _)).drew
  subst hW1
  go_enter Tryz.func78, Tryz.ntmps78
  go_wp2_with (first
    | (at_builtin; refine Lib.wpList_append_run _ rfl _ _ _ _ rfl _ _ rfl rfl _ _ (hrun _) ?_)
    | (at_builtin; refine copy_runP rfl _ _ rfl _ _ rfl rfl (hcpA _ hE1 _ _) ?_))
  go_region_law (refine step_copyP rfl (.tmp 50) (.tmp 53) rfl (.slice (some ⟨w.heap.size, (i + 1) * 2, Option.none⟩) (n + 1 - (i + 1)) (G - (i + 1))) (.slice (some ⟨g, i * 2, Option.none⟩) (n - i) (n - i)) (by simp [Act.eval, Act.put]) (by simp [Act.eval, Act.put]) (hcpB _ hF1 _ _ _) ?_)
  go_wp2_with fail
  go_ret
  exact HI.out _ (by rw [HW3.out]; exact heap_setCells _ _ _ hF1) (HBX.out _ ((HBX.out _ HLO2.out _ _).drew) _ _)
end Go.Proofs.YtjnkdjokbamibaaGreatDoor
/- Slices in old memory or in blocks of numbers: for the seats that lack lists of lists. -/
namespace Go.Proofs.YtjnkdjokbamibaaGreatDoor
open Go.RowKit
/-- The slice value u reads as xs, in memory below B, or in a block of ints. -/
def El (w : World) (B : Nat) (u : Value) (xs : List Int) : Prop :=
  RdI w w.heap.size u xs ∧ ∀ (b off n c : Nat), u = .slice (some ⟨b, off, Option.none⟩) n c → 0 < n → b < B ∨ ∃ cur fz, w.heap[b]? = some (.cells cur 3 fz)
theorem El.rd {w : World} {B : Nat} {u : Value} {xs : List Int} (h : El w B u xs) (_ : B ≤ w.heap.size) : RdI w w.heap.size u xs := h.1
theorem el_old {w : World} {B : Nat} {u : Value} {xs : List Int} (h : RdI w B u xs) (hB : B ≤ w.heap.size) : El w B u xs := by
  refine ⟨h.mono hB, fun b off n c hu hn => .inl ?_⟩
  obtain ⟨_, A, c', h1, _, _, h4⟩ := h
  rw [hu] at h1
  injection h1 with e1 e2 e3
  obtain ⟨b', off', hA, hb, _⟩ := h4 (by omega)
  rw [← e1] at hA
  cases hA
  exact hb
theorem el_own {w : World} {B lo : Nat} {u : Value} {xs : List Int} (h : OwI w lo w.heap.size u xs) : El w B u xs := by
  refine ⟨h.rd, fun b off n c hu _ => .inr ?_⟩
  rcases h.1.2 with ⟨rfl, _⟩ | ⟨g, cap, cur, rfl, _, hg, _⟩
  · cases hu
  · cases hu
    exact ⟨_, _, hg⟩
theorem El.below {w w' : World} {B : Nat} {u : Value} {xs : List Int} (h : El w B u xs) (_ : B ≤ w.heap.size) (hb : Below w.heap.size w w') : El w' B u xs := by
  refine ⟨(RdI.below h.1 hb (Nat.le_refl _)).mono hb.size, fun b off n c hu hn => ?_⟩
  rcases h.2 b off n c hu hn with h2 | ⟨cur, fz, h2⟩
  · exact .inl h2
  · exact .inr ⟨cur, fz, (hb.block b (Array.getElem?_eq_some_iff.1 h2).1).trans h2⟩
end Go.Proofs.YtjnkdjokbamibaaGreatDoor
/- A row of phrases that the call appends to: one phrase more, a slice of phrases more. -/
namespace Go.Proofs.YtjnkdjokbamibaaGreatDoor
open Go.RowKit
theorem OwI.frP {w w' : World} {lo hi : Nat} {v : Value} {xs : List Int} (h : OwI w lo hi v xs) (hf : FrP w w') : OwI w' lo hi v xs := by
  refine ⟨⟨h.1.1, ?_⟩, h.2⟩
  rcases h.1.2 with hn | ⟨g, cap, cur, rfl, hl, hg, rest⟩
  · exact .inl hn
  · exact .inr ⟨g, cap, cur, rfl, hl, hf _ _ _ _ hg (by decide), rest⟩
theorem RowsO.frP {w w' : World} {lo hi : Nat} {us : List Value} {xss : List (List Int)} (h : RowsO w lo hi us xss) (hf : FrP w w') : RowsO w' lo hi us xss :=
  ⟨h.1, fun i u xs hu hx => (h.2.1 i u xs hu hx).frP hf, h.2.2⟩
theorem El.frP {a w w' : World} {B : Nat} {u : Value} {xs : List Int} (h : El w B u xs) (hb : Below B a w) (hb' : Below B a w') (hs : w.heap.size ≤ w'.heap.size) (hf : FrP w w') : El w' B u xs := by
  obtain ⟨⟨h0, A, c, h1, h2, h3, h4⟩, h5⟩ := h
  refine ⟨⟨h0, A, c, h1, h2, h3, fun hn => ?_⟩, fun b off n c hu hn => ?_⟩
  · obtain ⟨b, off, hA, hbl, hc⟩ := h4 hn
    refine ⟨b, off, hA, by omega, fun j u hu => ?_⟩
    rcases h5 b off _ _ (by rw [h1, hA]) hn with h6 | ⟨cur, fz, h6⟩
    · rw [hb'.cell (p := ⟨b, off + j, Option.none⟩) h6, ← hb.cell (p := ⟨b, off + j, Option.none⟩) h6]
      exact hc j u hu
    · have h7 := hf _ _ _ _ h6 (by decide)
      rw [← hc j u hu, cell_of_row w b (off + j) cur _ fz h6, cell_of_row w' b (off + j) cur _ fz h7]
  · rcases h5 b off n c hu hn with h6 | ⟨cur, fz, h6⟩
    · exact .inl h6
    · exact .inr ⟨cur, fz, hf _ _ _ _ h6 (by decide)⟩
/-- The slice values us read as the signals of ps. -/
def Els (w : World) (B : Nat) (us : List Value) (ps : List Phr) : Prop := us.length = ps.length ∧ ∀ (i : Nat) (u : Value) (p : Phr), us[i]? = some u → ps[i]? = some p → El w B u p.2
theorem Els.nil (w : World) (B : Nat) : Els w B [] [] := ⟨rfl, fun i u p hu _ => by simp at hu⟩
theorem Els.append {w : World} {B : Nat} {us vs : List Value} {ps qs : List Phr} (h : Els w B us ps) (g : Els w B vs qs) : Els w B (us ++ vs) (ps ++ qs) := by
  refine ⟨by simp [h.1, g.1], fun i u p hu hp => ?_⟩
  rcases Nat.lt_or_ge i us.length with hi | hi
  · rw [List.getElem?_append_left hi] at hu
    rw [List.getElem?_append_left (by have := h.1; omega)] at hp
    exact h.2 i u p hu hp
  · rw [List.getElem?_append_right hi] at hu
    rw [List.getElem?_append_right (by have := h.1; omega), ← h.1] at hp
    exact g.2 _ u p hu hp
theorem Els.one {w : World} {B : Nat} {u : Value} {p : Phr} (h : El w B u p.2) : Els w B [u] [p] := by
  refine ⟨rfl, fun i u' p' hu hp => ?_⟩
  cases i with
  | zero => simp at hu hp; subst hu hp; exact h
  | succ i => simp at hu
theorem Els.frP {a w w' : World} {B : Nat} {us : List Value} {ps : List Phr} (h : Els w B us ps) (hb : Below B a w) (hb' : Below B a w') (hs : w.heap.size ≤ w'.heap.size) (hf : FrP w w') : Els w' B us ps :=
  ⟨h.1, fun i u p hu hp => (h.2 i u p hu hp).frP hb hb' hs hf⟩
theorem Els.below {w w' : World} {B : Nat} {us : List Value} {ps : List Phr} (h : Els w B us ps) (hB : B ≤ w.heap.size) (hb : Below w.heap.size w w') : Els w' B us ps :=
  ⟨h.1, fun i u p hu hp => (h.2 i u p hu hp).below hB hb⟩
theorem zipC_app : ∀ (ts : List ByteArray) (us : List Value) (tt : List ByteArray) (vs : List Value), us.length = ts.length → zipC (ts ++ tt) (us ++ vs) = zipC ts us ++ zipC tt vs
  | [], [], _, _, _ => rfl
  | [], _ :: _, _, _, h => by simp at h
  | _ :: _, [], _, _, h => by simp at h
  | t :: ts, u :: us, tt, vs, h => by
    simp only [List.cons_append, zipC, zipC_app ts us tt vs (by simpa using h)]
theorem zipC_flat {ts : List ByteArray} {us : List Value} : ∀ u ∈ zipC ts us, (∃ t : ByteArray, u = .string t) ∨ u ∈ us := by
  induction ts generalizing us with
  | nil => intro u h; simp [zipC] at h
  | cons t ts ih =>
    cases us with
    | nil => intro u h; simp [zipC] at h
    | cons v us =>
      intro u h
      simp only [zipC, List.mem_cons] at h
      rcases h with rfl | rfl | h
      · exact .inl ⟨t, rfl⟩
      · exact .inr (by simp)
      · rcases ih u h with h | h
        · exact .inl h
        · exact .inr (by simp [h])
/-- v is a row of phrases, appended to since the world w; below block number B nothing has turned. -/
def GrowP (w : World) (B : Nat) (wr : World) (v : Value) (ps : List Phr) : Prop :=
  (∃ us : List Value, Els wr B us ps ∧ wr.ownsRow B 45 2 v ps.length (zipC (txts ps) us)) ∧ TxtOk ps ∧ Below B w wr ∧ B ≤ wr.heap.size
theorem TxtOk.nil : TxtOk [] := fun p hp => by cases hp
theorem TxtOk.append {ps qs : List Phr} (h : TxtOk ps) (g : TxtOk qs) : TxtOk (ps ++ qs) := fun p hp => by
  rcases List.mem_append.1 hp with hp | hp
  · exact h p hp
  · exact g p hp
theorem GrowP.start (w : World) {B : Nat} (hB : B = w.heap.size) : GrowP w B w (.slice Option.none 0 0) [] := by
  subst hB
  exact ⟨⟨[], Els.nil _ _, World.ownsRow_nil _ _ _ _⟩, TxtOk.nil, Below.refl _ _, Nat.le_refl _⟩
theorem GrowP.belowR {w wr wr' : World} {B : Nat} {v : Value} {ps : List Phr} (h : GrowP w B wr v ps) (hb : Below wr.heap.size wr wr') : GrowP w B wr' v ps := by
  obtain ⟨⟨us, h1, h3⟩, h4, h5, h6⟩ := h
  exact ⟨⟨us, h1.below h6 hb, owns_below h3 (fun k hk => (h3.lt k hk).2) hb (Nat.le_refl _)⟩, h4, h5.trans (hb.mono h6), Nat.le_trans h6 hb.size⟩
theorem GrowP.alloc {w wr : World} {B : Nat} {v : Value} {ps : List Phr} (h : GrowP w B wr v ps) (o : Obj) : GrowP w B (wr.alloc o) v ps := h.belowR ((Below.refl _ _).alloc (Nat.le_refl _) _)
theorem GrowP.rd {w wr : World} {B : Nat} {v : Value} {ps : List Phr} (h : GrowP w B wr v ps) : RdPS wr wr.heap.size v ps := by
  obtain ⟨⟨us, h1, h3⟩, h4, h5, h6⟩ := h
  refine ⟨us, ⟨by simp [sigs, h1.1], fun i u xs hu hx => ?_⟩, rd_of_owns h3 (fun k hk => (h3.lt k hk).2), h4⟩
  unfold sigs at hx
  rw [List.getElem?_map] at hx
  cases hp : ps[i]? with
  | none => rw [hp] at hx; cases hx
  | some p => rw [hp] at hx; cases hx; exact (h1.2 i u p hu hp).1
theorem GrowP.form {w wr : World} {B : Nat} {v : Value} {ps : List Phr} (h : GrowP w B wr v ps) : ∃ A c, v = .slice A ps.length c ∧ ps.length ≤ 9223372036854775807 := by
  obtain ⟨A, c, hv, _, hm⟩ := h.rd.form
  exact ⟨A, c, hv, hm⟩
theorem growP_own {w wr : World} {lo B : Nat} {v : Value} {ps : List Phr} (h : OwPS wr lo wr.heap.size v ps) (hl : B ≤ lo) (hb : Below B w wr) (hB : B ≤ wr.heap.size) : GrowP w B wr v ps := by
  obtain ⟨us, h1, h2, h3, h4⟩ := h
  refine ⟨⟨us, ⟨by simpa [sigs] using h1.1, fun i u p hu hp => ?_⟩, ⟨h2.1, ?_⟩⟩, h3, hb, hB⟩
  · exact el_own (h1.2.1 i u p.2 hu (by simp [sigs, hp]))
  · rcases h2.2 with hn | ⟨g, cap, cur, rfl, hg, rest⟩
    · exact .inl hn
    · exact .inr ⟨g, cap, cur, rfl, by omega, rest⟩
theorem grow_frP {wr wr1 w' : World} {B n : Nat} {v : Value} {cs : List Value} (h3 : wr.ownsRow B 45 2 v n cs) (hb : Below wr.heap.size wr wr1) (hgr : World.grownBy wr1 w' v.ownBlock) : FrP wr w' := by
  intro k c e fz hk e1
  have hlt := (Array.getElem?_eq_some_iff.1 hk).1
  rw [hgr.block k (by have := hb.size; omega) (fun hv => ?_), hb.block k hlt]
  · exact hk
  · rcases h3.2 with ⟨rfl, _⟩ | ⟨g, cap, cur, rfl, _, hg, _⟩
    · cases hv
    · cases hv
      rw [hk] at hg
      cases hg
      exact e1 rfl
/-- One phrase more behind the row. -/
theorem GrowP.app {w wr : World} {B g : Nat} {v : Value} {ps : List Phr} {t : ByteArray} {xs : List Int} {ops : Array Oper} {rest : List Oper} {o : Oper} {a : Act} {Q : Exit → Act → World → Prop} {A : Option Addr} {n c : Nat} (hgd : o.guard = Option.none) (s x : Operand)
    (ho : o.op = .call { callee := .builtin .append, args := #[s, x], argTypes := #[39, 39] }) (hG : GrowP w B wr v ps) (hu : El wr B (.slice A n c) xs) (ht : t.size ≤ 9223372036854775807) (hlen : ps.length < 1048577)
    (hs : a.eval s = v) (hg : g = wr.heap.size) (hx : a.eval x = .slice (some ⟨g, 0, Option.none⟩) 1 1)
    (h : ∀ v' w', GrowP w B w' v' (ps ++ [(t, xs)]) → FrP wr w' → wr.heap.size ≤ w'.heap.size → wpList Tryz.prog ops Q rest (a.put o.dst v') w') : wpList Tryz.prog ops Q (o :: rest) a (wr.alloc (.cells #[.string t, .slice A n c] 45)) := by
  subst hg
  obtain ⟨i, hi, hz0, hz1, hz2⟩ := info_parts info_phr
  obtain ⟨⟨us, h1, h3⟩, h2, h4, h5⟩ := hG
  refine wpList_append_own _ hgd s x 39 ho B 45 i (.agg #[.string { data := #[] }, .slice Option.none 0 0]) 2 40 Tryz.underlying39 hi hz0 hz1 hz2 rfl (by decide) v ps.length (zipC (txts ps) us) hs (h3.alloc _) ⟨wr.heap.size, 0, Option.none⟩ 1 1 [.string t, .slice A n c] hx rfl
    (two_cells _ _ _ _) (by intro u hu; simp at hu; rcases hu with rfl | rfl <;> rfl) (by unfold maxLen; omega) (by omega) (by simp; omega) ?_
  intro v' w' hown hgr _
  have hsz := hgr.size
  have hsz2 : wr.heap.size + 1 ≤ w'.heap.size := by simpa using hsz
  have hfr : FrP wr w' := grow_frP h3 ((Below.refl _ _).alloc (Nat.le_refl _) _) hgr
  have hb' : Below B w w' := (h4.alloc h5 _).grown hgr (by simp; omega) (fun k hk => ((h3.alloc (.cells #[.string t, .slice A n c] 45)).lt k hk).1)
  refine h v' w' ⟨⟨us ++ [.slice A n c], (h1.frP h4 hb' (by omega) hfr).append (Els.one (hu.frP h4 hb' (by omega) hfr)), ?_⟩, h2.append (fun p hp => by simp at hp; subst hp; exact ht), hb', by omega⟩ hfr (by omega)
  unfold txts
  rw [List.map_append, List.map_cons, List.map_nil, zipC_append _ _ _ _ (by simp [h1.1])]
  simpa [txts] using hown
theorem els_old {w : World} {hi B : Nat} {us : List Value} {ps : List Phr} (h : RowsR w hi us (sigs ps)) (hB : hi ≤ B) (hs : B ≤ w.heap.size) : Els w B us ps :=
  ⟨by simpa [sigs] using h.1, fun i u p hu hp => el_old ((h.2 i u p.2 hu (by simp [sigs, hp])).mono hB) hs⟩
theorem rows_one {w : World} {hi : Nat} {us : List Value} {xss : List (List Int)} (h : RowsR w hi us xss) : ∀ u ∈ us, u.oneCell' = true := fun u hu => by
  obtain ⟨j, hj⟩ := List.getElem?_of_mem hu
  have hl := (List.getElem?_eq_some_iff.1 hj).1
  have hjl : j < xss.length := by have := h.1; omega
  have hx : xss[j]? = some xss[j] := List.getElem?_eq_getElem hjl
  obtain ⟨_, A, c, rfl, _⟩ := h.2 j u _ hj hx
  rfl
theorem zip_one {ts : List ByteArray} {us : List Value} (h : ∀ u ∈ us, u.oneCell' = true) : ∀ u ∈ zipC ts us, u.oneCell' = true := fun u hu => by
  rcases zipC_flat u hu with ⟨t, rfl⟩ | hu
  · rfl
  · exact h u hu
/-- A row of phrases of the call's own, each with signals of its own. -/
def GrowO (w : World) (B : Nat) (wr : World) (v : Value) (ps : List Phr) : Prop :=
  (∃ us : List Value, RowsO wr B wr.heap.size us (sigs ps) ∧ wr.ownsRow B 45 2 v ps.length (zipC (txts ps) us)) ∧ TxtOk ps ∧ Below B w wr ∧ B ≤ wr.heap.size
theorem GrowO.start (w : World) {B : Nat} (hB : B = w.heap.size) : GrowO w B w (.slice Option.none 0 0) [] := by
  subst hB
  exact ⟨⟨[], RowsO.nil _ _ _, World.ownsRow_nil _ _ _ _⟩, TxtOk.nil, Below.refl _ _, Nat.le_refl _⟩
theorem GrowO.own {w wr : World} {B : Nat} {v : Value} {ps : List Phr} (h : GrowO w B wr v ps) : OwPS wr B wr.heap.size v ps := by
  obtain ⟨⟨us, h1, h3⟩, h4, h5, h6⟩ := h
  exact ⟨us, h1, h3, h4, fun k hk => (h3.lt k hk).2⟩
theorem GrowO.form {w wr : World} {B : Nat} {v : Value} {ps : List Phr} (h : GrowO w B wr v ps) : ∃ A c, v = .slice A ps.length c ∧ ps.length ≤ 9223372036854775807 := by
  obtain ⟨A, c, hv, _, hm⟩ := h.own.rd.form
  exact ⟨A, c, hv, hm⟩
/-- One phrase more, its signals made since. -/
theorem GrowO.app {w w0 wr : World} {B g : Nat} {v : Value} {ps : List Phr} {t : ByteArray} {xs : List Int} {ops : Array Oper} {rest : List Oper} {o : Oper} {a : Act} {Q : Exit → Act → World → Prop} {A : Option Addr} {n c : Nat} (hgd : o.guard = Option.none) (s x : Operand)
    (ho : o.op = .call { callee := .builtin .append, args := #[s, x], argTypes := #[39, 39] }) (hG : GrowO w B w0 v ps) (hb0 : Below w0.heap.size w0 wr) (hu : OwI wr w0.heap.size wr.heap.size (.slice A n c) xs) (ht : t.size ≤ 9223372036854775807) (hlen : ps.length < 1048577)
    (hs : a.eval s = v) (hg : g = wr.heap.size) (hx : a.eval x = .slice (some ⟨g, 0, Option.none⟩) 1 1)
    (h : ∀ v' w', GrowO w B w' v' (ps ++ [(t, xs)]) → FrP wr w' → wr.heap.size ≤ w'.heap.size → wpList Tryz.prog ops Q rest (a.put o.dst v') w') : wpList Tryz.prog ops Q (o :: rest) a (wr.alloc (.cells #[.string t, .slice A n c] 45)) := by
  subst hg
  obtain ⟨i, hi, hz0, hz1, hz2⟩ := info_parts info_phr
  obtain ⟨⟨us, h1, h3⟩, h2, h4, h5⟩ := hG
  have hs0 := hb0.size
  have h3r := owns_below h3 (fun k hk => (h3.lt k hk).2) hb0 (Nat.le_refl _)
  refine wpList_append_own _ hgd s x 39 ho B 45 i (.agg #[.string { data := #[] }, .slice Option.none 0 0]) 2 40 Tryz.underlying39 hi hz0 hz1 hz2 rfl (by decide) v ps.length (zipC (txts ps) us) hs (h3r.alloc _) ⟨wr.heap.size, 0, Option.none⟩ 1 1 [.string t, .slice A n c] hx rfl
    (two_cells _ _ _ _) (by intro u hu; simp at hu; rcases hu with rfl | rfl <;> rfl) (by unfold maxLen; omega) (by omega) (by simp; omega) ?_
  intro v' w' hown hgr _
  have hsz := hgr.size
  have hsz2 : wr.heap.size + 1 ≤ w'.heap.size := by simpa using hsz
  have hfr : FrP wr w' := grow_frP h3r ((Below.refl _ _).alloc (Nat.le_refl _) _) hgr
  have hb' : Below B w w' := ((h4.trans (hb0.mono h5)).alloc (by omega) _).grown hgr (by simp; omega) (fun k hk => ((h3r.alloc (.cells #[.string t, .slice A n c] 45)).lt k hk).1)
  refine h v' w' ⟨⟨us ++ [.slice A n c], ?_, ?_⟩, h2.append (fun p hp => by simp at hp; subst hp; exact ht), hb', by omega⟩ hfr (by omega)
  · have h6 := ((h1.below hb0 (Nat.le_refl _)).snoc hu h5 hs0).frP hfr
    have h7 := h6.mono (lo' := B) (hi' := w'.heap.size) (Nat.le_refl _) (by omega)
    simpa [sigs] using h7
  · unfold txts
    have hul : us.length = ps.length := by simpa [sigs] using h1.1
    rw [List.map_append, List.map_cons, List.map_nil, zipC_append _ _ _ _ (by simp [hul])]
    simpa [txts] using hown
/-- Where phrases come from: their signals lie in old memory or in blocks of ints. -/
def SrcP (w : World) (B : Nat) (u : Value) (qs : List Phr) : Prop := ∃ vs hi, Els w B vs qs ∧ Rd w hi 2 u qs.length (zipC (txts qs) vs) ∧ TxtOk qs ∧ ∀ x ∈ vs, x.oneCell' = true
theorem src_old {w : World} {hi B : Nat} {u : Value} {qs : List Phr} (h : RdPS w hi u qs) (hB : hi ≤ B) (hs : B ≤ w.heap.size) : SrcP w B u qs := by
  obtain ⟨vs, h1, h2, h3⟩ := h
  exact ⟨vs, hi, els_old h1 hB hs, h2, h3, rows_one h1⟩
theorem src_one {w : World} {B g : Nat} {t : ByteArray} {xs : List Int} {A : Option Addr} {n c : Nat} (h : El w B (.slice A n c) xs) (hs : B ≤ w.heap.size) (hg : g = w.heap.size) (ht : t.size ≤ 9223372036854775807) :
    SrcP (w.alloc (.cells #[.string t, .slice A n c] 45)) B (.slice (some ⟨g, 0, Option.none⟩) 1 1) [(t, xs)] := by
  subst hg
  refine ⟨[.slice A n c], w.heap.size + 1, Els.one (h.below hs ((Below.refl _ _).alloc (Nat.le_refl _) _)), ⟨rfl, _, 1, rfl, Nat.le_refl _, by decide, fun _ => ⟨w.heap.size, 0, rfl, by omega, fun j u hj => ?_⟩⟩, fun p hp => by simp at hp; subst hp; exact ht, fun x hx => by simp at hx; subst hx; rfl⟩
  rw [show (0 : Nat) + j = j by omega, (Blk.new w 45 #[.string t, .slice A n c]).cell j]
  exact hj
/-- Phrases are appended to a row of the call's own: the run. -/
theorem run_appPS {w : World} {B : Nat} {v u : Value} {n : Nat} {cs : List Value} {qs : List Phr} (ty : TypeId) (hown : w.ownsRow B 45 2 v n cs) (hB : B ≤ w.heap.size) {vs : List Value} {hi : Nat} (hR : Rd w hi 2 u qs.length (zipC (txts qs) vs)) (h1c : ∀ x ∈ vs, x.oneCell' = true) (hlen : n + qs.length ≤ 1048577) :
    ∃ v' w', (Builtin.append_ #[39, 39] ty #[v, u]).run Tryz.prog w = .ok v' w' ∧ w'.ownsRow B 45 2 v' (n + qs.length) (cs ++ zipC (txts qs) vs) ∧ w.grownBy w' v.ownBlock := by
  obtain ⟨i, hi0, hz0, hz1, hz2⟩ := info_parts info_phr
  obtain ⟨hl, A, c, rfl, hc1, hc2, hcell⟩ := hR
  rcases A with _ | ad
  · have h0 : qs = [] := by
      rcases Nat.eq_zero_or_pos qs.length with h | h
      · exact List.eq_nil_of_length_eq_zero h
      · obtain ⟨b, off, e, _⟩ := hcell h; cases e
    subst h0
    exact ⟨v, w, run_append_nil B 39 ty 45 i 2 Tryz.underlying39 hi0 v n cs hown c, by simpa [txts, zipC] using hown, World.grownBy.refl _ _⟩
  · have hnews : ∀ j u, (zipC (txts qs) vs)[j]? = some u → w.cell? (ad.add j) = some u := by
      intro j u hj
      rcases Nat.eq_zero_or_pos qs.length with h | h
      · have hz : zipC (txts qs) vs = [] := List.eq_nil_of_length_eq_zero (by rw [h] at hl; omega)
        rw [hz] at hj; simp at hj
      · obtain ⟨b, off, e, _, hcc⟩ := hcell h
        cases e
        rw [Go.WideShapes.add_plain]; exact hcc j u hj
    obtain ⟨v', w', hr, ho, hg, _⟩ := run_append_own (P := Tryz.prog) w B 39 ty 45 i (.agg #[.string { data := #[] }, .slice Option.none 0 0]) 2 40 Tryz.underlying39 hi0 hz0 hz1 hz2 rfl (by decide) v n cs hown ad qs.length c (zipC (txts qs) vs) (by simpa using hl) hnews
      (zip_one h1c) (by unfold maxLen; omega) (by omega) hB
    exact ⟨v', w', hr, ho, hg⟩
/-- The same at a step of a region that draws its order. -/
theorem step_GrowP {w0 w : World} {B : Nat} {v u : Value} {ps qs : List Phr} {ops : Array Oper} {o : Oper} {a : Act} {K : Act → World → Prop} {Q : Exit → Act → World → Prop} {E : Prop} (hgd : o.guard = Option.none) (s x : Operand)
    (ho : o.op = .call { callee := .builtin .append, args := #[s, x], argTypes := #[39, 39] }) (hG : GrowP w0 B w v ps) (hS : SrcP w B u qs) (hlen : ps.length + qs.length ≤ 1048577) (hs : a.eval s = v) (hx : a.eval x = u)
    (h : ∀ v' w', GrowP w0 B w' v' (ps ++ qs) → w.heap.size ≤ w'.heap.size → K (a.put o.dst v') w') : if Region.wanted o (yielded ops a.tmps) = true then Oper.wp Tryz.prog o a w K Q else E := by
  have hw : Region.wanted o (yielded ops a.tmps) = true := by simp [Region.wanted, hgd]
  rw [if_pos hw]
  obtain ⟨⟨us, h1, h3⟩, h2, h4, h5⟩ := hG
  obtain ⟨vs, hi, g1, g2, g3, g4⟩ := hS
  obtain ⟨v', w', hr, k1, k2⟩ := run_appPS o.type h3 h5 g2 g4 hlen
  unfold Oper.wp execOp
  simp only [ho, resolve, invoke, builtin, Sem.run_bind, Sem.run_pure, Result.andThen_ok, List.map_toArray, List.map_cons, List.map_nil, hs, hx, hr]
  have hfr : FrP w w' := grow_frP h3 (Below.refl _ _) k2
  have hsz := k2.size
  have hb' : Below B w0 w' := h4.grown k2 h5 (fun k hk => (h3.lt k hk).1)
  refine h v' w' ⟨⟨us ++ vs, (h1.frP h4 hb' hsz hfr).append (g1.frP h4 hb' hsz hfr), ?_⟩, h2.append g3, hb', by omega⟩ hsz
  unfold txts
  rw [List.map_append, zipC_app _ _ _ _ (by simp [h1.1]), List.length_append]
  simpa [txts] using k1
theorem step_GrowO {w0 w1 w : World} {B g : Nat} {v : Value} {ps : List Phr} {t : ByteArray} {xs : List Int} {ops : Array Oper} {o : Oper} {a : Act} {K : Act → World → Prop} {Q : Exit → Act → World → Prop} {E : Prop} {A : Option Addr} {n c : Nat} (hgd : o.guard = Option.none) (s x : Operand)
    (ho : o.op = .call { callee := .builtin .append, args := #[s, x], argTypes := #[39, 39] }) (hG : GrowO w0 B w1 v ps) (hb0 : Below w1.heap.size w1 w) (hu : OwI w w1.heap.size w.heap.size (.slice A n c) xs) (ht : t.size ≤ 9223372036854775807) (hlen : ps.length < 1048577)
    (hs : a.eval s = v) (hg : g = w.heap.size) (hx : a.eval x = .slice (some ⟨g, 0, Option.none⟩) 1 1)
    (h : ∀ v' w', GrowO w0 B w' v' (ps ++ [(t, xs)]) → FrP w w' → w.heap.size ≤ w'.heap.size → K (a.put o.dst v') w') : if Region.wanted o (yielded ops a.tmps) = true then Oper.wp Tryz.prog o a (w.alloc (.cells #[.string t, .slice A n c] 45)) K Q else E := by
  have hw : Region.wanted o (yielded ops a.tmps) = true := by simp [Region.wanted, hgd]
  rw [if_pos hw]
  subst hg
  obtain ⟨⟨us, h1, h3⟩, h2, h4, h5⟩ := hG
  have hs0 := hb0.size
  have h3r := owns_below h3 (fun k hk => (h3.lt k hk).2) hb0 (Nat.le_refl _)
  have hel : El w B (.slice A n c) xs := el_own hu
  obtain ⟨vs, hi, g1, g2, g3, g4⟩ := src_one (t := t) hel (by omega) rfl ht
  obtain ⟨v', w', hr, k1, k2⟩ := run_appPS (u := .slice (some ⟨w.heap.size, 0, Option.none⟩) 1 1) (qs := [(t, xs)]) o.type (h3r.alloc (.cells #[.string t, .slice A n c] 45)) (by simp; omega) (hi := w.heap.size + 1) (vs := [.slice A n c]) ⟨rfl, _, 1, rfl, Nat.le_refl _, by decide, fun _ => ⟨w.heap.size, 0, rfl, by omega, fun j u hj => by
    rw [show (0 : Nat) + j = j by omega, (Blk.new w 45 #[.string t, .slice A n c]).cell j]; exact hj⟩⟩ (fun x hx => by simp at hx; subst hx; rfl) (by simp; omega)
  unfold Oper.wp execOp
  simp only [ho, resolve, invoke, builtin, Sem.run_bind, Sem.run_pure, Result.andThen_ok, List.map_toArray, List.map_cons, List.map_nil, hs, hx, hr]
  have hsz := k2.size
  have hsz2 : w.heap.size + 1 ≤ w'.heap.size := by simpa using hsz
  have hfr : FrP w w' := grow_frP h3r ((Below.refl _ _).alloc (Nat.le_refl _) _) k2
  have hb' : Below B w0 w' := ((h4.trans (hb0.mono h5)).alloc (by omega) _).grown k2 (by simp; omega) (fun k hk => ((h3r.alloc (.cells #[.string t, .slice A n c] 45)).lt k hk).1)
  refine h v' w' ⟨⟨us ++ [.slice A n c], ?_, ?_⟩, h2.append (fun p hp => by simp at hp; subst hp; exact ht), hb', by omega⟩ hfr (by omega)
  · have h6 := ((h1.below hb0 (Nat.le_refl _)).snoc hu h5 hs0).frP hfr
    have h7 := h6.mono (lo' := B) (hi' := w'.heap.size) (Nat.le_refl _) (by omega)
    simpa [sigs] using h7
  · unfold txts
    have hul : us.length = ps.length := by simpa [sigs] using h1.1
    rw [List.map_append, List.map_cons, List.map_nil, zipC_append _ _ _ _ (by simp [hul])]
    simpa [txts, zipC] using k1
end Go.Proofs.YtjnkdjokbamibaaGreatDoor
