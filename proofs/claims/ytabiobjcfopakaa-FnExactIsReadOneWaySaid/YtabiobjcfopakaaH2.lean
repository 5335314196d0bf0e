/- A list of rests in memory: each lies in old memory or is a row of the call's own; one more is put to the others; of the program and of the reference. -/
import Derived.Test.YtabiobjcfopakaaH1
import Derived.Test.YtabiobjcfopakaaE9
import Derived.Test.YtabiobjcfopakaaM5
namespace Go.Proofs.Ytabiobjcfopakaa
open Go.RowKit
/-- The slice value u reads as xs, in memory below B, or in a block of ints. -/
def El (w : World) (B : Nat) (u : Value) (xs : List Int) : Prop :=
  RdI w w.heap.size u xs ∧ ∀ (b off n c : Nat), u = .slice (some ⟨b, off, Option.none⟩) n c → 0 < n → b < B ∨ ∃ cur fz, w.heap[b]? = some (.cells cur 3 fz)
theorem El.rd {w : World} {B : Nat} {u : Value} {xs : List Int} (h : El w B u xs) (_ : B ≤ w.heap.size) : RdI w w.heap.size u xs := h.1
theorem el_old {w : World} {B : Nat} {u : Value} {xs : List Int} (h : RdI w B u xs) (hB : B ≤ w.heap.size) : El w B u xs := by
  refine ⟨h.mono hB, fun b off n c hu hn => .inl ?_⟩
  obtain ⟨_, A, c', h1, _, _, h4⟩ := h
  rw [hu] at h1
  injection h1 with e1 e2 e3
  obtain ⟨b', off', hA, hb, _⟩ := h4 (by omega)
  rw [← e1] at hA
  cases hA
  exact hb
theorem el_own {w : World} {B lo : Nat} {u : Value} {xs : List Int} (h : OwI w lo w.heap.size u xs) : El w B u xs := by
  refine ⟨h.rd, fun b off n c hu _ => .inr ?_⟩
  rcases h.1.2 with ⟨rfl, _⟩ | ⟨g, cap, cur, rfl, _, hg, _⟩
  · cases hu
  · cases hu
    exact ⟨_, _, hg⟩
theorem El.below {w w' : World} {B : Nat} {u : Value} {xs : List Int} (h : El w B u xs) (_ : B ≤ w.heap.size) (hb : Below w.heap.size w w') : El w' B u xs := by
  refine ⟨(RdI.below h.1 hb (Nat.le_refl _)).mono hb.size, fun b off n c hu hn => ?_⟩
  rcases h.2 b off n c hu hn with h2 | ⟨cur, fz, h2⟩
  · exact .inl h2
  · exact .inr ⟨cur, fz, (hb.block b (Array.getElem?_eq_some_iff.1 h2).1).trans h2⟩
/-- Blocks other than rows of slices, and boxes of such, stand. -/
def Fr (w w' : World) : Prop := ∀ (k : Nat) (c : Array Value) (e : TypeId) (fz : Nat × Nat), w.heap[k]? = some (.cells c e fz) → e ≠ 29 → e ≠ 61 → w'.heap[k]? = some (.cells c e fz)
theorem Fr.refl (w : World) : Fr w w := fun _ _ _ _ h _ _ => h
theorem Fr.trans {a b c : World} (h : Fr a b) (g : Fr b c) : Fr a c := fun k x e fz hk h1 h2 => g k x e fz (h k x e fz hk h1 h2) h1 h2
theorem fr_below {w w' : World} (h : Below w.heap.size w w') : Fr w w' := fun k _ _ _ hk _ _ => (h.block k (Array.getElem?_eq_some_iff.1 hk).1).trans hk
theorem fr_drewN (w : World) (n : Nat) : Fr w (w.drewN n) := fun _ _ _ _ h _ _ => h
theorem Blk.fr {w w' : World} {g : Nat} {t : TypeId} {cs : List Value} (h : Blk w g t cs) (hf : Fr w w') (h1 : t ≠ 29) (h2 : t ≠ 61) : Blk w' g t cs := hf _ _ _ _ h h1 h2
theorem El.fr {a w w' : World} {B : Nat} {u : Value} {xs : List Int} (h : El w B u xs) (hb : Below B a w) (hb' : Below B a w') (hs : w.heap.size ≤ w'.heap.size) (hf : Fr w w') : El w' B u xs := by
  obtain ⟨⟨h0, A, c, h1, h2, h3, h4⟩, h5⟩ := h
  refine ⟨⟨h0, A, c, h1, h2, h3, fun hn => ?_⟩, fun b off n c hu hn => ?_⟩
  · obtain ⟨b, off, hA, hbl, hc⟩ := h4 hn
    refine ⟨b, off, hA, by omega, fun j u hu => ?_⟩
    rcases h5 b off _ _ (by rw [h1, hA]) hn with h6 | ⟨cur, fz, h6⟩
    · rw [hb'.cell (p := ⟨b, off + j, Option.none⟩) h6, ← hb.cell (p := ⟨b, off + j, Option.none⟩) h6]
      exact hc j u hu
    · have h7 := hf _ _ _ _ h6 (by decide) (by decide)
      rw [← hc j u hu, cell_of_row w b (off + j) cur _ fz h6, cell_of_row w' b (off + j) cur _ fz h7]
  · rcases h5 b off n c hu hn with h6 | ⟨cur, fz, h6⟩
    · exact .inl h6
    · exact .inr ⟨cur, fz, hf _ _ _ _ h6 (by decide) (by decide)⟩
/-- v is a row of rests, appended to since the world w; below block number B nothing has turned. -/
def GrowL (w : World) (B : Nat) (wr : World) (v : Value) (xss : List (List Int)) : Prop :=
  (∃ us : List Value, us.length = xss.length ∧ (∀ (i : Nat) (u : Value) (xs : List Int), us[i]? = some u → xss[i]? = some xs → El wr B u xs) ∧ wr.ownsRow B 29 1 v xss.length us) ∧ Below B w wr ∧ B ≤ wr.heap.size
theorem GrowL.start (w : World) {B : Nat} (hB : B = w.heap.size) : GrowL w B w (.slice Option.none 0 0) [] := by
  subst hB
  exact ⟨⟨[], rfl, fun i u xs hu _ => by simp at hu, World.ownsRow_nil _ _ _ _⟩, Below.refl _ _, Nat.le_refl _⟩
theorem GrowL.belowR {w wr wr' : World} {B : Nat} {v : Value} {xss : List (List Int)} (h : GrowL w B wr v xss) (hb : Below wr.heap.size wr wr') : GrowL w B wr' v xss := by
  obtain ⟨⟨us, h1, h2, h3⟩, h4, h5⟩ := h
  exact ⟨⟨us, h1, fun i u xs hu hx => (h2 i u xs hu hx).below h5 hb, owns_below h3 (fun k hk => (h3.lt k hk).2) hb (Nat.le_refl _)⟩, h4.trans (hb.mono h5), Nat.le_trans h5 hb.size⟩
theorem GrowL.form {w wr : World} {B : Nat} {v : Value} {xss : List (List Int)} (h : GrowL w B wr v xss) : ∃ A c, v = .slice A xss.length c ∧ xss.length ≤ 9223372036854775807 := by
  obtain ⟨⟨us, h1, h2, h3⟩, h4, h5⟩ := h
  obtain ⟨A, c, hv, _, hm⟩ := Rd.form (rd_of_owns h3 (fun k hk => (h3.lt k hk).2))
  exact ⟨A, c, hv, hm⟩
theorem GrowL.rd {w wr : World} {B : Nat} {v : Value} {xss : List (List Int)} (h : GrowL w B wr v xss) : RdII wr wr.heap.size v xss := by
  obtain ⟨⟨us, h1, h2, h3⟩, h4, h5⟩ := h
  exact ⟨us, ⟨h1, fun i u xs hu hx => (h2 i u xs hu hx).rd h5⟩, rd_of_owns h3 (fun k hk => (h3.lt k hk).2)⟩
theorem GrowL.at_ {w wr : World} {B : Nat} {v : Value} {xss : List (List Int)} (h : GrowL w B wr v xss) {k : Nat} (hk : k < xss.length) :
    ∃ b off c u xs, v = .slice (some ⟨b, off, Option.none⟩) xss.length c ∧ xss[k]? = some xs ∧ wr.cell? ⟨b, off + k, Option.none⟩ = some u ∧ El wr B u xs := by
  obtain ⟨⟨us, h1, h2, h3⟩, h4, h5⟩ := h
  obtain ⟨_, A, c, hv, _, _, h6⟩ := rd_of_owns h3 (fun k hk => (h3.lt k hk).2)
  obtain ⟨b, off, rfl, hb, hc⟩ := h6 (by omega)
  have hu : us[k]? = some us[k] := by simp [show k < us.length by omega]
  exact ⟨b, off, c, us[k], xss[k], hv, by simp [hk], hc k _ hu, h2 k _ _ hu (by simp [hk])⟩
theorem one_cellV (w : World) (u : Value) (t : TypeId) (j : Nat) (x : Value) (h : [u][j]? = some x) : (w.alloc (.cells #[u] t)).cell? ((⟨w.heap.size, 0, Option.none⟩ : Addr).add j) = some x := one_cell w u t j x h
/-- One rest more behind the row. -/
theorem GrowL.app {w wr : World} {B : Nat} {v : Value} {xss : List (List Int)} {ops : Array Oper} {rest : List Oper} {o : Oper} {a : Act} {Q : Exit → Act → World → Prop} {A : Option Addr} {n c : Nat} {xs : List Int} (hgd : o.guard = Option.none) (s x : Operand)
    (ho : o.op = .call { callee := .builtin .append, args := #[s, x], argTypes := #[61, 61] }) (hG : GrowL w B wr v xss) (hu : El wr B (.slice A n c) xs) (hlen : xss.length < 1048576)
    (hs : a.eval s = v) (hx : a.eval x = .slice (some ⟨wr.heap.size, 0, Option.none⟩) 1 1)
    (h : ∀ v' w', GrowL w B w' v' (xss ++ [xs]) → Fr wr w' → wr.heap.size ≤ w'.heap.size → (∀ g, g < wr.heap.size → v.ownBlock ≠ some g → w'.heap[g]? = wr.heap[g]?) → wpList Try.prog ops Q rest (a.put o.dst v') w') : wpList Try.prog ops Q (o :: rest) a (wr.alloc (.cells #[.slice A n c] 29)) := by
  obtain ⟨i, hi, hz0, hz1, hz2⟩ := info_parts info_ints
  obtain ⟨⟨us, h1, h2, h3⟩, h4, h5⟩ := hG
  refine wpList_append_own _ hgd s x 61 ho B 29 i (.slice Option.none 0 0) 1 24 Try.underlying61 hi hz0 hz1 hz2 rfl (by decide) v xss.length us hs (h3.alloc _) ⟨wr.heap.size, 0, Option.none⟩ 1 1 [.slice A n c] hx rfl
    (one_cell _ _ _) (by intro u hu; simp at hu; subst hu; rfl) (by unfold maxLen; omega) (by omega) (by simp; omega) ?_
  intro v' w' hown hgr _
  have hsz := hgr.size
  have hsz2 : wr.heap.size + 1 ≤ w'.heap.size := by simpa using hsz
  have hfar : ∀ g, g < wr.heap.size → v.ownBlock ≠ some g → w'.heap[g]? = wr.heap[g]? := fun g hg hne => (hgr.block g (by simp; omega) (fun e => hne e.symm)).trans (Below.heap_alloc wr _ g hg)
  have hfr : Fr wr w' := by
    intro k cs e fz hk e1 e2
    have hlt := (Array.getElem?_eq_some_iff.1 hk).1
    rw [hfar k hlt (fun hv => ?_)]
    · exact hk
    · rcases h3.2 with ⟨rfl, _⟩ | ⟨g, cap, cur, rfl, _, hg, _⟩
      · cases hv
      · cases hv
        rw [hk] at hg
        cases hg
        exact e1 rfl
  have hb' : Below B w w' := (h4.alloc h5 _).grown hgr (by simp; omega) (fun k hk => ((h3.alloc (.cells #[.slice A n c] 29)).lt k hk).1)
  refine h v' w' ⟨⟨us ++ [.slice A n c], by simp [h1], fun j u ys hju hjy => ?_, by simpa using hown⟩, hb', by omega⟩ hfr (by omega) hfar
  rcases Nat.lt_or_ge j us.length with hj | hj
  · rw [List.getElem?_append_left hj] at hju
    rw [List.getElem?_append_left (by omega)] at hjy
    exact (h2 j u ys hju hjy).fr h4 hb' (by omega) hfr
  · rw [List.getElem?_append_right hj] at hju
    rw [List.getElem?_append_right (by omega)] at hjy
    have hj0 : j - us.length = 0 := by
      rcases Nat.eq_zero_or_pos (j - us.length) with e | e
      · exact e
      · rw [List.getElem?_eq_none (by simp; omega)] at hju; cases hju
    rw [hj0] at hju
    rw [show j - xss.length = 0 by omega] at hjy
    simp at hju hjy
    subst hju hjy
    exact hu.fr h4 hb' (by omega) hfr
theorem RdI.dropLe {w : World} {hi c : Nat} {b off : Nat} {xs : List Int} (h : RdI w hi (.slice (some ⟨b, off, Option.none⟩) xs.length c) xs) {k : Nat} (hk : k ≤ xs.length) :
    RdI w hi (.slice (some ⟨b, off + k, Option.none⟩) (xs.length - k) (c - k)) (xs.drop k) := by
  rcases Nat.lt_or_ge k xs.length with hlt | hge
  · exact h.drop hlt
  · obtain rfl : k = xs.length := by omega
    obtain ⟨h0, A', c', hv, h1, h2, _⟩ := h
    cases hv
    refine ⟨by simp, some ⟨b, off + xs.length, Option.none⟩, c - xs.length, by rw [List.length_drop], by rw [List.length_drop]; omega, by omega, fun h => ?_⟩
    rw [List.length_drop] at h
    omega
theorem El.drop {w : World} {B : Nat} {c : Nat} {b off : Nat} {xs : List Int} (h : El w B (.slice (some ⟨b, off, Option.none⟩) xs.length c) xs) {k : Nat} (hk : k ≤ xs.length) :
    El w B (.slice (some ⟨b, off + k, Option.none⟩) (xs.length - k) (c - k)) (xs.drop k) := by
  refine ⟨h.1.dropLe hk, fun b' off' n' c' hu hn => ?_⟩
  cases hu
  exact h.2 b off xs.length c rfl (by omega)
theorem notIn_full {xss : List (List Int)} {r : List Int} (h : ∀ j, j < xss.length → xss[j]? ≠ some r) : r ∉ xss := by
  intro hm
  obtain ⟨j, hj⟩ := List.getElem?_of_mem hm
  exact h j (List.getElem?_eq_some_iff.1 hj).1 hj
set_option maxRecDepth 100000 in
set_option maxHeartbeats 1600000 in
theorem bkPut_any (a : World) (B : Nat) (xss : List (List Int)) (r : List Int) (v u : Value) (hi : Nat) (w : World) (h : GrowL a B w v xss) (g : RdI w hi u r) (hg : hi ≤ w.heap.size) (hlen : xss.length ≤ 160) (hr : r.length ≤ 1000) :
    Calls Try.prog 216 #[v, u] w fun e w' => ∃ v', e = .returned v' ∧ GrowL a B w' v' (putR xss r) ∧ Fr w w' ∧ w.heap.size ≤ w'.heap.size := by
  obtain ⟨A, c, rfl, hm⟩ := h.form
  obtain ⟨A', c', rfl, hc', hm'⟩ := Rd.form g
  have H := Lib.hid h
  have G := Lib.hid g
  clear h g
  go_enter Try.func216, Try.ntmps216
  go_wp2_with fail
  go_loopw [9] (fun i wr => ∃ k : Nat, k ≤ xss.length ∧ i = .int .i64 k ∧ Hid (∀ j, j < k → xss[j]? ≠ some r) ∧ ∃ n, wr = w.drewN n) (fun i _ => xss.length - (intOf i).toNat)
  case atStart => exact ⟨0, Nat.zero_le _, rfl, fun j hj => by omega, 0, rfl⟩
  case round =>
    obtain ⟨k, hk, rfl, hno, n, rfl⟩ := hrel
    by_cases hlt : k < xss.length
    · obtain ⟨b1, o1, c1, u1, xs, hv, hx, hcell1, hel⟩ := H.out.at_ hlt
      injection hv with hv1 hv2 hv3
      subst hv1
      obtain ⟨A2, c2, rfl, hc2, hm2⟩ := Rd.form (hel.rd H.out.2.2)
      have HX := Lib.hid hx
      have HE := Lib.hid (hel.rd H.out.2.2)
      clear hv2 hv3 hx hel
      have cS := l1Same_any xs r (.slice A2 xs.length c2) (.slice A' r.length c') w.heap.size hi (w.drewN n) (show RdI (w.drewN n) _ _ _ from HE.out) (show RdI (w.drewN n) _ _ _ from G.out)
      by_cases he : xs = r
      · rw [decide_eq_true he] at cS
        have CS := Lib.hid cS
        have HM : Hid (r ∈ xss) := by show r ∈ xss; rw [← he]; exact List.mem_of_getElem? HX.out
        clear cS he
        go_wp2_with fail
        refine CS.out.mono ?_
        rintro e w2 ⟨rfl, m, rfl⟩
        go_wp2_with fail
        go_ret
        refine ⟨_, rfl, ?_, fr_drewN _ _, Nat.le_refl _⟩
        rw [putR_old HM.out]
        exact H.out.belowR (bel_drewN _ _ _)
      · rw [decide_eq_false he] at cS
        have CS := Lib.hid cS
        have HN : Hid (xss[k]? ≠ some r) := by show _ ≠ _; rw [HX.out]; intro e; exact he (Option.some.inj e)
        clear cS he
        go_wp2_with fail
        refine CS.out.mono ?_
        rintro e w2 ⟨rfl, m, rfl⟩
        go_wp2_with fail
        go_roundw
        case rel => exact ⟨k + 1, by omega, by go_num, fun j hj => by
          by_cases e : j = k
          · subst e; exact HN.out
          · exact hno.out j (by omega), n + m, by first | rfl | rw [World.drewN_drewN]⟩
        case measure => (simp [intOf]; try omega)
    · obtain rfl : k = xss.length := by omega
      have HNI := Lib.hid (notIn_full hno.out)
      have cO := l1Own_any r (.slice A' r.length c') hi (w.drewN n) (show RdI (w.drewN n) _ _ _ from G.out) hg (by omega)
      have CO := Lib.hid cO
      clear cO
      go_wp2_with fail
      refine CO.out.mono ?_
      rintro e w2 ⟨q, rfl, hq, hb2⟩
      obtain ⟨Aq, cq, rfl, hqm⟩ := hq.form
      have HG2 := Lib.hid (H.out.belowR ((bel_drewN _ w n).trans hb2))
      have HE2 : Hid (El w2 B (.slice Aq r.length cq) r) := el_own hq
      have HF2 := Lib.hid ((fr_drewN w n).trans (fr_below hb2))
      have hs2 : w.heap.size ≤ w2.heap.size := hb2.size
      clear hq hb2
      go_wp2_with (at_builtin; refine GrowL.app rfl (.tmp 18) (.tmp 21) rfl HG2.out HE2.out (by omega) rfl rfl ?_; intro v' w3 hG' hF' hs' _)
      go_ret
      refine ⟨_, rfl, ?_, HF2.out.trans hF', by omega⟩
      rw [putR_new HNI.out]
      exact hG'
theorem readOneWay11_any (xs ys : List Int) (u s : Value) (B hi hj : Nat) (w : World) (h : RdI w hi u xs) (g : RdI w hj s ys) (hc : w.cell? ⟨B, 0, Option.none⟩ = some s) :
    Calls Try.prog 220 #[u, .pointer (some ⟨B, 0, Option.none⟩)] w fun e w' => e = .returned (.bool (decide (xs = ys))) ∧ ∃ n, w' = w.drewN n := by
  obtain ⟨A, c, rfl, hc1, hm⟩ := Rd.form h
  obtain ⟨A', c', rfl, hc2, hm'⟩ := Rd.form g
  have H := Lib.hid h
  have G := Lib.hid g
  clear h g
  go_enter Try.func220, Try.ntmps220
  go_wp2_with fail
  refine (slicesEqual_any xs ys _ _ hi hj _ H.out G.out).mono ?_
  rintro e w' ⟨rfl, n, rfl⟩
  go_wp2_with fail
  go_ret
  exact ⟨rfl, n, rfl⟩
theorem containsII_any (xss : List (List Int)) (v : Value) (hi : Nat) (w : World) (g : Nat) (lb : Array Value) (p : List Int → Bool) (h : RdII w hi v xss) (hp : PredI g lb hi p w)
    (eg : ∀ args w, (callFunc g args).run Try.prog w = .ok (.enter g args) w) :
    Calls Try.prog 219 #[v, .func (.func g) #[] lb] w fun e w' => e = .returned (.bool (xss.any p)) ∧ ∃ n, w' = w.drewN n := by
  have cI := indexII_any xss v hi w g lb p h hp eg
  cases hf : xss.findIdx? p with
  | none =>
    rw [hf] at cI
    simp only [ixI] at cI
    have hno : xss.any p = false := by
      rw [List.any_eq_false]
      intro x hx
      rw [List.findIdx?_eq_none_iff] at hf
      simpa using hf x hx
    rw [hno]
    have CI := Lib.hid cI
    clear cI hf hno
    go_enter Try.func219, Try.ntmps219
    go_wp2_with fail
    refine CI.out.mono ?_
    rintro e w' ⟨rfl, n, rfl⟩
    go_wp2_with fail
    go_ret
    exact ⟨rfl, n, rfl⟩
  | some i =>
    rw [hf] at cI
    simp only [ixI] at cI
    have hyes : xss.any p = true := by
      rw [List.any_eq_true]
      rw [List.findIdx?_eq_some_iff_getElem] at hf
      obtain ⟨hl, h1, _⟩ := hf
      exact ⟨xss[i], List.getElem_mem hl, h1⟩
    rw [hyes]
    have hi0 : (0 : Int) ≤ (i : Int) := by omega
    have CI := Lib.hid cI
    clear cI hf hyes
    go_enter Try.func219, Try.ntmps219
    go_wp2_with fail
    refine CI.out.mono ?_
    rintro e w' ⟨rfl, n, rfl⟩
    go_wp2_with fail
    go_ret
    exact ⟨rfl, n, rfl⟩
/-- The box of the rests. -/
def BoxL (a : World) (B : Nat) (w : World) (L : Nat) (xss : List (List Int)) : Prop := ∃ v, Blk w L 61 [v] ∧ GrowL a B w v xss ∧ B ≤ L
theorem BoxL.belowR {a w w' : World} {B L : Nat} {xss : List (List Int)} (h : BoxL a B w L xss) (hb : Below w.heap.size w w') : BoxL a B w' L xss := by
  obtain ⟨v, h1, h2, h3⟩ := h
  exact ⟨v, h1.below hb h1.lt, h2.belowR hb, h3⟩
set_option maxRecDepth 100000 in
set_option maxHeartbeats 1600000 in
theorem readOneWay1_any (a : World) (B L : Nat) (xss : List (List Int)) (r : List Int) (u : Value) (w : World) (h : BoxL a B w L xss) (g : El w B u r) (hlen : xss.length ≤ 160) (hr : r.length ≤ 1000) :
    Calls Try.prog 218 #[u, .pointer (some ⟨L, 0, Option.none⟩)] w fun e w' => (∃ z, e = .returned z) ∧ BoxL a B w' L (putR xss r) ∧ Fr w w' ∧ w.heap.size ≤ w'.heap.size := by
  obtain ⟨v, hbx, hG, hBL⟩ := h
  obtain ⟨A, c, rfl, hm⟩ := hG.form
  obtain ⟨A', c', rfl, hc', hm'⟩ := Rd.form g.1
  have hba : Below w.heap.size w (w.alloc (.cells #[.slice A' r.length c'] 29)) := (Below.refl _ _).alloc (Nat.le_refl _) _
  have hLlt := hbx.lt
  have hBw := hG.2.2
  have HBX : Hid (Blk (w.alloc (.cells #[.slice A' r.length c'] 29)) L 61 [.slice A xss.length c]) := hbx.alloc _
  have HG1 : Hid (GrowL a B (w.alloc (.cells #[.slice A' r.length c'] 29)) (.slice A xss.length c) xss) := hG.belowR hba
  have HR1 : Hid (El (w.alloc (.cells #[.slice A' r.length c'] 29)) B (.slice A' r.length c') r) := g.below hBw hba
  have HF1 := Lib.hid (fr_below hba)
  have hcr : (w.alloc (.cells #[.slice A' r.length c'] 29)).cell? ⟨w.heap.size, 0, Option.none⟩ = some (.slice A' r.length c') := (Blk.new w 29 #[.slice A' r.length c']).cell 0
  have HCR := Lib.hid hcr
  have hpred : PredI 220 #[.pointer (some ⟨w.heap.size, 0, Option.none⟩)] (w.alloc (.cells #[.slice A' r.length c'] 29)).heap.size (fun x => decide (x = r)) (w.alloc (.cells #[.slice A' r.length c'] 29)) := by
    intro n x u hu
    exact readOneWay11_any x r u (.slice A' r.length c') w.heap.size _ (w.alloc (.cells #[.slice A' r.length c'] 29)).heap.size _ hu (show RdI ((w.alloc (.cells #[.slice A' r.length c'] 29)).drewN n) _ _ _ from HR1.out.1) hcr
  have cC := containsII_any xss (.slice A xss.length c) _ _ _ _ _ HG1.out.rd hpred (enters_of Try.func220 (by kernel_rfl) rfl)
  have hcb := HBX.out.cell 0
  clear hbx hG g hba hpred hcr
  by_cases hmem : r ∈ xss
  · rw [show xss.any (fun x => decide (x = r)) = true by rw [List.any_eq_true]; exact ⟨r, hmem, by simp⟩] at cC
    have CC := Lib.hid cC
    have HM := Lib.hid hmem
    clear cC hmem
    go_enter Try.func218, Try.ntmps218
    go_wp2_with fail
    refine CC.out.mono ?_
    rintro e w2 ⟨rfl, n, rfl⟩
    go_wp2_with fail
    refine bodyPost_end (results_none Try.results218 _ _ _) rfl ?_
    refine ⟨⟨_, rfl⟩, ⟨.slice A xss.length c, HBX.out, ?_, hBL⟩, HF1.out.trans (fr_drewN _ _), by simp⟩
    rw [putR_old HM.out]
    exact HG1.out.belowR (bel_drewN _ _ _)
  · rw [show xss.any (fun x => decide (x = r)) = false by rw [List.any_eq_false]; intro x hx; simp only [decide_eq_true_eq]; rintro rfl; exact hmem hx] at cC
    have CC := Lib.hid cC
    have HM := Lib.hid hmem
    clear cC hmem
    go_enter Try.func218, Try.ntmps218
    go_wp2_with fail
    refine CC.out.mono ?_
    rintro e w2 ⟨rfl, n, rfl⟩
    have hcb2 : ((w.alloc (.cells #[.slice A' r.length c'] 29)).drewN n).cell? ⟨L, 0, Option.none⟩ = some (.slice A xss.length c) := hcb
    have hcr2 : ((w.alloc (.cells #[.slice A' r.length c'] 29)).drewN n).cell? ⟨w.heap.size, 0, Option.none⟩ = some (.slice A' r.length c') := HCR.out
    have HG2 : Hid (GrowL a B ((w.alloc (.cells #[.slice A' r.length c'] 29)).drewN n) (.slice A xss.length c) xss) := HG1.out.belowR (bel_drewN _ _ _)
    have HE2 : Hid (El ((w.alloc (.cells #[.slice A' r.length c'] 29)).drewN n) B (.slice A' r.length c') r) := HR1.out.below (by simp; omega) (bel_drewN _ _ _)
    have HBX2 : Hid (Blk ((w.alloc (.cells #[.slice A' r.length c'] 29)).drewN n) L 61 [.slice A xss.length c]) := HBX.out
    have HF2 := Lib.hid (HF1.out.trans (fr_drewN _ n))
    have hs2 : w.heap.size + 1 ≤ ((w.alloc (.cells #[.slice A' r.length c'] 29)).drewN n).heap.size := by show _ ≤ (w.alloc _).heap.size; simp
    clear hcb HCR HBX HG1 HR1 HF1
    generalize ((w.alloc (.cells #[.slice A' r.length c'] 29)).drewN n) = wq at hcb2 hcr2 HG2 HE2 HBX2 HF2 hs2 ⊢
    have hne : (Value.slice A xss.length c).ownBlock ≠ some L := by
      intro e
      obtain ⟨⟨us, _, _, h3⟩, _, _⟩ := HG2.out
      rcases h3.2 with ⟨hn, _⟩ | ⟨g, cap, cur, hv, _, hg, _⟩
      · rw [hn] at e; cases e
      · rw [hv] at e
        cases e
        have := HBX2.out
        unfold Blk at this
        rw [hg] at this
        simp at this
    have HNE := Lib.hid hne
    clear hne
    go_wp2_with (at_builtin; refine GrowL.app rfl (.tmp 7) (.tmp 9) rfl HG2.out HE2.out (by omega) rfl rfl ?_; intro v' w3 hG' hF' hs' hfar; obtain ⟨Av, cv, hv', _⟩ := hG'.form; rw [List.length_append, List.length_singleton] at hv'; subst hv'; have hk3 : Blk w3 L 61 [.slice A xss.length c] := (hfar L (by omega) HNE.out).trans HBX2.out; have hc3 := hk3.cell 0; have hf3 := hk3.frozen 0; have HG3 := Lib.hid hG'; have HK3 := Lib.hid hk3; have HF3 := Lib.hid hF'; clear hG' hk3 hF' hfar)
    refine bodyPost_end (results_none Try.results218 _ _ _) rfl ?_
    have hset : Fr w3 (w3.setCell ⟨L, 0, Option.none⟩ (.slice Av (xss.length + 1) cv)) := by
      intro k cs e fz hk e1 e2
      rw [Below.heap_setCell _ _ _ _ (fun he => ?_)]
      · exact hk
      · have := HK3.out
        unfold Blk at this
        rw [show L = k from he.symm] at this
        rw [hk] at this
        cases this
        exact e2 rfl
    refine ⟨⟨_, rfl⟩, ⟨_, HK3.out.set_ 0 (.slice Av (xss.length + 1) cv), ?_, hBL⟩, (HF2.out.trans HF3.out).trans hset, by show w.heap.size ≤ (w3.setCell _ _).heap.size; simp [World.setCell]; omega⟩
    rw [putR_new HM.out]
    obtain ⟨⟨us, h1, h2, h3⟩, h4, h5⟩ := HG3.out
    have hb' := h4.setCell (p := ⟨L, 0, Option.none⟩) hBL (.slice Av (xss.length + 1) cv)
    have hsz' : (w3.setCell ⟨L, 0, Option.none⟩ (.slice Av (xss.length + 1) cv)).heap.size = w3.heap.size := by simp [World.setCell]
    refine ⟨⟨us, h1, fun i u ys hu hy => (h2 i u ys hu hy).fr h4 hb' (by omega) hset, ⟨h3.1, ?_⟩⟩, hb', by omega⟩
    rcases h3.2 with hn | ⟨g, cap, cur, hvv, hl, hg, rest⟩
    · exact .inl hn
    · refine .inr ⟨g, cap, cur, hvv, hl, (Below.heap_setCell _ _ _ _ (fun he => ?_)).trans hg, rest⟩
      have := HK3.out
      unfold Blk at this
      rw [show L = g from he.symm] at this
      rw [hg] at this
      simp at this
end Go.Proofs.Ytabiobjcfopakaa
