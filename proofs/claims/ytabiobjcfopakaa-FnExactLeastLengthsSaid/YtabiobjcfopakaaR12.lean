/- Contracts: the order of the weights, by the reference. -/
import Derived.Test.YtabiobjcfopakaaR11
import Derived.Test.YtabiobjcfopakaaH2
import Derived.Deep.RegionLaw
namespace Go.Proofs.Ytabiobjcfopakaa
open Go.RowKit
/-- A slice of numbers is appended to a row of the call's own: the run. -/
theorem run_appR {w : World} {B hi : Nat} {v u : Value} {xs ys : List Int} (ty : TypeId) (hown : w.ownsRow B 3 1 v xs.length (ints xs)) (hB : B ≤ w.heap.size) (hR : RdI w hi u ys) (hlen : xs.length + ys.length ≤ 1048576) :
    ∃ v' w', (Builtin.append_ #[29, 29] ty #[v, u]).run Try.prog w = .ok v' w' ∧ w'.ownsRow B 3 1 v' (xs ++ ys).length (ints (xs ++ ys)) ∧ w.grownBy w' v.ownBlock := by
  obtain ⟨i, hi0, hz0, hz1, hz2⟩ := info_parts info_int
  obtain ⟨hl, A, c, rfl, hc1, hc2, hcell⟩ := hR
  rcases A with _ | ad
  · have h0 : ys = [] := by
      rcases Nat.eq_zero_or_pos ys.length with h | h
      · exact List.eq_nil_of_length_eq_zero h
      · obtain ⟨b, off, e, _⟩ := hcell h; cases e
    subst h0
    exact ⟨v, w, run_append_nil B 29 ty 3 i 1 Try.underlying29 hi0 v xs.length (ints xs) hown c, by simpa using hown, World.grownBy.refl _ _⟩
  · have hnews : ∀ j u, (ints ys)[j]? = some u → w.cell? (ad.add j) = some u := by
      intro j u hj
      rcases Nat.eq_zero_or_pos ys.length with h | h
      · rw [List.eq_nil_of_length_eq_zero h] at hj; simp at hj
      · obtain ⟨b, off, e, _, hcc⟩ := hcell h
        cases e
        rw [Go.WideShapes.add_plain]; exact hcc j u hj
    obtain ⟨v', w', hr, ho, hg, _⟩ := run_append_own (P := Try.prog) w B 29 ty 3 i (.int .i64 0) 1 8 Try.underlying29 hi0 hz0 hz1 hz2 rfl (by decide) v xs.length (ints xs) hown ad ys.length c (ints ys) (by simp) hnews
      (by intro u hu; simp at hu; obtain ⟨z, _, rfl⟩ := hu; rfl) (by unfold maxLen; omega) (by omega) hB
    exact ⟨v', w', hr, by simpa [ints] using ho, hg⟩
/-- The same at a step of a region that draws its order. -/
theorem step_appR {w0 w : World} {B hi : Nat} {v u : Value} {xs ys : List Int} {ops : Array Oper} {o : Oper} {a : Act} {K : Act → World → Prop} {Q : Exit → Act → World → Prop} {E : Prop} (hgd : o.guard = Option.none) (s x : Operand)
    (ho : o.op = .call { callee := .builtin .append, args := #[s, x], argTypes := #[29, 29] }) (hG : GrowI w0 B w v xs) (hR : RdI w hi u ys) (hlen : xs.length + ys.length ≤ 1048576) (hs : a.eval s = v) (hx : a.eval x = u)
    (h : ∀ v' w', GrowI w0 B w' v' (xs ++ ys) → K (a.put o.dst v') w') : if Region.wanted o (yielded ops a.tmps) = true then Oper.wp Try.prog o a w K Q else E := by
  have hw : Region.wanted o (yielded ops a.tmps) = true := by simp [Region.wanted, hgd]
  rw [if_pos hw]
  obtain ⟨v', w', hr, h1, h2⟩ := run_appR o.type hG.1 hG.2.2 hR hlen
  unfold Oper.wp execOp
  simp only [ho, resolve, invoke, builtin, Sem.run_bind, Sem.run_pure, Result.andThen_ok, List.map_toArray, List.map_cons, List.map_nil, hs, hx, hr]
  exact h v' w' ⟨h1, hG.2.1.grown h2 hG.2.2 (fun k hk => (hG.1.lt k hk).1), Nat.le_trans hG.2.2 h2.size⟩
theorem growI_own {w w1 w2 : World} {v : Value} {xs : List Int} (hb1 : Below w.heap.size w w1) (ho : OwI w2 w1.heap.size w2.heap.size v xs) (hb : Below w1.heap.size w1 w2) : GrowI w w.heap.size w2 v xs := by
  have hs := hb1.size
  have hs2 := hb.size
  refine ⟨⟨ho.1.1, ?_⟩, hb1.trans (hb.mono hs), by omega⟩
  rcases ho.1.2 with hn | ⟨g, cap, cur, e, hl, rest⟩
  · exact .inl hn
  · exact .inr ⟨g, cap, cur, e, by omega, rest⟩
theorem one_rd (w : World) (x : Int) : RdI (w.alloc (.cells #[.int .i64 x] 3)) (w.heap.size + 1) (.slice (some ⟨w.heap.size, 0, Option.none⟩) 1 1) [x] := by
  refine ⟨rfl, _, 1, rfl, Nat.le_refl _, by decide, fun _ => ⟨w.heap.size, 0, rfl, by omega, fun j u hj => ?_⟩⟩
  match j, hj with
  | 0, hj =>
    simp at hj; subst hj
    exact (Blk.new w 3 #[.int .i64 x]).cell 0
theorem waysI_len (L : List Nat) : (waysI L).length = L.length := by unfold waysI; simp
theorem RdI.takeLe {w : World} {hi c : Nat} {A : Option Addr} {xs : List Int} (h : RdI w hi (.slice A xs.length c) xs) {m : Nat} (hm : m ≤ xs.length) : RdI w hi (.slice A m c) (xs.take m) := by
  obtain ⟨_, A', c', hv, h1, h2, h3⟩ := h
  cases hv
  have hl : (xs.take m).length = m := by rw [List.length_take]; omega
  refine ⟨by simp, A, c, by rw [hl], by rw [hl]; omega, h2, fun hp => ?_⟩
  rw [hl] at hp
  obtain ⟨b, off, e, hb, hc⟩ := h3 (by omega)
  refine ⟨b, off, e, hb, fun j u hj => hc j u ?_⟩
  unfold ints at hj ⊢
  rw [List.map_take, List.getElem?_take] at hj
  split at hj
  · exact hj
  · cases hj
theorem order_next {ls : List Int} {L : List Nat} {k m : Nat} (hL : L = orderBy (pWei ls) k) (hm : m ≤ k) (hB : ∀ y ∈ L.drop m, pWei ls k y = true) (hA : ¬ (0 < m ∧ ∃ y, L[m - 1]? = some y ∧ pWei ls k y = true)) : (waysI (L.take m) ++ [(k : Int)]) ++ waysI (L.drop m) = waysI (orderBy (pWei ls) (k + 1)) := by
  subst hL
  have hl := orderBy_len (pWei ls) k
  rw [orderBy_succ, insBy_at (j := m) (by omega) hB]
  · unfold waysI; simp
  · rcases Nat.eq_zero_or_pos m with h | h
    · exact .inl h
    · right
      have hy : (orderBy (pWei ls) k)[m - 1]? = some (orderBy (pWei ls) k)[m - 1] := List.getElem?_eq_getElem (by omega)
      refine ⟨_, hy, ?_⟩
      cases e : pWei ls k (orderBy (pWei ls) k)[m - 1]
      · rfl
      · exact absurd ⟨h, _, hy, e⟩ hA
set_option maxRecDepth 100000 in
set_option maxHeartbeats 8000000 in
theorem cmOrder_any (ls : List Int) (v : Value) (hi : Nat) (w : World) (h : RdI w hi v ls) (hh : hi ≤ w.heap.size) (hn : ls.length ≤ 20) : Calls Try.prog 230 #[v] w fun e w' => ∃ u, e = .returned u ∧ RdI w' w'.heap.size u (waysI (orderBy (pWei ls) ls.length)) ∧ Below w.heap.size w w' := by
  obtain ⟨A, c, rfl, hc, hm⟩ := Rd.form h
  have H := Lib.hid h
  clear h
  go_enter Try.func230, Try.ntmps230
  go_wp2
  go_loopw [3, 9] (fun o i wr => ∃ (k : Nat) (A2 : Option Addr) (c2 : Nat), k ≤ ls.length ∧ o = .slice A2 k c2 ∧ i = .int .i64 (k : Int) ∧ k ≤ c2 ∧ (k = 0 → A2 = Option.none ∧ c2 = 0) ∧ Hid (RdI wr wr.heap.size (.slice A2 k c2) (waysI (orderBy (pWei ls) k))) ∧ Hid (Below w.heap.size w wr)) (fun _ i _ => ls.length - (intOf i).toNat)
  case atStart => exact ⟨0, Option.none, 0, Nat.zero_le _, rfl, rfl, Nat.le_refl _, fun _ => ⟨rfl, rfl⟩, (owI_nil w 0 w.heap.size).rd, Below.refl _ _⟩
  case round =>
    obtain ⟨k, A2, c2, hk, rfl, rfl, hkc, hz0, hrd, hbl⟩ := hrel
    by_cases hlt : k < ls.length
    · obtain ⟨b1, o1, c1, hv, hb1h, hcl⟩ := RdI.getD (RdI.below H.out hbl.out hh) hlt
      cases hv
      obtain ⟨x, hx⟩ : ∃ x, x = ls.getD k 0 := ⟨_, rfl⟩
      rw [← hx] at hcl
      have HX := Lib.hid hx
      obtain ⟨L, hL⟩ : ∃ L, L = orderBy (pWei ls) k := ⟨_, rfl⟩
      have hLl : L.length = k := by rw [hL, orderBy_len]
      rw [← hL] at hrd
      have HLM : Hid (∀ i ∈ L, i < k) := by show ∀ i ∈ L, i < k; rw [hL]; exact fun i hi => orderBy_lt hi
      have HL := Lib.hid hL
      have HLL := Lib.hid hLl
      have HWL : Hid ((waysI L).length = k) := by show _ = _; rw [waysI_len, hLl]
      clear hx hL hLl
      rename World => wo
      go_wp2_with fail
      go_loopw [6] (fun q wr => ∃ m : Nat, m ≤ k ∧ q = .int .i64 (m : Int) ∧ Hid (∀ y ∈ L.drop m, pWei ls k y = true) ∧ wo = wr) (fun q _ => (intOf q).toNat)
      case atStart => exact ⟨k, Nat.le_refl _, rfl, by show ∀ y ∈ L.drop k, pWei ls k y = true; intro y hy; rw [List.drop_of_length_le (by rw [HLL.out]; exact Nat.le_refl _)] at hy; simp at hy, rfl⟩
      case round =>
        obtain ⟨m, hmk, rfl, hall, rfl⟩ := hrel
        have hmi : (m : Int) ≤ (c2 : Int) := by omega
        have hmki : (m : Int) ≤ (k : Int) := by omega
        have HTL : Hid ((waysI L).take m = waysI (L.take m) ∧ (waysI L).drop m = waysI (L.drop m)) := by show _ ∧ _; unfold waysI; rw [List.map_take, List.map_drop]; exact ⟨rfl, rfl⟩
        rcases Nat.eq_zero_or_pos k with hk0 | hk0
        · obtain ⟨rfl, rfl⟩ := hz0 hk0
          obtain rfl : m = 0 := by omega
          subst hk0
          have HNIL : Hid (∀ w' : World, RdI w' wo.heap.size (.slice Option.none 0 0) []) := fun w' => (owI_nil w' 0 wo.heap.size).rd
          have hb1 : Below wo.heap.size wo wo.drew := (Below.refl _ _).drew
          have hb2 : Below wo.heap.size wo (wo.drew.alloc (.cells #[.int .i64 0] 3)) := hb1.alloc (Nat.le_refl _) _
          have HON := one_rd wo.drew 0
          have HN : Hid (([] ++ [(0 : Int)]) ++ [] = waysI (orderBy (pWei ls) (0 + 1))) := rfl
          clear hz0
          go_wp2_with fail
          go_region_law (first
            | ((refine step_appR (by rfl) (.tmp 35) (.tmp 37) (by rfl) ((growI_own hb1 hu5 hb5).belowR ((Below.refl _ _).alloc (Nat.le_refl _) _)) (one_rd w5 0) (by simp) (by rfl) (by rfl) ?_; intro v6 w6 hg6))
            | ((refine step_appR (by rfl) (.tmp 35) (.tmp 37) (by rfl) (growI_own hb2 hu5 hb5) (RdI.below HON hb5 (by simp)) (by simp) (by rfl) (by rfl) ?_; intro v6 w6 hg6))
            | ((refine step_appR (by rfl) (.tmp 38) (.tmp 41) (by rfl) hg6 (HNIL.out _) (by simp) (by rfl) (by rfl) ?_; intro v7 w7 hg7))
            | ((go_simp; go_at_call 222; refine (l1Own_any [] _ wo.heap.size _ (HNIL.out _) (by simp) (by simp)).mono ?_; rintro e w5 ⟨v5, rfl, hu5, hb5⟩)))
          all_goals
            have HG7 : Hid (GrowI wo wo.heap.size w7 v7 (waysI (orderBy (pWei ls) (0 + 1)))) := by show GrowI _ _ _ _ _; rw [← HN.out]; exact hg7
            obtain ⟨A7, c7, rfl, hc7, _⟩ := Rd.form HG7.out.own.rd
            have hl7 : (waysI (orderBy (pWei ls) (0 + 1))).length = 0 + 1 := by rw [waysI_len, orderBy_len]
            rw [hl7] at hc7 HG7 ⊢
            clear hg7 hl7
            go_wp2_with fail
            go_roundw
            case rel => exact ⟨0 + 1, A7, c7, by omega, rfl, by go_num, hc7, fun e => by omega, HG7.out.own.rd, hbl.out.trans (HG7.out.2.1.mono (by have := hbl.out.size; omega))⟩
            case measure => (simp [intOf]; try omega)
        · obtain ⟨b2, o2, rfl⟩ : ∃ b2 o2, A2 = some ⟨b2, o2, Option.none⟩ := by
            obtain ⟨_, A', c', hv, _, _, h3⟩ := hrd.out
            cases hv
            obtain ⟨b, off, e, _⟩ := h3 (by rw [HWL.out]; exact hk0)
            exact ⟨b, off, e⟩
          by_cases hgo : 0 < m ∧ ∃ y, L[m - 1]? = some y ∧ pWei ls k y = true
          · obtain ⟨h0, y, hy, hp⟩ := hgo
            obtain ⟨s, rfl⟩ : ∃ s, m = s + 1 := ⟨m - 1, by omega⟩
            rw [Nat.add_sub_cancel] at hy
            have hyk := HLM.out y (List.mem_of_getElem? hy)
            obtain ⟨_, _, _, hv, _, hcy⟩ := RdI.getD (by have := hrd.out; rw [← HWL.out] at this; exact this) (k := s) (by rw [HWL.out]; omega)
            cases hv
            rw [show (waysI L).getD s 0 = (y : Int) by unfold waysI; rw [List.getD_eq_getElem?_getD, List.getElem?_map, hy]; rfl] at hcy
            obtain ⟨_, _, _, hv, _, hcw⟩ := RdI.getD (RdI.below H.out hbl.out hh) (k := y) (by omega)
            cases hv
            obtain ⟨z, hz⟩ : ∃ z, z = ls.getD y 0 := ⟨_, rfl⟩
            rw [← hz] at hcw
            have hzx : decide (z < x) = true := by
              unfold pWei at hp
              rw [← HX.out, ← hz] at hp
              exact hp
            have hyl : y < ls.length := by omega
            have HNX := Lib.hid (insL_next (p := pWei ls) hy hp hall.out)
            have hsk : (s : Int) < (k : Int) := by omega
            clear hz hy hp h0
            go_wp2_with fail
            go_roundw
            case rel => exact ⟨s, by omega, by go_num, HNX.out, by trivial⟩
            case measure => (simp [intOf]; try omega)
          · rcases Nat.eq_zero_or_pos m with hm0 | hm0
            · have hgd : decide (0 < m) = false := decide_eq_false (by omega)
              clear hm0

              have HTK : Hid (∀ w', Below wo.heap.size wo w' → RdI w' wo.heap.size (.slice (some ⟨b2, o2, Option.none⟩) m c2) (waysI (L.take m))) := by
                intro w' hb
                have h1 := RdI.takeLe (m := m) (by have := hrd.out; rw [← HWL.out] at this; exact this) (by rw [HWL.out]; exact hmk)
                rw [HTL.out.1] at h1
                exact RdI.below h1 hb (Nat.le_refl _)
              have HDR : Hid (∀ w', Below wo.heap.size wo w' → RdI w' wo.heap.size (.slice (if c2 = m then some ⟨b2, o2, Option.none⟩ else some ⟨b2, o2 + m, Option.none⟩) (k - m) (c2 - m)) (waysI (L.drop m))) := by
                intro w' hb
                have h1 := RdI.dropLe (k := m) (by have := hrd.out; rw [← HWL.out] at this; exact this) (by rw [HWL.out]; exact hmk)
                rw [HTL.out.2, HWL.out] at h1
                have h2 := RdI.below h1 hb (Nat.le_refl _)
                split
                · rename_i e
                  have hz : (waysI (L.drop m)).length = 0 := by rw [waysI_len, List.length_drop, HLL.out]; omega
                  obtain ⟨_, A', c', hv, h3, h4, _⟩ := h2
                  injection hv with _ _ e2
                  rw [← e2] at h3 h4
                  rw [show k - m = (waysI (L.drop m)).length by omega]
                  exact ⟨by simp, _, _, rfl, by omega, h4, fun hp => by omega⟩
                · exact h2
              have hll : (waysI (L.take m)).length = m := by rw [waysI_len, List.length_take, HLL.out]; omega
              have HLT := Lib.hid hll
              have hb1 : Below wo.heap.size wo wo.drew := (Below.refl _ _).drew
              have hb2 : Below wo.heap.size wo (wo.drew.alloc (.cells #[.int .i64 (k : Int)] 3)) := hb1.alloc (Nat.le_refl _) _
              have HN := Lib.hid (order_next HL.out hmk hall.out hgo)
              have HON := one_rd wo.drew (k : Int)
              clear hgo hll
              go_wp2_with fail
              go_region_law (first
                | ((refine step_appR (by rfl) (.tmp 35) (.tmp 37) (by rfl) ((growI_own hb1 hu5 hb5).belowR ((Below.refl _ _).alloc (Nat.le_refl _) _)) (one_rd w5 (k : Int)) (by rw [HLT.out]; simp; omega) (by rfl) (by rfl) ?_; intro v6 w6 hg6))
                | ((refine step_appR (by rfl) (.tmp 35) (.tmp 37) (by rfl) (growI_own hb2 hu5 hb5) (RdI.below HON hb5 (by simp)) (by rw [HLT.out]; simp; omega) (by rfl) (by rfl) ?_; intro v6 w6 hg6))
                | ((refine step_appR (by rfl) (.tmp 38) (.tmp 41) (by rfl) hg6 (HDR.out _ hg6.2.1) (by rw [List.length_append, HLT.out, waysI_len, List.length_drop, HLL.out]; simp; omega) (by rfl) (by rfl) ?_; intro v7 w7 hg7))
                | ((go_simp; go_at_call 222; refine (l1Own_any (waysI (L.take m)) _ wo.heap.size _ (HTK.out _ (by first | exact hb1 | exact hb2)) (by simp) (by rw [HLT.out]; omega)).mono ?_; rintro e w5 ⟨v5, rfl, hu5, hb5⟩)))
              all_goals
                have HG7 : Hid (GrowI wo wo.heap.size w7 v7 (waysI (orderBy (pWei ls) (k + 1)))) := by show GrowI _ _ _ _ _; rw [← HN.out]; exact hg7
                obtain ⟨A7, c7, rfl, hc7, _⟩ := Rd.form HG7.out.own.rd
                have hl7 : (waysI (orderBy (pWei ls) (k + 1))).length = k + 1 := by rw [waysI_len, orderBy_len]
                rw [hl7] at hc7 HG7 ⊢
                have HL7 := Lib.hid hl7
                clear hg7 hl7
                go_wp2_with fail
                go_roundw
                case rel => exact ⟨k + 1, A7, c7, by omega, rfl, by go_num, hc7, fun e => by omega, HG7.out.own.rd, hbl.out.trans (HG7.out.2.1.mono (by have := hbl.out.size; omega))⟩
                case measure => (simp [intOf]; try omega)
            · obtain ⟨s, rfl⟩ : ∃ s, m = s + 1 := ⟨m - 1, by omega⟩
              obtain ⟨y, hy⟩ : ∃ y, L[s]? = some y := ⟨_, List.getElem?_eq_getElem (by rw [HLL.out]; omega)⟩
              have hp : pWei ls k y = false := by
                cases e : pWei ls k y
                · rfl
                · exact absurd ⟨hm0, y, by rw [Nat.add_sub_cancel]; exact hy, e⟩ hgo
              have hyk := HLM.out y (List.mem_of_getElem? hy)
              obtain ⟨_, _, _, hv, _, hcy⟩ := RdI.getD (by have := hrd.out; rw [← HWL.out] at this; exact this) (k := s) (by rw [HWL.out]; omega)
              cases hv
              rw [show (waysI L).getD s 0 = (y : Int) by unfold waysI; rw [List.getD_eq_getElem?_getD, List.getElem?_map, hy]; rfl] at hcy
              obtain ⟨_, _, _, hv, _, hcw⟩ := RdI.getD (RdI.below H.out hbl.out hh) (k := y) (by omega)
              cases hv
              obtain ⟨z, hz⟩ : ∃ z, z = ls.getD y 0 := ⟨_, rfl⟩
              rw [← hz] at hcw
              have hzx : decide (z < x) = false := by
                unfold pWei at hp
                rw [← HX.out, ← hz] at hp
                exact hp
              have hyl : y < ls.length := by omega
              have hs3 : (s : Int) + 1 ≤ (c2 : Int) := by omega
              have hs4 : (s : Int) + 1 ≤ (k : Int) := by omega
              have hs5 : (0 : Int) ≤ (s : Int) + 1 := by omega
              have hsk : (s : Int) < (k : Int) := by omega
              clear hz hy hp hm0
              have HTK : Hid (∀ w', Below wo.heap.size wo w' → RdI w' wo.heap.size (.slice (some ⟨b2, o2, Option.none⟩) (s + 1) c2) (waysI (L.take (s + 1)))) := by
                intro w' hb
                have h1 := RdI.takeLe (m := (s + 1)) (by have := hrd.out; rw [← HWL.out] at this; exact this) (by rw [HWL.out]; exact hmk)
                rw [HTL.out.1] at h1
                exact RdI.below h1 hb (Nat.le_refl _)
              have HDR : Hid (∀ w', Below wo.heap.size wo w' → RdI w' wo.heap.size (.slice (if c2 = (s + 1) then some ⟨b2, o2, Option.none⟩ else some ⟨b2, o2 + (s + 1), Option.none⟩) (k - (s + 1)) (c2 - (s + 1))) (waysI (L.drop (s + 1)))) := by
                intro w' hb
                have h1 := RdI.dropLe (k := (s + 1)) (by have := hrd.out; rw [← HWL.out] at this; exact this) (by rw [HWL.out]; exact hmk)
                rw [HTL.out.2, HWL.out] at h1
                have h2 := RdI.below h1 hb (Nat.le_refl _)
                split
                · rename_i e
                  have hz : (waysI (L.drop (s + 1))).length = 0 := by rw [waysI_len, List.length_drop, HLL.out]; omega
                  obtain ⟨_, A', c', hv, h3, h4, _⟩ := h2
                  injection hv with _ _ e2
                  rw [← e2] at h3 h4
                  rw [show k - (s + 1) = (waysI (L.drop (s + 1))).length by omega]
                  exact ⟨by simp, _, _, rfl, by omega, h4, fun hp => by omega⟩
                · exact h2
              have hll : (waysI (L.take (s + 1))).length = s + 1 := by rw [waysI_len, List.length_take, HLL.out]; omega
              have HLT := Lib.hid hll
              have hb1 : Below wo.heap.size wo wo.drew := (Below.refl _ _).drew
              have hb2 : Below wo.heap.size wo (wo.drew.alloc (.cells #[.int .i64 (k : Int)] 3)) := hb1.alloc (Nat.le_refl _) _
              have HN := Lib.hid (order_next HL.out hmk hall.out hgo)
              have HON := one_rd wo.drew (k : Int)
              clear hgo hll
              go_wp2_with fail
              go_region_law (first
                | ((refine step_appR (by rfl) (.tmp 35) (.tmp 37) (by rfl) ((growI_own hb1 hu5 hb5).belowR ((Below.refl _ _).alloc (Nat.le_refl _) _)) (one_rd w5 (k : Int)) (by rw [HLT.out]; simp; omega) (by rfl) (by rfl) ?_; intro v6 w6 hg6))
                | ((refine step_appR (by rfl) (.tmp 35) (.tmp 37) (by rfl) (growI_own hb2 hu5 hb5) (RdI.below HON hb5 (by simp)) (by rw [HLT.out]; simp; omega) (by rfl) (by rfl) ?_; intro v6 w6 hg6))
                | ((refine step_appR (by rfl) (.tmp 38) (.tmp 41) (by rfl) hg6 (HDR.out _ hg6.2.1) (by rw [List.length_append, HLT.out, waysI_len, List.length_drop, HLL.out]; simp; omega) (by rfl) (by rfl) ?_; intro v7 w7 hg7))
                | ((go_simp; go_at_call 222; refine (l1Own_any (waysI (L.take (s + 1))) _ wo.heap.size _ (HTK.out _ (by first | exact hb1 | exact hb2)) (by simp) (by rw [HLT.out]; omega)).mono ?_; rintro e w5 ⟨v5, rfl, hu5, hb5⟩)))
              all_goals
                have HG7 : Hid (GrowI wo wo.heap.size w7 v7 (waysI (orderBy (pWei ls) (k + 1)))) := by show GrowI _ _ _ _ _; rw [← HN.out]; exact hg7
                obtain ⟨A7, c7, rfl, hc7, _⟩ := Rd.form HG7.out.own.rd
                have hl7 : (waysI (orderBy (pWei ls) (k + 1))).length = k + 1 := by rw [waysI_len, orderBy_len]
                rw [hl7] at hc7 HG7 ⊢
                have HL7 := Lib.hid hl7
                clear hg7 hl7
                go_wp2_with fail
                go_roundw
                case rel => exact ⟨k + 1, A7, c7, by omega, rfl, by go_num, hc7, fun e => by omega, HG7.out.own.rd, hbl.out.trans (HG7.out.2.1.mono (by have := hbl.out.size; omega))⟩
                case measure => (simp [intOf]; try omega)
    · obtain rfl : k = ls.length := by omega
      go_wp2_with fail
      go_ret
      exact ⟨.slice A2 ls.length c2, rfl, hrd.out, hbl.out⟩
end Go.Proofs.Ytabiobjcfopakaa
