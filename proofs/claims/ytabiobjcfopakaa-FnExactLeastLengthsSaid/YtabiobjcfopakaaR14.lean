/- Contracts: the reference makes its table. -/
import Derived.Test.YtabiobjcfopakaaR13
import Derived.BigRegion
namespace Go.Proofs.Ytabiobjcfopakaa
open Go.RowKit
theorem info_rows : (Try.prog.info? 61).map (fun i => (i.zero, i.size, i.bytes)) = some (some (.slice Option.none 0 0), 1, 24) := by kernel_rfl
theorem zeros_len (n : Nat) : (zeros n).toList = ints (List.replicate n 0) := by simp [zeros, ints]
/-- What cmNew hands back. -/
def TabNew (Z : List Int) (r L : Nat) (w0 w : World) (T : Nat) : Prop := ∃ (K : Option Addr) (ck : Nat) (lev : List (Nat × Nat × List Nat)), w0.heap.size < T ∧ Blk w T 180 [slN w0.heap.size (Z.length + 1), .int .i64 (r : Int), .int .i64 (L : Int), .slice K (L + 1) ck] ∧
  Blk w w0.heap.size 3 (ints (restL Z)) ∧ lev.length = L + 1 ∧ w.ownsRow (T + 1) 61 1 (.slice K (L + 1) ck) (L + 1) (lev.map (lvV (Z.length + 1))) ∧ Levs w T (Z.length + 1) lev ∧ Below w0.heap.size w0 w
theorem restL_drop {Z : List Int} {k : Nat} (h : k ≤ Z.length) : (restL Z).drop k = sumW (Z.drop k) :: (restL Z).drop (k + 1) := by
  rw [List.drop_eq_getElem_cons (by rw [restL_len]; omega)]
  have := restL_at h
  rw [List.getElem?_eq_getElem (by rw [restL_len]; omega)] at this
  rw [Option.some.inj this]
set_option maxRecDepth 100000 in
set_option maxHeartbeats 16000000 in
theorem cmNew_any (Z : List Int) (r L : Nat) (v : Value) (hi : Nat) (w : World) (h : RdI w hi v Z) (hh : hi ≤ w.heap.size) (hZ : allB Z 0 10000 = true) (hn1 : 1 ≤ Z.length) (hn : Z.length ≤ 20) (hL : L ≤ 6) :
    Calls Try.prog 231 #[v, .int .i64 (r : Int), .int .i64 (L : Int)] w fun e w' => ∃ T, e = .returned (.pointer (some ⟨T, 0, Option.none⟩)) ∧ TabNew Z r L w w' T := by
  obtain ⟨A, c, rfl, hc, hm⟩ := Rd.form h
  have H := Lib.hid h
  clear h
  have hmk := make_ints (Z.length + 1) (by omega)
  rw [show ((Z.length + 1 : Nat) : Int) = (Z.length : Int) + 1 from rfl] at hmk
  have hsb : ∀ j, 0 ≤ sumW (Z.drop j) ∧ sumW (Z.drop j) ≤ 200000 := by
    intro j
    have hall : ∀ x ∈ Z, 0 ≤ x ∧ x ≤ 10000 := by unfold allB at hZ; rw [List.all_eq_true] at hZ; exact fun x hx => inB_iff.1 (hZ x hx)
    refine ⟨sumW_nonneg fun x hx => (hall x (List.mem_of_mem_drop hx)).1, ?_⟩
    have : ∀ l : List Int, (∀ x ∈ l, x ≤ 10000) → sumW l ≤ 10000 * l.length := by
      intro l
      induction l with
      | nil => intro _; simp [sumW]
      | cons x l ih =>
        intro hl
        have h1 := ih (fun y hy => hl y (by simp [hy]))
        have h2 := hl x (by simp)
        simp only [sumW, List.length_cons]
        omega
    have h1 := this (Z.drop j) (fun x hx => (hall x (List.mem_of_mem_drop hx)).2)
    rw [List.length_drop] at h1
    omega
  have HSB := Lib.hid hsb
  clear hsb
  go_enter Try.func231, Try.ntmps231
  go_wp2_with fail
  have HR0 : Hid (Blk ((w.alloc (.cells (zeros (Z.length + 1)) 3)).alloc (.cells #[slN w.heap.size (Z.length + 1), .int .i64 (r : Int), .int .i64 (L : Int), .slice Option.none 0 0] 180)) w.heap.size 3 (zerI Z.length ((restL Z).drop Z.length))) := by
    have h1 := Blk.alloc (Blk.new w 3 (zeros (Z.length + 1))) (.cells #[slN w.heap.size (Z.length + 1), .int .i64 (r : Int), .int .i64 (L : Int), .slice Option.none 0 0] 180)
    rw [zerI_start] at h1
    have e : zerI (Z.length + 1) [] = zerI Z.length ((restL Z).drop Z.length) := by
      have e1 : (restL Z).drop (Z.length + 1) = [] := List.drop_of_length_le (by rw [restL_len]; exact Nat.le_refl _)
      have e2 : Z.drop Z.length = [] := by simp
      rw [restL_drop (Nat.le_refl _), e1, e2]
      unfold zerI
      rw [List.replicate_succ']
      simp [sumW, ints]
    rw [e] at h1
    exact h1
  have hsz0 : (w.alloc (.cells (zeros (Z.length + 1)) 3)).heap.size = w.heap.size + 1 := by simp
  have HT0 : Hid (Blk ((w.alloc (.cells (zeros (Z.length + 1)) 3)).alloc (.cells #[slN w.heap.size (Z.length + 1), .int .i64 (r : Int), .int .i64 (L : Int), .slice Option.none 0 0] 180)) (w.heap.size + 1) 180 [slN w.heap.size (Z.length + 1), .int .i64 (r : Int), .int .i64 (L : Int), .slice Option.none 0 0]) := by
    have := Blk.new (w.alloc (.cells (zeros (Z.length + 1)) 3)) 180 #[slN w.heap.size (Z.length + 1), .int .i64 (r : Int), .int .i64 (L : Int), .slice Option.none 0 0]
    rw [hsz0] at this
    exact this
  have HB0 : Hid (Below w.heap.size w ((w.alloc (.cells (zeros (Z.length + 1)) 3)).alloc (.cells #[slN w.heap.size (Z.length + 1), .int .i64 (r : Int), .int .i64 (L : Int), .slice Option.none 0 0] 180))) := ((Below.refl _ _).alloc (Nat.le_refl _) _).alloc (by simp) _
  clear hsz0
  generalize ((w.alloc (.cells (zeros (Z.length + 1)) 3)).alloc (.cells #[slN w.heap.size (Z.length + 1), .int .i64 (r : Int), .int .i64 (L : Int), .slice Option.none 0 0] 180)) = w1 at HR0 HT0 HB0 ⊢
  go_loopw [8] (fun i wr => ∃ (k : Nat) (z : Int), k ≤ Z.length ∧ i = .int .i64 z ∧ z + 1 = (k : Int) ∧ Hid (Blk wr w.heap.size 3 (zerI k ((restL Z).drop k))) ∧ Hid (Blk wr (w.heap.size + 1) 180 [slN w.heap.size (Z.length + 1), .int .i64 (r : Int), .int .i64 (L : Int), .slice Option.none 0 0]) ∧ Hid (Below w.heap.size w wr)) (fun i _ => (intOf i + 1).toNat)
  case atStart => exact ⟨Z.length, _, Nat.le_refl _, rfl, by omega, HR0.out, HT0.out, HB0.out⟩
  case round =>
    obtain ⟨k, z, hk, rfl, hz, hbr, hbt, hbl⟩ := hrel
    rcases Nat.eq_zero_or_pos k with h0 | h0
    · subst h0
      obtain rfl : z = -1 := by omega
      clear hz
      have HRR : Hid (Blk wr w.heap.size 3 (ints (restL Z))) := hbr.out
      obtain ⟨T, hT⟩ : ∃ T, T = w.heap.size + 1 := ⟨_, rfl⟩
      rw [← hT] at hbt
      have hTw : T < wr.heap.size := hbt.out.lt
      have HTE := Lib.hid hT
      have hT0 : w.heap.size < T := by omega
      have HTV : Hid ((.pointer (some ⟨w.heap.size + 1, 0, Option.none⟩) : Value) = .pointer (some ⟨T, 0, Option.none⟩)) := by show _ = _; rw [hT]
      clear hbr
      go_wp2_with fail
      simp only [← hT]
      clear hT
      rename World => wq
      go_loopw [9] (fun i wr => ∃ (l : Nat) (K : Option Addr) (ck : Nat) (lev : List (Nat × Nat × List Nat)), i = .int .i64 (l : Int) ∧ l ≤ L + 1 ∧ Hid (lev.length = l) ∧ Hid (Blk wr T 180 [slN w.heap.size (Z.length + 1), .int .i64 (r : Int), .int .i64 (L : Int), .slice K l ck]) ∧
        Hid (Blk wr w.heap.size 3 (ints (restL Z))) ∧ Hid (wr.ownsRow (T + 1) 61 1 (.slice K l ck) l (lev.map (lvV (Z.length + 1)))) ∧ Hid (Levs wr T (Z.length + 1) lev) ∧ Hid (Below w.heap.size w wr)) (fun i _ => 7 - (intOf i).toNat)
      case atStart => exact ⟨0, Option.none, 0, [], rfl, by omega, rfl, hbt.out, HRR.out, World.ownsRow_nil _ _ _ _, Levs.nil _ _ _, hbl.out⟩
      case round =>
        obtain ⟨l, K, ck, lev, rfl, hlL, hll, hbt, hbr, how, hlv, hbl⟩ := hrel
        have hTr : T < wr.heap.size := hbt.out.lt
        by_cases hl6 : l ≤ L
        · have hl6i : (l : Int) ≤ (L : Int) := by omega
          rename World => wo
          go_wp2_with fail
          go_loopw [10, 11] (fun rv i wr => ∃ (k : Nat) (A5 : Option Addr) (c5 : Nat) (gs : List Nat), rv = .slice A5 k c5 ∧ i = .int .i64 (k : Int) ∧ k ≤ Z.length + 1 ∧ Hid (gs.length = k) ∧ Hid (wr.ownsRow wo.heap.size 29 1 (.slice A5 k c5) k (gs.map fun g => slN g (Z.length + 1))) ∧
            Hid (∀ g ∈ gs, Blk wr g 3 (ints (List.replicate (Z.length + 1) 0))) ∧ Hid gs.Nodup ∧ Hid (∀ g ∈ gs, wo.heap.size ≤ g ∧ g < wr.heap.size) ∧ Hid (Below wo.heap.size wo wr)) (fun _ i _ => 22 - (intOf i).toNat)
          case atStart => exact ⟨0, Option.none, 0, [], rfl, rfl, Nat.zero_le _, rfl, World.ownsRow_nil _ _ _ _, by intro g hg; simp at hg, List.nodup_nil, by intro g hg; simp at hg, Below.refl _ _⟩
          case round =>
            obtain ⟨k, A5, c5, gs, rfl, rfl, hkn, hgl, hrow, hz, hnd, hrg, hb5⟩ := hrel
            have hsw := hb5.out.size
            by_cases hk : k ≤ Z.length
            · have hki : (k : Int) ≤ (Z.length : Int) := by omega
              obtain ⟨ti, hti, htz, hts, htb⟩ := info_parts info_ints
              have hsz1 : (wr.alloc (.cells (zeros (Z.length + 1)) 3)).heap.size = wr.heap.size + 1 := by simp
              have HNEW : Hid (∀ j u, [slN wr.heap.size (Z.length + 1)][j]? = some u → ((wr.alloc (.cells (zeros (Z.length + 1)) 3)).alloc (.cells #[slN wr.heap.size (Z.length + 1)] 29)).cell? ((⟨wr.heap.size + 1, 0, Option.none⟩ : Addr).add j) = some u) := by
                have := one_cell (wr.alloc (.cells (zeros (Z.length + 1)) 3)) (slN wr.heap.size (Z.length + 1)) 29
                rw [hsz1] at this
                exact this
              have hsz2 : ((wr.alloc (.cells (zeros (Z.length + 1)) 3)).alloc (.cells #[slN wr.heap.size (Z.length + 1)] 29)).heap.size = wr.heap.size + 2 := by simp
              have HOW := Lib.hid ((hrow.out.alloc (.cells (zeros (Z.length + 1)) 3)).alloc (.cells #[slN wr.heap.size (Z.length + 1)] 29))
              have HFA : Hid (Frs [29] wr ((wr.alloc (.cells (zeros (Z.length + 1)) 3)).alloc (.cells #[slN wr.heap.size (Z.length + 1)] 29))) := (frs_alloc _ _ _).trans (frs_alloc _ _ _)
              have HGN : Hid (Blk ((wr.alloc (.cells (zeros (Z.length + 1)) 3)).alloc (.cells #[slN wr.heap.size (Z.length + 1)] 29)) wr.heap.size 3 (ints (List.replicate (Z.length + 1) 0))) := by
                have := Blk.alloc (Blk.new wr 3 (zeros (Z.length + 1))) (.cells #[slN wr.heap.size (Z.length + 1)] 29)
                rw [zeros_len] at this
                exact this
              have HBA := Lib.hid ((hb5.out.alloc hsw (.cells (zeros (Z.length + 1)) 3)).alloc (by simp; omega) (.cells #[slN wr.heap.size (Z.length + 1)] 29))
              have HSZ2 := Lib.hid hsz2
              clear hsz1 hsz2
              go_wp2_with (at_builtin; refine wpList_append_own _ rfl (.tmp 57) (.tmp 62) 61 rfl wo.heap.size 29 ti (.slice Option.none 0 0) 1 24 Try.underlying61 hti htz hts htb rfl (by decide) (.slice A5 k c5) k (gs.map fun g => slN g (Z.length + 1)) rfl HOW.out ⟨wr.heap.size + 1, 0, Option.none⟩ 1 1 [slN wr.heap.size (Z.length + 1)] rfl rfl HNEW.out (by intro u hu; simp at hu; subst hu; rfl) (by unfold maxLen; omega) (by omega) (by rw [HSZ2.out]; omega) ?_; intro v6 w6 ho6 hg6 _)
              obtain ⟨h6, c6, rfl⟩ : ∃ h6 c6, v6 = .slice (some ⟨h6, 0, Option.none⟩) (k + 1) c6 := by
                rcases ho6.2 with ⟨_, e⟩ | ⟨g, cap, cur, e, _⟩
                · omega
                · exact ⟨g, cap, e⟩
              have hf6 : Frs [29] wr w6 := HFA.out.trans (frs_grown HOW.out hg6 (by simp))
              have hgn6 := HGN.out.frs (frs_grown HOW.out hg6 (ts := [29]) (by simp)) (by decide)
              have HB6 := Lib.hid (HBA.out.grown hg6 (by rw [HSZ2.out]; omega) (fun g hg => (HOW.out.lt g hg).1))
              have HF6 := Lib.hid hf6
              have HG6 : Hid (∀ g ∈ gs ++ [wr.heap.size], Blk w6 g 3 (ints (List.replicate (Z.length + 1) 0))) := by
                intro g hg
                rcases List.mem_append.1 hg with h1 | h1
                · exact (hz.out g h1).frs hf6 (by decide)
                · rw [List.mem_singleton] at h1; rw [h1]; exact hgn6
              have HS6 : Hid (wr.heap.size + 2 ≤ w6.heap.size) := by have := hg6.size; rw [HSZ2.out] at this; exact this
              have HO6 : Hid (w6.ownsRow wo.heap.size 29 1 (.slice (some ⟨h6, 0, Option.none⟩) (k + 1) c6) (k + 1) ((gs ++ [wr.heap.size]).map fun g => slN g (Z.length + 1))) := by
                rw [List.map_append]; exact ho6
              clear ho6 hg6 hf6 hgn6
              go_wp2_with fail
              go_roundw
              case rel => exact ⟨k + 1, _, c6, gs ++ [wr.heap.size], rfl, by go_num, by omega, by show _ = _; rw [List.length_append, hgl.out]; rfl, HO6.out, HG6.out, by show List.Nodup _; rw [List.nodup_append]; exact ⟨hnd.out, by simp, fun a ha b hbb e => by rw [List.mem_singleton] at hbb; have := (hrg.out a ha).2; omega⟩, fun g hg => by
                have hs6 := HS6.out
                rcases List.mem_append.1 hg with h1 | h1
                · have := hrg.out g h1; omega
                · rw [List.mem_singleton] at h1; omega, HB6.out⟩
              case measure => (simp [intOf]; try omega)
            · obtain rfl : k = Z.length + 1 := by omega
              have hno : ¬ ((Z.length : Int) + 1 ≤ (Z.length : Int)) := by omega
              obtain ⟨h5, rfl, hc5, cur5, hcur5, htk5⟩ : ∃ h5, A5 = some ⟨h5, 0, Option.none⟩ ∧ Z.length + 1 ≤ c5 ∧ ∃ cur : Array Value, wr.heap[h5]? = some (.cells cur 29 (0, 0)) ∧ cur.toList.take (Z.length + 1) = gs.map fun g => slN g (Z.length + 1) := by
                rcases hrow.out.2 with ⟨_, e⟩ | ⟨g, cap, cur, e, _, hgg, h1, _, _, h2⟩
                · omega
                · cases e; exact ⟨g, rfl, h1, cur, hgg, by rw [← h2, Nat.mul_one]⟩
              obtain ⟨x, hx⟩ : ∃ x : Nat × Nat × List Nat, x = (h5, c5, gs) := ⟨_, rfl⟩
              have HLX : Hid (LevOk wr (Z.length + 1) x) := by rw [hx]; exact ⟨hgl.out, ⟨cur5, hcur5, htk5⟩, hz.out⟩
              have HLS : Hid (Levs wr T (Z.length + 1) (lev ++ [x])) := hlv.out.snoc hTr hb5.out HLX.out (by rw [hx]; exact hnd.out) (by rw [hx]; exact fun g hg => (hrg.out g hg).1)
              have HXV : Hid (lvV (Z.length + 1) x = .slice (some ⟨h5, 0, Option.none⟩) (Z.length + 1) c5) := by show _ = _; rw [hx]; rfl
              have hbt2 := hbt.out.below hb5.out hTr
              have HBR2 := Lib.hid (hbr.out.below hb5.out (by omega))
              have how2 := owns_below how.out (hi := wo.heap.size) (fun k hk => (how.out.lt k hk).2) hb5.out (Nat.le_refl _)
              obtain ⟨ti, hti, htz, hts, htb⟩ := info_parts info_rows
              have HOW2 := Lib.hid (how2.alloc (.cells #[.slice (some ⟨h5, 0, Option.none⟩) (Z.length + 1) c5] 61))
              have q3 := hbt2.cell 3
              have q3a := (Blk.alloc hbt2 (.cells #[.slice (some ⟨h5, 0, Option.none⟩) (Z.length + 1) c5] 61)).cell 3
              simp only [List.getElem?_cons_zero, List.getElem?_cons_succ] at q3 q3a
              have HBT2 := Lib.hid hbt2
              have HBL2 := Lib.hid (hbl.out.trans (hb5.out.mono (by have := hbl.out.size; omega)))
              clear hx hbt2 how2 hcur5 htk5
              go_wp2_with (at_builtin; refine wpList_append_own _ rfl (.tmp 68) (.tmp 70) 178 rfl (T + 1) 61 ti (.slice Option.none 0 0) 1 24 Try.underlying178 hti htz hts htb rfl (by decide) (.slice K l ck) l (lev.map (lvV (Z.length + 1))) rfl HOW2.out ⟨wr.heap.size, 0, Option.none⟩ 1 1 [.slice (some ⟨h5, 0, Option.none⟩) (Z.length + 1) c5] rfl rfl (one_cell _ _ _) (by intro u hu; simp at hu; subst hu; rfl) (by unfold maxLen; omega) (by omega) (by simp; omega) ?_; intro v6 w6 ho6 hg6 _; obtain ⟨h6, c6, rfl⟩ : ∃ h6 c6, v6 = .slice (some ⟨h6, 0, Option.none⟩) (l + 1) c6 := by { rcases ho6.2 with ⟨_, e⟩ | ⟨g, cap, cur, e, _⟩; exact absurd e (by omega); exact ⟨g, cap, e⟩ }; have hf6 : Frs [61, 180] wr w6 := (frs_alloc _ _ _).trans (frs_grown HOW2.out hg6 (by simp)); have hbt6 : Blk w6 T 180 [slN w.heap.size (Z.length + 1), .int .i64 (r : Int), .int .i64 (L : Int), .slice K l ck] := (HBT2.out.alloc _).frs (frs_grown HOW2.out hg6 (ts := [61]) (by simp)) (by decide); have p3 := hbt6.cell 3; have pf3 := hbt6.frozen 3; simp only [List.getElem?_cons_zero, List.getElem?_cons_succ] at p3; have HBT6 := Lib.hid hbt6; have HF6 := Lib.hid hf6; have HO6 := Lib.hid ho6; have HG6 := Lib.hid hg6; clear hbt6 hf6 ho6 hg6)
              have HSS : Hid (Frs [61, 180] wr (w6.setCell ⟨T, 3, Option.none⟩ (.slice (some ⟨h6, 0, Option.none⟩) (l + 1) c6))) := HF6.out.trans (frs_set HBT6.out (by simp))
              have HBT7 : Hid (Blk (w6.setCell ⟨T, 3, Option.none⟩ (.slice (some ⟨h6, 0, Option.none⟩) (l + 1) c6)) T 180 [slN w.heap.size (Z.length + 1), .int .i64 (r : Int), .int .i64 (L : Int), .slice (some ⟨h6, 0, Option.none⟩) (l + 1) c6]) := HBT6.out.set_ 3 _
              have HO7 : Hid ((w6.setCell ⟨T, 3, Option.none⟩ (.slice (some ⟨h6, 0, Option.none⟩) (l + 1) c6)).ownsRow (T + 1) 61 1 (.slice (some ⟨h6, 0, Option.none⟩) (l + 1) c6) (l + 1) ((lev ++ [x]).map (lvV (Z.length + 1)))) := by
                rw [List.map_append, List.map_singleton, HXV.out]
                exact HO6.out.kept (grown_set (w := w6) (p := ⟨T, 3, Option.none⟩) rfl _) (.inr fun e => by have := (HO6.out.lt T e).1; omega)
              have HBL7 : Hid (Below w.heap.size w (w6.setCell ⟨T, 3, Option.none⟩ (.slice (some ⟨h6, 0, Option.none⟩) (l + 1) c6))) := by
                have h1 : Below w.heap.size w (wr.alloc (.cells #[.slice (some ⟨h5, 0, Option.none⟩) (Z.length + 1) c5] 61)) := HBL2.out.alloc (by omega) _
                exact (h1.grown HG6.out (by simp; omega) (fun k hk => by have := (HOW2.out.lt k hk).1; omega)).setCell (p := ⟨T, 3, Option.none⟩) (by show w.heap.size ≤ T; omega) _
              go_wp2_with fail
              go_roundw
              case rel => exact ⟨l + 1, _, c6, lev ++ [x], by go_num, by omega, by show _ = _; rw [List.length_append, hll.out]; rfl, HBT7.out, HBR2.out.frs HSS.out (by decide), HO7.out, HLS.out.frs HSS.out (by decide) (by decide), HBL7.out⟩
              case measure => (simp [intOf]; try omega)
        · obtain rfl : l = L + 1 := by omega
          have hno : ¬ ((L : Int) + 1 ≤ (L : Int)) := by omega
          go_wp2_with fail
          go_ret
          exact ⟨T, rfl, K, ck, lev, hT0, hbt.out, hbr.out, hll.out, how.out, hlv.out, hbl.out⟩
    · obtain ⟨s, rfl⟩ : ∃ s, k = s + 1 := ⟨k - 1, by omega⟩
      obtain rfl : z = (s : Int) := by omega
      clear hz h0
      obtain ⟨b1, o1, c1, hv, hb1h, hcl⟩ := RdI.getD (RdI.below H.out hbl.out hh) (show s < Z.length by omega)
      cases hv
      obtain ⟨x, hx⟩ : ∃ x, x = Z.getD s 0 := ⟨_, rfl⟩
      rw [← hx] at hcl
      obtain ⟨y, hy⟩ : ∃ y, y = sumW (Z.drop (s + 1)) := ⟨_, rfl⟩
      have hq0 := hbt.out.cell 0
      simp only [List.getElem?_cons_zero] at hq0
      have hr1 := hbr.out.cell (s + 1)
      have hr0 := hbr.out.cell s
      rw [zerI_at] at hr0
      rw [show (zerI (s + 1) ((restL Z).drop (s + 1)))[s + 1]? = some (.int .i64 y) by rw [restL_drop (by omega), ← hy]; unfold zerI; rw [List.getElem?_append_right (by simp)]; simp [ints]] at hr1
      have hfz := hbr.out.frozen s
      have hsum : sumW (Z.drop s) = y + x := by
        rw [List.drop_eq_getElem_cons (show s < Z.length by omega), hy, hx]
        simp only [sumW]
        rw [List.getD_eq_getElem?_getD, List.getElem?_eq_getElem (show s < Z.length by omega)]
        simp; omega
      have hb1' := HSB.out s
      have hb2' := HSB.out (s + 1)
      rw [hsum] at hb1'
      rw [← hy] at hb2'
      have HNX : Hid (Blk (wr.setCell ⟨w.heap.size, s, Option.none⟩ (.int .i64 (y + x))) w.heap.size 3 (zerI s ((restL Z).drop s))) := by
        have h1 := hbr.out.set_ s (.int .i64 (y + x))
        rw [zerI_set, ← hsum, ← restL_drop (by omega)] at h1
        rw [← hsum]
        exact h1
      have HTX : Hid (Blk (wr.setCell ⟨w.heap.size, s, Option.none⟩ (.int .i64 (y + x))) (w.heap.size + 1) 180 [slN w.heap.size (Z.length + 1), .int .i64 (r : Int), .int .i64 (L : Int), .slice Option.none 0 0]) := hbt.out.far (p := ⟨w.heap.size, s, Option.none⟩) (by show w.heap.size + 1 ≠ w.heap.size; omega) _
      have HBX := Lib.hid (hbl.out.setCell (p := ⟨w.heap.size, s, Option.none⟩) (Nat.le_refl _) (.int .i64 (y + x)))
      have hs1 : (s : Int) < (Z.length : Int) := by omega
      have hs2 : (s : Int) + 1 < (Z.length : Int) + 1 := by omega
      have hsz : (s : Int) < (Z.length : Int) + 1 := by omega
      clear hx hy hsum
      go_wp2_with fail
      go_region
      all_goals
        go_wp2_with fail
        go_roundw
        case rel => exact ⟨s, _, by omega, rfl, by omega, HNX.out, HTX.out, HBX.out.trans (bel_drewN _ _ 1)⟩
        case measure => (simp [intOf]; try omega)
end Go.Proofs.Ytabiobjcfopakaa
