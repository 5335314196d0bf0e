/- Texts of one claim, joined: R14, R15, R16, R17, R18, T1, T2. -/
import Derived.BigRegion
import Derived.Test.YtjnkdjokbamibaaP3CodeWords
/- Contracts: the reference makes its table. -/
namespace Go.Proofs.Ytjnkdjokbamibaa
open Go.RowKit
theorem info_rows : (Try.prog.info? 61).map (fun i => (i.zero, i.size, i.bytes)) = some (some (.slice Option.none 0 0), 1, 24) := by kernel_rfl
theorem zeros_len (n : Nat) : (zeros n).toList = ints (List.replicate n 0) := by simp [zeros, ints]
/-- What cmNew hands back. -/
def TabNew (Z : List Int) (r L : Nat) (w0 w : World) (T : Nat) : Prop := ∃ (K : Option Addr) (ck : Nat) (lev : List (Nat × Nat × List Nat)), w0.heap.size < T ∧ Blk w T 149 [slN w0.heap.size (Z.length + 1), .int .i64 (r : Int), .int .i64 (L : Int), .slice K (L + 1) ck] ∧
  Blk w w0.heap.size 3 (ints (restL Z)) ∧ lev.length = L + 1 ∧ w.ownsRow (T + 1) 61 1 (.slice K (L + 1) ck) (L + 1) (lev.map (lvV (Z.length + 1))) ∧ Levs w T (Z.length + 1) lev ∧ Below w0.heap.size w0 w
theorem restL_drop {Z : List Int} {k : Nat} (h : k ≤ Z.length) : (restL Z).drop k = sumW (Z.drop k) :: (restL Z).drop (k + 1) := by
  rw [List.drop_eq_getElem_cons (by rw [restL_len]; omega)]
  have := restL_at h
  rw [List.getElem?_eq_getElem (by rw [restL_len]; omega)] at this
  rw [Option.some.inj this]
set_option maxRecDepth 100000 in
set_option maxHeartbeats 16000000 in
theorem cmNew_any (Z : List Int) (r L : Nat) (v : Value) (hi : Nat) (w : World) (h : RdI w hi v Z) (hh : hi ≤ w.heap.size) (hZ : allB Z 0 10000 = true) (hn1 : 1 ≤ Z.length) (hn : Z.length ≤ 20) (hL : L ≤ 6) :
    Calls Try.prog 160 #[v, .int .i64 (r : Int), .int .i64 (L : Int)] w fun e w' => ∃ T, e = .returned (.pointer (some ⟨T, 0, Option.none⟩)) ∧ TabNew Z r L w w' T := by
  obtain ⟨A, c, rfl, hc, hm⟩ := Rd.form h
  have H := Lib.hid h
  clear h
  have hmk := make_ints (Z.length + 1) (by omega)
  rw [show ((Z.length + 1 : Nat) : Int) = (Z.length : Int) + 1 from rfl] at hmk
  have hsb : ∀ j, 0 ≤ sumW (Z.drop j) ∧ sumW (Z.drop j) ≤ 200000 := by
    intro j
    have hall : ∀ x ∈ Z, 0 ≤ x ∧ x ≤ 10000 := by unfold allB at hZ; rw [List.all_eq_true] at hZ; exact fun x hx => inB_iff.1 (hZ x hx)
    refine ⟨sumW_nonneg fun x hx => (hall x (List.mem_of_mem_drop hx)).1, ?_⟩
    have : ∀ l : List Int, (∀ x ∈ l, x ≤ 10000) → sumW l ≤ 10000 * l.length := by
      intro l
      induction l with
      | nil => intro _; simp [sumW]
      | cons x l ih =>
        intro hl
        have h1 := ih (fun y hy => hl y (by simp [hy]))
        have h2 := hl x (by simp)
        simp only [sumW, List.length_cons]
        omega
    have h1 := this (Z.drop j) (fun x hx => (hall x (List.mem_of_mem_drop hx)).2)
    rw [List.length_drop] at h1
    omega
  have HSB := Lib.hid hsb
  clear hsb
  go_enter Try.func160, Try.ntmps160
  go_wp2_with fail
  have HR0 : Hid (Blk ((w.alloc (.cells (zeros (Z.length + 1)) 3)).alloc (.cells #[slN w.heap.size (Z.length + 1), .int .i64 (r : Int), .int .i64 (L : Int), .slice Option.none 0 0] 149)) w.heap.size 3 (zerI Z.length ((restL Z).drop Z.length))) := by
    have h1 := Blk.alloc (Blk.new w 3 (zeros (Z.length + 1))) (.cells #[slN w.heap.size (Z.length + 1), .int .i64 (r : Int), .int .i64 (L : Int), .slice Option.none 0 0] 149)
    rw [zerI_start] at h1
    have e : zerI (Z.length + 1) [] = zerI Z.length ((restL Z).drop Z.length) := by
      have e1 : (restL Z).drop (Z.length + 1) = [] := List.drop_of_length_le (by rw [restL_len]; exact Nat.le_refl _)
      have e2 : Z.drop Z.length = [] := by simp
      rw [restL_drop (Nat.le_refl _), e1, e2]
      unfold zerI
      rw [List.replicate_succ']
      simp [sumW, ints]
    rw [e] at h1
    exact h1
  have hsz0 : (w.alloc (.cells (zeros (Z.length + 1)) 3)).heap.size = w.heap.size + 1 := by simp
  have HT0 : Hid (Blk ((w.alloc (.cells (zeros (Z.length + 1)) 3)).alloc (.cells #[slN w.heap.size (Z.length + 1), .int .i64 (r : Int), .int .i64 (L : Int), .slice Option.none 0 0] 149)) (w.heap.size + 1) 149 [slN w.heap.size (Z.length + 1), .int .i64 (r : Int), .int .i64 (L : Int), .slice Option.none 0 0]) := by
    have := Blk.new (w.alloc (.cells (zeros (Z.length + 1)) 3)) 149 #[slN w.heap.size (Z.length + 1), .int .i64 (r : Int), .int .i64 (L : Int), .slice Option.none 0 0]
    rw [hsz0] at this
    exact this
  have HB0 : Hid (Below w.heap.size w ((w.alloc (.cells (zeros (Z.length + 1)) 3)).alloc (.cells #[slN w.heap.size (Z.length + 1), .int .i64 (r : Int), .int .i64 (L : Int), .slice Option.none 0 0] 149))) := ((Below.refl _ _).alloc (Nat.le_refl _) _).alloc (by simp) _
  clear hsz0
  generalize ((w.alloc (.cells (zeros (Z.length + 1)) 3)).alloc (.cells #[slN w.heap.size (Z.length + 1), .int .i64 (r : Int), .int .i64 (L : Int), .slice Option.none 0 0] 149)) = w1 at HR0 HT0 HB0 ⊢
  go_loopw [8] (fun i wr => ∃ (k : Nat) (z : Int), k ≤ Z.length ∧ i = .int .i64 z ∧ z + 1 = (k : Int) ∧ Hid (Blk wr w.heap.size 3 (zerI k ((restL Z).drop k))) ∧ Hid (Blk wr (w.heap.size + 1) 149 [slN w.heap.size (Z.length + 1), .int .i64 (r : Int), .int .i64 (L : Int), .slice Option.none 0 0]) ∧ Hid (Below w.heap.size w wr)) (fun i _ => (intOf i + 1).toNat)
  case atStart => exact ⟨Z.length, _, Nat.le_refl _, rfl, by omega, HR0.out, HT0.out, HB0.out⟩
  case round =>
    obtain ⟨k, z, hk, rfl, hz, hbr, hbt, hbl⟩ := hrel
    rcases Nat.eq_zero_or_pos k with h0 | h0
    · subst h0
      obtain rfl : z = -1 := by omega
      clear hz
      have HRR : Hid (Blk wr w.heap.size 3 (ints (restL Z))) := hbr.out
      obtain ⟨T, hT⟩ : ∃ T, T = w.heap.size + 1 := ⟨_, rfl⟩
      rw [← hT] at hbt
      have hTw : T < wr.heap.size := hbt.out.lt
      have HTE := Lib.hid hT
      have hT0 : w.heap.size < T := by omega
      have HTV : Hid ((.pointer (some ⟨w.heap.size + 1, 0, Option.none⟩) : Value) = .pointer (some ⟨T, 0, Option.none⟩)) := by show _ = _; rw [hT]
      clear hbr
      go_wp2_with fail
      simp only [← hT]
      clear hT
      rename World => wq
      go_loopw [9] (fun i wr => ∃ (l : Nat) (K : Option Addr) (ck : Nat) (lev : List (Nat × Nat × List Nat)), i = .int .i64 (l : Int) ∧ l ≤ L + 1 ∧ Hid (lev.length = l) ∧ Hid (Blk wr T 149 [slN w.heap.size (Z.length + 1), .int .i64 (r : Int), .int .i64 (L : Int), .slice K l ck]) ∧
        Hid (Blk wr w.heap.size 3 (ints (restL Z))) ∧ Hid (wr.ownsRow (T + 1) 61 1 (.slice K l ck) l (lev.map (lvV (Z.length + 1)))) ∧ Hid (Levs wr T (Z.length + 1) lev) ∧ Hid (Below w.heap.size w wr)) (fun i _ => 7 - (intOf i).toNat)
      case atStart => exact ⟨0, Option.none, 0, [], rfl, by omega, rfl, hbt.out, HRR.out, World.ownsRow_nil _ _ _ _, Levs.nil _ _ _, hbl.out⟩
      case round =>
        obtain ⟨l, K, ck, lev, rfl, hlL, hll, hbt, hbr, how, hlv, hbl⟩ := hrel
        have hTr : T < wr.heap.size := hbt.out.lt
        by_cases hl6 : l ≤ L
        · have hl6i : (l : Int) ≤ (L : Int) := by omega
          rename World => wo
          go_wp2_with fail
          go_loopw [10, 11] (fun rv i wr => ∃ (k : Nat) (A5 : Option Addr) (c5 : Nat) (gs : List Nat), rv = .slice A5 k c5 ∧ i = .int .i64 (k : Int) ∧ k ≤ Z.length + 1 ∧ Hid (gs.length = k) ∧ Hid (wr.ownsRow wo.heap.size 35 1 (.slice A5 k c5) k (gs.map fun g => slN g (Z.length + 1))) ∧
            Hid (∀ g ∈ gs, Blk wr g 3 (ints (List.replicate (Z.length + 1) 0))) ∧ Hid gs.Nodup ∧ Hid (∀ g ∈ gs, wo.heap.size ≤ g ∧ g < wr.heap.size) ∧ Hid (Below wo.heap.size wo wr)) (fun _ i _ => 22 - (intOf i).toNat)
          case atStart => exact ⟨0, Option.none, 0, [], rfl, rfl, Nat.zero_le _, rfl, World.ownsRow_nil _ _ _ _, by intro g hg; simp at hg, List.nodup_nil, by intro g hg; simp at hg, Below.refl _ _⟩
          case round =>
            obtain ⟨k, A5, c5, gs, rfl, rfl, hkn, hgl, hrow, hz, hnd, hrg, hb5⟩ := hrel
            have hsw := hb5.out.size
            by_cases hk : k ≤ Z.length
            · have hki : (k : Int) ≤ (Z.length : Int) := by omega
              obtain ⟨ti, hti, htz, hts, htb⟩ := info_parts info_ints
              have hsz1 : (wr.alloc (.cells (zeros (Z.length + 1)) 3)).heap.size = wr.heap.size + 1 := by simp
              have HNEW : Hid (∀ j u, [slN wr.heap.size (Z.length + 1)][j]? = some u → ((wr.alloc (.cells (zeros (Z.length + 1)) 3)).alloc (.cells #[slN wr.heap.size (Z.length + 1)] 35)).cell? ((⟨wr.heap.size + 1, 0, Option.none⟩ : Addr).add j) = some u) := by
                have := one_cell (wr.alloc (.cells (zeros (Z.length + 1)) 3)) (slN wr.heap.size (Z.length + 1)) 35
                rw [hsz1] at this
                exact this
              have hsz2 : ((wr.alloc (.cells (zeros (Z.length + 1)) 3)).alloc (.cells #[slN wr.heap.size (Z.length + 1)] 35)).heap.size = wr.heap.size + 2 := by simp
              have HOW := Lib.hid ((hrow.out.alloc (.cells (zeros (Z.length + 1)) 3)).alloc (.cells #[slN wr.heap.size (Z.length + 1)] 35))
              have HFA : Hid (Frs [35] wr ((wr.alloc (.cells (zeros (Z.length + 1)) 3)).alloc (.cells #[slN wr.heap.size (Z.length + 1)] 35))) := (frs_alloc _ _ _).trans (frs_alloc _ _ _)
              have HGN : Hid (Blk ((wr.alloc (.cells (zeros (Z.length + 1)) 3)).alloc (.cells #[slN wr.heap.size (Z.length + 1)] 35)) wr.heap.size 3 (ints (List.replicate (Z.length + 1) 0))) := by
                have := Blk.alloc (Blk.new wr 3 (zeros (Z.length + 1))) (.cells #[slN wr.heap.size (Z.length + 1)] 35)
                rw [zeros_len] at this
                exact this
              have HBA := Lib.hid ((hb5.out.alloc hsw (.cells (zeros (Z.length + 1)) 3)).alloc (by simp; omega) (.cells #[slN wr.heap.size (Z.length + 1)] 35))
              have HSZ2 := Lib.hid hsz2
              clear hsz1 hsz2
              go_wp2_with (at_builtin; refine wpList_append_own _ rfl (.tmp 57) (.tmp 62) 61 rfl wo.heap.size 35 ti (.slice Option.none 0 0) 1 24 Try.underlying61 hti htz hts htb rfl (by decide) (.slice A5 k c5) k (gs.map fun g => slN g (Z.length + 1)) rfl HOW.out ⟨wr.heap.size + 1, 0, Option.none⟩ 1 1 [slN wr.heap.size (Z.length + 1)] rfl rfl HNEW.out (by intro u hu; simp at hu; subst hu; rfl) (by unfold maxLen; omega) (by omega) (by rw [HSZ2.out]; omega) ?_; intro v6 w6 ho6 hg6 _)
              obtain ⟨h6, c6, rfl⟩ : ∃ h6 c6, v6 = .slice (some ⟨h6, 0, Option.none⟩) (k + 1) c6 := by
                rcases ho6.2 with ⟨_, e⟩ | ⟨g, cap, cur, e, _⟩
                · omega
                · exact ⟨g, cap, e⟩
              have hf6 : Frs [35] wr w6 := HFA.out.trans (frs_grown HOW.out hg6 (by simp))
              have hgn6 := HGN.out.frs (frs_grown HOW.out hg6 (ts := [35]) (by simp)) (by decide)
              have HB6 := Lib.hid (HBA.out.grown hg6 (by rw [HSZ2.out]; omega) (fun g hg => (HOW.out.lt g hg).1))
              have HF6 := Lib.hid hf6
              have HG6 : Hid (∀ g ∈ gs ++ [wr.heap.size], Blk w6 g 3 (ints (List.replicate (Z.length + 1) 0))) := by
                intro g hg
                rcases List.mem_append.1 hg with h1 | h1
                · exact (hz.out g h1).frs hf6 (by decide)
                · rw [List.mem_singleton] at h1; rw [h1]; exact hgn6
              have HS6 : Hid (wr.heap.size + 2 ≤ w6.heap.size) := by have := hg6.size; rw [HSZ2.out] at this; exact this
              have HO6 : Hid (w6.ownsRow wo.heap.size 35 1 (.slice (some ⟨h6, 0, Option.none⟩) (k + 1) c6) (k + 1) ((gs ++ [wr.heap.size]).map fun g => slN g (Z.length + 1))) := by
                rw [List.map_append]; exact ho6
              clear ho6 hg6 hf6 hgn6
              go_wp2_with fail
              go_roundw
              case rel => exact ⟨k + 1, _, c6, gs ++ [wr.heap.size], rfl, by go_num, by omega, by show _ = _; rw [List.length_append, hgl.out]; rfl, HO6.out, HG6.out, by show List.Nodup _; rw [List.nodup_append]; exact ⟨hnd.out, by simp, fun a ha b hbb e => by rw [List.mem_singleton] at hbb; have := (hrg.out a ha).2; omega⟩, fun g hg => by
                have hs6 := HS6.out
                rcases List.mem_append.1 hg with h1 | h1
                · have := hrg.out g h1; omega
                · rw [List.mem_singleton] at h1; omega, HB6.out⟩
              case measure => (simp [intOf]; try omega)
            · obtain rfl : k = Z.length + 1 := by omega
              have hno : ¬ ((Z.length : Int) + 1 ≤ (Z.length : Int)) := by omega
              obtain ⟨h5, rfl, hc5, cur5, hcur5, htk5⟩ : ∃ h5, A5 = some ⟨h5, 0, Option.none⟩ ∧ Z.length + 1 ≤ c5 ∧ ∃ cur : Array Value, wr.heap[h5]? = some (.cells cur 35 (0, 0)) ∧ cur.toList.take (Z.length + 1) = gs.map fun g => slN g (Z.length + 1) := by
                rcases hrow.out.2 with ⟨_, e⟩ | ⟨g, cap, cur, e, _, hgg, h1, _, _, h2⟩
                · omega
                · cases e; exact ⟨g, rfl, h1, cur, hgg, by rw [← h2, Nat.mul_one]⟩
              obtain ⟨x, hx⟩ : ∃ x : Nat × Nat × List Nat, x = (h5, c5, gs) := ⟨_, rfl⟩
              have HLX : Hid (LevOk wr (Z.length + 1) x) := by rw [hx]; exact ⟨hgl.out, ⟨cur5, hcur5, htk5⟩, hz.out⟩
              have HLS : Hid (Levs wr T (Z.length + 1) (lev ++ [x])) := hlv.out.snoc hTr hb5.out HLX.out (by rw [hx]; exact hnd.out) (by rw [hx]; exact fun g hg => (hrg.out g hg).1)
              have HXV : Hid (lvV (Z.length + 1) x = .slice (some ⟨h5, 0, Option.none⟩) (Z.length + 1) c5) := by show _ = _; rw [hx]; rfl
              have hbt2 := hbt.out.below hb5.out hTr
              have HBR2 := Lib.hid (hbr.out.below hb5.out (by omega))
              have how2 := owns_below how.out (hi := wo.heap.size) (fun k hk => (how.out.lt k hk).2) hb5.out (Nat.le_refl _)
              obtain ⟨ti, hti, htz, hts, htb⟩ := info_parts info_rows
              have HOW2 := Lib.hid (how2.alloc (.cells #[.slice (some ⟨h5, 0, Option.none⟩) (Z.length + 1) c5] 61))
              have q3 := hbt2.cell 3
              have q3a := (Blk.alloc hbt2 (.cells #[.slice (some ⟨h5, 0, Option.none⟩) (Z.length + 1) c5] 61)).cell 3
              simp only [List.getElem?_cons_zero, List.getElem?_cons_succ] at q3 q3a
              have HBT2 := Lib.hid hbt2
              have HBL2 := Lib.hid (hbl.out.trans (hb5.out.mono (by have := hbl.out.size; omega)))
              clear hx hbt2 how2 hcur5 htk5
              go_wp2_with (at_builtin; refine wpList_append_own _ rfl (.tmp 68) (.tmp 70) 147 rfl (T + 1) 61 ti (.slice Option.none 0 0) 1 24 Try.underlying147 hti htz hts htb rfl (by decide) (.slice K l ck) l (lev.map (lvV (Z.length + 1))) rfl HOW2.out ⟨wr.heap.size, 0, Option.none⟩ 1 1 [.slice (some ⟨h5, 0, Option.none⟩) (Z.length + 1) c5] rfl rfl (one_cell _ _ _) (by intro u hu; simp at hu; subst hu; rfl) (by unfold maxLen; omega) (by omega) (by simp; omega) ?_; intro v6 w6 ho6 hg6 _; obtain ⟨h6, c6, rfl⟩ : ∃ h6 c6, v6 = .slice (some ⟨h6, 0, Option.none⟩) (l + 1) c6 := by { rcases ho6.2 with ⟨_, e⟩ | ⟨g, cap, cur, e, _⟩; exact absurd e (by omega); exact ⟨g, cap, e⟩ }; have hf6 : Frs [61, 149] wr w6 := (frs_alloc _ _ _).trans (frs_grown HOW2.out hg6 (by simp)); have hbt6 : Blk w6 T 149 [slN w.heap.size (Z.length + 1), .int .i64 (r : Int), .int .i64 (L : Int), .slice K l ck] := (HBT2.out.alloc _).frs (frs_grown HOW2.out hg6 (ts := [61]) (by simp)) (by decide); have p3 := hbt6.cell 3; have pf3 := hbt6.frozen 3; simp only [List.getElem?_cons_zero, List.getElem?_cons_succ] at p3; have HBT6 := Lib.hid hbt6; have HF6 := Lib.hid hf6; have HO6 := Lib.hid ho6; have HG6 := Lib.hid hg6; clear hbt6 hf6 ho6 hg6)
              have HSS : Hid (Frs [61, 149] wr (w6.setCell ⟨T, 3, Option.none⟩ (.slice (some ⟨h6, 0, Option.none⟩) (l + 1) c6))) := HF6.out.trans (frs_set HBT6.out (by simp))
              have HBT7 : Hid (Blk (w6.setCell ⟨T, 3, Option.none⟩ (.slice (some ⟨h6, 0, Option.none⟩) (l + 1) c6)) T 149 [slN w.heap.size (Z.length + 1), .int .i64 (r : Int), .int .i64 (L : Int), .slice (some ⟨h6, 0, Option.none⟩) (l + 1) c6]) := HBT6.out.set_ 3 _
              have HO7 : Hid ((w6.setCell ⟨T, 3, Option.none⟩ (.slice (some ⟨h6, 0, Option.none⟩) (l + 1) c6)).ownsRow (T + 1) 61 1 (.slice (some ⟨h6, 0, Option.none⟩) (l + 1) c6) (l + 1) ((lev ++ [x]).map (lvV (Z.length + 1)))) := by
                rw [List.map_append, List.map_singleton, HXV.out]
                exact HO6.out.kept (grown_set (w := w6) (p := ⟨T, 3, Option.none⟩) rfl _) (.inr fun e => by have := (HO6.out.lt T e).1; omega)
              have HBL7 : Hid (Below w.heap.size w (w6.setCell ⟨T, 3, Option.none⟩ (.slice (some ⟨h6, 0, Option.none⟩) (l + 1) c6))) := by
                have h1 : Below w.heap.size w (wr.alloc (.cells #[.slice (some ⟨h5, 0, Option.none⟩) (Z.length + 1) c5] 61)) := HBL2.out.alloc (by omega) _
                exact (h1.grown HG6.out (by simp; omega) (fun k hk => by have := (HOW2.out.lt k hk).1; omega)).setCell (p := ⟨T, 3, Option.none⟩) (by show w.heap.size ≤ T; omega) _
              go_wp2_with fail
              go_roundw
              case rel => exact ⟨l + 1, _, c6, lev ++ [x], by go_num, by omega, by show _ = _; rw [List.length_append, hll.out]; rfl, HBT7.out, HBR2.out.frs HSS.out (by decide), HO7.out, HLS.out.frs HSS.out (by decide) (by decide), HBL7.out⟩
              case measure => (simp [intOf]; try omega)
        · obtain rfl : l = L + 1 := by omega
          have hno : ¬ ((L : Int) + 1 ≤ (L : Int)) := by omega
          go_wp2_with fail
          go_ret
          exact ⟨T, rfl, K, ck, lev, hT0, hbt.out, hbr.out, hll.out, how.out, hlv.out, hbl.out⟩
    · obtain ⟨s, rfl⟩ : ∃ s, k = s + 1 := ⟨k - 1, by omega⟩
      obtain rfl : z = (s : Int) := by omega
      clear hz h0
      obtain ⟨b1, o1, c1, hv, hb1h, hcl⟩ := RdI.getD (RdI.below H.out hbl.out hh) (show s < Z.length by omega)
      cases hv
      obtain ⟨x, hx⟩ : ∃ x, x = Z.getD s 0 := ⟨_, rfl⟩
      rw [← hx] at hcl
      obtain ⟨y, hy⟩ : ∃ y, y = sumW (Z.drop (s + 1)) := ⟨_, rfl⟩
      have hq0 := hbt.out.cell 0
      simp only [List.getElem?_cons_zero] at hq0
      have hr1 := hbr.out.cell (s + 1)
      have hr0 := hbr.out.cell s
      rw [zerI_at] at hr0
      rw [show (zerI (s + 1) ((restL Z).drop (s + 1)))[s + 1]? = some (.int .i64 y) by rw [restL_drop (by omega), ← hy]; unfold zerI; rw [List.getElem?_append_right (by simp)]; simp [ints]] at hr1
      have hfz := hbr.out.frozen s
      have hsum : sumW (Z.drop s) = y + x := by
        rw [List.drop_eq_getElem_cons (show s < Z.length by omega), hy, hx]
        simp only [sumW]
        rw [List.getD_eq_getElem?_getD, List.getElem?_eq_getElem (show s < Z.length by omega)]
        simp; omega
      have hb1' := HSB.out s
      have hb2' := HSB.out (s + 1)
      rw [hsum] at hb1'
      rw [← hy] at hb2'
      have HNX : Hid (Blk (wr.setCell ⟨w.heap.size, s, Option.none⟩ (.int .i64 (y + x))) w.heap.size 3 (zerI s ((restL Z).drop s))) := by
        have h1 := hbr.out.set_ s (.int .i64 (y + x))
        rw [zerI_set, ← hsum, ← restL_drop (by omega)] at h1
        rw [← hsum]
        exact h1
      have HTX : Hid (Blk (wr.setCell ⟨w.heap.size, s, Option.none⟩ (.int .i64 (y + x))) (w.heap.size + 1) 149 [slN w.heap.size (Z.length + 1), .int .i64 (r : Int), .int .i64 (L : Int), .slice Option.none 0 0]) := hbt.out.far (p := ⟨w.heap.size, s, Option.none⟩) (by show w.heap.size + 1 ≠ w.heap.size; omega) _
      have HBX := Lib.hid (hbl.out.setCell (p := ⟨w.heap.size, s, Option.none⟩) (Nat.le_refl _) (.int .i64 (y + x)))
      have hs1 : (s : Int) < (Z.length : Int) := by omega
      have hs2 : (s : Int) + 1 < (Z.length : Int) + 1 := by omega
      have hsz : (s : Int) < (Z.length : Int) + 1 := by omega
      clear hx hy hsum
      go_wp2_with fail
      go_region
      all_goals
        go_wp2_with fail
        go_roundw
        case rel => exact ⟨s, _, by omega, rfl, by omega, HNX.out, HTX.out, HBX.out.trans (bel_drewN _ _ 1)⟩
        case measure => (simp [intOf]; try omega)
end Go.Proofs.Ytjnkdjokbamibaa
/- Contracts: the least cost by the table of the reference. -/
namespace Go.Proofs.Ytjnkdjokbamibaa
open Go.RowKit
def levAt (lev : List (Nat × Nat × List Nat)) (l : Nat) : Nat × Nat × List Nat := lev.getD l (0, 0, [])
def gAt (lev : List (Nat × Nat × List Nat)) (l d : Nat) : Nat := (levAt lev l).2.2.getD d 0
/-- Only blocks of the table's rows have turned. -/
structure FrG (gs : List Nat) (w w' : World) : Prop where
  os : w'.os = w.os
  tape : w'.tape = w.tape
  output : w'.output = w.output
  size : w'.heap.size = w.heap.size
  block : ∀ k, k ∉ gs → w'.heap[k]? = w.heap[k]?
theorem FrG.refl (gs : List Nat) (w : World) : FrG gs w w := ⟨rfl, rfl, rfl, rfl, fun _ _ => rfl⟩
theorem FrG.trans {gs : List Nat} {a b c : World} (h : FrG gs a b) (k : FrG gs b c) : FrG gs a c :=
  ⟨k.os.trans h.os, k.tape.trans h.tape, k.output.trans h.output, k.size.trans h.size, fun i hi => (k.block i hi).trans (h.block i hi)⟩
theorem frG_set {gs : List Nat} (w : World) {g i : Nat} (hg : g ∈ gs) (u : Value) : FrG gs w (w.setCell ⟨g, i, Option.none⟩ u) :=
  ⟨rfl, rfl, rfl, by simp [World.setCell], fun k hk => Below.heap_setCell _ _ _ _ (fun e => hk (by rw [e]; exact hg))⟩
theorem frG_drewN (gs : List Nat) (w : World) (n : Nat) : FrG gs w (w.drewN n) := ⟨rfl, rfl, rfl, rfl, fun _ _ => rfl⟩
structure Tbl (w : World) (T Rb k0 ck : Nat) (Z : List Int) (r L : Nat) (lev : List (Nat × Nat × List Nat)) (f : Nat → Nat → Nat → Int) : Prop where
  blk : Blk w T 149 [slN Rb (Z.length + 1), .int .i64 (r : Int), .int .i64 (L : Int), .slice (some ⟨k0, 0, Option.none⟩) (L + 1) ck]
  rest : Blk w Rb 3 (ints (restL Z))
  outer : ∀ l, l ≤ L → w.cell? ⟨k0, l, Option.none⟩ = some (lvV (Z.length + 1) (levAt lev l))
  mid : ∀ l d, l ≤ L → d ≤ Z.length → w.cell? ⟨(levAt lev l).1, d, Option.none⟩ = some (slN (gAt lev l d) (Z.length + 1))
  rows : ∀ l d, l ≤ L → d ≤ Z.length → Blk w (gAt lev l d) 3 (ints ((List.range (Z.length + 1)).map (f l d)))
  mem : ∀ l d, l ≤ L → d ≤ Z.length → gAt lev l d ∈ flatG lev
  inj : ∀ l d l' d', l ≤ L → d ≤ Z.length → l' ≤ L → d' ≤ Z.length → gAt lev l d = gAt lev l' d' → l = l' ∧ d = d'
  far : ∀ g ∈ flatG lev, g ≠ T ∧ g ≠ Rb ∧ g ≠ k0 ∧ ∀ l, l ≤ L → g ≠ (levAt lev l).1
def upd (f : Nat → Nat → Nat → Int) (l d i : Nat) (v : Int) : Nat → Nat → Nat → Int := fun l' d' i' => if l' = l ∧ d' = d ∧ i' = i then v else f l' d' i'
theorem map_upd {f : Nat → Int} {n i : Nat} {v : Int} : ((List.range n).map f).set i v = (List.range n).map fun j => if j = i then v else f j := by
  refine List.ext_getElem (by simp) fun j h1 h2 => ?_
  rw [List.getElem_set]
  simp only [List.getElem_map, List.getElem_range]
  by_cases e : i = j
  · rw [if_pos e, if_pos e.symm]
  · rw [if_neg e, if_neg (fun h => e h.symm)]
theorem cell_far {w : World} {g i b o : Nat} {u v : Value} (h : w.cell? ⟨b, o, Option.none⟩ = some v) (hne : g ≠ b) : (w.setCell ⟨g, i, Option.none⟩ u).cell? ⟨b, o, Option.none⟩ = some v := by
  unfold World.cell? at h ⊢
  rw [Below.heap_setCell w _ u b (fun e => hne e.symm)]
  exact h
theorem Tbl.set {w : World} {T Rb k0 ck : Nat} {Z : List Int} {r L : Nat} {lev : List (Nat × Nat × List Nat)} {f : Nat → Nat → Nat → Int} (h : Tbl w T Rb k0 ck Z r L lev f) {l d i : Nat} (hl : l ≤ L) (hd : d ≤ Z.length) (v : Int) :
    Tbl (w.setCell ⟨gAt lev l d, i, Option.none⟩ (.int .i64 v)) T Rb k0 ck Z r L lev (upd f l d i v) := by
  have hg := h.far _ (h.mem l d hl hd)
  refine ⟨h.blk.far (p := ⟨gAt lev l d, i, Option.none⟩) (fun e => hg.1 e.symm) _, h.rest.far (p := ⟨gAt lev l d, i, Option.none⟩) (fun e => hg.2.1 e.symm) _, fun l' hl' => cell_far (h.outer l' hl') hg.2.2.1, fun l' d' hl' hd' => cell_far (h.mid l' d' hl' hd') (hg.2.2.2 l' hl'), fun l' d' hl' hd' => ?_, h.mem, h.inj, h.far⟩
  by_cases e : l' = l ∧ d' = d
  · obtain ⟨rfl, rfl⟩ := e
    have h1 := (h.rows l' d' hl' hd').set_ i (.int .i64 v)
    have h2 : (ints ((List.range (Z.length + 1)).map (f l' d'))).set i (.int .i64 v) = ints ((List.range (Z.length + 1)).map (upd f l' d' i v l' d')) := by
      unfold ints
      rw [← List.map_set, map_upd]
      simp [upd]
    rw [h2] at h1
    exact h1
  · have h1 := (h.rows l' d' hl' hd').far (p := ⟨gAt lev l d, i, Option.none⟩) (fun e2 => e (h.inj l' d' l d hl' hd' hl hd e2)) (.int .i64 v)
    have h2 : upd f l d i v l' d' = f l' d' := by
      funext j
      unfold upd
      rw [if_neg (fun h => e ⟨h.1, h.2.1⟩)]
    rw [h2]
    exact h1
theorem Tbl.cell {w : World} {T Rb k0 ck : Nat} {Z : List Int} {r L : Nat} {lev : List (Nat × Nat × List Nat)} {f : Nat → Nat → Nat → Int} (h : Tbl w T Rb k0 ck Z r L lev f) {l d i : Nat} (hl : l ≤ L) (hd : d ≤ Z.length) (hi : i ≤ Z.length) :
    w.cell? ⟨gAt lev l d, i, Option.none⟩ = some (.int .i64 (f l d i)) := by
  rw [(h.rows l d hl hd).cell i]
  unfold ints
  rw [List.getElem?_map, List.getElem?_map, List.getElem?_range (by omega)]; rfl
theorem Tbl.restc {w : World} {T Rb k0 ck : Nat} {Z : List Int} {r L : Nat} {lev : List (Nat × Nat × List Nat)} {f : Nat → Nat → Nat → Int} (h : Tbl w T Rb k0 ck Z r L lev f) {d : Nat} (hd : d ≤ Z.length) : w.cell? ⟨Rb, d, Option.none⟩ = some (.int .i64 (sumW (Z.drop d))) := by
  rw [h.rest.cell d]
  unfold ints
  rw [List.getElem?_map, restL_at hd]; rfl
/-- What stands in the table is right. -/
def InvT (Z : List Int) (r L : Nat) (f : Nat → Nat → Nat → Int) : Prop := ∀ l d i, 1 ≤ l → l ≤ L → d ≤ Z.length → i ≤ Z.length - d → f l d i = 0 ∨ f l d i = relC r L (Z.drop d) l i + 1
theorem InvT.set {Z : List Int} {r L : Nat} {f : Nat → Nat → Nat → Int} (h : InvT Z r L f) {l d i : Nat} {v : Int} (hv : v = relC r L (Z.drop d) l i + 1) : InvT Z r L (upd f l d i v) := by
  intro l' d' i' h1 h2 h3 h4
  unfold upd
  split
  · rename_i e
    obtain ⟨rfl, rfl, rfl⟩ := e
    exact .inr hv
  · exact h l' d' i' h1 h2 h3 h4
/-- Worlds behind calls that fill the table. -/
structure LaterX (w : World) (T Rb k0 ck : Nat) (Z : List Int) (r L : Nat) (lev : List (Nat × Nat × List Nat)) where
  val : World
  f : Nat → Nat → Nat → Int
  tbl : Tbl val T Rb k0 ck Z r L lev f
  inv : InvT Z r L f
  fr : FrG (flatG lev) w val
theorem Tbl.drewN {w : World} {T Rb k0 ck : Nat} {Z : List Int} {r L : Nat} {lev : List (Nat × Nat × List Nat)} {f : Nat → Nat → Nat → Int} (h : Tbl w T Rb k0 ck Z r L lev f) (n : Nat) : Tbl (w.drewN n) T Rb k0 ck Z r L lev f :=
  ⟨h.blk, h.rest, h.outer, h.mid, h.rows, h.mem, h.inj, h.far⟩
def PostX (w : World) (T Rb k0 ck : Nat) (Z : List Int) (r L : Nat) (lev : List (Nat × Nat × List Nat)) (v : Int) (e : Ending) (w' : World) : Prop := e = .returned (.int .i64 v) ∧ ∃ x : LaterX w T Rb k0 ck Z r L lev, w' = x.val
section
variable {w : World} {T Rb k0 ck : Nat} {Z : List Int} {r L : Nat} {lev : List (Nat × Nat × List Nat)}
theorem wp_region_laterX {P : Program} {id : Nat} {Q : Exit → Act → World → Prop} {a : Act} {l : List Oper} {f : Nat → Nat → Nat → Int} (ht : Tbl w T Rb k0 ck Z r L lev f) (hi : InvT Z r L f) (hm : P.follows .mixedOrders = true) (hB : Region.lexB .any l.toArray = true)
    (h : wpQuiet P l.toArray (fun w' => ∃ x : LaterX w T Rb k0 ck Z r L lev, w' = x.val) (fun a' => ∀ w', (∃ x : LaterX w T Rb k0 ck Z r L lev, w' = x.val) → Q .normal a' w') l a) : (Code.region id l.toArray true).wp P Q a w :=
  wp_region_quiet (C := fun w' => ∃ x : LaterX w T Rb k0 ck Z r L lev, w' = x.val) hm hB ⟨⟨_, f, ht.drewN 1, hi, frG_drewN _ _ _⟩, rfl⟩ (by simpa using h)
theorem laterX_nil {P : Program} {ops : Array Oper} {C : World → Prop} {a : Act} {Q : Act → World → Prop}
    (h : ∀ x : LaterX w T Rb k0 ck Z r L lev, Q a x.val) : wpQuiet P ops C (fun a' => ∀ w', (∃ x : LaterX w T Rb k0 ck Z r L lev, w' = x.val) → Q a' w') [] a :=
  wpQuiet_nil fun _ ⟨x, e⟩ => e ▸ h x
theorem laterX_of {P : Program} {fn : FuncId} {args : Array Value} {x : LaterX w T Rb k0 ck Z r L lev} {v : Int} (h : Calls P fn args x.val (PostX x.val T Rb k0 ck Z r L lev v)) :
    Calls P fn args x.val fun e w'' => e = .returned (.int .i64 v) ∧ ∃ y : LaterX w T Rb k0 ck Z r L lev, w'' = y.val :=
  h.mono fun _ _ ⟨he, y, hy⟩ => ⟨he, ⟨y.val, y.f, y.tbl, y.inv, x.fr.trans y.fr⟩, hy⟩
theorem laterX_same {P : Program} {fn : FuncId} {args : Array Value} {x : LaterX w T Rb k0 ck Z r L lev} {v : Value} (h : Calls P fn args x.val fun e w' => e = .returned v ∧ x.val = w') :
    Calls P fn args x.val fun e w'' => e = .returned v ∧ ∃ y : LaterX w T Rb k0 ck Z r L lev, w'' = y.val :=
  h.mono fun _ _ ⟨he, hb⟩ => ⟨he, x, hb.symm⟩
end
theorem l1LeastI_any (a b : Int) (w : World) : Calls Try.prog 161 #[.int .i64 a, .int .i64 b] w fun e w' => e = .returned (.int .i64 (min a b)) ∧ w = w' := by
  by_cases h : a < b
  · go_enter Try.func161, Try.ntmps161
    go_wp2
    go_ret
    exact ⟨ret_int (by omega), rfl⟩
  · go_enter Try.func161, Try.ntmps161
    go_wp2
    go_ret
    exact ⟨ret_int (by omega), rfl⟩
set_option maxRecDepth 100000 in
set_option maxHeartbeats 4000000 in
theorem with_any {T Rb k0 ck : Nat} {Z : List Int} {r L : Nat} {lev : List (Nat × Nat × List Nat)} {f : Nat → Nat → Nat → Int} {l d fr t : Nat} (w : World) (ht : Tbl w T Rb k0 ck Z r L lev f) (hi : InvT Z r L f) (hl : l ≤ L) (hL : L ≤ 6) (hd : d ≤ Z.length) (hn : Z.length ≤ 20) (hr : r ≤ 60) (hf : fr ≤ 20) (htf : t ≤ fr) (hdt : d + t ≤ Z.length)
    (hs : 0 ≤ sumW (Z.drop d) ∧ sumW (Z.drop d) ≤ 200000) (hrc : 0 ≤ relC r L (Z.drop (d + t)) (l + 1) ((fr - t) * r) ∧ relC r L (Z.drop (d + t)) (l + 1) ((fr - t) * r) ≤ 1000000000)
    (hc : ∀ x : LaterX w T Rb k0 ck Z r L lev, Calls Try.prog 162 #[.pointer (some ⟨T, 0, Option.none⟩), .int .i64 ((l + 1 : Nat) : Int), .int .i64 ((d + t : Nat) : Int), .int .i64 (((fr - t) * r : Nat) : Int)] x.val (PostX x.val T Rb k0 ck Z r L lev (relC r L (Z.drop (d + t)) (l + 1) ((fr - t) * r)))) :
    Calls Try.prog 163 #[.pointer (some ⟨T, 0, Option.none⟩), .int .i64 (l : Int), .int .i64 (d : Int), .int .i64 (fr : Int), .int .i64 (t : Int)] w (PostX w T Rb k0 ck Z r L lev (withC r L (Z.drop d) l fr t)) := by
  have hne : Nonempty (LaterX w T Rb k0 ck Z r L lev) := ⟨⟨w, f, ht, hi, FrG.refl _ _⟩⟩
  have hT0 : ∀ x : LaterX w T Rb k0 ck Z r L lev, x.val.cell? ⟨T, 0, Option.none⟩ = some (slN Rb (Z.length + 1)) := fun x => x.tbl.blk.cell 0
  have hT1 : ∀ x : LaterX w T Rb k0 ck Z r L lev, x.val.cell? ⟨T, 1, Option.none⟩ = some (.int .i64 (r : Int)) := fun x => x.tbl.blk.cell 1
  obtain ⟨y, hy⟩ : ∃ y, y = sumW (Z.drop d) := ⟨_, rfl⟩
  have hRc : ∀ x : LaterX w T Rb k0 ck Z r L lev, x.val.cell? ⟨Rb, d, Option.none⟩ = some (.int .i64 y) := fun x => by rw [hy]; exact x.tbl.restc hd
  obtain ⟨q, hq⟩ : ∃ q, q = relC r L (Z.drop (d + t)) (l + 1) ((fr - t) * r) := ⟨_, rfl⟩
  have HV : Hid (withC r L (Z.drop d) l fr t = min 1000000000 (y + q)) := by
    show _ = _
    unfold withC
    rw [List.drop_drop, hy, hq]
  rw [← hy] at hs
  rw [← hq] at hrc hc
  obtain ⟨m, hm⟩ : ∃ m, m = fr - t := ⟨_, rfl⟩
  have hsub : (fr : Int) - (t : Int) = (m : Int) := by omega
  have HM : Hid ((m : Int) * (r : Int) = (((fr - t) * r : Nat) : Int)) := by show _ = _; rw [hm]; simp
  have hmb : 0 ≤ (m : Int) * (r : Int) ∧ (m : Int) * (r : Int) ≤ 1200 := by
    have h1 : m * r ≤ 20 * 60 := Nat.mul_le_mul (by omega) hr
    have h2 : (m : Int) * (r : Int) = ((m * r : Nat) : Int) := by simp
    rw [h2]
    omega
  have CC : Hid (∀ x : LaterX w T Rb k0 ck Z r L lev, Calls Try.prog 162 #[.pointer (some ⟨T, 0, Option.none⟩), .int .i64 ((l : Int) + 1), .int .i64 ((d : Int) + (t : Int)), .int .i64 ((m : Int) * (r : Int))] x.val (PostX x.val T Rb k0 ck Z r L lev q)) := by
    intro x
    have := hc x
    rw [← HM.out] at this
    exact this
  have HT := Lib.hid ht
  have HI := Lib.hid hi
  have hdi : (d : Int) < (Z.length : Int) + 1 := by omega
  clear ht hi hc hy hq hm
  go_enter Try.func163, Try.ntmps163
  go_wp2_with fail
  refine wp_region_laterX HT.out HI.out (by kernel_rfl) (by kernel_rfl) ?_
  (repeat (go_big_quiet_step ((first | (go_at_call 162; exact laterX_of (CC.out _)) | (go_at_call 161; exact laterX_same (l1LeastI_any _ _ _))))))
  refine laterX_nil ?_
  intro x
  go_wp2_with fail
  go_ret
  exact ⟨by rw [HV.out]; rfl, x, rfl⟩
end Go.Proofs.Ytjnkdjokbamibaa
/- Contracts: the least cost by the table of the reference, at every level. -/
namespace Go.Proofs.Ytjnkdjokbamibaa
open Go.RowKit
theorem lowDown_bd {g : Nat → Int} {f : Nat} (h : ∀ t, t ≤ f → 0 ≤ g t) : ∀ k, k ≤ f + 1 → 0 ≤ lowDown g f k ∧ lowDown g f k ≤ 1000000000
  | 0, _ => by simp [lowDown]
  | k + 1, hk => by
    have h1 := lowDown_bd h k (by omega)
    have h2 := h (f - k) (by omega)
    rw [lowDown]
    omega
set_option maxRecDepth 100000 in
set_option maxHeartbeats 16000000 in
theorem cost_any {T Rb k0 ck : Nat} {Z : List Int} {r L : Nat} {lev : List (Nat × Nat × List Nat)} (hL : L ≤ 6) (hr1 : 1 ≤ r) (hr : r ≤ 60) (hn : Z.length ≤ 20) (hZ : allB Z 0 10000 = true) :
    ∀ (q l : Nat), q = L + 1 - l → 1 ≤ l → l ≤ L + 1 → ∀ (d fr : Nat) (w : World) (f : Nat → Nat → Nat → Int), d ≤ Z.length → fr ≤ 1200 → Tbl w T Rb k0 ck Z r L lev f → InvT Z r L f →
      Calls Try.prog 162 #[.pointer (some ⟨T, 0, Option.none⟩), .int .i64 (l : Int), .int .i64 (d : Int), .int .i64 (fr : Int)] w (PostX w T Rb k0 ck Z r L lev (relC r L (Z.drop d) l fr)) := by
  have hall : ∀ x ∈ Z, 0 ≤ x ∧ x ≤ 10000 := by unfold allB at hZ; rw [List.all_eq_true] at hZ; exact fun x hx => inB_iff.1 (hZ x hx)
  have hsum : ∀ l : List Int, (∀ x ∈ l, 0 ≤ x ∧ x ≤ 10000) → 0 ≤ sumW l ∧ sumW l ≤ 10000 * l.length := by
    intro l
    induction l with
    | nil => intro _; simp [sumW]
    | cons x l ih =>
      intro hl
      have h1 := ih (fun y hy => hl y (by simp [hy]))
      have h2 := hl x (by simp)
      simp only [sumW, List.length_cons]
      omega
  have hpos : ∀ d, ∀ x ∈ Z.drop d, 0 ≤ x := fun d x hx => (hall x (List.mem_of_mem_drop hx)).1
  have hsd : ∀ d, 0 ≤ sumW (Z.drop d) ∧ sumW (Z.drop d) ≤ 200000 := by
    intro d
    have := hsum (Z.drop d) (fun x hx => hall x (List.mem_of_mem_drop hx))
    rw [List.length_drop] at this
    omega
  have hbig : ∀ d, (L : Int) * sumW (Z.drop d) < 1000000000 := by
    intro d
    have h1 := hsd d
    have h2 : (L : Int) * sumW (Z.drop d) ≤ 6 * 200000 := Int.mul_le_mul (by omega) h1.2 h1.1 (by omega)
    omega
  have hrb : ∀ d l fr, 1 ≤ l → 0 ≤ relC r L (Z.drop d) l fr ∧ relC r L (Z.drop d) l fr ≤ 1000000000 := fun d l fr h1 => relC_bd (hpos d) h1 (hbig d)
  have HPOS := Lib.hid hpos
  have HSD := Lib.hid hsd
  have HBIG := Lib.hid hbig
  have HRB := Lib.hid hrb
  clear hall hsum hpos hsd hbig hrb hZ
  intro q
  induction q with
  | zero =>
    intro l hq hl1 hlL d fr w f hd hfr ht hi
    obtain rfl : l = L + 1 := by omega
    have q0 := ht.blk.cell 0
    have q2 := ht.blk.cell 2
    simp only [List.getElem?_cons_zero, List.getElem?_cons_succ] at q0 q2
    have HX : Hid (∃ x : LaterX w T Rb k0 ck Z r L lev, w = x.val) := ⟨⟨w, f, ht, hi, FrG.refl _ _⟩, rfl⟩
    by_cases hdn : d = Z.length
    · have HV : Hid (relC r L (Z.drop d) (L + 1) fr = 0) := by show _ = _; rw [hdn, List.drop_length, relC_nil]
      have heq : ((d : Int) == (Z.length : Int)) = true := by rw [beq_iff_eq]; omega
      clear ht hi hdn hq
      go_enter Try.func162, Try.ntmps162
      go_wp2_with (go_at_call 161; refine (l1LeastI_any _ _ _).mono ?_; rintro e w' ⟨rfl, rfl⟩)
      go_ret
      exact ⟨by rw [HV.out]; rfl, HX.out⟩
    · have HV : Hid (relC r L (Z.drop d) (L + 1) fr = 1000000000) := by
        show _ = _
        exact relC_end (by intro e; have := congrArg List.length e; rw [List.length_drop, List.length_nil] at this; omega) (by omega)
      have heq : ((d : Int) == (Z.length : Int)) = false := by rw [beq_eq_false_iff_ne]; omega
      have hgt : decide ((L : Int) < (L : Int) + 1) = true := decide_eq_true (by omega)
      clear ht hi hdn hq
      go_enter Try.func162, Try.ntmps162
      go_wp2_with (go_at_call 161; refine (l1LeastI_any _ _ _).mono ?_; rintro e w' ⟨rfl, rfl⟩)
      go_ret
      exact ⟨by rw [HV.out]; rfl, HX.out⟩
  | succ q ih =>
    intro l hq hl1 hlL d fr w f hd hfr ht hi
    have hl : l ≤ L := by omega
    have q0 := ht.blk.cell 0
    have q2 := ht.blk.cell 2
    have q3 := ht.blk.cell 3
    simp only [List.getElem?_cons_zero, List.getElem?_cons_succ] at q0 q2 q3
    have HX : Hid (∃ x : LaterX w T Rb k0 ck Z r L lev, w = x.val) := ⟨⟨w, f, ht, hi, FrG.refl _ _⟩, rfl⟩
    by_cases hdn : d = Z.length
    · have HV : Hid (relC r L (Z.drop d) l fr = 0) := by show _ = _; rw [hdn, List.drop_length, relC_nil]
      have heq : ((d : Int) == (Z.length : Int)) = true := by rw [beq_iff_eq]; omega
      clear ht hi hdn hq ih
      go_enter Try.func162, Try.ntmps162
      go_wp2_with (go_at_call 161; refine (l1LeastI_any _ _ _).mono ?_; rintro e w' ⟨rfl, rfl⟩)
      go_ret
      exact ⟨by rw [HV.out]; rfl, HX.out⟩
    · have heq : ((d : Int) == (Z.length : Int)) = false := by rw [beq_eq_false_iff_ne]; omega
      have hne : Z.drop d ≠ [] := by intro e; have := congrArg List.length e; rw [List.length_drop, List.length_nil] at this; omega
      obtain ⟨m, hm⟩ : ∃ m, m = min fr (Z.length - d) := ⟨_, rfl⟩
      have hmn : min (fr : Int) ((Z.length : Int) - (d : Int)) = (m : Int) := by omega
      have HRM : Hid (relC r L (Z.drop d) l fr = relC r L (Z.drop d) l m) := by
        show _ = _
        rw [hm, ← relC_min hr1 (HPOS.out d) (f := fr), List.length_drop]
      have hml : m ≤ Z.length - d := by omega
      clear hm
      rw [HRM.out]
      have hng : decide ((L : Int) < (l : Int)) = false := decide_eq_false (by omega)
      have hng2 : decide (L < l) = false := decide_eq_false (by omega)
      by_cases hm0 : m = 0
      · have HV : Hid (relC r L (Z.drop d) l m = 1000000000) := by show _ = _; rw [hm0]; exact relC_zero hr1 hne
        subst hm0
        clear ht hi hdn hq ih hne
        go_enter Try.func162, Try.ntmps162
        go_wp2_with (go_at_call 161; refine (l1LeastI_any _ _ _).mono ?_; rintro e w' ⟨rfl, rfl⟩)
        go_ret
        exact ⟨by rw [HV.out]; rfl, HX.out⟩
      · have hmz : ((m : Int) == 0) = false := by rw [beq_eq_false_iff_ne]; omega
        have hmn20 : m ≤ Z.length := by omega
        have hou := ht.outer l hl
        have hmi := ht.mid l d hl hd
        have hce := ht.cell hl hd hmn20
        obtain ⟨h5, c5, hl5⟩ : ∃ h5 c5, lvV (Z.length + 1) (levAt lev l) = .slice (some ⟨h5, 0, Option.none⟩) (Z.length + 1) c5 ∧ (levAt lev l).1 = h5 := ⟨_, _, rfl, rfl⟩
        rw [hl5.1] at hou
        rw [hl5.2] at hmi
        obtain ⟨g, hg⟩ : ∃ g, g = gAt lev l d := ⟨_, rfl⟩
        rw [← hg] at hmi hce
        have hli : (l : Int) < (L : Int) + 1 := by omega
        have hdi : (d : Int) < (Z.length : Int) + 1 := by omega
        have hmi2 : (m : Int) < (Z.length : Int) + 1 := by omega
        rcases hi l d m hl1 hl hd hml with h0 | h0
        · rw [h0] at hce
          obtain ⟨G, hG⟩ : ∃ G, G = withC r L (Z.drop d) l m := ⟨_, rfl⟩
          have hGp : ∀ t, t ≤ m → 0 ≤ G t := by
            intro t ht2
            rw [hG]
            unfold withC
            have h1 := (HSD.out d).1
            have h2 := (HRB.out (d + t) (l + 1) ((m - t) * r) (by omega)).1
            rw [List.drop_drop]
            omega
          have HLB := Lib.hid (lowDown_bd hGp)
          have HLOW : Hid (lowDown G m (m + 1) = relC r L (Z.drop d) l m) := by
            show _ = _
            rw [hG]
            exact relC_low hr1 (HPOS.out d) (by rw [List.length_drop]; exact hml) hl1 hl (HBIG.out d)
          have HCW : Hid (∀ (t : Nat) (x : LaterX w T Rb k0 ck Z r L lev), t ≤ m → Calls Try.prog 163 #[.pointer (some ⟨T, 0, Option.none⟩), .int .i64 (l : Int), .int .i64 (d : Int), .int .i64 (m : Int), .int .i64 (t : Int)] x.val (PostX x.val T Rb k0 ck Z r L lev (G t))) := by
            intro t x htm
            rw [hG]
            refine with_any x.val x.tbl x.inv hl hL hd hn hr (by omega) htm (by omega) (HSD.out d) (HRB.out (d + t) (l + 1) _ (by omega)) fun y => ?_
            refine ih (l + 1) (by omega) (by omega) (by omega) (d + t) ((m - t) * r) y.val y.f (by omega) ?_ y.tbl y.inv
            exact Nat.le_trans (Nat.mul_le_mul (show m - t ≤ 20 by omega) hr) (by omega)
          obtain ⟨x0, hx0⟩ : ∃ x0 : LaterX w T Rb k0 ck Z r L lev, w = x0.val := HX.out
          have HGE := Lib.hid hg
          have HL5 := Lib.hid hl5
          have hlow0 : lowDown G m 0 = 1000000000 := rfl
          have HX0 := Lib.hid hx0
          clear ht hi hdn hq ih hne h0 hl5 hg hG hGp hlow0 hx0
          go_enter Try.func162, Try.ntmps162
          go_wp2_with (go_at_call 161; refine (l1LeastI_any _ _ _).mono ?_; rintro e w' ⟨rfl, rfl⟩)
          go_loopw [10, 11] (fun bv tv wr => ∃ (k : Nat) (z : Int) (x : LaterX w T Rb k0 ck Z r L lev), k ≤ m + 1 ∧ bv = .int .i64 (lowDown G m k) ∧ tv = .int .i64 z ∧ z + (k : Int) = (m : Int) ∧ wr = x.val) (fun _ t _ => (intOf t + 1).toNat)
          case atStart => exact ⟨0, _, x0, by omega, rfl, rfl, by omega, HX0.out⟩
          case round =>
            obtain ⟨k, z, x, hk, rfl, rfl, hz, rfl⟩ := hrel
            obtain ⟨b, hb⟩ : ∃ b, b = lowDown G m k := ⟨_, rfl⟩
            have hbb := HLB.out k hk
            rw [← hb] at hbb ⊢
            have HB := Lib.hid hb
            clear hb
            by_cases hkm : k ≤ m
            · obtain ⟨t, rfl⟩ : ∃ t : Nat, z = (t : Int) := ⟨z.toNat, by omega⟩
              have htm : t = m - k := by omega
              have CW := Lib.hid (HCW.out t x (by omega))
              have HN : Hid (lowDown G m (k + 1) = min b (G t)) := by show _ = _; rw [lowDown, HB.out, htm]
              clear htm
              go_wp2_with fail
              refine CW.out.mono ?_
              rintro e w5 ⟨rfl, y, rfl⟩
              go_wp2_with (go_at_call 161; refine (l1LeastI_any _ _ _).mono ?_; rintro e w' ⟨rfl, rfl⟩)
              go_roundw
              case rel => exact ⟨k + 1, (t : Int) - 1, ⟨y.val, y.f, y.tbl, y.inv, x.fr.trans y.fr⟩, by omega, by rw [HN.out], rfl, by omega, rfl⟩
              case measure => (simp [intOf]; try omega)
            · obtain rfl : k = m + 1 := by omega
              obtain rfl : z = -1 := by omega
              have hvb : b = relC r L (Z.drop d) l m := by rw [HB.out]; exact HLOW.out
              have hou2 := x.tbl.outer l hl
              have hmi3 := x.tbl.mid l d hl hd
              have hce2 := x.tbl.cell hl hd hmn20
              rw [HL5.out.1] at hou2
              rw [HL5.out.2, ← HGE.out] at hmi3
              rw [← HGE.out] at hce2
              have r3 := x.tbl.blk.cell 3
              simp only [List.getElem?_cons_zero, List.getElem?_cons_succ] at r3
              have hfz := (x.tbl.rows l d hl hd).frozen m
              rw [← HGE.out] at hfz
              have htb : Tbl (x.val.setCell ⟨g, m, Option.none⟩ (.int .i64 (b + 1))) T Rb k0 ck Z r L lev (upd x.f l d m (b + 1)) := by rw [HGE.out]; exact x.tbl.set hl hd (b + 1)
              have hiv := x.inv.set (l := l) (d := d) (i := m) (v := b + 1) (by rw [hvb])
              have hfr : FrG (flatG lev) w (x.val.setCell ⟨g, m, Option.none⟩ (.int .i64 (b + 1))) := x.fr.trans (frG_set x.val (by rw [HGE.out]; exact x.tbl.mem l d hl hd) _)
              have hou4 := htb.outer l hl
              have hmi4 := htb.mid l d hl hd
              have hce4 := htb.cell hl hd hmn20
              rw [HL5.out.1] at hou4
              rw [HL5.out.2, ← HGE.out] at hmi4
              rw [← HGE.out, show upd x.f l d m (b + 1) l d m = b + 1 by simp [upd]] at hce4
              have r34 := htb.blk.cell 3
              simp only [List.getElem?_cons_zero, List.getElem?_cons_succ] at r34
              have HXX : Hid (∃ y : LaterX w T Rb k0 ck Z r L lev, x.val.setCell ⟨g, m, Option.none⟩ (.int .i64 (b + 1)) = y.val) := ⟨⟨_, _, htb, hiv, hfr⟩, rfl⟩
              have HVB := Lib.hid hvb
              clear hz htb hiv hfr hvb
              go_wp2_with fail
              go_ret
              exact ⟨ret_int (by rw [← HVB.out] <;> omega), HXX.out⟩
        · rw [h0] at hce
          have hb := HRB.out d l m hl1
          obtain ⟨v, hv⟩ : ∃ v, v = relC r L (Z.drop d) l m := ⟨_, rfl⟩
          rw [← hv] at hce hb ⊢
          have hvz : ((v + 1) == 0) = false := by rw [beq_eq_false_iff_ne]; omega
          clear ht hi hdn hq ih hne h0 hv hl5 hg
          go_enter Try.func162, Try.ntmps162
          go_wp2_with (go_at_call 161; refine (l1LeastI_any _ _ _).mono ?_; rintro e w' ⟨rfl, rfl⟩)
          go_ret
          exact ⟨ret_int (by omega), HX.out⟩
end Go.Proofs.Ytjnkdjokbamibaa
/- Contracts: LeastLengths and LeastCost of the reference. -/
namespace Go.Proofs.Ytjnkdjokbamibaa
open Go.RowKit
theorem flat_inj : ∀ (lev : List (Nat × Nat × List Nat)), (flatG lev).Nodup → ∀ (l d l' d' : Nat) (x x' : Nat × Nat × List Nat) (g : Nat), lev[l]? = some x → lev[l']? = some x' → x.2.2[d]? = some g → x'.2.2[d']? = some g → l = l' ∧ d = d'
  | [], _, l, d, l', d', x, x', g, h, _, _, _ => by simp at h
  | y :: lev, hn, l, d, l', d', x, x', g, h1, h2, h3, h4 => by
    have hf : flatG (y :: lev) = y.2.2 ++ flatG lev := by simp [flatG]
    rw [hf, List.nodup_append] at hn
    have hmem : ∀ (k : Nat) (z : Nat × Nat × List Nat), lev[k]? = some z → ∀ b ∈ z.2.2, b ∈ flatG lev := fun k z hz b hb => by
      unfold flatG; rw [List.mem_flatMap]; exact ⟨z, List.mem_of_getElem? hz, hb⟩
    cases l with
    | zero =>
      rw [List.getElem?_cons_zero] at h1; cases h1
      cases l' with
      | zero =>
        rw [List.getElem?_cons_zero] at h2; cases h2
        have := (List.getElem?_inj (i := d) (j := d') (List.getElem?_eq_some_iff.1 h3).1 hn.1).1 (by rw [h3, h4])
        exact ⟨rfl, this⟩
      | succ l' =>
        rw [List.getElem?_cons_succ] at h2
        exact absurd rfl (hn.2.2 g (List.mem_of_getElem? h3) g (hmem l' x' h2 g (List.mem_of_getElem? h4)))
    | succ l =>
      rw [List.getElem?_cons_succ] at h1
      cases l' with
      | zero =>
        rw [List.getElem?_cons_zero] at h2; cases h2
        exact absurd rfl (hn.2.2 g (List.mem_of_getElem? h4) g (hmem l x h1 g (List.mem_of_getElem? h3)))
      | succ l' =>
        rw [List.getElem?_cons_succ] at h2
        have := flat_inj lev hn.2.1 l d l' d' x x' g h1 h2 h3 h4
        exact ⟨by omega, this.2⟩
/-- A newly made table holds noughts. -/
theorem TabNew.tbl {Z : List Int} {r L : Nat} {w0 w : World} {T : Nat} (h : TabNew Z r L w0 w T) : ∃ k0 ck lev, Tbl w T w0.heap.size k0 ck Z r L lev (fun _ _ _ => 0) ∧ (∀ g ∈ flatG lev, T < g ∧ g < w.heap.size) ∧ w0.heap.size < T ∧ Below w0.heap.size w0 w := by
  obtain ⟨K, ck, lev, hT, hblk, hrest, hll, how, hlv, hbl⟩ := h
  obtain ⟨k0, rfl, cur0, hcur0⟩ : ∃ k0, K = some ⟨k0, 0, Option.none⟩ ∧ ∃ cur, w.heap[k0]? = some (.cells cur 61 (0, 0)) := by
    rcases how.2 with ⟨_, e⟩ | ⟨g, cap, cur, e, _, hg, _⟩
    · omega
    · cases e; exact ⟨g, rfl, cur, hg⟩
  have hlev : ∀ l, l ≤ L → ∃ x, lev[l]? = some x ∧ levAt lev l = x := by
    intro l hl
    have h1 := List.getElem?_eq_getElem (l := lev) (i := l) (by omega)
    exact ⟨lev[l], h1, by unfold levAt; rw [List.getD_eq_getElem?_getD, h1]; rfl⟩
  have hg : ∀ l d, l ≤ L → d ≤ Z.length → ∃ x g, lev[l]? = some x ∧ levAt lev l = x ∧ x.2.2[d]? = some g ∧ gAt lev l d = g := by
    intro l d hl hd
    obtain ⟨x, h1, h2⟩ := hlev l hl
    have hlen := (hlv.ok x (List.mem_of_getElem? h1)).len
    have h3 := List.getElem?_eq_getElem (l := x.2.2) (i := d) (by omega)
    exact ⟨x, x.2.2[d], h1, h2, h3, by unfold gAt; rw [h2, List.getD_eq_getElem?_getD, h3]; rfl⟩
  have hmem : ∀ l d, l ≤ L → d ≤ Z.length → gAt lev l d ∈ flatG lev := by
    intro l d hl hd
    obtain ⟨x, g, h1, _, h3, h4⟩ := hg l d hl hd
    rw [h4]; unfold flatG; rw [List.mem_flatMap]
    exact ⟨x, List.mem_of_getElem? h1, List.mem_of_getElem? h3⟩
  have hzero : ∀ g ∈ flatG lev, Blk w g 3 (ints (List.replicate (Z.length + 1) 0)) := by
    intro g hgm
    unfold flatG at hgm
    rw [List.mem_flatMap] at hgm
    obtain ⟨x, hx, hgx⟩ := hgm
    exact (hlv.ok x hx).zero g hgx
  refine ⟨k0, ck, lev, ⟨hblk, hrest, fun l hl => ?_, fun l d hl hd => ?_, fun l d hl hd => ?_, hmem, fun l d l' d' hl hd hl' hd' e => ?_, fun g hgm => ?_⟩, hlv.range, hT, hbl⟩
  · obtain ⟨x, h1, h2⟩ := hlev l hl
    have h3 := how.cells (g := k0) rfl l (lvV (Z.length + 1) x) (by rw [List.getElem?_map, h1]; rfl)
    have hadd : (⟨k0, 0, Option.none⟩ : Addr).add l = ⟨k0, 0 + l, Option.none⟩ := by unfold Addr.add; split <;> simp_all
    rw [hadd, Nat.zero_add] at h3
    rw [h2]; exact h3
  · obtain ⟨x, g, h1, h2, h3, h4⟩ := hg l d hl hd
    obtain ⟨cur, hc, ht⟩ := (hlv.ok x (List.mem_of_getElem? h1)).row
    rw [h2, h4]
    have h5 := congrArg (fun l : List Value => l[d]?) ht
    simp only [List.getElem?_map, h3, List.getElem?_take] at h5
    rw [if_pos (by omega)] at h5
    rw [cell_of_row w x.1 d cur 35 (0, 0) hc]
    simpa using h5
  · have := hzero _ (hmem l d hl hd)
    rw [show (List.range (Z.length + 1)).map (fun _ => (0 : Int)) = List.replicate (Z.length + 1) 0 by rw [List.map_const']; simp]
    exact this
  · obtain ⟨x, g, h1, _, h3, h4⟩ := hg l d hl hd
    obtain ⟨x', g', h1', _, h3', h4'⟩ := hg l' d' hl' hd'
    rw [h4, h4'] at e
    subst e
    exact flat_inj lev hlv.nodup l d l' d' x x' g h1 h1' h3 h3'
  · have hz := hzero g hgm
    have hr := hlv.range g hgm
    refine ⟨by omega, by omega, hz.heap_ne hcur0 (by decide), fun l hl => ?_⟩
    obtain ⟨x, h1, h2⟩ := hlev l hl
    obtain ⟨cur, hc, _⟩ := (hlv.ok x (List.mem_of_getElem? h1)).row
    rw [h2]
    exact hz.heap_ne hc (by decide)
/-- All blocks of the table lie below N. -/
structure TLt (N T Rb k0 : Nat) (Z : List Int) (L : Nat) (lev : List (Nat × Nat × List Nat)) : Prop where
  t : T < N
  rb : Rb < N
  k : k0 < N
  lv : ∀ l, l ≤ L → (levAt lev l).1 < N
  g : ∀ l d, l ≤ L → d ≤ Z.length → gAt lev l d < N
theorem Tbl.tlt {w : World} {T Rb k0 ck : Nat} {Z : List Int} {r L : Nat} {lev : List (Nat × Nat × List Nat)} {f : Nat → Nat → Nat → Int} (h : Tbl w T Rb k0 ck Z r L lev f) : TLt w.heap.size T Rb k0 Z L lev :=
  ⟨h.blk.lt, h.rest.lt, World.block_lt_of_cell? w _ (h.outer 0 (Nat.zero_le _)), fun l hl => World.block_lt_of_cell? w _ (h.mid l 0 hl (Nat.zero_le _)), fun l d hl hd => (h.rows l d hl hd).lt⟩
theorem Tbl.same {w w' : World} {T Rb k0 ck N : Nat} {Z : List Int} {r L : Nat} {lev : List (Nat × Nat × List Nat)} {f : Nat → Nat → Nat → Int} (h : Tbl w T Rb k0 ck Z r L lev f) (hl : TLt N T Rb k0 Z L lev) (hb : Below N w w') : Tbl w' T Rb k0 ck Z r L lev f :=
  ⟨h.blk.below hb hl.t, h.rest.below hb hl.rb, fun l h1 => (hb.cell (p := ⟨k0, l, Option.none⟩) hl.k).trans (h.outer l h1), fun l d h1 h2 => (hb.cell (p := ⟨(levAt lev l).1, d, Option.none⟩) (hl.lv l h1)).trans (h.mid l d h1 h2), fun l d h1 h2 => (h.rows l d h1 h2).below hb (hl.g l d h1 h2), h.mem, h.inj, h.far⟩
theorem FrG.bel {gs : List Nat} {w w' : World} {B : Nat} (h : FrG gs w w') (hg : ∀ g ∈ gs, B ≤ g) : Below B w w' := ⟨h.os, h.tape, h.output, Nat.le_of_eq h.size.symm, fun k hk => h.block k (fun hm => by have := hg k hm; omega)⟩
end Go.Proofs.Ytjnkdjokbamibaa
/- Contracts: LeastLengths and LeastCost of the reference. -/
namespace Go.Proofs.Ytjnkdjokbamibaa
open Go.RowKit
theorem sortW_take {ws : List Int} {k i : Nat} {x : Int} (h : (orderBy (pWei ws) ws.length)[k]? = some i) (hx : x = ws.getD i 0) : (sortW ws).take k ++ [x] = (sortW ws).take (k + 1) := by
  have : (sortW ws)[k]? = some x := by unfold sortW; rw [List.getElem?_map, h, hx]; rfl
  rw [take_snocI this]
/-- What is still to be laid out: the list found for what is left. -/
def Left (r L : Nat) (Z : List Int) (X : List Nat) (level done free : Nat) : Prop := ∃ y, lvl r L (Z.drop done) level free = some y ∧ X.drop done = y.1
theorem Left.start {r L : Nat} {Z : List Int} {x : List Nat × Int} (hr : 1 ≤ r) (hL : 1 ≤ L) (hZ : ∀ w ∈ Z, 0 ≤ w) (h : bst r L Z 1 (r ^ L) = some x) : Left r L Z x.1 1 0 (min r Z.length) := by
  refine ⟨x, ?_, by simp⟩
  rw [List.drop_zero, lvl_min hr hZ]
  unfold lvl
  rw [show r * r ^ (L - 1) = r ^ L by rw [Nat.mul_comm, ← Nat.pow_succ]; congr 1; omega]
  exact h
theorem start_none {r L : Nat} {Z : List Int} (hr : 1 ≤ r) (hL : 1 ≤ L) (hZ : ∀ w ∈ Z, 0 ≤ w) (hb : (L : Int) * sumW Z < 1000000000) : (relC r L Z 1 (min r Z.length) = 1000000000) ↔ bst r L Z 1 (r ^ L) = Option.none := by
  have e : lvl r L Z 1 r = bst r L Z 1 (r ^ L) := by
    unfold lvl
    rw [show r * r ^ (L - 1) = r ^ L by rw [Nat.mul_comm, ← Nat.pow_succ]; congr 1; omega]
  rw [relC_min hr hZ]
  unfold relC
  rw [e]
  cases hb2 : bst r L Z 1 (r ^ L) with
  | none => simp
  | some x =>
    rw [← e] at hb2
    have := (lvl_cheap hZ hb2).2
    simp
    omega
/-- One level is laid out. -/
theorem Left.step {r L : Nat} {Z : List Int} {X : List Nat} {level done free : Nat} (hr : 1 ≤ r) (hZ : ∀ w ∈ Z, 0 ≤ w) (hb : (L : Int) * sumW (Z.drop done) < 1000000000) (h : Left r L Z X level done free) (hf : free ≤ Z.length - done) (h1 : 1 ≤ level) (hd : done < Z.length) :
    level ≤ L ∧ ∃ t, t ≤ free ∧ withC r L (Z.drop done) level free t = relC r L (Z.drop done) level free ∧ (∀ s, t < s → s ≤ free → relC r L (Z.drop done) level free < withC r L (Z.drop done) level free s) ∧
      (∀ k, k < t → X[done + k]? = some level) ∧ Left r L Z X (level + 1) (done + t) (min ((free - t) * r) (Z.length - (done + t))) := by
  obtain ⟨y, hy, hX⟩ := h
  have hne : Z.drop done ≠ [] := by intro e; have := congrArg List.length e; rw [List.length_drop, List.length_nil] at this; omega
  have hlL : level ≤ L := by
    rcases Nat.lt_or_ge L level with h2 | h2
    · rw [lvl_end hne h2] at hy; cases hy
    · exact h2
  have hZd : ∀ w ∈ Z.drop done, 0 ≤ w := fun w hw => hZ w (List.mem_of_mem_drop hw)
  obtain ⟨t, z, ht, hw, hs, hz, he⟩ := lvl_greedy hr hZd (by rw [List.length_drop]; exact hf) h1 hlL hb hy
  refine ⟨hlL, t, ht, hw, hs, fun k hk => ?_, z, ?_, ?_⟩
  · have h2 : (X.drop done)[k]? = some level := by
      rw [hX, he, List.getElem?_append_left (by simp; exact hk), List.getElem?_replicate, if_pos hk]
    rwa [List.getElem?_drop] at h2
  · rw [List.drop_drop] at hz
    have h3 := lvl_min (r := r) (L := L) hr (ws := Z.drop (done + t)) (fun w hw => hZ w (List.mem_of_mem_drop hw)) (level := level + 1) (f := (free - t) * r)
    rw [List.length_drop] at h3
    rw [h3]; exact hz
  · rw [← List.drop_drop, hX, he]
    simp
set_option maxRecDepth 100000 in
set_option maxHeartbeats 16000000 in
theorem cmLengths_any (ls : List Int) (r l : Nat) (v : Value) (hi : Nat) (w : World) (h : RdI w hi v ls) (hh : hi ≤ w.heap.size) (hask : askB ls (r : Int) (l : Int) = true) :
    Calls Try.prog 154 #[v, .int .i64 (r : Int), .int .i64 (l : Int)] w (RetOwT (leastL ls (r : Int) (l : Int)) (leastB ls (r : Int) (l : Int)) w) := by
  have CO := Lib.hid (cmOrder_any ls v hi w h hh (by have := (askB_iff.1 hask).1; omega))
  obtain ⟨A, c, rfl, hc, hm⟩ := Rd.form h
  obtain ⟨hn, hal, hr, hl⟩ := askB_iff.1 hask
  obtain ⟨O, hO⟩ : ∃ O, O = orderBy (pWei ls) ls.length := ⟨_, rfl⟩
  obtain ⟨Z, hZ⟩ : ∃ Z, Z = sortW ls := ⟨_, rfl⟩
  have hOl : O.length = ls.length := by rw [hO, orderBy_len]
  have hZl : Z.length = ls.length := by rw [hZ, sortW_len]
  have HOM : Hid (∀ i ∈ O, i < ls.length) := by show ∀ i ∈ O, i < ls.length; rw [hO]; exact fun i hi => orderBy_lt hi
  have HZP : Hid (∀ w ∈ Z, 0 ≤ w) := by show ∀ w ∈ Z, 0 ≤ w; rw [hZ]; exact sortW_pos hal
  have HZA : Hid (allB Z 0 10000 = true) := by show _ = _; rw [hZ]; exact sortW_all hal
  have HASK := Lib.hid hask
  have HO := Lib.hid hO
  have HZ := Lib.hid hZ
  have HOL := Lib.hid hOl
  have HZL := Lib.hid hZl
  have H := Lib.hid h
  have hmk := make_ints ls.length (by omega)
  clear h hO hZ hOl hZl hask hal
  go_enter Try.func154, Try.ntmps154
  go_wp2_with fail
  refine CO.out.mono ?_
  rintro e w1 ⟨u, rfl, hu, hb1⟩
  rw [← HO.out] at hu
  obtain ⟨A1, c1, rfl, hc1, _⟩ := Rd.form hu
  have hwl : (waysI O).length = ls.length := by rw [waysI_lenN, HOL.out]
  rw [hwl] at hc1 hu ⊢
  have HU := Lib.hid hu
  have HB1 := Lib.hid hb1
  have HWL := Lib.hid hwl
  have HW1 := Lib.hid (RdI.below H.out hb1 hh)
  clear hu hb1 hwl
  go_wp2_with fail
  go_loopw [9, 23] (fun sv i wr => ∃ k : Nat, k ≤ ls.length ∧ i = .int .i64 (k : Int) ∧ Hid (GrowI w1 w1.heap.size wr sv (Z.take k))) (fun _ i _ => ls.length - (intOf i).toNat)
  case atStart => exact ⟨0, Nat.zero_le _, rfl, by rw [List.take_zero]; exact GrowI.start w1⟩
  case round =>
    obtain ⟨k, hk, rfl, hG⟩ := hrel
    by_cases hlt : k < ls.length
    · obtain ⟨i, hi⟩ : ∃ i, O[k]? = some i := ⟨_, List.getElem?_eq_getElem (by rw [HOL.out]; exact hlt)⟩
      have hil := HOM.out i (List.mem_of_getElem? hi)
      obtain ⟨b1, o1, d1, hv, hbb, hco⟩ := RdI.getD (by have := RdI.below HU.out hG.out.2.1 (Nat.le_refl _); rw [← HWL.out] at this; exact this) (k := k) (by rw [HWL.out]; exact hlt)
      rw [show (waysI O).getD k 0 = (i : Int) by unfold waysI; rw [List.getD_eq_getElem?_getD, List.getElem?_map, hi]; rfl] at hco
      cases hv
      obtain ⟨b2, o2, d2, hv, hbb2, hcl⟩ := RdI.getD (RdI.below HW1.out hG.out.2.1 (by have := HB1.out.size; omega)) hil
      cases hv
      obtain ⟨x, hx⟩ : ∃ x, x = ls.getD i 0 := ⟨_, rfl⟩
      rw [← hx] at hcl
      have HTK : Hid (Z.take k ++ [x] = Z.take (k + 1)) := by show _ = _; rw [HZ.out]; exact sortW_take (by rw [← HO.out]; exact hi) hx
      have hlen : (Z.take k).length < 1099511627776 := by rw [List.length_take]; omega
      have HLEN := Lib.hid hlen
      have hil2 : i < ls.length := hil
      clear hi hx hlen
      go_wp2_with (at_builtin; refine GrowI.app rfl (.tmp 27) (.tmp 32) rfl hG.out HLEN.out rfl rfl ?_; intro v' w5 hG')
      rw [HTK.out] at hG'
      have HG' := Lib.hid hG'
      clear hG'
      go_roundw
      case rel => exact ⟨k + 1, by omega, by go_num, HG'.out⟩
      case measure => (simp [intOf]; try omega)
    · obtain rfl : k = ls.length := by omega
      have hG2 := hG.out
      rw [List.take_of_length_le (by rw [HZL.out]; exact Nat.le_refl _)] at hG2
      obtain ⟨A2, c2, rfl, hc2, _⟩ := Rd.form hG2.own.rd
      have CN := Lib.hid (cmNew_any Z r l _ wr.heap.size wr hG2.own.rd (Nat.le_refl _) HZA.out (by rw [HZL.out]; omega) (by rw [HZL.out]; omega) (by omega))
      have HG2 := Lib.hid hG2
      clear hG hG2
      go_wp2_with fail
      refine CN.out.mono ?_
      rintro e w3 ⟨T, rfl, htn⟩
      obtain ⟨k0, ck, lev, ht, hrg, hTw, hbl⟩ := htn.tbl
      have hs3 := ht.blk.lt
      have HBS : Hid (Below w.heap.size w w3) := by
        have h1 := HB1.out.trans (HG2.out.2.1.mono HB1.out.size)
        exact h1.trans (hbl.mono h1.size)
      have HU3 : Hid (RdI w3 w1.heap.size (.slice A1 ls.length c1) (waysI O)) := RdI.below (RdI.below HU.out HG2.out.2.1 (Nat.le_refl _)) hbl HG2.out.2.2
      have hsw : w1.heap.size ≤ wr.heap.size := HG2.out.2.2
      have HRG := Lib.hid hrg
      have HT := Lib.hid ht
      have hmin : min (r : Int) (ls.length : Int) = ((min r ls.length : Nat) : Int) := by omega
      obtain ⟨fr0, hfr0⟩ : ∃ f, f = min r ls.length := ⟨_, rfl⟩
      rw [← hfr0] at hmin
      have HFR := Lib.hid hfr0
      clear htn ht hrg hbl CN hfr0
      go_wp2_with (go_at_call 161; refine (l1LeastI_any _ _ _).mono ?_; rintro e w' ⟨rfl, rfl⟩)
      obtain ⟨N0, hN0⟩ : ∃ N, N = wr.heap.size := ⟨_, rfl⟩
      have HT0 : Hid (Tbl w3 T N0 k0 ck Z r l lev fun _ _ _ => 0) := by rw [hN0]; exact HT.out
      have hN1 : N0 < T := by omega
      have hw1N : w1.heap.size ≤ N0 := by omega
      have hwN : w.heap.size ≤ N0 := by have := HB1.out.size; omega
      clear hN0 HT hTw hsw
      have HTL := Lib.hid HT0.out.tlt
      have hb4 : Below w3.heap.size w3 (w3.alloc (.cells (zeros ls.length) 3)) := (Below.refl _ _).alloc (Nat.le_refl _) _
      have ht4 := HT0.out.same HTL.out hb4
      have hi4 : InvT Z r l (fun _ _ _ => 0) := fun _ _ _ _ _ _ _ => .inl rfl
      have HB0 : Hid (Blk (w3.alloc (.cells (zeros ls.length) 3)) w3.heap.size 3 (ints (List.replicate ls.length 0))) := by
        have := Blk.new w3 3 (zeros ls.length)
        rw [zeros_len] at this
        exact this
      have HBA := Lib.hid hb4
      have CA := Lib.hid fun (lv : Nat) (h1 : 1 ≤ lv) (h2 : lv ≤ l + 1) => cost_any (T := T) (Rb := N0) (k0 := k0) (ck := ck) (Z := Z) (r := r) (L := l) (lev := lev) (by omega) (by omega) (by omega) (by rw [HZL.out]; omega) HZA.out _ lv rfl h1 h2
      have hsum : ∀ l : List Int, (∀ x ∈ l, 0 ≤ x ∧ x ≤ 10000) → 0 ≤ sumW l ∧ sumW l ≤ 10000 * l.length := by
        intro l
        induction l with
        | nil => intro _; simp [sumW]
        | cons x l ih =>
          intro hl
          have h1 := ih (fun y hy => hl y (by simp [hy]))
          have h2 := hl x (by simp)
          simp only [sumW, List.length_cons]
          omega
      have HSD : Hid (∀ d, 0 ≤ sumW (Z.drop d) ∧ sumW (Z.drop d) ≤ 200000) := by
        intro d
        have hall : ∀ x ∈ Z, 0 ≤ x ∧ x ≤ 10000 := by have := HZA.out; unfold allB at this; rw [List.all_eq_true] at this; exact fun x hx => inB_iff.1 (this x hx)
        have := hsum (Z.drop d) (fun x hx => hall x (List.mem_of_mem_drop hx))
        rw [List.length_drop, HZL.out] at this
        omega
      have HBIG : Hid (∀ d, (l : Int) * sumW (Z.drop d) < 1000000000) := by
        intro d
        have h1 := HSD.out d
        have h2 : (l : Int) * sumW (Z.drop d) ≤ 6 * 200000 := Int.mul_le_mul (by omega) h1.2 h1.1 (by omega)
        omega
      have HRB : Hid (∀ d lv fr, 1 ≤ lv → 0 ≤ relC r l (Z.drop d) lv fr ∧ relC r l (Z.drop d) lv fr ≤ 1000000000) := fun d lv fr h1 => relC_bd (fun x hx => HZP.out x (List.mem_of_mem_drop hx)) h1 (HBIG.out d)
      have hcc := CA.out 1 (Nat.le_refl _) (by omega) 0 fr0 _ _ (Nat.zero_le _) (by omega) ht4 hi4
      rw [List.drop_zero] at hcc
      have HSN := Lib.hid (start_none (r := r) (L := l) (Z := Z) (by omega) (by omega) HZP.out (by have := HBIG.out 0; rwa [List.drop_zero] at this))
      have hfz : fr0 = min r Z.length := by rw [HFR.out, HZL.out]
      rw [← hfz] at HSN
      have HLC : Hid (leastC ls (r : Int) (l : Int) = bst r l Z 1 (r ^ l)) := by
        show _ = _
        unfold leastC
        rw [HASK.out, HZ.out]
        simp only [if_true, Int.toNat_natCast]
      have HFZ := Lib.hid hfz
      clear hsum ht4 hi4 hb4 hfz
      cases hbb : bst r l Z 1 (r ^ l) with
      | none =>
        have hq := HSN.out.2 hbb
        rw [hq] at hcc
        have CC := Lib.hid hcc
        have HN : Hid (leastL ls (r : Int) (l : Int) = [] ∧ leastB ls (r : Int) (l : Int) = false) := by
          unfold leastL leastB; rw [HLC.out, hbb]; exact ⟨rfl, rfl⟩
        clear hcc hq hbb
        refine CC.out.mono ?_
        rintro e w5 ⟨rfl, x5, rfl⟩
        go_wp2_with fail
        go_ret2
        rw [HN.out.1, HN.out.2]
        exact retOwT _ (GrowI.nil ((HBS.out.trans (HBA.out.mono HBS.out.size)).trans (x5.fr.bel (fun g hg => by have := HRG.out g hg; omega))))
      | some xx =>
        obtain ⟨X, xk⟩ := xx
        obtain ⟨q, hq⟩ : ∃ q, q = relC r l Z 1 fr0 := ⟨_, rfl⟩
        have hqn : (q == 1000000000) = false := by
          rw [beq_eq_false_iff_ne]
          intro e
          have := HSN.out.1 (by rw [← hq]; exact e)
          rw [hbb] at this
          cases this
        rw [← hq] at hcc
        have CC := Lib.hid hcc
        have HXL : Hid (X.length = ls.length) := by show _ = _; rw [← HZL.out]; exact (bst_bd Z HZP.out _ 1 _ rfl _ hbb).1
        have HLF : Hid (Left r l Z X 1 0 fr0) := by show Left _ _ _ _ _ _ _; rw [HFZ.out]; exact Left.start (by omega) (by omega) HZP.out hbb
        have HN : Hid (leastL ls (r : Int) (l : Int) = layB O ls.length X ∧ leastB ls (r : Int) (l : Int) = true) := by
          unfold leastL leastB; rw [HLC.out, hbb, HO.out]; exact ⟨rfl, rfl⟩
        have hfr0n : fr0 ≤ ls.length := by rw [HFR.out]; exact Nat.min_le_right _ _
        clear hcc hq hbb
        refine CC.out.mono ?_
        rintro e w5 ⟨rfl, x5, rfl⟩
        have HB5 : Hid (Blk x5.val w3.heap.size 3 (ints (layK O ls.length X 0))) := (x5.fr.block _ (fun hm => by have := HRG.out _ hm; omega)).trans HB0.out
        have HL5 : Hid (Below N0 w3 x5.val) := (HBA.out.mono (by omega)).trans (x5.fr.bel (fun g hg => by have := HRG.out g hg; omega))
        go_wp2_with fail
        go_loopw [14, 15, 16] (fun lvv dnv frv wr => ∃ (lv dn fr : Nat) (f : Nat → Nat → Nat → Int), lvv = .int .i64 (lv : Int) ∧ dnv = .int .i64 (dn : Int) ∧ frv = .int .i64 (fr : Int) ∧ 1 ≤ lv ∧ lv ≤ l + 1 ∧ dn ≤ ls.length ∧ fr ≤ ls.length - dn ∧ Hid (Tbl wr T N0 k0 ck Z r l lev f) ∧ Hid (InvT Z r l f) ∧ Hid (Left r l Z X lv dn fr) ∧
          Hid (Blk wr w3.heap.size 3 (ints (layK O ls.length X dn))) ∧ Hid (Below N0 w3 wr)) (fun lv _ _ _ => 8 - (intOf lv).toNat)
        case atStart => exact ⟨1, 0, fr0, x5.f, rfl, rfl, rfl, Nat.le_refl _, by omega, Nat.zero_le _, by omega, x5.tbl, x5.inv, HLF.out, HB5.out, HL5.out⟩
        case round =>
          obtain ⟨lv, dn, fr, f, rfl, rfl, rfl, hlv1, hlvL, hdn, hfr, htb, hiv, hlf, hbk, hbl⟩ := hrel
          by_cases hdlt : dn < ls.length
          · obtain ⟨hlL, t, htf, hwt, hwgt, hXt, hlf2⟩ := hlf.out.step (by omega) HZP.out (HBIG.out dn) (by rw [HZL.out]; exact hfr) hlv1 (by rw [HZL.out]; exact hdlt)
            rw [HZL.out] at hlf2
            have HWT := Lib.hid hwt
            have HWG := Lib.hid hwgt
            have HXT := Lib.hid hXt
            have HLF2 := Lib.hid hlf2
            have hdi : (dn : Int) < (ls.length : Int) := by omega
            have hfr20 : fr ≤ 20 := by omega
            clear hwt hwgt hXt hlf2 hlf
            go_wp2_with fail
            go_loopw [17] (fun tv wr => ∃ (tk : Nat) (f : Nat → Nat → Nat → Int), tv = .int .i64 (tk : Int) ∧ t ≤ tk ∧ tk ≤ fr ∧ Hid (Tbl wr T N0 k0 ck Z r l lev f) ∧ Hid (InvT Z r l f) ∧ Hid (Blk wr w3.heap.size 3 (ints (layK O ls.length X dn))) ∧ Hid (Below N0 w3 wr)) (fun tv _ => (intOf tv).toNat)
            case atStart => exact ⟨fr, f, rfl, htf, Nat.le_refl _, htb.out, hiv.out, hbk.out, hbl.out⟩
            case round =>
              obtain ⟨tk, f, rfl, ht1, ht2, htb, hiv, hbk, hbl⟩ := hrel
              have hdt : dn + tk ≤ Z.length := by rw [HZL.out]; omega
              have cW := with_any (t := tk) (fr := fr) wr htb.out hiv.out hlL (by omega) (by rw [HZL.out]; omega) (by rw [HZL.out]; omega) (by omega) hfr20 ht2 hdt (HSD.out dn) (HRB.out (dn + tk) (lv + 1) ((fr - tk) * r) (by omega)) fun y => CA.out (lv + 1) (by omega) (by omega) (dn + tk) ((fr - tk) * r) y.val y.f hdt (Nat.le_trans (Nat.mul_le_mul (show fr - tk ≤ 20 by omega) (show r ≤ 60 by omega)) (by omega)) y.tbl y.inv
              obtain ⟨a, ha⟩ : ∃ a, a = withC r l (Z.drop dn) lv fr tk := ⟨_, rfl⟩
              obtain ⟨b, hb⟩ : ∃ b, b = relC r l (Z.drop dn) lv fr := ⟨_, rfl⟩
              rw [← ha] at cW
              have CW := Lib.hid cW
              have CB : Hid (∀ (x : LaterX wr T N0 k0 ck Z r l lev), Calls Try.prog 162 #[.pointer (some ⟨T, 0, Option.none⟩), .int .i64 (lv : Int), .int .i64 (dn : Int), .int .i64 (fr : Int)] x.val (PostX x.val T N0 k0 ck Z r l lev b)) := by
                intro x
                have := CA.out lv hlv1 hlvL dn fr x.val x.f (by rw [HZL.out]; omega) (by omega) x.tbl x.inv
                rw [← hb] at this
                exact this
              have HAB : Hid ((tk = t → b = a) ∧ (t < tk → b < a)) := ⟨fun e => by rw [hb, ha, e]; exact HWT.out.symm, fun e => by rw [hb, ha]; exact HWG.out tk e ht2⟩
              have hmulb : (fr - tk) * r ≤ 1200 := Nat.le_trans (Nat.mul_le_mul (show fr - tk ≤ 20 by omega) (show r ≤ 60 by omega)) (by omega)
              clear cW ha hb
              rcases Nat.lt_or_ge t tk with htt | htt
              · have hba := HAB.out.2 htt
                have hbi : decide (b < a) = true := decide_eq_true hba
                go_wp2_with fail
                refine CW.out.mono ?_
                rintro e w6 ⟨rfl, x6, rfl⟩
                have CB6 := Lib.hid (CB.out x6)
                go_wp2_with fail
                refine CB6.out.mono ?_
                rintro e w7 ⟨rfl, x7, rfl⟩
                have hfr67 := x6.fr.trans x7.fr
                have HB7 : Hid (Blk x7.val w3.heap.size 3 (ints (layK O ls.length X dn))) := (hfr67.block _ (fun hm => by have := HRG.out _ hm; omega)).trans hbk.out
                have HL7 : Hid (Below N0 w3 x7.val) := hbl.out.trans (hfr67.bel (fun g hg => by have := HRG.out g hg; omega))
                clear hfr67
                go_wp2_with fail
                go_roundw
                case rel => exact ⟨tk - 1, x7.f, by go_num, by omega, by omega, x7.tbl, x7.inv, HB7.out, HL7.out⟩
                case measure => (simp [intOf]; try omega)
              · obtain rfl : tk = t := by omega
                have hba := HAB.out.1 rfl
                have hbi : ¬ b < a := by omega
                have HBA2 := Lib.hid hba
                clear hba
                have hbi2 : decide (b < a) = false := decide_eq_false hbi
                go_wp2_with fail
                refine CW.out.mono ?_
                rintro e w6 ⟨rfl, x6, rfl⟩
                have CB6 := Lib.hid (CB.out x6)
                go_wp2_with fail
                refine CB6.out.mono ?_
                rintro e w7 ⟨rfl, x7, rfl⟩
                have hfr67 := x6.fr.trans x7.fr
                have HB7 : Hid (Blk x7.val w3.heap.size 3 (ints (layK O ls.length X (dn + 0)))) := (hfr67.block _ (fun hm => by have := HRG.out _ hm; omega)).trans hbk.out
                have HL7 : Hid (Below N0 w3 x7.val) := hbl.out.trans (hfr67.bel (fun g hg => by have := HRG.out g hg; omega))
                clear hfr67
                go_wp2_with fail
                go_loopw [18] (fun kv wr => ∃ (k : Nat), kv = .int .i64 (k : Int) ∧ k ≤ tk ∧ Hid (Tbl wr T N0 k0 ck Z r l lev x7.f) ∧ Hid (Blk wr w3.heap.size 3 (ints (layK O ls.length X (dn + k)))) ∧ Hid (Below N0 w3 wr)) (fun kv _ => tk - (intOf kv).toNat)
                case atStart => exact ⟨0, rfl, Nat.zero_le _, x7.tbl, HB7.out, HL7.out⟩
                case round =>
                  obtain ⟨k, rfl, hkt, htb8, hbk8, hbl8⟩ := hrel
                  by_cases hklt : k < tk
                  · obtain ⟨i, hi⟩ : ∃ i, O[dn + k]? = some i := ⟨_, List.getElem?_eq_getElem (by rw [HOL.out]; omega)⟩
                    have hil := HOM.out i (List.mem_of_getElem? hi)
                    obtain ⟨b1, o1, d1, hv, _, hco⟩ := RdI.getD (by have := RdI.below HU3.out hbl8.out (by omega); rw [← HWL.out] at this; exact this) (k := dn + k) (by rw [HWL.out]; omega)
                    rw [show (waysI O).getD (dn + k) 0 = (i : Int) by unfold waysI; rw [List.getD_eq_getElem?_getD, List.getElem?_map, hi]; rfl] at hco
                    cases hv
                    have hx := HXT.out k hklt
                    have hll := layK_len O ls.length X (dn + k)
                    obtain ⟨u, hu⟩ : ∃ u, (layK O ls.length X (dn + k))[i]? = some u := ⟨_, List.getElem?_eq_getElem (by rw [hll]; exact hil)⟩
                    have hou := hbk8.out.cell i
                    rw [show (ints (layK O ls.length X (dn + k)))[i]? = some (.int .i64 u) by simp [ints, hu]] at hou
                    have hfz := hbk8.out.frozen i
                    have HB9 : Hid (Blk (wr.setCell ⟨w3.heap.size, i, Option.none⟩ (.int .i64 (lv : Int))) w3.heap.size 3 (ints (layK O ls.length X (dn + (k + 1))))) := by
                      have h1 := hbk8.out.set_ i (.int .i64 (lv : Int))
                      show Blk _ _ _ _
                      rw [show dn + (k + 1) = dn + k + 1 by omega, layK_succ hi hx]
                      unfold ints
                      rw [List.map_set]
                      exact h1
                    have HT9 : Hid (Tbl (wr.setCell ⟨w3.heap.size, i, Option.none⟩ (.int .i64 (lv : Int))) T N0 k0 ck Z r l lev x7.f) := htb8.out.same HTL.out ((Below.refl w3.heap.size wr).setCell (p := ⟨w3.heap.size, i, Option.none⟩) (Nat.le_refl _) _)
                    have HL9 : Hid (Below N0 w3 (wr.setCell ⟨w3.heap.size, i, Option.none⟩ (.int .i64 (lv : Int)))) := hbl8.out.setCell (p := ⟨w3.heap.size, i, Option.none⟩) (by show N0 ≤ w3.heap.size; omega) _
                    have hdki : (dn : Int) + (k : Int) < (ls.length : Int) := by omega
                    have hil2 : i < ls.length := hil
                    have hki : (k : Int) < (tk : Int) := by omega
                    clear hi hx hu hll
                    go_wp2_with fail
                    go_roundw
                    case rel => exact ⟨k + 1, by go_num, by omega, HT9.out, HB9.out, HL9.out⟩
                    case measure => (simp [intOf]; try omega)
                  · obtain rfl : k = tk := by omega
                    obtain ⟨m, hm⟩ : ∃ m, m = fr - k := ⟨_, rfl⟩
                    have hsub : (fr : Int) - (k : Int) = (m : Int) := by omega
                    have hmr : 0 ≤ (m : Int) * (r : Int) ∧ (m : Int) * (r : Int) ≤ 1200 := by
                      have h2 : (m : Int) * (r : Int) = ((m * r : Nat) : Int) := by simp
                      rw [h2, hm]
                      omega
                    have HMN : Hid (min ((m : Int) * (r : Int)) ((ls.length : Int) - ((dn : Int) + (k : Int))) = ((min ((fr - k) * r) (ls.length - (dn + k)) : Nat) : Int)) := by
                      show _ = _
                      have h2 : (m : Int) * (r : Int) = ((m * r : Nat) : Int) := by simp
                      rw [h2, hm]
                      omega
                    clear hm
                    go_wp2_with (go_at_call 161; refine (l1LeastI_any _ _ _).mono ?_; rintro e w' ⟨rfl, rfl⟩)
                    go_roundw
                    case rel => exact ⟨lv + 1, dn + k, min ((fr - k) * r) (ls.length - (dn + k)), x7.f, by go_num, by go_num, by rw [HMN.out], by omega, by omega, by omega, Nat.min_le_right _ _, htb8.out, x7.inv, HLF2.out, hbk8.out, hbl8.out⟩
                    case measure => (simp [intOf]; try omega)
          · obtain rfl : dn = ls.length := by omega
            go_wp2_with fail
            go_ret2
            have hll := layK_len O ls.length X ls.length
            have hsz9 := hbl.out.size
            have hown := own_of_blk (lo := w.heap.size) (hi := wr.heap.size) hbk.out (by have := HBS.out.size; omega) hbk.out.lt (by rw [hll]; unfold maxLen; omega)
            rw [hll] at hown
            rw [HN.out.1, HN.out.2]
            refine ⟨.slice (some ⟨w3.heap.size, 0, Option.none⟩) ls.length ls.length, ret_val rfl, ?_, HBS.out.trans (hbl.out.mono hwN)⟩
            unfold layB
            rw [HXL.out]
            exact hown
end Go.Proofs.Ytjnkdjokbamibaa
/- Contracts: drawn lists of numbers: weights, lengths; numbers of digits. -/
namespace Go.Proofs.Ytjnkdjokbamibaa
open Go.RowKit
theorem KeepG.fresh {C D : Nat} {w0 w w' : World} (h : KeepG C D w0 w) (hb : Below w0.heap.size w w') : KeepG C D w0 w' :=
  ⟨hb.os.trans h.os, hb.tape.trans h.tape, hb.output.trans h.output, Nat.le_trans h.size hb.size, fun k hk hn => (hb.block k hk).trans (h.block k hk hn)⟩
theorem KeepG.alloc {C D : Nat} {w0 w : World} (h : KeepG C D w0 w) (o : Obj) : KeepG C D w0 (w.alloc o) := h.trans (below_g ((Below.refl _ w).alloc (Nat.le_refl _) o))
theorem Cur.fresh {w w' : World} {C m B : Nat} (h : Cur w C m) (hb : Below B w w') (hC : C < B) : Cur w' C m := by
  obtain ⟨v, zs, p, s, h1, h2, h3⟩ := h
  exact ⟨v, zs, p, s, h1.below hb hC, Rd.below h2 hb (by omega), h3⟩
theorem owns_keepG {w w' : World} {lo C size n : Nat} {e : TypeId} {v : Value} {xs : List Value} (h : w.ownsRow lo e size v n xs) (hk : KeepG C (C + 1) w w') (hC : C < lo) : w'.ownsRow lo e size v n xs := by
  refine ⟨h.1, ?_⟩
  rcases h.2 with hn | ⟨g, cap, cur, rfl, hl, hg, rest⟩
  · exact .inl hn
  · exact .inr ⟨g, cap, cur, rfl, hl, (hk.block g (Array.getElem?_eq_some_iff.1 hg).1 (by omega)).trans hg, rest⟩
/-- A row of numbers drawn since the world w0; the cursor at C. -/
def DrL (w0 : World) (C m : Nat) (wr : World) (v : Value) (xs : List Int) : Prop := wr.ownsRow w0.heap.size 3 1 v xs.length (ints xs) ∧ Cur wr C m ∧ KeepG C (C + 1) w0 wr
theorem DrL.start {w : World} {C m : Nat} (h : Cur w C m) : DrL w C m w (.slice Option.none 0 0) [] := ⟨World.ownsRow_nil _ _ _ _, h, KeepG.refl _ _ _⟩
theorem DrL.step {w0 wr w' : World} {C m m' : Nat} {v : Value} {xs : List Int} (h : DrL w0 C m wr v xs) (hC : C < w0.heap.size) (hc : Cur w' C m') (hk : KeepG C (C + 1) wr w') : DrL w0 C m' w' v xs :=
  ⟨owns_keepG h.1 hk hC, hc, h.2.2.trans hk⟩
theorem DrL.alloc {w0 wr : World} {C m : Nat} {v : Value} {xs : List Int} (h : DrL w0 C m wr v xs) (o : Obj) : DrL w0 C m (wr.alloc o) v xs :=
  ⟨h.1.alloc o, h.2.1.alloc o, h.2.2.trans (below_g ((Below.refl _ wr).alloc (Nat.le_refl _) o))⟩
theorem DrL.mono {w0 wr : World} {C m m' : Nat} {v : Value} {xs : List Int} (h : DrL w0 C m wr v xs) (hm : m ≤ m') : DrL w0 C m' wr v xs := ⟨h.1, h.2.1.mono hm, h.2.2⟩
theorem DrL.le {w0 wr : World} {C m : Nat} {v : Value} {xs : List Int} (h : DrL w0 C m wr v xs) : w0.heap.size ≤ wr.heap.size := h.2.2.size
theorem DrL.own {w0 wr : World} {C m : Nat} {v : Value} {xs : List Int} (h : DrL w0 C m wr v xs) : OwI wr w0.heap.size wr.heap.size v xs := ⟨h.1, fun k hk => (h.1.lt k hk).2⟩
theorem DrL.rd {w0 wr : World} {C m : Nat} {v : Value} {xs : List Int} (h : DrL w0 C m wr v xs) : RdI wr wr.heap.size v xs := h.own.rd
theorem DrL.form {w0 wr : World} {C m : Nat} {v : Value} {xs : List Int} (h : DrL w0 C m wr v xs) : ∃ A c, v = .slice A xs.length c := by
  obtain ⟨A, c, hv, _⟩ := Rd.form h.rd
  exact ⟨A, c, hv⟩
theorem DrL.grow {w0 wr w' : World} {C m : Nat} {v v' : Value} {xs ys : List Int} (h : DrL w0 C m wr v xs) (hC : C < w0.heap.size) (hG : GrowI wr w0.heap.size w' v' ys) : DrL w0 C m w' v' ys :=
  ⟨hG.1, h.2.1.fresh hG.2.1 hC, h.2.2.fresh hG.2.1⟩
theorem DrL.gr {w0 wr : World} {C m : Nat} {v : Value} {xs : List Int} (h : DrL w0 C m wr v xs) : GrowI wr w0.heap.size wr v xs := ⟨h.1, Below.refl _ _, h.le⟩
theorem DrL.pos {w0 wr : World} {C m : Nat} {v : Value} {xs : List Int} (h : DrL w0 C m wr v xs) (hp : 0 < xs.length) : ∃ g c, v = .slice (some ⟨g, 0, Option.none⟩) xs.length c ∧ w0.heap.size ≤ g := by
  rcases h.1.2 with ⟨_, e⟩ | ⟨g, cap, cur, hv, hl, _⟩
  · omega
  · exact ⟨g, cap, hv, hl⟩
theorem DrL.cell {w0 wr : World} {C m g c : Nat} {xs : List Int} (h : DrL w0 C m wr (.slice (some ⟨g, 0, Option.none⟩) xs.length c) xs) {j : Nat} (hj : j < xs.length) : wr.cell? ⟨g, j, Option.none⟩ = some (.int .i64 xs[j]) ∧ wr.frozen? ⟨g, j, Option.none⟩ = false := by
  refine ⟨?_, h.1.frozenAt j⟩
  rw [h.1.cellAt j (by omega)]
  simp [ints, hj]
theorem DrL.put {w0 wr : World} {C m g c : Nat} {xs : List Int} (h : DrL w0 C m wr (.slice (some ⟨g, 0, Option.none⟩) xs.length c) xs) (hC : C < w0.heap.size) (hg : w0.heap.size ≤ g) (j : Nat) (y : Int) :
    DrL w0 C m (wr.setCell ⟨g, j, Option.none⟩ (.int .i64 y)) (.slice (some ⟨g, 0, Option.none⟩) xs.length c) (xs.set j y) := by
  have h1 := (h.1.stored j (.int .i64 y)).1
  have hb : Below w0.heap.size wr (wr.setCell ⟨g, j, Option.none⟩ (.int .i64 y)) := (Below.refl _ _).setCell hg _
  refine ⟨?_, h.2.1.fresh hb hC, h.2.2.fresh hb⟩
  have h2 : ints (xs.set j y) = (ints xs).set j (.int .i64 y) := by unfold ints; rw [List.map_set]
  rw [h2, List.length_set]
  exact h1
/-- What a call that draws a list leaves. -/
def DrewL (C m N : Nat) (w : World) (e : Ending) (w' : World) : Prop := ∃ v xs, e = .returned v ∧ xs.length ≤ N ∧ DrL w C m w' v xs
/-- A literal row reads on. -/
theorem lit_rd {X w' : World} {C g n : Nat} {zs : List Int} {arr : Array Value} {k : Nat} (hk : KeepG C (C + 1) (X.alloc (.cells arr 3)) w') (hC : C < X.heap.size) (ha : arr.toList = ints zs) (hg : g = X.heap.size) (hn : n = zs.length) (hz : k ≤ zs.length) (hz2 : zs.length ≤ 1000) : RdI w' w'.heap.size (.slice (some ⟨g, 0, Option.none⟩) k n) (zs.take k) := by
  subst hg hn
  have hb : Blk w' X.heap.size 3 (ints zs) := by
    have h0 := Blk.new X 3 arr
    rw [ha] at h0
    exact (hk.block X.heap.size (by simp) (by omega)).trans h0
  have hl : (zs.take k).length = k := by rw [List.length_take]; omega
  have hs := hk.size
  refine ⟨by simp, some ⟨X.heap.size, 0, Option.none⟩, zs.length, by rw [hl], by rw [hl]; omega, by unfold maxLen; omega, fun _ => ⟨X.heap.size, 0, rfl, by simp at hs; omega, fun j u hj => ?_⟩⟩
  rw [show (0 : Nat) + j = j by omega, hb.cell j]
  unfold ints at hj ⊢
  rw [List.map_take, List.getElem?_take] at hj
  split at hj
  · exact hj
  · cases hj
theorem lit_rdD {X w' : World} {C g n : Nat} {zs : List Int} {arr : Array Value} {k : Nat} (hk : KeepG C (C + 1) (X.alloc (.cells arr 3)).drew w') (hC : C < X.heap.size) (ha : arr.toList = ints zs) (hg : g = X.heap.size) (hn : n = zs.length) (hz : k ≤ zs.length) (hz2 : zs.length ≤ 1000) : RdI w' w'.heap.size (.slice (some ⟨g, 0, Option.none⟩) k n) (zs.take k) :=
  lit_rd ((KeepG.drawN _ 1).trans hk) hC ha hg hn hz hz2
set_option maxRecDepth 100000 in
set_option maxHeartbeats 8000000 in
theorem digitsOf_any (C m : Nat) (w : World) (h : Cur w C m) (hm : m ≤ 1099511600000) :
    Calls Try.prog 142 #[.pointer (some ⟨C, 0, Option.none⟩)] w (Drawn C (m + 4) w (fun _ => True)) := by
  have HC := Lib.hid h.lt
  have D0 := Lib.hid (DrL.start h)
  clear h
  go_enter Try.func142, Try.ntmps142
  have hl1 : Lst (w.alloc (.cells #[.int .i64 1, .int .i64 61] 3)) C (.slice (some ⟨w.heap.size, 0, Option.none⟩) 2 2) [1, 61] := lst_new w C [1, 61] D0.out.2.1.lt (by simp) (by simp)
  have c1 := Lib.hid (among_any _ _ C _ _ (D0.out.2.1.alloc _) (by omega) hl1)
  clear hl1
  go_wp2_with fail
  refine c1.out.mono ?_
  rintro e w1 ⟨z1, rfl, hm1, hc1, hk1⟩
  have D1 := Lib.hid ((D0.out.alloc _).step HC.out hc1 hk1)
  have HM1 := Lib.hid hm1
  clear hc1 hk1 hm1 D0
  have hl2 : Lst (w1.alloc (.cells #[.int .i64 2, .int .i64 2, .int .i64 3, .int .i64 4, .int .i64 10, .int .i64 60, .int .i64 z1] 3)) C (.slice (some ⟨w1.heap.size, 0, Option.none⟩) 7 7) [2, 2, 3, 4, 10, 60, z1] := lst_new w1 C [2, 2, 3, 4, 10, 60, z1] D1.out.2.1.lt (by simp) (by simp)
  have c2 := Lib.hid (among_any _ _ C _ _ (D1.out.2.1.alloc _) (by omega) hl2)
  clear hl2
  go_wp2_with fail
  refine c2.out.mono ?_
  rintro e w2 ⟨z2, rfl, hm2, hc2, hk2⟩
  have D2 := Lib.hid ((D1.out.alloc _).step HC.out hc2 hk2)
  have HM2 := Lib.hid hm2
  clear hc2 hk2 hm2 D1
  go_wp2_with fail
  go_ret
  exact ⟨z2, rfl, trivial, D2.out.2.1, D2.out.2.2⟩
theorem ask_lit : ∀ k : Nat, 1 ≤ k → k ≤ 5 → ∀ r : Nat, 2 ≤ r → r ≤ 3 → askB ([8, 4, 2, 1, 1].take k) (r : Int) 6 = true := by
  intro k h1 h2 r h3 h4
  have h : k = 1 ∨ k = 2 ∨ k = 3 ∨ k = 4 ∨ k = 5 := by omega
  have g : r = 2 ∨ r = 3 := by omega
  rcases h with rfl | rfl | rfl | rfl | rfl <;> rcases g with rfl | rfl <;> decide
theorem cmLengths6 (ls : List Int) (r : Nat) (v : Value) (hi : Nat) (w : World) (h : RdI w hi v ls) (hh : hi ≤ w.heap.size) (hask : askB ls (r : Int) 6 = true) :
    Calls Try.prog 154 #[v, .int .i64 (r : Int), .int .i64 6] w (RetOwT (leastL ls (r : Int) 6) (leastB ls (r : Int) 6) w) := cmLengths_any ls r 6 v hi w h hh hask
theorem drL_fresh {w0 wr w7 : World} {C m : Nat} {v : Value} {xs : List Int} (hc : Cur wr C m) (hk : KeepG C (C + 1) w0 wr) (ho : OwI w7 wr.heap.size w7.heap.size v xs) (hb : Below wr.heap.size wr w7) (hC : C < w0.heap.size) : DrL w0 C m w7 v xs :=
  ⟨(ho.mono hk.size (Nat.le_refl _)).1, hc.fresh hb (by have := hk.size; omega), hk.trans (below_g hb)⟩
set_option maxRecDepth 100000 in
set_option maxHeartbeats 8000000 in
theorem lengths_any (C m : Nat) (w : World) (h : Cur w C m) (hm : m ≤ 1099511600000) :
    Calls Try.prog 141 #[.pointer (some ⟨C, 0, Option.none⟩)] w (DrewL C (m + 200) 21 w) := by
  have HC := Lib.hid h.lt
  have D0 := Lib.hid (DrL.start h)
  clear h
  go_enter Try.func141, Try.ntmps141
  have c1 := Lib.hid (one_any 2 C _ w D0.out.2.1 (by omega) (by omega) (by omega))
  go_wp2_with fail
  refine c1.out.mono ?_
  rintro e w1 ⟨z1, rfl, hc1, hk1⟩
  have D1 := Lib.hid (D0.out.step HC.out hc1 hk1)
  clear hc1 hk1 D0
  cases z1
  · have c2 := Lib.hid (pick_any 7 C _ w1 D1.out.2.1 (by omega) (by omega) (by omega))
    go_wp2_with fail
    refine c2.out.mono ?_
    rintro e w2 ⟨z2, rfl, ⟨hz2, hy2⟩, hc2, hk2⟩
    have D2 := Lib.hid (D1.out.step HC.out hc2 hk2)
    clear hc2 hk2 D1
    have c3 := Lib.hid (one_any 16 C _ w2 D2.out.2.1 (by omega) (by omega) (by omega))
    go_wp2_with fail
    refine c3.out.mono ?_
    rintro e w3 ⟨z3, rfl, hc3, hk3⟩
    have D3 := Lib.hid (D2.out.step HC.out hc3 hk3)
    clear hc3 hk3 D2
    cases z3
    · obtain ⟨n0, hn0, hn1⟩ : ∃ n0 : Nat, 1 + z2 = (n0 : Int) ∧ n0 ≤ 21 := ⟨(1 + z2).toNat, by omega, by omega⟩

      have HD := Lib.hid (D3.out.mono (show _ ≤ m + 14 + 4 * 0 by omega))
      clear D3
      go_wp2_with fail
      go_loopw [5] (fun q wr => ∃ (A : Option Addr) (c : Nat) (xs : List Int), q = .slice A xs.length c ∧ xs.length ≤ n0 ∧ Hid (DrL w C (m + 14 + 4 * xs.length) wr (.slice A xs.length c) xs)) (fun q _ => n0 - lenV q)
      case atStart => exact ⟨Option.none, 0, [], rfl, Nat.zero_le _, HD.out⟩
      case round =>
        obtain ⟨A, c, xs, rfl, hxn, DR⟩ := hrel
        clear HD
        by_cases hlt : xs.length < n0
        · have hl21 : Lst (wr.alloc (.cells #[.int .i64 1, .int .i64 2, .int .i64 2, .int .i64 3, .int .i64 3, .int .i64 4, .int .i64 6] 3)) C (.slice (some ⟨wr.heap.size, 0, Option.none⟩) 7 7) [1, 2, 2, 3, 3, 4, 6] := lst_new wr C [1, 2, 2, 3, 3, 4, 6] DR.out.2.1.lt (by simp) (by simp)
          have c21 := Lib.hid (among_any _ _ C _ _ (DR.out.2.1.alloc _) (by omega) hl21)
          clear hl21
          go_wp2_with fail
          refine c21.out.mono ?_
          rintro e w21 ⟨z21, rfl, hm21, hc21, hk21⟩
          have D21 := Lib.hid ((DR.out.alloc _).step HC.out hc21 hk21)
          have HM21 := Lib.hid hm21
          clear hc21 hk21 hm21 DR
          go_wp2_with (at_builtin; refine GrowI.app rfl (.tmp 35) (.tmp 39) rfl D21.out.gr (by omega) rfl rfl ?_; intro v' w' hG')
          have hG2 := D21.out.grow HC.out hG'
          obtain ⟨A', c', rfl⟩ := hG2.form
          have HGG := Lib.hid hG2
          have hlen : (xs ++ [z21]).length = xs.length + 1 := by simp
          clear hG' hG2
          rw [hlen] at HGG ⊢
          go_wp2_with fail
          go_roundw
          case rel => exact ⟨A', c', xs ++ [z21], by rw [hlen], by rw [hlen]; omega, by rw [hlen]; exact HGG.out.mono (by omega)⟩
          case measure => (simp [lenV]; try omega)
        · obtain rfl : n0 = xs.length := by omega
          have DE := DR
          clear DR
          have hmx : m + 14 + 4 * xs.length ≤ 1099511626000 := by omega
          rcases Nat.eq_zero_or_pos xs.length with h0 | hpos
          · have hgz : decide (0 < xs.length) = false := decide_eq_false (by omega)
            go_wp2_with fail
            go_ret
            exact ⟨_, xs, rfl, by omega, DE.out.mono (by omega)⟩
          · have hgz : decide (0 < xs.length) = true := decide_eq_true hpos
            have c41 := Lib.hid (one_any 24 C _ wr DE.out.2.1 (by omega) (by omega) (by omega))
            go_wp2_with fail
            refine c41.out.mono ?_
            rintro e w41 ⟨z41, rfl, hc41, hk41⟩
            have D41 := Lib.hid (DE.out.step HC.out hc41 hk41)
            clear hc41 hk41 DE
            cases z41
            · go_wp2_with fail
              go_ret
              exact ⟨_, xs, rfl, by omega, D41.out.mono (by omega)⟩
            · have c61 := Lib.hid (pick_any (xs.length : Int) C _ w41 D41.out.2.1 (by omega) (by omega) (by omega))
              go_wp2_with fail
              refine c61.out.mono ?_
              rintro e w61 ⟨z61, rfl, ⟨hz61, hy61⟩, hc61, hk61⟩
              have D61 := Lib.hid (D41.out.step HC.out hc61 hk61)
              clear hc61 hk61 D41
              have hl62 : Lst (w61.alloc (.cells #[.int .i64 0, .int .i64 6, .int .i64 7] 3)) C (.slice (some ⟨w61.heap.size, 0, Option.none⟩) 3 3) [0, 6, 7] := lst_new w61 C [0, 6, 7] D61.out.2.1.lt (by simp) (by simp)
              have c62 := Lib.hid (among_any _ _ C _ _ (D61.out.2.1.alloc _) (by omega) hl62)
              clear hl62
              go_wp2_with fail
              refine c62.out.mono ?_
              rintro e w62 ⟨z62, rfl, hm62, hc62, hk62⟩
              have D62 := Lib.hid ((D61.out.alloc _).step HC.out hc62 hk62)
              have HM62 := Lib.hid hm62
              clear hc62 hk62 hm62 D61
              obtain ⟨j, rfl⟩ : ∃ k : Nat, z61 = (k : Int) := ⟨z61.toNat, by omega⟩
              have hjx : j < xs.length := by omega
              obtain ⟨g, c2, hv, hg⟩ := D62.out.pos hpos
              cases hv
              have hce := D62.out.cell hjx
              obtain ⟨ow, how⟩ : ∃ ow, ow = xs[j] := ⟨_, rfl⟩
              rw [← how] at hce
              have hc1 := hce.1
              have hc2 := hce.2
              have HP := Lib.hid (D62.out.put HC.out hg j z62)
              have HLS : Hid ((xs.set j z62).length = xs.length) := by show _ = _; rw [List.length_set]
              clear hce how
              go_wp2_with fail
              go_ret
              exact ⟨_, xs.set j z62, rfl, by rw [HLS.out]; omega, HP.out.mono (by omega)⟩
    · have hl4 : Lst (w3.alloc (.cells #[.int .i64 0, .int .i64 20, .int .i64 21] 3)) C (.slice (some ⟨w3.heap.size, 0, Option.none⟩) 3 3) [0, 20, 21] := lst_new w3 C [0, 20, 21] D3.out.2.1.lt (by simp) (by simp)
      have c4 := Lib.hid (among_any _ _ C _ _ (D3.out.2.1.alloc _) (by omega) hl4)
      clear hl4
      go_wp2_with fail
      refine c4.out.mono ?_
      rintro e w4 ⟨z4, rfl, hm4, hc4, hk4⟩
      have D4 := Lib.hid ((D3.out.alloc _).step HC.out hc4 hk4)
      have HM4 := Lib.hid hm4
      clear hc4 hk4 hm4 D3
      obtain ⟨n0, rfl, hn1⟩ : ∃ n0 : Nat, z4 = (n0 : Int) ∧ n0 ≤ 21 := by
        have h3 := HM4.out
        simp at h3
        exact ⟨z4.toNat, by omega, by omega⟩
      have HD := Lib.hid (D4.out.mono (show _ ≤ m + 14 + 4 * 0 by omega))
      clear D4
      go_wp2_with fail
      go_loopw [5] (fun q wr => ∃ (A : Option Addr) (c : Nat) (xs : List Int), q = .slice A xs.length c ∧ xs.length ≤ n0 ∧ Hid (DrL w C (m + 14 + 4 * xs.length) wr (.slice A xs.length c) xs)) (fun q _ => n0 - lenV q)
      case atStart => exact ⟨Option.none, 0, [], rfl, Nat.zero_le _, HD.out⟩
      case round =>
        obtain ⟨A, c, xs, rfl, hxn, DR⟩ := hrel
        clear HD
        by_cases hlt : xs.length < n0
        · have hl21 : Lst (wr.alloc (.cells #[.int .i64 1, .int .i64 2, .int .i64 2, .int .i64 3, .int .i64 3, .int .i64 4, .int .i64 6] 3)) C (.slice (some ⟨wr.heap.size, 0, Option.none⟩) 7 7) [1, 2, 2, 3, 3, 4, 6] := lst_new wr C [1, 2, 2, 3, 3, 4, 6] DR.out.2.1.lt (by simp) (by simp)
          have c21 := Lib.hid (among_any _ _ C _ _ (DR.out.2.1.alloc _) (by omega) hl21)
          clear hl21
          go_wp2_with fail
          refine c21.out.mono ?_
          rintro e w21 ⟨z21, rfl, hm21, hc21, hk21⟩
          have D21 := Lib.hid ((DR.out.alloc _).step HC.out hc21 hk21)
          have HM21 := Lib.hid hm21
          clear hc21 hk21 hm21 DR
          go_wp2_with (at_builtin; refine GrowI.app rfl (.tmp 35) (.tmp 39) rfl D21.out.gr (by omega) rfl rfl ?_; intro v' w' hG')
          have hG2 := D21.out.grow HC.out hG'
          obtain ⟨A', c', rfl⟩ := hG2.form
          have HGG := Lib.hid hG2
          have hlen : (xs ++ [z21]).length = xs.length + 1 := by simp
          clear hG' hG2
          rw [hlen] at HGG ⊢
          go_wp2_with fail
          go_roundw
          case rel => exact ⟨A', c', xs ++ [z21], by rw [hlen], by rw [hlen]; omega, by rw [hlen]; exact HGG.out.mono (by omega)⟩
          case measure => (simp [lenV]; try omega)
        · obtain rfl : n0 = xs.length := by omega
          have DE := DR
          clear DR
          have hmx : m + 14 + 4 * xs.length ≤ 1099511626000 := by omega
          rcases Nat.eq_zero_or_pos xs.length with h0 | hpos
          · have hgz : decide (0 < xs.length) = false := decide_eq_false (by omega)
            go_wp2_with fail
            go_ret
            exact ⟨_, xs, rfl, by omega, DE.out.mono (by omega)⟩
          · have hgz : decide (0 < xs.length) = true := decide_eq_true hpos
            have c41 := Lib.hid (one_any 24 C _ wr DE.out.2.1 (by omega) (by omega) (by omega))
            go_wp2_with fail
            refine c41.out.mono ?_
            rintro e w41 ⟨z41, rfl, hc41, hk41⟩
            have D41 := Lib.hid (DE.out.step HC.out hc41 hk41)
            clear hc41 hk41 DE
            cases z41
            · go_wp2_with fail
              go_ret
              exact ⟨_, xs, rfl, by omega, D41.out.mono (by omega)⟩
            · have c61 := Lib.hid (pick_any (xs.length : Int) C _ w41 D41.out.2.1 (by omega) (by omega) (by omega))
              go_wp2_with fail
              refine c61.out.mono ?_
              rintro e w61 ⟨z61, rfl, ⟨hz61, hy61⟩, hc61, hk61⟩
              have D61 := Lib.hid (D41.out.step HC.out hc61 hk61)
              clear hc61 hk61 D41
              have hl62 : Lst (w61.alloc (.cells #[.int .i64 0, .int .i64 6, .int .i64 7] 3)) C (.slice (some ⟨w61.heap.size, 0, Option.none⟩) 3 3) [0, 6, 7] := lst_new w61 C [0, 6, 7] D61.out.2.1.lt (by simp) (by simp)
              have c62 := Lib.hid (among_any _ _ C _ _ (D61.out.2.1.alloc _) (by omega) hl62)
              clear hl62
              go_wp2_with fail
              refine c62.out.mono ?_
              rintro e w62 ⟨z62, rfl, hm62, hc62, hk62⟩
              have D62 := Lib.hid ((D61.out.alloc _).step HC.out hc62 hk62)
              have HM62 := Lib.hid hm62
              clear hc62 hk62 hm62 D61
              obtain ⟨j, rfl⟩ : ∃ k : Nat, z61 = (k : Int) := ⟨z61.toNat, by omega⟩
              have hjx : j < xs.length := by omega
              obtain ⟨g, c2, hv, hg⟩ := D62.out.pos hpos
              cases hv
              have hce := D62.out.cell hjx
              obtain ⟨ow, how⟩ : ∃ ow, ow = xs[j] := ⟨_, rfl⟩
              rw [← how] at hce
              have hc1 := hce.1
              have hc2 := hce.2
              have HP := Lib.hid (D62.out.put HC.out hg j z62)
              have HLS : Hid ((xs.set j z62).length = xs.length) := by show _ = _; rw [List.length_set]
              clear hce how
              go_wp2_with fail
              go_ret
              exact ⟨_, xs.set j z62, rfl, by rw [HLS.out]; omega, HP.out.mono (by omega)⟩
  · have HASK := Lib.hid ask_lit
    have hcA : ∀ o, Cur (w1.alloc o).drew C (m + 2) := fun o => D1.out.2.1.alloc o
    have hcB : Cur w1.drew C (m + 2) := D1.out.2.1
    have hkA : ∀ o, KeepG C (C + 1) w (w1.alloc o).drew := fun o => (D1.out.2.2.alloc o).trans (KeepG.drawN (w1.alloc o) 1)
    have hkB : KeepG C (C + 1) w w1.drew := D1.out.2.2.trans (KeepG.drawN w1 1)
    have HC1 := Lib.hid D1.out.2.1.lt
    go_wp2_with fail
    go_region_law (first
      | ((go_simp; go_at_call 94; (with_reducible refine (pick_any 5 C (m + 2) _ (by first | (with_reducible exact hcA _) | (with_reducible exact hcB)) (by omega) (by omega) (by omega)).mono ?_); rintro e w5 ⟨z5, rfl, ⟨hz5, hy5⟩, hc5, hk5⟩; obtain ⟨k5, h5e⟩ : ∃ k : Nat, 1 + z5 = (k : Int) := ⟨(1 + z5).toNat, by omega⟩; have hw5 : (k5 : Int) ≤ 5 := (by omega); have hv5 : 1 ≤ (k5 : Int) := (by omega); have hwr5 : IntKind.i64.wrap (k5 : Int) = (k5 : Int) := wrap_in (by omega); have kk5 : KeepG C (C + 1) w w5 := (by first | (with_reducible exact (hkA _).trans hk5) | (with_reducible exact hkB.trans hk5))))
      | ((go_simp; go_at_call 94; (with_reducible refine (pick_any 2 C (m + 2 + 2) _ (by first | (with_reducible exact hc5) | (with_reducible exact Cur.alloc hc5 _)) (by omega) (by omega) (by omega)).mono ?_); rintro e w6 ⟨z6, rfl, ⟨hz6, hy6⟩, hc6, hk6⟩; obtain ⟨r6, h6e⟩ : ∃ k : Nat, 2 + z6 = (k : Int) := ⟨(2 + z6).toNat, by omega⟩; have hw6 : (r6 : Int) ≤ 3 := (by omega); have hv6 : 2 ≤ (r6 : Int) := (by omega); have hwr6 : IntKind.i64.wrap (r6 : Int) = (r6 : Int) := wrap_in (by omega); have kk6 : KeepG C (C + 1) w w6 := (by first | (with_reducible exact kk5.trans hk6) | (with_reducible exact (kk5.alloc _).trans hk6))))
      | ((go_simp; go_at_call 154; (with_reducible refine (cmLengths6 ([8, 4, 2, 1, 1].take k5) r6 _ _ _ (by (first | (with_reducible refine lit_rdD (zs := [8, 4, 2, 1, 1]) (hk5.trans hk6) ?_ ?_ ?_ ?_ ?_ ?_) | (with_reducible refine lit_rd (zs := [8, 4, 2, 1, 1]) hk6 ?_ ?_ ?_ ?_ ?_ ?_) | (with_reducible refine lit_rd (zs := [8, 4, 2, 1, 1]) (KeepG.refl C (C + 1) _) ?_ ?_ ?_ ?_ ?_ ?_)) <;> first | rfl | exact HC1.out | exact hc5.lt | exact hc6.lt | (simp; omega) | simp) (Nat.le_refl _) (HASK.out k5 (by omega) (by omega) r6 (by omega) (by omega))).mono ?_); rintro e w7 ⟨v7, rfl, ho7, hb7⟩; have D7 := Lib.hid (show DrL w C (m + 2 + 2 + 2) w7 v7 (leastL ([8, 4, 2, 1, 1].take k5) (r6 : Int) 6) by first | (with_reducible exact drL_fresh hc6 kk6 ho7 hb7 HC.out) | (with_reducible exact drL_fresh (hc6.alloc _) (kk6.alloc _) ho7 hb7 HC.out)))))
    all_goals
      have hlb := leastL_len ([8, 4, 2, 1, 1].take k5) (r6 : Int) 6
      have HLB := Lib.hid hlb
      obtain ⟨lst, hlst⟩ : ∃ lst, lst = leastL ([8, 4, 2, 1, 1].take k5) (r6 : Int) 6 := ⟨_, rfl⟩
      rw [← hlst] at D7 HLB
      clear hlst hlb
      clear hc5 hc6 hk5 hk6 kk5 kk6 hcA hcB hkA hkB ho7 hb7
      cases hok : leastB ([8, 4, 2, 1, 1].take k5) (r6 : Int) 6
      · clear hok
        have DN : Hid (DrL w C (m + 2 + 2 + 2) w7 (.slice Option.none 0 0) []) := ⟨World.ownsRow_nil _ _ _ _, D7.out.2⟩
        go_wp2_with fail
        have c8 := Lib.hid (pick_any 7 C _ w7 DN.out.2.1 (by omega) (by omega) (by omega))
        go_wp2_with fail
        refine c8.out.mono ?_
        rintro e w8 ⟨z8, rfl, ⟨hz8, hy8⟩, hc8, hk8⟩
        have D8 := Lib.hid (DN.out.step HC.out hc8 hk8)
        clear hc8 hk8 DN
        have c9 := Lib.hid (one_any 16 C _ w8 D8.out.2.1 (by omega) (by omega) (by omega))
        go_wp2_with fail
        refine c9.out.mono ?_
        rintro e w9 ⟨z9, rfl, hc9, hk9⟩
        have D9 := Lib.hid (D8.out.step HC.out hc9 hk9)
        clear hc9 hk9 D8
        cases z9
        · obtain ⟨n0, hn0, hn1⟩ : ∃ n0 : Nat, 1 + z8 = (n0 : Int) ∧ n0 ≤ 21 := ⟨(1 + z8).toNat, by omega, by omega⟩

          have HD := Lib.hid (D9.out.mono (show _ ≤ m + 14 + 4 * 0 by omega))
          clear D9
          go_wp2_with fail
          go_loopw [5] (fun q wr => ∃ (A : Option Addr) (c : Nat) (xs : List Int), q = .slice A xs.length c ∧ xs.length ≤ n0 ∧ Hid (DrL w C (m + 14 + 4 * xs.length) wr (.slice A xs.length c) xs)) (fun q _ => n0 - lenV q)
          case atStart => exact ⟨Option.none, 0, [], rfl, Nat.zero_le _, HD.out⟩
          case round =>
            obtain ⟨A, c, xs, rfl, hxn, DR⟩ := hrel
            clear HD
            by_cases hlt : xs.length < n0
            · have hl21 : Lst (wr.alloc (.cells #[.int .i64 1, .int .i64 2, .int .i64 2, .int .i64 3, .int .i64 3, .int .i64 4, .int .i64 6] 3)) C (.slice (some ⟨wr.heap.size, 0, Option.none⟩) 7 7) [1, 2, 2, 3, 3, 4, 6] := lst_new wr C [1, 2, 2, 3, 3, 4, 6] DR.out.2.1.lt (by simp) (by simp)
              have c21 := Lib.hid (among_any _ _ C _ _ (DR.out.2.1.alloc _) (by omega) hl21)
              clear hl21
              go_wp2_with fail
              refine c21.out.mono ?_
              rintro e w21 ⟨z21, rfl, hm21, hc21, hk21⟩
              have D21 := Lib.hid ((DR.out.alloc _).step HC.out hc21 hk21)
              have HM21 := Lib.hid hm21
              clear hc21 hk21 hm21 DR
              go_wp2_with (at_builtin; refine GrowI.app rfl (.tmp 35) (.tmp 39) rfl D21.out.gr (by omega) rfl rfl ?_; intro v' w' hG')
              have hG2 := D21.out.grow HC.out hG'
              obtain ⟨A', c', rfl⟩ := hG2.form
              have HGG := Lib.hid hG2
              have hlen : (xs ++ [z21]).length = xs.length + 1 := by simp
              clear hG' hG2
              rw [hlen] at HGG ⊢
              go_wp2_with fail
              go_roundw
              case rel => exact ⟨A', c', xs ++ [z21], by rw [hlen], by rw [hlen]; omega, by rw [hlen]; exact HGG.out.mono (by omega)⟩
              case measure => (simp [lenV]; try omega)
            · obtain rfl : n0 = xs.length := by omega
              have DE := DR
              clear DR
              have hmx : m + 14 + 4 * xs.length ≤ 1099511626000 := by omega
              rcases Nat.eq_zero_or_pos xs.length with h0 | hpos
              · have hgz : decide (0 < xs.length) = false := decide_eq_false (by omega)
                go_wp2_with fail
                go_ret
                exact ⟨_, xs, rfl, by omega, DE.out.mono (by omega)⟩
              · have hgz : decide (0 < xs.length) = true := decide_eq_true hpos
                have c41 := Lib.hid (one_any 24 C _ wr DE.out.2.1 (by omega) (by omega) (by omega))
                go_wp2_with fail
                refine c41.out.mono ?_
                rintro e w41 ⟨z41, rfl, hc41, hk41⟩
                have D41 := Lib.hid (DE.out.step HC.out hc41 hk41)
                clear hc41 hk41 DE
                cases z41
                · go_wp2_with fail
                  go_ret
                  exact ⟨_, xs, rfl, by omega, D41.out.mono (by omega)⟩
                · have c61 := Lib.hid (pick_any (xs.length : Int) C _ w41 D41.out.2.1 (by omega) (by omega) (by omega))
                  go_wp2_with fail
                  refine c61.out.mono ?_
                  rintro e w61 ⟨z61, rfl, ⟨hz61, hy61⟩, hc61, hk61⟩
                  have D61 := Lib.hid (D41.out.step HC.out hc61 hk61)
                  clear hc61 hk61 D41
                  have hl62 : Lst (w61.alloc (.cells #[.int .i64 0, .int .i64 6, .int .i64 7] 3)) C (.slice (some ⟨w61.heap.size, 0, Option.none⟩) 3 3) [0, 6, 7] := lst_new w61 C [0, 6, 7] D61.out.2.1.lt (by simp) (by simp)
                  have c62 := Lib.hid (among_any _ _ C _ _ (D61.out.2.1.alloc _) (by omega) hl62)
                  clear hl62
                  go_wp2_with fail
                  refine c62.out.mono ?_
                  rintro e w62 ⟨z62, rfl, hm62, hc62, hk62⟩
                  have D62 := Lib.hid ((D61.out.alloc _).step HC.out hc62 hk62)
                  have HM62 := Lib.hid hm62
                  clear hc62 hk62 hm62 D61
                  obtain ⟨j, rfl⟩ : ∃ k : Nat, z61 = (k : Int) := ⟨z61.toNat, by omega⟩
                  have hjx : j < xs.length := by omega
                  obtain ⟨g, c2, hv, hg⟩ := D62.out.pos hpos
                  cases hv
                  have hce := D62.out.cell hjx
                  obtain ⟨ow, how⟩ : ∃ ow, ow = xs[j] := ⟨_, rfl⟩
                  rw [← how] at hce
                  have hc1 := hce.1
                  have hc2 := hce.2
                  have HP := Lib.hid (D62.out.put HC.out hg j z62)
                  have HLS : Hid ((xs.set j z62).length = xs.length) := by show _ = _; rw [List.length_set]
                  clear hce how
                  go_wp2_with fail
                  go_ret
                  exact ⟨_, xs.set j z62, rfl, by rw [HLS.out]; omega, HP.out.mono (by omega)⟩
        · have hl10 : Lst (w9.alloc (.cells #[.int .i64 0, .int .i64 20, .int .i64 21] 3)) C (.slice (some ⟨w9.heap.size, 0, Option.none⟩) 3 3) [0, 20, 21] := lst_new w9 C [0, 20, 21] D9.out.2.1.lt (by simp) (by simp)
          have c10 := Lib.hid (among_any _ _ C _ _ (D9.out.2.1.alloc _) (by omega) hl10)
          clear hl10
          go_wp2_with fail
          refine c10.out.mono ?_
          rintro e w10 ⟨z10, rfl, hm10, hc10, hk10⟩
          have D10 := Lib.hid ((D9.out.alloc _).step HC.out hc10 hk10)
          have HM10 := Lib.hid hm10
          clear hc10 hk10 hm10 D9
          obtain ⟨n0, rfl, hn1⟩ : ∃ n0 : Nat, z10 = (n0 : Int) ∧ n0 ≤ 21 := by
            have h3 := HM10.out
            simp at h3
            exact ⟨z10.toNat, by omega, by omega⟩
          have HD := Lib.hid (D10.out.mono (show _ ≤ m + 14 + 4 * 0 by omega))
          clear D10
          go_wp2_with fail
          go_loopw [5] (fun q wr => ∃ (A : Option Addr) (c : Nat) (xs : List Int), q = .slice A xs.length c ∧ xs.length ≤ n0 ∧ Hid (DrL w C (m + 14 + 4 * xs.length) wr (.slice A xs.length c) xs)) (fun q _ => n0 - lenV q)
          case atStart => exact ⟨Option.none, 0, [], rfl, Nat.zero_le _, HD.out⟩
          case round =>
            obtain ⟨A, c, xs, rfl, hxn, DR⟩ := hrel
            clear HD
            by_cases hlt : xs.length < n0
            · have hl21 : Lst (wr.alloc (.cells #[.int .i64 1, .int .i64 2, .int .i64 2, .int .i64 3, .int .i64 3, .int .i64 4, .int .i64 6] 3)) C (.slice (some ⟨wr.heap.size, 0, Option.none⟩) 7 7) [1, 2, 2, 3, 3, 4, 6] := lst_new wr C [1, 2, 2, 3, 3, 4, 6] DR.out.2.1.lt (by simp) (by simp)
              have c21 := Lib.hid (among_any _ _ C _ _ (DR.out.2.1.alloc _) (by omega) hl21)
              clear hl21
              go_wp2_with fail
              refine c21.out.mono ?_
              rintro e w21 ⟨z21, rfl, hm21, hc21, hk21⟩
              have D21 := Lib.hid ((DR.out.alloc _).step HC.out hc21 hk21)
              have HM21 := Lib.hid hm21
              clear hc21 hk21 hm21 DR
              go_wp2_with (at_builtin; refine GrowI.app rfl (.tmp 35) (.tmp 39) rfl D21.out.gr (by omega) rfl rfl ?_; intro v' w' hG')
              have hG2 := D21.out.grow HC.out hG'
              obtain ⟨A', c', rfl⟩ := hG2.form
              have HGG := Lib.hid hG2
              have hlen : (xs ++ [z21]).length = xs.length + 1 := by simp
              clear hG' hG2
              rw [hlen] at HGG ⊢
              go_wp2_with fail
              go_roundw
              case rel => exact ⟨A', c', xs ++ [z21], by rw [hlen], by rw [hlen]; omega, by rw [hlen]; exact HGG.out.mono (by omega)⟩
              case measure => (simp [lenV]; try omega)
            · obtain rfl : n0 = xs.length := by omega
              have DE := DR
              clear DR
              have hmx : m + 14 + 4 * xs.length ≤ 1099511626000 := by omega
              rcases Nat.eq_zero_or_pos xs.length with h0 | hpos
              · have hgz : decide (0 < xs.length) = false := decide_eq_false (by omega)
                go_wp2_with fail
                go_ret
                exact ⟨_, xs, rfl, by omega, DE.out.mono (by omega)⟩
              · have hgz : decide (0 < xs.length) = true := decide_eq_true hpos
                have c41 := Lib.hid (one_any 24 C _ wr DE.out.2.1 (by omega) (by omega) (by omega))
                go_wp2_with fail
                refine c41.out.mono ?_
                rintro e w41 ⟨z41, rfl, hc41, hk41⟩
                have D41 := Lib.hid (DE.out.step HC.out hc41 hk41)
                clear hc41 hk41 DE
                cases z41
                · go_wp2_with fail
                  go_ret
                  exact ⟨_, xs, rfl, by omega, D41.out.mono (by omega)⟩
                · have c61 := Lib.hid (pick_any (xs.length : Int) C _ w41 D41.out.2.1 (by omega) (by omega) (by omega))
                  go_wp2_with fail
                  refine c61.out.mono ?_
                  rintro e w61 ⟨z61, rfl, ⟨hz61, hy61⟩, hc61, hk61⟩
                  have D61 := Lib.hid (D41.out.step HC.out hc61 hk61)
                  clear hc61 hk61 D41
                  have hl62 : Lst (w61.alloc (.cells #[.int .i64 0, .int .i64 6, .int .i64 7] 3)) C (.slice (some ⟨w61.heap.size, 0, Option.none⟩) 3 3) [0, 6, 7] := lst_new w61 C [0, 6, 7] D61.out.2.1.lt (by simp) (by simp)
                  have c62 := Lib.hid (among_any _ _ C _ _ (D61.out.2.1.alloc _) (by omega) hl62)
                  clear hl62
                  go_wp2_with fail
                  refine c62.out.mono ?_
                  rintro e w62 ⟨z62, rfl, hm62, hc62, hk62⟩
                  have D62 := Lib.hid ((D61.out.alloc _).step HC.out hc62 hk62)
                  have HM62 := Lib.hid hm62
                  clear hc62 hk62 hm62 D61
                  obtain ⟨j, rfl⟩ : ∃ k : Nat, z61 = (k : Int) := ⟨z61.toNat, by omega⟩
                  have hjx : j < xs.length := by omega
                  obtain ⟨g, c2, hv, hg⟩ := D62.out.pos hpos
                  cases hv
                  have hce := D62.out.cell hjx
                  obtain ⟨ow, how⟩ : ∃ ow, ow = xs[j] := ⟨_, rfl⟩
                  rw [← how] at hce
                  have hc1 := hce.1
                  have hc2 := hce.2
                  have HP := Lib.hid (D62.out.put HC.out hg j z62)
                  have HLS : Hid ((xs.set j z62).length = xs.length) := by show _ = _; rw [List.length_set]
                  clear hce how
                  go_wp2_with fail
                  go_ret
                  exact ⟨_, xs.set j z62, rfl, by rw [HLS.out]; omega, HP.out.mono (by omega)⟩
      · clear hok
        go_wp2_with fail
        go_ret
        exact ⟨v7, _, rfl, Nat.le_trans HLB.out (by omega), D7.out.mono (by omega)⟩
end Go.Proofs.Ytjnkdjokbamibaa
/- Contracts: drawn arguments of the functions on codes. -/
namespace Go.Proofs.Ytjnkdjokbamibaa
open Go.RowKit
theorem DrL.after {w0 w1 w' : World} {C m m' : Nat} {v u : Value} {xs ys : List Int} (h : DrL w0 C m w1 v xs) (hC : C < w0.heap.size) (g : DrL w1 C m' w' u ys) : DrL w0 C m' w' v xs := h.step hC g.2.1 g.2.2
set_option maxRecDepth 100000 in
set_option maxHeartbeats 8000000 in
theorem DrawKraftSum_any (zs : List UInt8) (v : Value) (hi : Nat) (w : World) (h : RdU w hi v zs) (hh : hi ≤ w.heap.size) :
    Calls Try.prog 95 #[v] w fun e w' => ∃ (u : Value) (xs : List Int) (r : Int), e = .returned (.tuple #[u, .int .i64 r]) ∧ xs.length ≤ 21 ∧ RdI w' w'.heap.size u xs ∧ Below w.heap.size w w' := by
  obtain ⟨A, c, rfl, hc, hm⟩ := Rd.form h
  have HCU := Lib.hid (cur_new h hh)
  have HC : Hid (w.heap.size < (w.alloc (.cells #[.slice A zs.length c, .int .i64 0, .int .u64 0] 89)).heap.size) := by show _ < _; simp
  have HBX : Hid (∀ w', KeepG w.heap.size (w.heap.size + 1) (w.alloc (.cells #[.slice A zs.length c, .int .i64 0, .int .u64 0] 89)) w' → Below w.heap.size w w') := fun w' hk => keepG_box hk
  clear h
  go_enter Try.func95, Try.ntmps95
  have hsz : (w.alloc (.cells #[.slice A zs.length c, .int .i64 0, .int .u64 0] 89)).heap.size = w.heap.size + 1 := by simp
  go_wp2_with fail
  generalize (w.alloc (.cells #[.slice A zs.length c, .int .i64 0, .int .u64 0] 89)) = wb at HCU HC HBX hsz ⊢
  have c1 := Lib.hid (lengths_any w.heap.size _ _ HCU.out (by omega))
  go_wp2_with fail
  refine c1.out.mono ?_
  rintro e w1 ⟨v1, xs1, rfl, hn1, hd1⟩
  obtain ⟨A1, q1, rfl⟩ := hd1.form
  have D1 := Lib.hid hd1
  clear hd1
  have c2 := Lib.hid (digitsOf_any w.heap.size _ w1 D1.out.2.1 (by omega))
  go_wp2_with fail
  refine c2.out.mono ?_
  rintro e w2 ⟨z2, rfl, _, hc2, hk2⟩
  have D2 := Lib.hid (D1.out.step HC.out hc2 hk2)
  clear hc2 hk2 D1
  go_wp2_with fail
  go_ret2
  exact ⟨_, xs1, z2, ret_val rfl, hn1, D2.out.rd, HBX.out _ D2.out.2.2⟩
theorem DrawCanonicalCode_any (zs : List UInt8) (v : Value) (hi : Nat) (w : World) (h : RdU w hi v zs) (hh : hi ≤ w.heap.size) :
    Calls Try.prog 42 #[v] w fun e w' => ∃ (u : Value) (xs : List Int) (r : Int), e = .returned (.tuple #[u, .int .i64 r]) ∧ xs.length ≤ 21 ∧ RdI w' w'.heap.size u xs ∧ Below w.heap.size w w' := by
  have cS := DrawKraftSum_any zs v hi w h hh
  obtain ⟨A, c, rfl, hc, hm⟩ := Rd.form h
  have CS := Lib.hid cS
  clear cS h
  go_enter Try.func42, Try.ntmps42
  go_wp2_with fail
  refine CS.out.mono ?_
  rintro e w1 ⟨u, xs, r, rfl, hn, hr, hb⟩
  have HR := Lib.hid hr
  have HB := Lib.hid hb
  clear hr hb
  go_wp2_with fail
  go_ret2
  exact ⟨u, xs, r, ret_val rfl, hn, HR.out, HB.out⟩
end Go.Proofs.Ytjnkdjokbamibaa
