/- Texts of one claim, joined: H3, H4, H5. -/
import Derived.BigQuiet
import Derived.StillTailTactics
import Derived.Test.YtabiobjcfopakaaP5Readings
/- Contracts: all rests of phrases, and whether signals are read one way; of the program and of the reference. -/
namespace Go.Proofs.Ytabiobjcfopakaa
open Go.RowKit
theorem RdI.dropIf {w : World} {hi c : Nat} {b off : Nat} {xs : List Int} (h : RdI w hi (.slice (some ⟨b, off, Option.none⟩) xs.length c) xs) {k : Nat} (hk : k ≤ xs.length) :
    RdI w hi (.slice (if c = k then some ⟨b, off, Option.none⟩ else some ⟨b, off + k, Option.none⟩) (xs.length - k) (c - k)) (xs.drop k) := by
  have h2 := h.dropLe hk
  split
  · rename_i e
    obtain ⟨_, _, _, hv, h3, _⟩ := h
    cases hv
    have hz : xs.drop k = [] := List.drop_of_length_le (by omega)
    obtain ⟨_, A', c', hv, h4, h5, _⟩ := h2
    injection hv with _ _ e2
    rw [← e2] at h4 h5
    rw [hz]
    refine ⟨by simp, some ⟨b, off, Option.none⟩, c - k, by rw [List.length_nil, show xs.length - k = 0 by omega], by simp, h5, fun hp => by simp at hp⟩
  · exact h2
theorem RdI.dropEnd {w : World} {hi k : Nat} {b off : Nat} {xs : List Int} (h : RdI w hi (.slice (some ⟨b, off, Option.none⟩) xs.length k) xs) (hk : k ≤ xs.length) (hk2 : xs.length ≤ k) :
    RdI w hi (.slice (some ⟨b, off, Option.none⟩) 0 0) (xs.drop k) := by
  have h2 := h.dropIf hk
  rw [if_pos rfl, Nat.sub_self, show xs.length - k = 0 by omega] at h2
  exact h2
theorem ends_le {ps : List Phr} (h : bookB ps = true) {r : List Int} (hr : r ∈ endsB ps) : r.length ≤ 3 := by
  unfold endsB endsP at hr
  rw [List.mem_flatMap] at hr
  obtain ⟨p, hp, hr⟩ := hr
  rw [List.mem_map] at hr
  obtain ⟨k, _, rfl⟩ := hr
  have := (phrOk_sig (bookB_phr h hp)).2.1
  rw [List.length_drop]
  omega
theorem begB_lt {ps : List Phr} (h : bookB ps = true) {i j : Nat} {x y : Phr} (hx : ps[i]? = some x) (hy : ps[j]? = some y) (hij : i ≠ j) (hb : begB x.2 y.2 = true) : x.2.length < y.2.length := by
  have hp := begB_iff.1 hb
  rcases Nat.lt_or_ge x.2.length y.2.length with h1 | h1
  · exact h1
  · have e := hp.eq_of_length (Nat.le_antisymm hp.length_le h1)
    rcases Nat.lt_or_gt_of_ne hij with hlt | hlt
    · exact absurd e (book_sigs h hx hy hlt)
    · exact absurd e.symm (book_sigs h hy hx hlt)
theorem turn1_ff {x : List Int} {L : List (List Int)} {y : Phr} (h1 : begB x y.2 = false) (h2 : begB y.2 x = false) : turn1 x L y = L := turn1_no h1 h2
theorem turn1_ft {x : List Int} {L : List (List Int)} {y : Phr} (h1 : begB x y.2 = false) (h2 : begB y.2 x = true) : turn1 x L y = putR L (x.drop y.2.length) := (turn1_aft h1 h2).1
theorem turn1_tf {x : List Int} {L : List (List Int)} {y : Phr} (h1 : begB x y.2 = true) (h2 : begB y.2 x = false) : turn1 x L y = putR L (y.2.drop x.length) := by unfold turn1; dsimp only; rw [if_pos h1, h2]; rfl
theorem turn1_tt {x : List Int} {L : List (List Int)} {y : Phr} (h1 : begB x y.2 = true) (h2 : begB y.2 x = true) : turn1 x L y = putR (putR L (y.2.drop x.length)) (x.drop y.2.length) := by unfold turn1; dsimp only; rw [if_pos h1, if_pos h2]
theorem put_at {L : List (List Int)} {r x : List Int} {n : Nat} (h : L[n]? = some x) : (putR L r)[n]? = some x := by
  obtain ⟨t, ht⟩ := putR_pre (L := L) (r := r)
  rw [← ht, List.getElem?_append_left (List.getElem?_eq_some_iff.1 h).1]
  exact h
theorem ints_form {w : World} {hi : Nat} {u : Value} {xs : List Int} (h : RdI w hi u xs) (h1 : 1 ≤ xs.length) : ∃ b o c, u = .slice (some ⟨b, o, Option.none⟩) xs.length c ∧ xs.length ≤ c ∧ c ≤ 9223372036854775807 := by
  obtain ⟨b, o, c, _, hv, _⟩ := Rd.at_ h (k := 0) h1
  obtain ⟨_, A', c', hv', h2, h3, _⟩ := h
  rw [hv] at hv'
  cases hv'
  exact ⟨b, o, c, hv, h2, h3⟩
set_option maxRecDepth 100000 in
set_option maxHeartbeats 16000000 in
theorem bkRests_any (ps : List Phr) (v : Value) (hi : Nat) (w : World) (h : RdB w hi v ps) (hh : hi ≤ w.heap.size) (hbk : bookB ps = true) :
    Calls Try.prog 135 #[v] w fun e w' => ∃ v', e = .returned v' ∧ RdII w' w'.heap.size v' (restsR ps) ∧ Below w.heap.size w w' := by
  obtain ⟨a, rfl, ha⟩ := h
  obtain ⟨A, c, rfl, hc, hm⟩ := ha.form
  have hba : Below w.heap.size w (w.alloc (.cells #[.slice A ps.length c] 48)) := (Below.refl _ _).alloc (Nat.le_refl _) _
  have HB := Lib.hid hba
  have HA := Lib.hid (ha.below hba hh)
  have HG : Hid (RdB (w.alloc (.cells #[.slice A ps.length c] 48)) hi (.agg #[.slice A ps.length c]) ps) := ⟨_, rfl, HA.out⟩
  have hcb0 : (w.alloc (.cells #[.slice A ps.length c] 48)).cell? ⟨w.heap.size, 0, Option.none⟩ = some (.slice A ps.length c) := (Blk.new w 48 #[.slice A ps.length c]).cell 0
  have HCB := Lib.hid hcb0
  have hsz1 : hi ≤ (w.alloc (.cells #[.slice A ps.length c] 48)).heap.size := by simp; omega
  clear ha hba hcb0
  have HBK := Lib.hid hbk
  clear hbk
  go_enter Try.func135, Try.ntmps135
  go_wp2_with fail
  have HA1 := HA
  have HB1 := HB
  have HCBX := HCB
  have hs1 : w.heap.size + 1 ≤ (w.alloc (.cells #[.slice A ps.length c] 48)).heap.size := by simp
  generalize (w.alloc (.cells #[.slice A ps.length c] 48)) = w1 at HA HG HB HCB HA1 HB1 HCBX hsz1 hs1 ⊢
  clear HA HG HB HCB
  go_loopw [3, 14] (fun q i wr => ∃ k : Nat, k ≤ ps.length ∧ i = .int .i64 k ∧ Hid (GrowL w1 w1.heap.size wr q (seedI ps k))) (fun _ i _ => ps.length - (intOf i).toNat)
  case atStart => exact ⟨0, Nat.zero_le _, rfl, GrowL.start w1 rfl⟩
  case round =>
    obtain ⟨k, hk, rfl, hg⟩ := hrel
    have hs0 := hg.out.2.1.size
    have hcbr := (hg.out.2.1.cell (p := ⟨w.heap.size, 0, Option.none⟩) (by show w.heap.size < w1.heap.size; omega)).trans HCBX.out
    by_cases hlt : k < ps.length
    · obtain ⟨b1, o1, d1, a, t, xs, hv, hb1, hx, hcell1, hcell2, hra, hta⟩ := HA1.out.at_ hlt
      cases hv
      have hpk := phrOk_sig (bookB_phr HBK.out (List.mem_of_getElem? hx))
      have h1 : 1 ≤ xs.length := hpk.1
      have h3 : xs.length ≤ 3 := hpk.2.1
      obtain ⟨b3, o3, c2, rfl, hcp, hcq⟩ := ints_form hra h1
      have e1 := (hg.out.2.1.cell (p := ⟨b1, o1 + k * 2, Option.none⟩) (by show b1 < _; omega)).trans hcell1
      have e2 := (hg.out.2.1.cell (p := ⟨b1, o1 + k * 2 + 1, Option.none⟩) (by show b1 < _; omega)).trans hcell2
      have HX := Lib.hid hx
      have HR := Lib.hid hra
      clear hx hra hpk hcell1 hcell2
      have HXB : Hid (Blk (wr.alloc (.cells #[.string t, .slice (some ⟨b3, o3, Option.none⟩) xs.length c2] 60)) wr.heap.size 60 [.string t, .slice (some ⟨b3, o3, Option.none⟩) xs.length c2]) := Blk.new wr _ _
      have HGP := Lib.hid (hg.out.belowR ((Below.refl wr.heap.size wr).alloc (Nat.le_refl _) (.cells #[.string t, .slice (some ⟨b3, o3, Option.none⟩) xs.length c2] 60)))
      have hsX : w1.heap.size ≤ wr.heap.size := hs0
      have hcbP : (wr.alloc (.cells #[.string t, .slice (some ⟨b3, o3, Option.none⟩) xs.length c2] 60)).cell? ⟨w.heap.size, 0, Option.none⟩ = some (.slice (some ⟨b1, o1, Option.none⟩) ps.length c) := (((Below.refl wr.heap.size wr).alloc (Nat.le_refl _) _).cell (p := ⟨w.heap.size, 0, Option.none⟩) (by show w.heap.size < wr.heap.size; omega)).trans hcbr
      clear hcbr
      rename World => wo
      go_wp2_with fail
      go_loopw [3, 22] (fun q i wr => ∃ j : Nat, j ≤ ps.length ∧ i = .int .i64 j ∧ Hid (GrowL w1 w1.heap.size wr q (seedK ps k (t, xs) (seedI ps k) j)) ∧ Hid (Blk wr wo.heap.size 60 [.string t, .slice (some ⟨b3, o3, Option.none⟩) xs.length c2])) (fun _ i _ => ps.length - (intOf i).toNat)
      case atStart => exact ⟨0, Nat.zero_le _, rfl, HGP.out, HXB.out⟩
      case round =>
        obtain ⟨j, hjl, rfl, hg2, hxb⟩ := hrel
        have hs2 := hg2.out.2.1.size
        have hxc := hxb.out.cell 1
        have hxlt := hxb.out.lt
        clear e1 e2
        by_cases hltj : j < ps.length
        · obtain ⟨b1y, o1y, d1y, ay, t2, ys, hv, hb1y, hx, hcell1, hcell2, hra, hta⟩ := HA1.out.at_ hltj
          cases hv
          have hpk := phrOk_sig (bookB_phr HBK.out (List.mem_of_getElem? hx))
          have h1y : 1 ≤ ys.length := hpk.1
          have h3y : ys.length ≤ 3 := hpk.2.1
          obtain ⟨b3y, o3y, c4, rfl, hcpy, hcqy⟩ := ints_form hra h1y
          have e1y := (hg2.out.2.1.cell (p := ⟨b1, o1 + j * 2, Option.none⟩) (by show b1 < _; omega)).trans hcell1
          have e2y := (hg2.out.2.1.cell (p := ⟨b1, o1 + j * 2 + 1, Option.none⟩) (by show b1 < _; omega)).trans hcell2
          have HY := Lib.hid hx
          have HRY := Lib.hid hra
          clear hx hra hpk hcell1 hcell2
          have HG2 := Lib.hid (hg2.out.belowR ((Below.refl wr.heap.size wr).alloc (Nat.le_refl _) (.cells #[.string t2, .slice (some ⟨b3y, o3y, Option.none⟩) ys.length c4] 60)))
          have HXB2 : Hid (Blk (wr.alloc (.cells #[.string t2, .slice (some ⟨b3y, o3y, Option.none⟩) ys.length c4] 60)) wo.heap.size 60 [.string t, .slice (some ⟨b3, o3, Option.none⟩) xs.length c2]) := hxb.out.alloc _
          have hxc2 := HXB2.out.cell 1
          have hyc2 : (wr.alloc (.cells #[.string t2, .slice (some ⟨b3y, o3y, Option.none⟩) ys.length c4] 60)).cell? ⟨wr.heap.size, 1, Option.none⟩ = some (.slice (some ⟨b3y, o3y, Option.none⟩) ys.length c4) := (Blk.new wr 60 #[.string t2, .slice (some ⟨b3y, o3y, Option.none⟩) ys.length c4]).cell 1
          have HYC := Lib.hid hyc2
          by_cases hkj : k = j
          · have hne : (((k : Nat) : Int) != ((j : Nat) : Int)) = false := by subst hkj; simp
            have HNO := Lib.hid (seed1_no (x := (t, xs)) (L := seedK ps k (t, xs) (seedI ps k) j) HY.out (fun h => h.1 hkj))
            clear hkj
            go_wp2_with fail
            go_roundw
            case rel => exact ⟨j + 1, by omega, by go_num, by show GrowL _ _ _ _ _; rw [seedK_succ, HNO.out]; exact HG2.out, HXB2.out⟩
            case measure => (simp [intOf]; try omega)
          · have hne : (((k : Nat) : Int) != ((j : Nat) : Int)) = true := by rw [bne_iff_ne]; omega
            have cB := bkBegins_any xs ys (.slice (some ⟨b3, o3, Option.none⟩) xs.length c2) (.slice (some ⟨b3y, o3y, Option.none⟩) ys.length c4) hi hi (wr.alloc (.cells #[.string t2, .slice (some ⟨b3y, o3y, Option.none⟩) ys.length c4] 60)) (RdI.below HR.out HG2.out.2.1 (by omega)) (RdI.below HRY.out HG2.out.2.1 (by omega))
            cases hbg : begB xs ys
            · rw [hbg] at cB
              have CB := Lib.hid cB
              have HNO := Lib.hid (seed1_no (x := (t, xs)) (i := k) (L := seedK ps k (t, xs) (seedI ps k) j) HY.out (fun h => by have h2 : begB xs ys = true := h.2; rw [hbg] at h2; cases h2))
              clear cB hbg
              go_wp2_with fail
              refine CB.out.mono ?_
              rintro e w2 ⟨rfl, n, rfl⟩
              go_wp2_with fail
              go_roundw
              case rel => exact ⟨j + 1, by omega, by go_num, by show GrowL _ _ _ _ _; rw [seedK_succ, HNO.out]; exact HG2.out.belowR (bel_drewN _ _ _), HXB2.out⟩
              case measure => (simp [intOf]; try omega)
            · rw [hbg] at cB
              have CB := Lib.hid cB
              have hle : xs.length < ys.length := begB_lt HBK.out HX.out HY.out hkj hbg
              have HYES := Lib.hid (seed1_yes (x := (t, xs)) (i := k) (L := seedK ps k (t, xs) (seedI ps k) j) HY.out hkj hbg)
              have hl160 := ((RestOk.seedI ps k).seedK k (t, xs) j).len HBK.out
              clear cB hbg
              go_wp2_with fail
              refine CB.out.mono ?_
              rintro e w2 ⟨rfl, n, rfl⟩
              have HG3 : Hid (GrowL w1 w1.heap.size ((wr.alloc (.cells #[.string t2, .slice (some ⟨b3y, o3y, Option.none⟩) ys.length c4] 60)).drewN n) u3 (seedK ps k (t, xs) (seedI ps k) j)) := HG2.out.belowR (bel_drewN _ _ _)
              have HXB3 : Hid (Blk ((wr.alloc (.cells #[.string t2, .slice (some ⟨b3y, o3y, Option.none⟩) ys.length c4] 60)).drewN n) wo.heap.size 60 [.string t, .slice (some ⟨b3, o3, Option.none⟩) xs.length c2]) := HXB2.out
              have hxc3 := HXB3.out.cell 1
              have hyc3 : ((wr.alloc (.cells #[.string t2, .slice (some ⟨b3y, o3y, Option.none⟩) ys.length c4] 60)).drewN n).cell? ⟨wr.heap.size, 1, Option.none⟩ = some (.slice (some ⟨b3y, o3y, Option.none⟩) ys.length c4) := HYC.out
              have HRY3 : Hid (RdI ((wr.alloc (.cells #[.string t2, .slice (some ⟨b3y, o3y, Option.none⟩) ys.length c4] 60)).drewN n) w1.heap.size (.slice (some ⟨b3y, o3y, Option.none⟩) ys.length c4) ys) := (RdI.below HRY.out (HG2.out.2.1.trans (bel_drewN _ _ _)) (by omega)).mono (by omega)
              clear hxc2 hyc2
              generalize ((wr.alloc (.cells #[.string t2, .slice (some ⟨b3y, o3y, Option.none⟩) ys.length c4] 60)).drewN n) = wq at HG3 HXB3 hxc3 hyc3 HRY3 ⊢
              have cP := bkPut_any w1 w1.heap.size (seedK ps k (t, xs) (seedI ps k) j) (ys.drop xs.length) u3 (.slice (some ⟨b3y, o3y + xs.length, Option.none⟩) (ys.length - xs.length) (c4 - xs.length)) w1.heap.size wq HG3.out (RdI.dropLe HRY3.out (by omega)) HG3.out.2.2 hl160 (by rw [List.length_drop]; omega)
              have CP := Lib.hid cP
              clear cP
              go_wp2_with fail
              refine CP.out.mono ?_
              rintro e w5 ⟨v', rfl, hg5, hf5, hs5⟩
              have HG5 := Lib.hid hg5
              have HXB5 := Lib.hid (HXB3.out.fr hf5 (by decide) (by decide))
              clear hg5 hf5 hs5
              go_wp2_with fail
              go_roundw
              case rel => exact ⟨j + 1, by omega, by go_num, by show GrowL _ _ _ _ _; rw [seedK_succ, HYES.out]; exact HG5.out, HXB5.out⟩
              case measure => (simp [intOf]; try omega)
        · obtain rfl : j = ps.length := by omega
          have HGE : Hid (GrowL w1 w1.heap.size wr u3 (seedI ps (k + 1))) := by show GrowL w1 w1.heap.size wr u3 (seedI ps (k + 1)); rw [seedI_succ HX.out]; exact hg2.out
          go_wp2_with fail
          go_roundw
          case rel => exact ⟨k + 1, by omega, by go_num, HGE.out⟩
          case measure => (simp [intOf]; try omega)
    · obtain rfl : k = ps.length := by omega
      have HG0 : Hid (GrowL w1 w1.heap.size wr u3 (seedR ps)) := hg.out
      go_wp2_with fail
      go_loopw [3, 8] (fun q i wr => ∃ (n : Nat) (L : List (List Int)), i = .int .i64 (n : Int) ∧ Hid (RunTo ps n L) ∧ Hid (GrowL w1 w1.heap.size wr q L)) (fun _ i _ => 200 - (intOf i).toNat)
      case atStart => exact ⟨0, seedR ps, rfl, RunTo.start ps, HG0.out⟩
      case round =>
        obtain ⟨n, L, rfl, hrt, hg⟩ := hrel
        have hbd := hrt.out.bd HBK.out
        have hs0 := hg.out.2.1.size
        have hcbr := (hg.out.2.1.cell (p := ⟨w.heap.size, 0, Option.none⟩) (by show w.heap.size < w1.heap.size; omega)).trans HCBX.out
        obtain ⟨AL, cL0, hqv, hqm⟩ := hg.out.form
        subst hqv
        have hbd1 := hbd.1
        have hbd2 := hbd.2
        clear hbd
        by_cases hnl : n < L.length
        · obtain ⟨x, hx⟩ : ∃ x, L[n]? = some x := ⟨_, List.getElem?_eq_getElem hnl⟩
          have hxl := ends_le HBK.out (hrt.out.1.ends x (List.mem_of_getElem? hx))
          have HXN := Lib.hid hx
          clear hx
          go_wp2_with fail
          go_loopw [3, 56] (fun q i wr => ∃ j : Nat, j ≤ ps.length ∧ i = .int .i64 j ∧ Hid (GrowL w1 w1.heap.size wr q (turnR ps x L j))) (fun _ i _ => ps.length - (intOf i).toNat)
          case atStart => exact ⟨0, Nat.zero_le _, rfl, hg.out⟩
          case round =>
            obtain ⟨j, hjl, rfl, hg2⟩ := hrel
            have hs2 := hg2.out.2.1.size
            have hmid := hrt.out.mid HBK.out HXN.out hjl
            by_cases hltj : j < ps.length
            · obtain ⟨b1y, o1y, d1y, ay, t, ys, hv, hb1y, hx, hcell1, hcell2, hra, hta⟩ := HA1.out.at_ hltj
              cases hv
              have hpk := phrOk_sig (bookB_phr HBK.out (List.mem_of_getElem? hx))
              have h1y : 1 ≤ ys.length := hpk.1
              have h3y : ys.length ≤ 3 := hpk.2.1
              obtain ⟨b3y, o3y, c4, rfl, hcpy, hcqy⟩ := ints_form hra h1y
              have e1y := (hg2.out.2.1.cell (p := ⟨b1y, o1y + j * 2, Option.none⟩) (by show b1y < _; omega)).trans hcell1
              have e2y := (hg2.out.2.1.cell (p := ⟨b1y, o1y + j * 2 + 1, Option.none⟩) (by show b1y < _; omega)).trans hcell2
              have HY := Lib.hid hx
              have HRY := Lib.hid hra
              clear hx hra hpk hcell1 hcell2
              obtain ⟨M, hM⟩ : ∃ M, M = turnR ps x L j := ⟨_, rfl⟩
              have hnext := turnR_succ (ps := ps) (x := x) (L := L) HY.out
              rw [← hM] at hg2 hmid hnext
              have HMO := Lib.hid hmid.2.1
              have hM160 := hmid.2.2.1
              have hMn := hmid.2.2.2
              have hMl := (List.getElem?_eq_some_iff.1 hMn).1
              have HMN := Lib.hid hMn
              have HNX := Lib.hid hnext
              have HXE := Lib.hid (hrt.out.1.ends x (List.mem_of_getElem? HXN.out))
              clear hmid hnext hM hMn
              have HG2 := Lib.hid (hg2.out.belowR ((Below.refl wr.heap.size wr).alloc (Nat.le_refl _) (.cells #[.string t, .slice (some ⟨b3y, o3y, Option.none⟩) ys.length c4] 60)))
              have hyc2 : (wr.alloc (.cells #[.string t, .slice (some ⟨b3y, o3y, Option.none⟩) ys.length c4] 60)).cell? ⟨wr.heap.size, 1, Option.none⟩ = some (.slice (some ⟨b3y, o3y, Option.none⟩) ys.length c4) := (Blk.new wr 60 #[.string t, .slice (some ⟨b3y, o3y, Option.none⟩) ys.length c4]).cell 1
              have HYB : Hid (Blk (wr.alloc (.cells #[.string t, .slice (some ⟨b3y, o3y, Option.none⟩) ys.length c4] 60)) wr.heap.size 60 [.string t, .slice (some ⟨b3y, o3y, Option.none⟩) ys.length c4]) := Blk.new wr _ _
              have hszP : wr.heap.size + 1 = (wr.alloc (.cells #[.string t, .slice (some ⟨b3y, o3y, Option.none⟩) ys.length c4] 60)).heap.size := by simp
              obtain ⟨bL, oL, cL, uL, zs, hv, hz, hcL, hel⟩ := HG2.out.at_ hMl
              subst hv
              rw [HMN.out] at hz
              cases hz
              obtain ⟨AU, cU, rfl, _, _⟩ := Rd.form hel.1
              have HEL := Lib.hid hel
              have HRYP : Hid (RdI (wr.alloc (.cells #[.string t, .slice (some ⟨b3y, o3y, Option.none⟩) ys.length c4] 60)) hi (.slice (some ⟨b3y, o3y, Option.none⟩) ys.length c4) ys) := RdI.below HRY.out HG2.out.2.1 (by omega)
              clear hel
              have cB1 := fun m => bkBegins_any x ys (.slice AU x.length cU) (.slice (some ⟨b3y, o3y, Option.none⟩) ys.length c4) (wr.alloc (.cells #[.string t, .slice (some ⟨b3y, o3y, Option.none⟩) ys.length c4] 60)).heap.size hi ((wr.alloc (.cells #[.string t, .slice (some ⟨b3y, o3y, Option.none⟩) ys.length c4] 60)).drewN m) (show RdI ((wr.alloc (.cells #[.string t, .slice (some ⟨b3y, o3y, Option.none⟩) ys.length c4] 60)).drewN m) _ _ _ from HEL.out.1) (show RdI ((wr.alloc (.cells #[.string t, .slice (some ⟨b3y, o3y, Option.none⟩) ys.length c4] 60)).drewN m) _ _ _ from HRYP.out)
              cases b1 : begB x ys
              · simp only [b1] at cB1
                have CB1 := Lib.hid cB1
                have HB1E := Lib.hid b1
                clear cB1 b1
                go_wp2_with fail
                go_quiet ((go_at_call 209; exact Calls.quiet_of (CB1.out _)))
                go_wp2_with fail
                have HGZ : Hid (GrowL w1 w1.heap.size ((wr.alloc (.cells #[.string t, .slice (some ⟨b3y, o3y, Option.none⟩) ys.length c4] 60)).drewN nq) (.slice (some ⟨bL, oL, Option.none⟩) M.length cL) M) := HG2.out.belowR (bel_drewN _ _ _)
                have HEZ : Hid (El ((wr.alloc (.cells #[.string t, .slice (some ⟨b3y, o3y, Option.none⟩) ys.length c4] 60)).drewN nq) w1.heap.size (.slice AU x.length cU) x) := HEL.out.below HG2.out.2.2 (bel_drewN _ _ _)
                have HYZ : Hid (Blk ((wr.alloc (.cells #[.string t, .slice (some ⟨b3y, o3y, Option.none⟩) ys.length c4] 60)).drewN nq) wr.heap.size 60 [.string t, (.slice (some ⟨b3y, o3y, Option.none⟩) ys.length c4)]) := HYB.out
                have HRZ : Hid (RdI ((wr.alloc (.cells #[.string t, .slice (some ⟨b3y, o3y, Option.none⟩) ys.length c4] 60)).drewN nq) hi (.slice (some ⟨b3y, o3y, Option.none⟩) ys.length c4) ys) := HRYP.out
                have hcZ : ((wr.alloc (.cells #[.string t, .slice (some ⟨b3y, o3y, Option.none⟩) ys.length c4] 60)).drewN nq).cell? ⟨bL, oL + n, Option.none⟩ = some (.slice AU x.length cU) := hcL
                have hyZ : ((wr.alloc (.cells #[.string t, .slice (some ⟨b3y, o3y, Option.none⟩) ys.length c4] 60)).drewN nq).cell? ⟨wr.heap.size, 1, Option.none⟩ = some (.slice (some ⟨b3y, o3y, Option.none⟩) ys.length c4) := HYB.out.cell 1
                clear hcL
                generalize ((wr.alloc (.cells #[.string t, .slice (some ⟨b3y, o3y, Option.none⟩) ys.length c4] 60)).drewN nq) = wq at HGZ HEZ HYZ HRZ hcZ hyZ ⊢
                have HMNZ := HMN
                have hM160Z := hM160
                have cB2 := fun m => bkBegins_any ys x (.slice (some ⟨b3y, o3y, Option.none⟩) ys.length c4) (.slice AU x.length cU) hi wq.heap.size (wq.drewN m) (show RdI (wq.drewN m) _ _ _ from HRZ.out) (show RdI (wq.drewN m) _ _ _ from HEZ.out.1)
                have hMlZ : n < M.length := (List.getElem?_eq_some_iff.1 HMNZ.out).1
                cases b2 : begB ys x
                · simp only [b2] at cB2
                  have CB2 := Lib.hid cB2
                  have HB2E := Lib.hid b2
                  clear cB2 b2
                  go_wp2_with fail
                  go_quiet ((go_at_call 209; exact Calls.quiet_of (CB2.out _)))
                  go_wp2_with fail
                  go_roundw
                  case rel => exact ⟨j + 1, by omega, by go_num, by show GrowL _ _ _ _ _; rw [HNX.out, turn1_ff HB1E.out HB2E.out]; exact HGZ.out.belowR (bel_drewN _ _ _)⟩
                  case measure => (simp [intOf]; try omega)
                · simp only [b2] at cB2
                  have CB2 := Lib.hid cB2
                  have HB2E := Lib.hid b2
                  have hyx := begB_le b2
                  clear cB2 b2
                  obtain ⟨b4, o4, c5, hv4, hcpx, hcqx⟩ := ints_form HEZ.out.1 (by omega)
                  injection hv4 with hv5 hv6 hv7
                  subst hv5 hv7
                  clear hv6
                  go_wp2_with fail
                  go_quiet ((go_at_call 209; exact Calls.quiet_of (CB2.out _)))
                  go_wp2_with fail
                  have HGY : Hid (GrowL w1 w1.heap.size (wq.drewN nq) (.slice (some ⟨bL, oL, Option.none⟩) M.length cL) M) := HGZ.out.belowR (bel_drewN _ _ _)
                  have HEY : Hid (El (wq.drewN nq) w1.heap.size (.slice (some ⟨b4, o4, Option.none⟩) x.length cU) x) := HEZ.out.below HGZ.out.2.2 (bel_drewN _ _ _)
                  have hcY : (wq.drewN nq).cell? ⟨bL, oL + n, Option.none⟩ = some (.slice (some ⟨b4, o4, Option.none⟩) x.length cU) := hcZ
                  have hyY : (wq.drewN nq).cell? ⟨wr.heap.size, 1, Option.none⟩ = some (.slice (some ⟨b3y, o3y, Option.none⟩) ys.length c4) := hyZ
                  clear hcZ hyZ
                  generalize (wq.drewN nq) = wy at HGY HEY hcY hyY ⊢
                  by_cases hcu : cU = ys.length
                  · subst hcu
                    have cP2 := bkPut_any w1 w1.heap.size M (x.drop ys.length) (.slice (some ⟨bL, oL, Option.none⟩) M.length cL) (.slice (some ⟨b4, o4, Option.none⟩) 0 0) wy.heap.size wy.drew (HGY.out.belowR (Below.refl _ _).drew) (show RdI wy.drew _ _ _ from RdI.dropEnd HEY.out.1 hyx (by omega)) (Nat.le_refl _) hM160Z (by rw [List.length_drop]; omega)
                    have CP2 := Lib.hid cP2
                    clear cP2
                    go_still_tail 9, (by kernel_rfl)
                    change wpList _ _ _ _ _ wy.drew
                    go_wp2_with fail
                    refine CP2.out.mono ?_
                    rintro e w6 ⟨v', rfl, hg6, hf6, hs6⟩
                    have HG6 := Lib.hid hg6
                    clear hg6 hf6 hs6
                    go_wp2_with fail
                    go_roundw
                    case rel => exact ⟨j + 1, by omega, by go_num, by show GrowL _ _ _ _ _; rw [HNX.out, turn1_ft HB1E.out HB2E.out]; exact HG6.out⟩
                    case measure => (simp [intOf]; try omega)
                  · have hcu2 : (cU = ys.length) = False := by simp [hcu]
                    have cP2 := bkPut_any w1 w1.heap.size M (x.drop ys.length) (.slice (some ⟨bL, oL, Option.none⟩) M.length cL) (.slice (some ⟨b4, o4 + ys.length, Option.none⟩) (x.length - ys.length) (cU - ys.length)) wy.heap.size wy.drew (HGY.out.belowR (Below.refl _ _).drew) (show RdI wy.drew _ _ _ from RdI.dropLe HEY.out.1 hyx) (Nat.le_refl _) hM160Z (by rw [List.length_drop]; omega)
                    skip
                    have CP2 := Lib.hid cP2
                    clear cP2
                    go_still_tail 9, (by kernel_rfl)
                    change wpList _ _ _ _ _ wy.drew
                    go_wp2_with fail
                    refine CP2.out.mono ?_
                    rintro e w6 ⟨v', rfl, hg6, hf6, hs6⟩
                    have HG6 := Lib.hid hg6
                    clear hg6 hf6 hs6
                    go_wp2_with fail
                    go_roundw
                    case rel => exact ⟨j + 1, by omega, by go_num, by show GrowL _ _ _ _ _; rw [HNX.out, turn1_ft HB1E.out HB2E.out]; exact HG6.out⟩
                    case measure => (simp [intOf]; try omega)
              · simp only [b1] at cB1
                have CB1 := Lib.hid cB1
                have HB1E := Lib.hid b1
                have hxy := begB_le b1
                have hM160Z := (HMO.out.put (ends_drop (List.mem_of_getElem? HY.out) (show x.length ≤ ys.length from hxy))).len HBK.out
                clear cB1 b1
                go_wp2_with fail
                go_quiet ((go_at_call 209; exact Calls.quiet_of (CB1.out _)))
                go_wp2_with fail
                have HGZ : Hid (GrowL w1 w1.heap.size ((wr.alloc (.cells #[.string t, .slice (some ⟨b3y, o3y, Option.none⟩) ys.length c4] 60)).drewN nq) (.slice (some ⟨bL, oL, Option.none⟩) M.length cL) M) := HG2.out.belowR (bel_drewN _ _ _)
                have HEZ : Hid (El ((wr.alloc (.cells #[.string t, .slice (some ⟨b3y, o3y, Option.none⟩) ys.length c4] 60)).drewN nq) w1.heap.size (.slice AU x.length cU) x) := HEL.out.below HG2.out.2.2 (bel_drewN _ _ _)
                have HYZ : Hid (Blk ((wr.alloc (.cells #[.string t, .slice (some ⟨b3y, o3y, Option.none⟩) ys.length c4] 60)).drewN nq) wr.heap.size 60 [.string t, (.slice (some ⟨b3y, o3y, Option.none⟩) ys.length c4)]) := HYB.out
                have HRZ : Hid (RdI ((wr.alloc (.cells #[.string t, .slice (some ⟨b3y, o3y, Option.none⟩) ys.length c4] 60)).drewN nq) hi (.slice (some ⟨b3y, o3y, Option.none⟩) ys.length c4) ys) := HRYP.out
                have hcZ : ((wr.alloc (.cells #[.string t, .slice (some ⟨b3y, o3y, Option.none⟩) ys.length c4] 60)).drewN nq).cell? ⟨bL, oL + n, Option.none⟩ = some (.slice AU x.length cU) := hcL
                have hyZ : ((wr.alloc (.cells #[.string t, .slice (some ⟨b3y, o3y, Option.none⟩) ys.length c4] 60)).drewN nq).cell? ⟨wr.heap.size, 1, Option.none⟩ = some (.slice (some ⟨b3y, o3y, Option.none⟩) ys.length c4) := HYB.out.cell 1
                clear hcL
                generalize ((wr.alloc (.cells #[.string t, .slice (some ⟨b3y, o3y, Option.none⟩) ys.length c4] 60)).drewN nq) = wp at HGZ HEZ HYZ HRZ hcZ hyZ ⊢
                by_cases hc4x : c4 = x.length
                · subst hc4x
                  have cP := bkPut_any w1 w1.heap.size M (ys.drop x.length) (.slice (some ⟨bL, oL, Option.none⟩) M.length cL) (.slice (some ⟨b3y, o3y, Option.none⟩) 0 0) hi wp.drew (HGZ.out.belowR (Below.refl _ _).drew) (show RdI wp.drew _ _ _ from RdI.dropEnd HRZ.out hxy (by omega)) (by have := HGZ.out.2.2; show hi ≤ wp.heap.size; omega) hM160 (by rw [List.length_drop]; omega)
                  have CP := Lib.hid cP
                  clear cP
                  go_still_tail 9, (by kernel_rfl)
                  change wpList _ _ _ _ _ wp.drew
                  go_wp2_with fail
                  refine CP.out.mono ?_
                  rintro e wq ⟨v', rfl, hg5, hf5, hs5⟩
                  have HYZ5 : Hid (Blk wq wr.heap.size 60 [.string t, (.slice (some ⟨b3y, o3y, Option.none⟩) ys.length x.length)]) := Blk.fr (show Blk wp.drew wr.heap.size 60 _ from HYZ.out) hf5 (by decide) (by decide)
                  have HRZ5 : Hid (RdI wq hi (.slice (some ⟨b3y, o3y, Option.none⟩) ys.length x.length) ys) := RdI.below HRY.out hg5.2.1 (by omega)
                  have hyZ5 := HYZ5.out.cell 1
                  clear hcZ hyZ HGZ HEZ HYZ HRZ
                  obtain ⟨M1, hM1⟩ : ∃ M1, M1 = putR M (ys.drop x.length) := ⟨_, rfl⟩
                  have hmn1 := put_at (r := ys.drop x.length) HMN.out
                  rw [← hM1] at hg5 hM160Z hmn1
                  have HM1 := Lib.hid hM1
                  have HMNZ := Lib.hid hmn1
                  have hM1l := (List.getElem?_eq_some_iff.1 hmn1).1
                  clear hM1 hmn1 hf5 hs5
                  have HYZ := HYZ5
                  have HRZ := HRZ5
                  have hyZ := hyZ5
                  clear HYZ5 HRZ5 hyZ5
                  obtain ⟨bL, oL, cL, uL, zs, hv, hz, hcZ, hel⟩ := hg5.at_ hM1l
                  subst hv
                  rw [HMNZ.out] at hz
                  cases hz
                  obtain ⟨AU, cU, rfl, _, _⟩ := Rd.form hel.1
                  have HEZ := Lib.hid hel
                  have HGZ := Lib.hid hg5
                  clear hel hg5
                  have cB2 := fun m => bkBegins_any ys x (.slice (some ⟨b3y, o3y, Option.none⟩) ys.length x.length) (.slice AU x.length cU) hi wq.heap.size (wq.drewN m) (show RdI (wq.drewN m) _ _ _ from HRZ.out) (show RdI (wq.drewN m) _ _ _ from HEZ.out.1)
                  have hMlZ : n < M1.length := (List.getElem?_eq_some_iff.1 HMNZ.out).1
                  cases b2 : begB ys x
                  · simp only [b2] at cB2
                    have CB2 := Lib.hid cB2
                    have HB2E := Lib.hid b2
                    clear cB2 b2
                    go_wp2_with fail
                    go_quiet ((go_at_call 209; exact Calls.quiet_of (CB2.out _)))
                    go_wp2_with fail
                    go_roundw
                    case rel => exact ⟨j + 1, by omega, by go_num, by show GrowL _ _ _ _ _; rw [HNX.out, turn1_tf HB1E.out HB2E.out, ← HM1.out]; exact HGZ.out.belowR (bel_drewN _ _ _)⟩
                    case measure => (simp [intOf]; try omega)
                  · simp only [b2] at cB2
                    have CB2 := Lib.hid cB2
                    have HB2E := Lib.hid b2
                    have hyx := begB_le b2
                    clear cB2 b2
                    obtain ⟨b4, o4, c5, hv4, hcpx, hcqx⟩ := ints_form HEZ.out.1 (by omega)
                    injection hv4 with hv5 hv6 hv7
                    subst hv5 hv7
                    clear hv6
                    go_wp2_with fail
                    go_quiet ((go_at_call 209; exact Calls.quiet_of (CB2.out _)))
                    go_wp2_with fail
                    have HGY : Hid (GrowL w1 w1.heap.size (wq.drewN nq) (.slice (some ⟨bL, oL, Option.none⟩) M1.length cL) M1) := HGZ.out.belowR (bel_drewN _ _ _)
                    have HEY : Hid (El (wq.drewN nq) w1.heap.size (.slice (some ⟨b4, o4, Option.none⟩) x.length cU) x) := HEZ.out.below HGZ.out.2.2 (bel_drewN _ _ _)
                    have hcY : (wq.drewN nq).cell? ⟨bL, oL + n, Option.none⟩ = some (.slice (some ⟨b4, o4, Option.none⟩) x.length cU) := hcZ
                    have hyY : (wq.drewN nq).cell? ⟨wr.heap.size, 1, Option.none⟩ = some (.slice (some ⟨b3y, o3y, Option.none⟩) ys.length x.length) := hyZ
                    clear hcZ hyZ
                    generalize (wq.drewN nq) = wy at HGY HEY hcY hyY ⊢
                    by_cases hcu : cU = ys.length
                    · subst hcu
                      have cP2 := bkPut_any w1 w1.heap.size M1 (x.drop ys.length) (.slice (some ⟨bL, oL, Option.none⟩) M1.length cL) (.slice (some ⟨b4, o4, Option.none⟩) 0 0) wy.heap.size wy.drew (HGY.out.belowR (Below.refl _ _).drew) (show RdI wy.drew _ _ _ from RdI.dropEnd HEY.out.1 hyx (by omega)) (Nat.le_refl _) hM160Z (by rw [List.length_drop]; omega)
                      have CP2 := Lib.hid cP2
                      clear cP2
                      go_still_tail 9, (by kernel_rfl)
                      change wpList _ _ _ _ _ wy.drew
                      go_wp2_with fail
                      refine CP2.out.mono ?_
                      rintro e w6 ⟨v', rfl, hg6, hf6, hs6⟩
                      have HG6 := Lib.hid hg6
                      clear hg6 hf6 hs6
                      go_wp2_with fail
                      go_roundw
                      case rel => exact ⟨j + 1, by omega, by go_num, by show GrowL _ _ _ _ _; rw [HNX.out, turn1_tt HB1E.out HB2E.out, ← HM1.out]; exact HG6.out⟩
                      case measure => (simp [intOf]; try omega)
                    · have hcu2 : (cU = ys.length) = False := by simp [hcu]
                      have cP2 := bkPut_any w1 w1.heap.size M1 (x.drop ys.length) (.slice (some ⟨bL, oL, Option.none⟩) M1.length cL) (.slice (some ⟨b4, o4 + ys.length, Option.none⟩) (x.length - ys.length) (cU - ys.length)) wy.heap.size wy.drew (HGY.out.belowR (Below.refl _ _).drew) (show RdI wy.drew _ _ _ from RdI.dropLe HEY.out.1 hyx) (Nat.le_refl _) hM160Z (by rw [List.length_drop]; omega)
                      rw [show x.length - ys.length = 0 by omega] at cP2
                      have CP2 := Lib.hid cP2
                      clear cP2
                      go_still_tail 9, (by kernel_rfl)
                      change wpList _ _ _ _ _ wy.drew
                      go_wp2_with fail
                      refine CP2.out.mono ?_
                      rintro e w6 ⟨v', rfl, hg6, hf6, hs6⟩
                      have HG6 := Lib.hid hg6
                      clear hg6 hf6 hs6
                      go_wp2_with fail
                      go_roundw
                      case rel => exact ⟨j + 1, by omega, by go_num, by show GrowL _ _ _ _ _; rw [HNX.out, turn1_tt HB1E.out HB2E.out, ← HM1.out]; exact HG6.out⟩
                      case measure => (simp [intOf]; try omega)
                · have hc4y : (c4 = x.length) = False := by simp [hc4x]
                  have cP := bkPut_any w1 w1.heap.size M (ys.drop x.length) (.slice (some ⟨bL, oL, Option.none⟩) M.length cL) (.slice (some ⟨b3y, o3y + x.length, Option.none⟩) (ys.length - x.length) (c4 - x.length)) hi wp.drew (HGZ.out.belowR (Below.refl _ _).drew) (show RdI wp.drew _ _ _ from RdI.dropLe HRZ.out hxy) (by have := HGZ.out.2.2; show hi ≤ wp.heap.size; omega) hM160 (by rw [List.length_drop]; omega)
                  have CP := Lib.hid cP
                  clear cP
                  go_still_tail 9, (by kernel_rfl)
                  change wpList _ _ _ _ _ wp.drew
                  go_wp2_with fail
                  refine CP.out.mono ?_
                  rintro e wq ⟨v', rfl, hg5, hf5, hs5⟩
                  have HYZ5 : Hid (Blk wq wr.heap.size 60 [.string t, (.slice (some ⟨b3y, o3y, Option.none⟩) ys.length c4)]) := Blk.fr (show Blk wp.drew wr.heap.size 60 _ from HYZ.out) hf5 (by decide) (by decide)
                  have HRZ5 : Hid (RdI wq hi (.slice (some ⟨b3y, o3y, Option.none⟩) ys.length c4) ys) := RdI.below HRY.out hg5.2.1 (by omega)
                  have hyZ5 := HYZ5.out.cell 1
                  clear hcZ hyZ HGZ HEZ HYZ HRZ
                  obtain ⟨M1, hM1⟩ : ∃ M1, M1 = putR M (ys.drop x.length) := ⟨_, rfl⟩
                  have hmn1 := put_at (r := ys.drop x.length) HMN.out
                  rw [← hM1] at hg5 hM160Z hmn1
                  have HM1 := Lib.hid hM1
                  have HMNZ := Lib.hid hmn1
                  have hM1l := (List.getElem?_eq_some_iff.1 hmn1).1
                  clear hM1 hmn1 hf5 hs5
                  have HYZ := HYZ5
                  have HRZ := HRZ5
                  have hyZ := hyZ5
                  clear HYZ5 HRZ5 hyZ5
                  obtain ⟨bL, oL, cL, uL, zs, hv, hz, hcZ, hel⟩ := hg5.at_ hM1l
                  subst hv
                  rw [HMNZ.out] at hz
                  cases hz
                  obtain ⟨AU, cU, rfl, _, _⟩ := Rd.form hel.1
                  have HEZ := Lib.hid hel
                  have HGZ := Lib.hid hg5
                  clear hel hg5
                  have cB2 := fun m => bkBegins_any ys x (.slice (some ⟨b3y, o3y, Option.none⟩) ys.length c4) (.slice AU x.length cU) hi wq.heap.size (wq.drewN m) (show RdI (wq.drewN m) _ _ _ from HRZ.out) (show RdI (wq.drewN m) _ _ _ from HEZ.out.1)
                  have hMlZ : n < M1.length := (List.getElem?_eq_some_iff.1 HMNZ.out).1
                  cases b2 : begB ys x
                  · simp only [b2] at cB2
                    have CB2 := Lib.hid cB2
                    have HB2E := Lib.hid b2
                    clear cB2 b2
                    go_wp2_with fail
                    go_quiet ((go_at_call 209; exact Calls.quiet_of (CB2.out _)))
                    go_wp2_with fail
                    go_roundw
                    case rel => exact ⟨j + 1, by omega, by go_num, by show GrowL _ _ _ _ _; rw [HNX.out, turn1_tf HB1E.out HB2E.out, ← HM1.out]; exact HGZ.out.belowR (bel_drewN _ _ _)⟩
                    case measure => (simp [intOf]; try omega)
                  · simp only [b2] at cB2
                    have CB2 := Lib.hid cB2
                    have HB2E := Lib.hid b2
                    have hyx := begB_le b2
                    clear cB2 b2
                    obtain ⟨b4, o4, c5, hv4, hcpx, hcqx⟩ := ints_form HEZ.out.1 (by omega)
                    injection hv4 with hv5 hv6 hv7
                    subst hv5 hv7
                    clear hv6
                    go_wp2_with fail
                    go_quiet ((go_at_call 209; exact Calls.quiet_of (CB2.out _)))
                    go_wp2_with fail
                    have HGY : Hid (GrowL w1 w1.heap.size (wq.drewN nq) (.slice (some ⟨bL, oL, Option.none⟩) M1.length cL) M1) := HGZ.out.belowR (bel_drewN _ _ _)
                    have HEY : Hid (El (wq.drewN nq) w1.heap.size (.slice (some ⟨b4, o4, Option.none⟩) x.length cU) x) := HEZ.out.below HGZ.out.2.2 (bel_drewN _ _ _)
                    have hcY : (wq.drewN nq).cell? ⟨bL, oL + n, Option.none⟩ = some (.slice (some ⟨b4, o4, Option.none⟩) x.length cU) := hcZ
                    have hyY : (wq.drewN nq).cell? ⟨wr.heap.size, 1, Option.none⟩ = some (.slice (some ⟨b3y, o3y, Option.none⟩) ys.length c4) := hyZ
                    clear hcZ hyZ
                    generalize (wq.drewN nq) = wy at HGY HEY hcY hyY ⊢
                    by_cases hcu : cU = ys.length
                    · subst hcu
                      have cP2 := bkPut_any w1 w1.heap.size M1 (x.drop ys.length) (.slice (some ⟨bL, oL, Option.none⟩) M1.length cL) (.slice (some ⟨b4, o4, Option.none⟩) 0 0) wy.heap.size wy.drew (HGY.out.belowR (Below.refl _ _).drew) (show RdI wy.drew _ _ _ from RdI.dropEnd HEY.out.1 hyx (by omega)) (Nat.le_refl _) hM160Z (by rw [List.length_drop]; omega)
                      have CP2 := Lib.hid cP2
                      clear cP2
                      go_still_tail 9, (by kernel_rfl)
                      change wpList _ _ _ _ _ wy.drew
                      go_wp2_with fail
                      refine CP2.out.mono ?_
                      rintro e w6 ⟨v', rfl, hg6, hf6, hs6⟩
                      have HG6 := Lib.hid hg6
                      clear hg6 hf6 hs6
                      go_wp2_with fail
                      go_roundw
                      case rel => exact ⟨j + 1, by omega, by go_num, by show GrowL _ _ _ _ _; rw [HNX.out, turn1_tt HB1E.out HB2E.out, ← HM1.out]; exact HG6.out⟩
                      case measure => (simp [intOf]; try omega)
                    · have hcu2 : (cU = ys.length) = False := by simp [hcu]
                      have cP2 := bkPut_any w1 w1.heap.size M1 (x.drop ys.length) (.slice (some ⟨bL, oL, Option.none⟩) M1.length cL) (.slice (some ⟨b4, o4 + ys.length, Option.none⟩) (x.length - ys.length) (cU - ys.length)) wy.heap.size wy.drew (HGY.out.belowR (Below.refl _ _).drew) (show RdI wy.drew _ _ _ from RdI.dropLe HEY.out.1 hyx) (Nat.le_refl _) hM160Z (by rw [List.length_drop]; omega)
                      rw [show x.length - ys.length = 0 by omega] at cP2
                      have CP2 := Lib.hid cP2
                      clear cP2
                      go_still_tail 9, (by kernel_rfl)
                      change wpList _ _ _ _ _ wy.drew
                      go_wp2_with fail
                      refine CP2.out.mono ?_
                      rintro e w6 ⟨v', rfl, hg6, hf6, hs6⟩
                      have HG6 := Lib.hid hg6
                      clear hg6 hf6 hs6
                      go_wp2_with fail
                      go_roundw
                      case rel => exact ⟨j + 1, by omega, by go_num, by show GrowL _ _ _ _ _; rw [HNX.out, turn1_tt HB1E.out HB2E.out, ← HM1.out]; exact HG6.out⟩
                      case measure => (simp [intOf]; try omega)
            · obtain rfl : j = ps.length := by omega
              have HON := Lib.hid (hrt.out.on HBK.out HXN.out)
              go_wp2_with fail
              go_roundw
              case rel => exact ⟨n + 1, turnR ps x L ps.length, by go_num, HON.out, hg2.out⟩
              case measure => (simp [intOf]; try omega)
        · have HFIN := Lib.hid (hrt.out.fin (by omega))
          go_wp2_with fail
          go_ret
          exact ⟨_, rfl, by rw [← HFIN.out]; exact hg.out.rd, HB1.out.trans (hg.out.2.1.mono (by omega))⟩
end Go.Proofs.Ytabiobjcfopakaa
/- Contracts: whether signals are read one way, of the program and of the reference. -/
namespace Go.Proofs.Ytabiobjcfopakaa
open Go.RowKit
theorem BoxL.bel {a w : World} {B L : Nat} {xss : List (List Int)} (h : BoxL a B w L xss) : Below B a w := by obtain ⟨_, _, h2, _⟩ := h; exact h2.2.1
theorem BoxL.le {a w : World} {B L : Nat} {xss : List (List Int)} (h : BoxL a B w L xss) : B ≤ w.heap.size := by obtain ⟨_, _, h2, _⟩ := h; exact h2.2.2
theorem BoxL.open_ {a w : World} {B L : Nat} {xss : List (List Int)} (h : BoxL a B w L xss) : ∃ A c, Blk w L 61 [.slice A xss.length c] ∧ GrowL a B w (.slice A xss.length c) xss ∧ xss.length ≤ 9223372036854775807 := by
  obtain ⟨v, h1, h2, _⟩ := h
  obtain ⟨A, c, rfl, hm⟩ := h2.form
  exact ⟨A, c, h1, h2, hm⟩
theorem boxl_start (w : World) (n : Nat) (h : w.heap.size = n) : BoxL w w.heap.size (w.alloc (.cells #[.slice Option.none 0 0] 61)) n [] :=
  h ▸ ⟨_, Blk.new _ _ _, (GrowL.start w rfl).belowR ((Below.refl _ _).alloc (Nat.le_refl _) _), Nat.le_refl _⟩
theorem one_no {ps : List Phr} {M : List (List Int)} (h : [] ∈ M) (hp : M <+: restsR ps) : oneB ps = false := by
  unfold oneB; exact decide_eq_false (fun hn => hn (hp.subset h))
theorem one_yes {ps : List Phr} (h : [] ∉ restsR ps) : oneB ps = true := by
  unfold oneB; exact decide_eq_true h
set_option maxRecDepth 100000 in
set_option maxHeartbeats 8000000 in
theorem readOneWay_any (ps : List Phr) (v : Value) (hi : Nat) (w : World) (h : RdB w hi v ps) (hh : hi ≤ w.heap.size) (hbk : bookB ps = true) :
    Calls Try.prog 138 #[v] w fun e w' => e = .returned (.bool (oneB ps)) ∧ Below w.heap.size w w' := by
  obtain ⟨a, rfl, ha⟩ := h
  obtain ⟨A, c, rfl, hc, hm⟩ := ha.form
  have hba : Below w.heap.size w (w.alloc (.cells #[.slice A ps.length c] 48)) := (Below.refl _ _).alloc (Nat.le_refl _) _
  have HB := Lib.hid hba
  have HA := Lib.hid (ha.below hba hh)
  have HG : Hid (RdB (w.alloc (.cells #[.slice A ps.length c] 48)) hi (.agg #[.slice A ps.length c]) ps) := ⟨_, rfl, HA.out⟩
  have hcb0 : (w.alloc (.cells #[.slice A ps.length c] 48)).cell? ⟨w.heap.size, 0, Option.none⟩ = some (.slice A ps.length c) := (Blk.new w 48 #[.slice A ps.length c]).cell 0
  have HCB := Lib.hid hcb0
  have hsz1 : hi ≤ (w.alloc (.cells #[.slice A ps.length c] 48)).heap.size := by simp; omega
  clear ha hba hcb0
  have HBK := Lib.hid hbk
  clear hbk
  have hcb2 : ((w.alloc (.cells #[.slice A ps.length c] 48)).alloc (.cells #[.slice Option.none 0 0] 61)).cell? ⟨w.heap.size, 0, Option.none⟩ = some (.slice A ps.length c) := (((Below.refl (w.alloc (.cells #[.slice A ps.length c] 48)).heap.size _).alloc (Nat.le_refl _) _).cell (p := ⟨w.heap.size, 0, Option.none⟩) (by simp)).trans HCB.out
  go_enter Try.func138, Try.ntmps138
  go_wp2_with fail
  have HA1 := HA
  have HB1 := HB
  have HCBX := HCB
  have hs1 : w.heap.size + 1 ≤ (w.alloc (.cells #[.slice A ps.length c] 48)).heap.size := by simp
  have hsE : (w.alloc (.cells #[.slice A ps.length c] 48)).heap.size = w.heap.size + 1 := by simp
  generalize (w.alloc (.cells #[.slice A ps.length c] 48)) = w1 at HA HG HB HCB HA1 HB1 HCBX hsz1 hs1 hsE hcb2 ⊢
  clear HA HG HB HCB hcb2
  go_loopw [16] (fun i wr => ∃ k : Nat, k ≤ ps.length ∧ i = .int .i64 k ∧ Hid (BoxL w1 w1.heap.size wr (w.heap.size + 1) (seedI ps k))) (fun i _ => ps.length - (intOf i).toNat)
  case atStart => exact ⟨0, Nat.zero_le _, rfl, boxl_start w1 _ hsE⟩
  case round =>
    obtain ⟨k, hk, rfl, hg⟩ := hrel
    have hs0 := hg.out.bel.size
    have hcbr := (hg.out.bel.cell (p := ⟨w.heap.size, 0, Option.none⟩) (by show w.heap.size < w1.heap.size; omega)).trans HCBX.out
    by_cases hlt : k < ps.length
    · obtain ⟨b1, o1, d1, a, t, xs, hv, hb1, hx, hcell1, hcell2, hra, hta⟩ := HA1.out.at_ hlt
      cases hv
      have hpk := phrOk_sig (bookB_phr HBK.out (List.mem_of_getElem? hx))
      have h1 : 1 ≤ xs.length := hpk.1
      have h3 : xs.length ≤ 3 := hpk.2.1
      obtain ⟨b3, o3, c2, rfl, hcp, hcq⟩ := ints_form hra h1
      have e1 := (hg.out.bel.cell (p := ⟨b1, o1 + k * 2, Option.none⟩) (by show b1 < _; omega)).trans hcell1
      have e2 := (hg.out.bel.cell (p := ⟨b1, o1 + k * 2 + 1, Option.none⟩) (by show b1 < _; omega)).trans hcell2
      have HX := Lib.hid hx
      have HR := Lib.hid hra
      clear hx hra hpk hcell1 hcell2
      have HXB : Hid (Blk (wr.alloc (.cells #[.string t, .slice (some ⟨b3, o3, Option.none⟩) xs.length c2] 60)) wr.heap.size 60 [.string t, .slice (some ⟨b3, o3, Option.none⟩) xs.length c2]) := Blk.new wr _ _
      have HGP := Lib.hid (hg.out.belowR ((Below.refl wr.heap.size wr).alloc (Nat.le_refl _) (.cells #[.string t, .slice (some ⟨b3, o3, Option.none⟩) xs.length c2] 60)))
      have hsX : w1.heap.size ≤ wr.heap.size := hs0
      have hcbP : (wr.alloc (.cells #[.string t, .slice (some ⟨b3, o3, Option.none⟩) xs.length c2] 60)).cell? ⟨w.heap.size, 0, Option.none⟩ = some (.slice (some ⟨b1, o1, Option.none⟩) ps.length c) := (((Below.refl wr.heap.size wr).alloc (Nat.le_refl _) _).cell (p := ⟨w.heap.size, 0, Option.none⟩) (by show w.heap.size < wr.heap.size; omega)).trans hcbr
      clear hcbr
      rename World => wo
      go_wp2_with fail
      go_loopw [24] (fun i wr => ∃ j : Nat, j ≤ ps.length ∧ i = .int .i64 j ∧ Hid (BoxL w1 w1.heap.size wr (w.heap.size + 1) (seedK ps k (t, xs) (seedI ps k) j)) ∧ Hid (Blk wr wo.heap.size 60 [.string t, .slice (some ⟨b3, o3, Option.none⟩) xs.length c2])) (fun i _ => ps.length - (intOf i).toNat)
      case atStart => exact ⟨0, Nat.zero_le _, rfl, HGP.out, HXB.out⟩
      case round =>
        obtain ⟨j, hjl, rfl, hg2, hxb⟩ := hrel
        have hs2 := hg2.out.bel.size
        have hxc := hxb.out.cell 1
        have hxlt := hxb.out.lt
        clear e1 e2
        by_cases hltj : j < ps.length
        · obtain ⟨b1y, o1y, d1y, ay, t2, ys, hv, hb1y, hx, hcell1, hcell2, hra, hta⟩ := HA1.out.at_ hltj
          cases hv
          have hpk := phrOk_sig (bookB_phr HBK.out (List.mem_of_getElem? hx))
          have h1y : 1 ≤ ys.length := hpk.1
          have h3y : ys.length ≤ 3 := hpk.2.1
          obtain ⟨b3y, o3y, c4, rfl, hcpy, hcqy⟩ := ints_form hra h1y
          have e1y := (hg2.out.bel.cell (p := ⟨b1, o1 + j * 2, Option.none⟩) (by show b1 < _; omega)).trans hcell1
          have e2y := (hg2.out.bel.cell (p := ⟨b1, o1 + j * 2 + 1, Option.none⟩) (by show b1 < _; omega)).trans hcell2
          have HY := Lib.hid hx
          have HRY := Lib.hid hra
          clear hx hra hpk hcell1 hcell2
          have HG2 := Lib.hid (hg2.out.belowR ((Below.refl wr.heap.size wr).alloc (Nat.le_refl _) (.cells #[.string t2, .slice (some ⟨b3y, o3y, Option.none⟩) ys.length c4] 60)))
          have HXB2 : Hid (Blk (wr.alloc (.cells #[.string t2, .slice (some ⟨b3y, o3y, Option.none⟩) ys.length c4] 60)) wo.heap.size 60 [.string t, .slice (some ⟨b3, o3, Option.none⟩) xs.length c2]) := hxb.out.alloc _
          have hxc2 := HXB2.out.cell 1
          have hyc2 : (wr.alloc (.cells #[.string t2, .slice (some ⟨b3y, o3y, Option.none⟩) ys.length c4] 60)).cell? ⟨wr.heap.size, 1, Option.none⟩ = some (.slice (some ⟨b3y, o3y, Option.none⟩) ys.length c4) := (Blk.new wr 60 #[.string t2, .slice (some ⟨b3y, o3y, Option.none⟩) ys.length c4]).cell 1
          have HYC := Lib.hid hyc2
          by_cases hkj : k = j
          · have hne : (((k : Nat) : Int) != ((j : Nat) : Int)) = false := by subst hkj; simp
            have HNO := Lib.hid (seed1_no (x := (t, xs)) (L := seedK ps k (t, xs) (seedI ps k) j) HY.out (fun h => h.1 hkj))
            clear hkj
            go_wp2_with fail
            go_roundw
            case rel => exact ⟨j + 1, by omega, by go_num, by show BoxL _ _ _ _ _; rw [seedK_succ, HNO.out]; exact HG2.out, HXB2.out⟩
            case measure => (simp [intOf]; try omega)
          · have hne : (((k : Nat) : Int) != ((j : Nat) : Int)) = true := by rw [bne_iff_ne]; omega
            have cB := begins_any xs ys (.slice (some ⟨b3, o3, Option.none⟩) xs.length c2) (.slice (some ⟨b3y, o3y, Option.none⟩) ys.length c4) hi hi (wr.alloc (.cells #[.string t2, .slice (some ⟨b3y, o3y, Option.none⟩) ys.length c4] 60)) (RdI.below HR.out HG2.out.bel (by omega)) (RdI.below HRY.out HG2.out.bel (by omega))
            cases hbg : begB xs ys
            · rw [hbg] at cB
              have CB := Lib.hid cB
              have HNO := Lib.hid (seed1_no (x := (t, xs)) (i := k) (L := seedK ps k (t, xs) (seedI ps k) j) HY.out (fun h => by have h2 : begB xs ys = true := h.2; rw [hbg] at h2; cases h2))
              clear cB hbg
              go_wp2_with fail
              refine CB.out.mono ?_
              rintro e w2 ⟨rfl, n, rfl⟩
              go_wp2_with fail
              go_roundw
              case rel => exact ⟨j + 1, by omega, by go_num, by show BoxL _ _ _ _ _; rw [seedK_succ, HNO.out]; exact HG2.out.belowR (bel_drewN _ _ _), HXB2.out⟩
              case measure => (simp [intOf]; try omega)
            · rw [hbg] at cB
              have CB := Lib.hid cB
              have hle : xs.length < ys.length := begB_lt HBK.out HX.out HY.out hkj hbg
              have HYES := Lib.hid (seed1_yes (x := (t, xs)) (i := k) (L := seedK ps k (t, xs) (seedI ps k) j) HY.out hkj hbg)
              have hl160 := ((RestOk.seedI ps k).seedK k (t, xs) j).len HBK.out
              clear cB hbg
              go_wp2_with fail
              refine CB.out.mono ?_
              rintro e w2 ⟨rfl, n, rfl⟩
              have HG3 : Hid (BoxL w1 w1.heap.size ((wr.alloc (.cells #[.string t2, .slice (some ⟨b3y, o3y, Option.none⟩) ys.length c4] 60)).drewN n) (w.heap.size + 1) (seedK ps k (t, xs) (seedI ps k) j)) := HG2.out.belowR (bel_drewN _ _ _)
              have HXB3 : Hid (Blk ((wr.alloc (.cells #[.string t2, .slice (some ⟨b3y, o3y, Option.none⟩) ys.length c4] 60)).drewN n) wo.heap.size 60 [.string t, .slice (some ⟨b3, o3, Option.none⟩) xs.length c2]) := HXB2.out
              have hxc3 := HXB3.out.cell 1
              have hyc3 : ((wr.alloc (.cells #[.string t2, .slice (some ⟨b3y, o3y, Option.none⟩) ys.length c4] 60)).drewN n).cell? ⟨wr.heap.size, 1, Option.none⟩ = some (.slice (some ⟨b3y, o3y, Option.none⟩) ys.length c4) := HYC.out
              have HRY3 : Hid (RdI ((wr.alloc (.cells #[.string t2, .slice (some ⟨b3y, o3y, Option.none⟩) ys.length c4] 60)).drewN n) w1.heap.size (.slice (some ⟨b3y, o3y, Option.none⟩) ys.length c4) ys) := (RdI.below HRY.out (HG2.out.bel.trans (bel_drewN _ _ _)) (by omega)).mono (by omega)
              clear hxc2 hyc2
              generalize ((wr.alloc (.cells #[.string t2, .slice (some ⟨b3y, o3y, Option.none⟩) ys.length c4] 60)).drewN n) = wq at HG3 HXB3 hxc3 hyc3 HRY3 ⊢
              have cP := readOneWay1_any w1 w1.heap.size (w.heap.size + 1) (seedK ps k (t, xs) (seedI ps k) j) (ys.drop xs.length) (.slice (some ⟨b3y, o3y + xs.length, Option.none⟩) (ys.length - xs.length) (c4 - xs.length)) wq HG3.out (el_old (RdI.dropLe HRY3.out (by omega)) HG3.out.le) hl160 (by rw [List.length_drop]; omega)
              have CP := Lib.hid cP
              clear cP
              go_wp2_with (go_at_call 218; refine CP.out.mono ?_; rintro e w5 ⟨⟨z, rfl⟩, hg5, hf5, hs5⟩; have HG5 := Lib.hid hg5; have HXB5 := Lib.hid (HXB3.out.fr hf5 (by decide) (by decide)); clear hg5 hf5 hs5)
              go_roundw
              case rel => exact ⟨j + 1, by omega, by go_num, by show BoxL _ _ _ _ _; rw [seedK_succ, HYES.out]; exact HG5.out, HXB5.out⟩
              case measure => (simp [intOf]; try omega)
        · obtain rfl : j = ps.length := by omega
          have HGE : Hid (BoxL w1 w1.heap.size wr (w.heap.size + 1) (seedI ps (k + 1))) := by show BoxL w1 w1.heap.size wr (w.heap.size + 1) (seedI ps (k + 1)); rw [seedI_succ HX.out]; exact hg2.out
          go_wp2_with fail
          go_roundw
          case rel => exact ⟨k + 1, by omega, by go_num, HGE.out⟩
          case measure => (simp [intOf]; try omega)
    · obtain rfl : k = ps.length := by omega
      have HG0 : Hid (BoxL w1 w1.heap.size wr (w.heap.size + 1) (seedR ps)) := hg.out
      go_wp2_with fail
      go_loopw [9] (fun i wr => ∃ (n : Nat) (L : List (List Int)), i = .int .i64 (n : Int) ∧ Hid (RunTo ps n L) ∧ Hid (BoxL w1 w1.heap.size wr (w.heap.size + 1) L) ∧ Hid ([] ∉ L)) (fun i _ => 200 - (intOf i).toNat)
      case atStart => exact ⟨0, seedR ps, rfl, RunTo.start ps, HG0.out, seedI_ne HBK.out _⟩
      case round =>
        obtain ⟨n, L, rfl, hrt, hg, hne0⟩ := hrel
        have hbd := hrt.out.bd HBK.out
        have hs0 := hg.out.bel.size
        have hcbr := (hg.out.bel.cell (p := ⟨w.heap.size, 0, Option.none⟩) (by show w.heap.size < w1.heap.size; omega)).trans HCBX.out
        obtain ⟨AL, cL0, hbk0, hgl0, hqm⟩ := hg.out.open_
        have hLr := hbk0.cell 0
        have hbd1 := hbd.1
        have hbd2 := hbd.2
        clear hbd hbk0 hgl0
        by_cases hnl : n < L.length
        · obtain ⟨x, hx⟩ : ∃ x, L[n]? = some x := ⟨_, List.getElem?_eq_getElem hnl⟩
          have hxl := ends_le HBK.out (hrt.out.1.ends x (List.mem_of_getElem? hx))
          have hxn : x ≠ [] := fun e => hne0.out (e ▸ List.mem_of_getElem? hx)
          have hx1 : 1 ≤ x.length := List.length_pos_iff.2 hxn
          have HXN := Lib.hid hx
          clear hx hxn
          go_wp2_with fail
          clear hLr
          go_loopw [58] (fun i wr => ∃ j : Nat, j ≤ ps.length ∧ i = .int .i64 j ∧ Hid (BoxL w1 w1.heap.size wr (w.heap.size + 1) (turnR ps x L j)) ∧ Hid ([] ∉ turnR ps x L j)) (fun i _ => ps.length - (intOf i).toNat)
          case atStart => exact ⟨0, Nat.zero_le _, rfl, hg.out, hne0.out⟩
          case round =>
            obtain ⟨j, hjl, rfl, hg2, hne⟩ := hrel
            have hs2 := hg2.out.bel.size
            have hmid := hrt.out.mid HBK.out HXN.out hjl
            by_cases hltj : j < ps.length
            · obtain ⟨b1y, o1y, d1y, ay, t, ys, hv, hb1y, hx, hcell1, hcell2, hra, hta⟩ := HA1.out.at_ hltj
              cases hv
              have hpk := phrOk_sig (bookB_phr HBK.out (List.mem_of_getElem? hx))
              have h1y : 1 ≤ ys.length := hpk.1
              have h3y : ys.length ≤ 3 := hpk.2.1
              obtain ⟨b3y, o3y, c4, rfl, hcpy, hcqy⟩ := ints_form hra h1y
              have e1y := (hg2.out.bel.cell (p := ⟨b1y, o1y + j * 2, Option.none⟩) (by show b1y < _; omega)).trans hcell1
              have e2y := (hg2.out.bel.cell (p := ⟨b1y, o1y + j * 2 + 1, Option.none⟩) (by show b1y < _; omega)).trans hcell2
              have HY := Lib.hid hx
              have HRY := Lib.hid hra
              clear hx hra hpk hcell1 hcell2
              obtain ⟨M, hM⟩ : ∃ M, M = turnR ps x L j := ⟨_, rfl⟩
              have hnext := turnR_succ (ps := ps) (x := x) (L := L) HY.out
              rw [← hM] at hg2 hmid hnext hne
              have HNEM := hne
              have hM160 := hmid.2.2.1
              have hMn := hmid.2.2.2
              have hMl := (List.getElem?_eq_some_iff.1 hMn).1
              have HMN := Lib.hid hMn
              have HNX := Lib.hid hnext
              clear hmid hnext hM hMn hne
              have HG0' : Hid (BoxL w1 w1.heap.size (wr.alloc (.cells #[.string t, .slice (some ⟨b3y, o3y, Option.none⟩) ys.length c4] 60)) (w.heap.size + 1) M) := hg2.out.belowR ((Below.refl wr.heap.size wr).alloc (Nat.le_refl _) _)
              have hy0 : (wr.alloc (.cells #[.string t, .slice (some ⟨b3y, o3y, Option.none⟩) ys.length c4] 60)).cell? ⟨wr.heap.size, 1, Option.none⟩ = some (.slice (some ⟨b3y, o3y, Option.none⟩) ys.length c4) := (Blk.new wr 60 #[.string t, (.slice (some ⟨b3y, o3y, Option.none⟩) ys.length c4)]).cell 1
              have HB0 : Hid (Blk (wr.alloc (.cells #[.string t, .slice (some ⟨b3y, o3y, Option.none⟩) ys.length c4] 60)) wr.heap.size 60 [.string t, (.slice (some ⟨b3y, o3y, Option.none⟩) ys.length c4)]) := Blk.new wr _ _
              have hszP : wr.heap.size + 1 = (wr.alloc (.cells #[.string t, .slice (some ⟨b3y, o3y, Option.none⟩) ys.length c4] 60)).heap.size := by simp
              have hMB := hM160
              obtain ⟨AM, cM, hbkM, hglM, hqM⟩ := HG0'.out.open_
              obtain ⟨bL, oL, cL, uL, zs, hv, hz, hc0, hel⟩ := hglM.at_ hMl
              rw [HMN.out] at hz
              cases hz
              injection hv with hv1 hv2 hv3
              subst hv1 hv3
              have hL0 := hbkM.cell 0
              obtain ⟨b4, o4, cU, rfl, hcpx, hcqx⟩ := ints_form hel.1 hx1
              have HE0 := Lib.hid hel
              have HR0 : Hid (RdI (wr.alloc (.cells #[.string t, .slice (some ⟨b3y, o3y, Option.none⟩) ys.length c4] 60)) hi (.slice (some ⟨b3y, o3y, Option.none⟩) ys.length c4) ys) := RdI.below HRY.out HG0'.out.bel (by omega)
              have HG0 := HG0'
              clear hel hbkM hglM HG0' hv2
              by_cases heq : x = ys
              · have cE := fun m => slicesEqual_any x ys (.slice (some ⟨b4, o4, Option.none⟩) x.length cU) (.slice (some ⟨b3y, o3y, Option.none⟩) ys.length c4) (wr.alloc (.cells #[.string t, .slice (some ⟨b3y, o3y, Option.none⟩) ys.length c4] 60)).heap.size hi ((wr.alloc (.cells #[.string t, .slice (some ⟨b3y, o3y, Option.none⟩) ys.length c4] 60)).drewN m) (show RdI ((wr.alloc (.cells #[.string t, .slice (some ⟨b3y, o3y, Option.none⟩) ys.length c4] 60)).drewN m) _ _ _ from HE0.out.1) (show RdI ((wr.alloc (.cells #[.string t, .slice (some ⟨b3y, o3y, Option.none⟩) ys.length c4] 60)).drewN m) _ _ _ from HR0.out)
                simp only [decide_eq_true heq] at cE
                have CE := Lib.hid cE
                have HONE := Lib.hid (one_no (turn1_same (L := M) (y := (t, ys)) heq) (by rw [← HNX.out]; exact (hrt.out.mid HBK.out HXN.out (j := j + 1) (by omega)).1))
                clear cE heq
                go_wp2_with fail
                go_quiet ((go_at_call 221; exact Calls.quiet_of (CE.out _)))
                go_wp2_with fail
                have HGZ : Hid (BoxL w1 w1.heap.size ((wr.alloc (.cells #[.string t, .slice (some ⟨b3y, o3y, Option.none⟩) ys.length c4] 60)).drewN nq) (w.heap.size + 1) M) := HG0.out.belowR (bel_drewN _ _ _)
                have HEZ : Hid (El ((wr.alloc (.cells #[.string t, .slice (some ⟨b3y, o3y, Option.none⟩) ys.length c4] 60)).drewN nq) w1.heap.size (.slice (some ⟨b4, o4, Option.none⟩) x.length cU) x) := HE0.out.below HG0.out.le (bel_drewN _ _ _)
                have HBZ : Hid (Blk ((wr.alloc (.cells #[.string t, .slice (some ⟨b3y, o3y, Option.none⟩) ys.length c4] 60)).drewN nq) wr.heap.size 60 [.string t, (.slice (some ⟨b3y, o3y, Option.none⟩) ys.length c4)]) := HB0.out
                have HRZ : Hid (RdI ((wr.alloc (.cells #[.string t, .slice (some ⟨b3y, o3y, Option.none⟩) ys.length c4] 60)).drewN nq) hi (.slice (some ⟨b3y, o3y, Option.none⟩) ys.length c4) ys) := HR0.out
                have hLZ : ((wr.alloc (.cells #[.string t, .slice (some ⟨b3y, o3y, Option.none⟩) ys.length c4] 60)).drewN nq).cell? ⟨w.heap.size + 1, 0, Option.none⟩ = some (.slice (some ⟨bL, oL, Option.none⟩) M.length cM) := hL0
                have hcZ : ((wr.alloc (.cells #[.string t, .slice (some ⟨b3y, o3y, Option.none⟩) ys.length c4] 60)).drewN nq).cell? ⟨bL, oL + n, Option.none⟩ = some (.slice (some ⟨b4, o4, Option.none⟩) x.length cU) := hc0
                have hyZ : ((wr.alloc (.cells #[.string t, .slice (some ⟨b3y, o3y, Option.none⟩) ys.length c4] 60)).drewN nq).cell? ⟨wr.heap.size, 1, Option.none⟩ = some (.slice (some ⟨b3y, o3y, Option.none⟩) ys.length c4) := hy0
                clear hL0 hc0 hy0
                generalize ((wr.alloc (.cells #[.string t, .slice (some ⟨b3y, o3y, Option.none⟩) ys.length c4] 60)).drewN nq) = wq at HGZ HEZ HBZ HRZ hLZ hcZ hyZ ⊢
                go_ret
                exact ⟨ret_bool HONE.out.symm, HB1.out.trans (HGZ.out.bel.mono (by omega))⟩
              · have cE := fun m => slicesEqual_any x ys (.slice (some ⟨b4, o4, Option.none⟩) x.length cU) (.slice (some ⟨b3y, o3y, Option.none⟩) ys.length c4) (wr.alloc (.cells #[.string t, .slice (some ⟨b3y, o3y, Option.none⟩) ys.length c4] 60)).heap.size hi ((wr.alloc (.cells #[.string t, .slice (some ⟨b3y, o3y, Option.none⟩) ys.length c4] 60)).drewN m) (show RdI ((wr.alloc (.cells #[.string t, .slice (some ⟨b3y, o3y, Option.none⟩) ys.length c4] 60)).drewN m) _ _ _ from HE0.out.1) (show RdI ((wr.alloc (.cells #[.string t, .slice (some ⟨b3y, o3y, Option.none⟩) ys.length c4] 60)).drewN m) _ _ _ from HR0.out)
                simp only [decide_eq_false heq] at cE
                have CE := Lib.hid cE
                have HNEQ := Lib.hid heq
                clear cE heq
                go_wp2_with fail
                go_quiet ((go_at_call 221; exact Calls.quiet_of (CE.out _)))
                go_wp2_with fail
                have HGZ : Hid (BoxL w1 w1.heap.size ((wr.alloc (.cells #[.string t, .slice (some ⟨b3y, o3y, Option.none⟩) ys.length c4] 60)).drewN nq) (w.heap.size + 1) M) := HG0.out.belowR (bel_drewN _ _ _)
                have HEZ : Hid (El ((wr.alloc (.cells #[.string t, .slice (some ⟨b3y, o3y, Option.none⟩) ys.length c4] 60)).drewN nq) w1.heap.size (.slice (some ⟨b4, o4, Option.none⟩) x.length cU) x) := HE0.out.below HG0.out.le (bel_drewN _ _ _)
                have HBZ : Hid (Blk ((wr.alloc (.cells #[.string t, .slice (some ⟨b3y, o3y, Option.none⟩) ys.length c4] 60)).drewN nq) wr.heap.size 60 [.string t, (.slice (some ⟨b3y, o3y, Option.none⟩) ys.length c4)]) := HB0.out
                have HRZ : Hid (RdI ((wr.alloc (.cells #[.string t, .slice (some ⟨b3y, o3y, Option.none⟩) ys.length c4] 60)).drewN nq) hi (.slice (some ⟨b3y, o3y, Option.none⟩) ys.length c4) ys) := HR0.out
                have hLZ : ((wr.alloc (.cells #[.string t, .slice (some ⟨b3y, o3y, Option.none⟩) ys.length c4] 60)).drewN nq).cell? ⟨w.heap.size + 1, 0, Option.none⟩ = some (.slice (some ⟨bL, oL, Option.none⟩) M.length cM) := hL0
                have hcZ : ((wr.alloc (.cells #[.string t, .slice (some ⟨b3y, o3y, Option.none⟩) ys.length c4] 60)).drewN nq).cell? ⟨bL, oL + n, Option.none⟩ = some (.slice (some ⟨b4, o4, Option.none⟩) x.length cU) := hc0
                have hyZ : ((wr.alloc (.cells #[.string t, .slice (some ⟨b3y, o3y, Option.none⟩) ys.length c4] 60)).drewN nq).cell? ⟨wr.heap.size, 1, Option.none⟩ = some (.slice (some ⟨b3y, o3y, Option.none⟩) ys.length c4) := hy0
                clear hL0 hc0 hy0
                generalize ((wr.alloc (.cells #[.string t, .slice (some ⟨b3y, o3y, Option.none⟩) ys.length c4] 60)).drewN nq) = wq at HGZ HEZ HBZ HRZ hLZ hcZ hyZ ⊢
                have cB1 := fun m => begins_any x ys (.slice (some ⟨b4, o4, Option.none⟩) x.length cU) (.slice (some ⟨b3y, o3y, Option.none⟩) ys.length c4) wq.heap.size hi (wq.drewN m) (show RdI (wq.drewN m) _ _ _ from HEZ.out.1) (show RdI (wq.drewN m) _ _ _ from HRZ.out)
                cases b1 : begB x ys
                · simp only [b1] at cB1
                  have CB1 := Lib.hid cB1
                  have HB1E := Lib.hid b1
                  clear cB1 b1
                  go_wp2_with fail
                  go_quiet ((go_at_call 208; exact Calls.quiet_of (CB1.out _)))
                  go_wp2_with fail
                  have HGY : Hid (BoxL w1 w1.heap.size (wq.drewN nq) (w.heap.size + 1) M) := HGZ.out.belowR (bel_drewN _ _ _)
                  have HEY : Hid (El (wq.drewN nq) w1.heap.size (.slice (some ⟨b4, o4, Option.none⟩) x.length cU) x) := HEZ.out.below HGZ.out.le (bel_drewN _ _ _)
                  have HBY : Hid (Blk (wq.drewN nq) wr.heap.size 60 [.string t, (.slice (some ⟨b3y, o3y, Option.none⟩) ys.length c4)]) := HBZ.out
                  have HRY' : Hid (RdI (wq.drewN nq) hi (.slice (some ⟨b3y, o3y, Option.none⟩) ys.length c4) ys) := HRZ.out
                  have hLY : (wq.drewN nq).cell? ⟨w.heap.size + 1, 0, Option.none⟩ = some (.slice (some ⟨bL, oL, Option.none⟩) M.length cM) := hLZ
                  have hcY : (wq.drewN nq).cell? ⟨bL, oL + n, Option.none⟩ = some (.slice (some ⟨b4, o4, Option.none⟩) x.length cU) := hcZ
                  have hyY : (wq.drewN nq).cell? ⟨wr.heap.size, 1, Option.none⟩ = some (.slice (some ⟨b3y, o3y, Option.none⟩) ys.length c4) := hyZ
                  clear hLZ hcZ hyZ
                  generalize (wq.drewN nq) = wp at HGY HEY HBY HRY' hLY hcY hyY ⊢
                  have cB2 := fun m => begins_any ys x (.slice (some ⟨b3y, o3y, Option.none⟩) ys.length c4) (.slice (some ⟨b4, o4, Option.none⟩) x.length cU) hi wp.heap.size (wp.drewN m) (show RdI (wp.drewN m) _ _ _ from HRY'.out) (show RdI (wp.drewN m) _ _ _ from HEY.out.1)
                  cases b2 : begB ys x
                  · simp only [b2] at cB2
                    have CB2 := Lib.hid cB2
                    have HT1 := Lib.hid (turn1_no (L := M) (y := (t, ys)) HB1E.out b2)
                    clear cB2 b2
                    go_wp2_with fail
                    go_quiet ((go_at_call 208; exact Calls.quiet_of (CB2.out _)))
                    go_wp2_with fail
                    have HG6 : Hid (BoxL w1 w1.heap.size (wp.drewN nq) (w.heap.size + 1) M) := HGY.out.belowR (bel_drewN _ _ _)
                    go_roundw
                    case rel => exact ⟨j + 1, by omega, by go_num, by show BoxL _ _ _ _ _; rw [HNX.out, HT1.out]; exact HG6.out, by show [] ∉ _; rw [HNX.out, HT1.out]; exact HNEM.out⟩
                    case measure => (simp [intOf]; try omega)
                  · simp only [b2] at cB2
                    have CB2 := Lib.hid cB2
                    have hyx := begB_le b2
                    have HT1 := Lib.hid (turn1_aft (L := M) (y := (t, ys)) HB1E.out b2).1
                    have HNE2 : Hid ([] ∉ turnR ps x L (j + 1)) := by show [] ∉ _; rw [HNX.out, HT1.out]; exact put_ne HNEM.out (turn1_aft (L := M) (y := (t, ys)) HB1E.out b2).2
                    have hys : ys.length < x.length := by
                      rcases Nat.lt_or_ge ys.length x.length with h | h
                      · exact h
                      · exact absurd (List.drop_of_length_le h) (turn1_aft (L := M) (y := (t, ys)) HB1E.out b2).2
                    have hcu2 : (cU = ys.length) = False := eq_false (by omega)
                    clear cB2 b2
                    go_wp2_with fail
                    go_quiet ((go_at_call 208; exact Calls.quiet_of (CB2.out _)))
                    go_wp2_with fail
                    have HGX : Hid (BoxL w1 w1.heap.size (wp.drewN nq) (w.heap.size + 1) M) := HGY.out.belowR (bel_drewN _ _ _)
                    have HEX : Hid (El (wp.drewN nq) w1.heap.size (.slice (some ⟨b4, o4, Option.none⟩) x.length cU) x) := HEY.out.below HGY.out.le (bel_drewN _ _ _)
                    have HBX : Hid (Blk (wp.drewN nq) wr.heap.size 60 [.string t, (.slice (some ⟨b3y, o3y, Option.none⟩) ys.length c4)]) := HBY.out
                    have HRX : Hid (RdI (wp.drewN nq) hi (.slice (some ⟨b3y, o3y, Option.none⟩) ys.length c4) ys) := HRY'.out
                    have hLX : (wp.drewN nq).cell? ⟨w.heap.size + 1, 0, Option.none⟩ = some (.slice (some ⟨bL, oL, Option.none⟩) M.length cM) := hLY
                    have hcX : (wp.drewN nq).cell? ⟨bL, oL + n, Option.none⟩ = some (.slice (some ⟨b4, o4, Option.none⟩) x.length cU) := hcY
                    have hyX : (wp.drewN nq).cell? ⟨wr.heap.size, 1, Option.none⟩ = some (.slice (some ⟨b3y, o3y, Option.none⟩) ys.length c4) := hyY
                    clear hLY hcY hyY
                    generalize (wp.drewN nq) = wx at HGX HEX HBX HRX hLX hcX hyX ⊢
                    have cP := readOneWay1_any w1 w1.heap.size (w.heap.size + 1) M (x.drop ys.length) (.slice (some ⟨b4, o4 + ys.length, Option.none⟩) (x.length - ys.length) (cU - ys.length)) wx.drew (HGX.out.belowR (Below.refl _ _).drew) ((HEX.out.drop hyx).below (by show w1.heap.size ≤ _; exact HGX.out.le) (Below.refl _ _).drew) hM160 (by rw [List.length_drop]; omega)
                    have CP := Lib.hid cP
                    clear cP
                    go_still_tail 9, (by kernel_rfl)
                    change wpList _ _ _ _ _ wx.drew
                    go_wp2_with (go_at_call 218; refine CP.out.mono ?_; rintro e w6 ⟨⟨z, rfl⟩, hg6, hf6, hs6⟩; have HG6 := Lib.hid hg6; clear hg6 hf6 hs6)
                    go_roundw
                    case rel => exact ⟨j + 1, by omega, by go_num, by show BoxL _ _ _ _ _; rw [HNX.out, HT1.out]; exact HG6.out, HNE2.out⟩
                    case measure => (simp [intOf]; try omega)
                · simp only [b1] at cB1
                  have CB1 := Lib.hid cB1
                  have hxy := begB_le b1
                  have HT1 := Lib.hid (turn1_fore (L := M) (y := (t, ys)) HNEQ.out b1).1
                  have HNE2 : Hid ([] ∉ turnR ps x L (j + 1)) := by show [] ∉ _; rw [HNX.out, HT1.out]; exact put_ne HNEM.out (turn1_fore (L := M) (y := (t, ys)) HNEQ.out b1).2
                  have hxs : x.length < ys.length := by
                    rcases Nat.lt_or_ge x.length ys.length with h | h
                    · exact h
                    · exact absurd (List.drop_of_length_le h) (turn1_fore (L := M) (y := (t, ys)) HNEQ.out b1).2
                  have hcu3 : (c4 = x.length) = False := eq_false (by omega)
                  clear cB1 b1
                  go_wp2_with fail
                  go_quiet ((go_at_call 208; exact Calls.quiet_of (CB1.out _)))
                  go_wp2_with fail
                  have HGX : Hid (BoxL w1 w1.heap.size (wq.drewN nq) (w.heap.size + 1) M) := HGZ.out.belowR (bel_drewN _ _ _)
                  have HEX : Hid (El (wq.drewN nq) w1.heap.size (.slice (some ⟨b4, o4, Option.none⟩) x.length cU) x) := HEZ.out.below HGZ.out.le (bel_drewN _ _ _)
                  have HBX : Hid (Blk (wq.drewN nq) wr.heap.size 60 [.string t, (.slice (some ⟨b3y, o3y, Option.none⟩) ys.length c4)]) := HBZ.out
                  have HRX : Hid (RdI (wq.drewN nq) hi (.slice (some ⟨b3y, o3y, Option.none⟩) ys.length c4) ys) := HRZ.out
                  have hLX : (wq.drewN nq).cell? ⟨w.heap.size + 1, 0, Option.none⟩ = some (.slice (some ⟨bL, oL, Option.none⟩) M.length cM) := hLZ
                  have hcX : (wq.drewN nq).cell? ⟨bL, oL + n, Option.none⟩ = some (.slice (some ⟨b4, o4, Option.none⟩) x.length cU) := hcZ
                  have hyX : (wq.drewN nq).cell? ⟨wr.heap.size, 1, Option.none⟩ = some (.slice (some ⟨b3y, o3y, Option.none⟩) ys.length c4) := hyZ
                  clear hLZ hcZ hyZ
                  generalize (wq.drewN nq) = wx at HGX HEX HBX HRX hLX hcX hyX ⊢
                  have cP := readOneWay1_any w1 w1.heap.size (w.heap.size + 1) M (ys.drop x.length) (.slice (some ⟨b3y, o3y + x.length, Option.none⟩) (ys.length - x.length) (c4 - x.length)) wx.drew (HGX.out.belowR (Below.refl _ _).drew) (el_old (show RdI wx.drew w1.heap.size _ _ from (RdI.dropLe HRX.out hxy).mono (by omega)) HGX.out.le) hM160 (by rw [List.length_drop]; omega)
                  have CP := Lib.hid cP
                  clear cP
                  go_still_tail 9, (by kernel_rfl)
                  change wpList _ _ _ _ _ wx.drew
                  go_wp2_with (go_at_call 218; refine CP.out.mono ?_; rintro e w6 ⟨⟨z, rfl⟩, hg6, hf6, hs6⟩; have HG6 := Lib.hid hg6; clear hg6 hf6 hs6)
                  go_roundw
                  case rel => exact ⟨j + 1, by omega, by go_num, by show BoxL _ _ _ _ _; rw [HNX.out, HT1.out]; exact HG6.out, HNE2.out⟩
                  case measure => (simp [intOf]; try omega)
            · obtain rfl : j = ps.length := by omega
              have HON := Lib.hid (hrt.out.on HBK.out HXN.out)
              go_wp2_with fail
              go_roundw
              case rel => exact ⟨n + 1, turnR ps x L ps.length, by go_num, HON.out, hg2.out, hne.out⟩
              case measure => (simp [intOf]; try omega)
        · have HFIN := Lib.hid (hrt.out.fin (by omega))
          have HONE := Lib.hid (one_yes (by rw [← HFIN.out]; exact hne0.out))
          go_wp2_with fail
          go_ret
          exact ⟨ret_bool HONE.out.symm, HB1.out.trans (hg.out.bel.mono (by omega))⟩
end Go.Proofs.Ytabiobjcfopakaa
/- Contracts: IsReadOneWay, of the program and of the reference. -/
namespace Go.Proofs.Ytabiobjcfopakaa
open Go.RowKit
def rowV (b o : Bool) : Value := .tuple #[.bool (b && o), .bool b]
theorem rowV_form (b o : Bool) : ∃ p q : Bool, rowV b o = .tuple #[.bool p, .bool q] := ⟨_, _, rfl⟩
theorem rest_some {xss : List (List Int)} {k : Nat} (h : xss[k]? = some []) : [] ∈ xss := List.mem_of_getElem? h
set_option maxHeartbeats 800000 in
theorem IsReadOneWay_any (ps : List Phr) (v : Value) (hi : Nat) (w : World) (h : RdB w hi v ps) (hh : hi ≤ w.heap.size) :
    Calls Try.prog 39 #[v] w fun e w' => e = .returned (rowV (bookB ps) (oneB ps)) ∧ Below w.heap.size w w' := by
  obtain ⟨a, rfl, ha⟩ := h
  obtain ⟨A, c, rfl, hc, hm⟩ := ha.form
  have hba : Below w.heap.size w (w.alloc (.cells #[.slice A ps.length c] 48)) := (Below.refl _ _).alloc (Nat.le_refl _) _
  have HB := Lib.hid hba
  have HA := Lib.hid (ha.below hba hh)
  have HG : Hid (RdB (w.alloc (.cells #[.slice A ps.length c] 48)) hi (.agg #[.slice A ps.length c]) ps) := ⟨_, rfl, HA.out⟩
  have hcb0 : (w.alloc (.cells #[.slice A ps.length c] 48)).cell? ⟨w.heap.size, 0, Option.none⟩ = some (.slice A ps.length c) := (Blk.new w 48 #[.slice A ps.length c]).cell 0
  have HCB := Lib.hid hcb0
  have hsz1 : hi ≤ (w.alloc (.cells #[.slice A ps.length c] 48)).heap.size := by simp; omega
  clear ha hba hcb0
  have cB := IsBook_any ps (.agg #[.slice A ps.length c]) hi (w.alloc (.cells #[.slice A ps.length c] 48)) HG.out hsz1
  cases hbk : bookB ps
  · rw [hbk] at cB
    have CB := Lib.hid cB
    clear cB
    go_enter Try.func39, Try.ntmps39
    go_wp2_with (go_at_call 137; refine CB.out.mono ?_; rintro e w1 ⟨rfl, hb1⟩)
    go_ret2
    exact ⟨ret_val rfl, HB.out.trans (hb1.mono (by simp))⟩
  · rw [hbk] at cB
    have CB := Lib.hid cB
    have HBK := Lib.hid hbk
    clear cB
    go_enter Try.func39, Try.ntmps39
    go_wp2_with fail
    refine CB.out.mono ?_
    rintro e w1 ⟨rfl, hb1⟩
    have hcb := (hb1.cell (p := ⟨w.heap.size, 0, Option.none⟩) (by simp)).trans HCB.out
    have hs1 : w.heap.size + 1 ≤ w1.heap.size := by have := hb1.size; simpa using this
    have HA1 := Lib.hid (HA.out.below hb1 hsz1)
    have HG1 : Hid (RdB w1 hi (.agg #[.slice A ps.length c]) ps) := ⟨_, rfl, HA1.out⟩
    have HB1 := Lib.hid (HB.out.trans (hb1.mono (by simp)))
    clear hb1
    have cR := readOneWay_any ps (.agg #[.slice A ps.length c]) hi w1 HG1.out (by omega) HBK.out
    have CR := Lib.hid cR
    clear cR
    go_wp2_with fail
    refine CR.out.mono ?_
    rintro e w2 ⟨rfl, hb2⟩
    have HB2 := Lib.hid (HB1.out.trans (hb2.mono (by omega)))
    clear hb2
    go_wp2_with fail
    go_ret2
    exact ⟨ret_val rfl, HB2.out⟩
set_option maxHeartbeats 800000 in
theorem sIsReadOneWay_any (ps : List Phr) (v : Value) (hi : Nat) (w : World) (h : RdB w hi v ps) (hh : hi ≤ w.heap.size) :
    Calls Try.prog 37 #[v] w fun e w' => e = .returned (rowV (bookB ps) (oneB ps)) ∧ Below w.heap.size w w' := by
  obtain ⟨a, rfl, ha⟩ := h
  obtain ⟨A, c, rfl, hc, hm⟩ := ha.form
  have hba : Below w.heap.size w (w.alloc (.cells #[.slice A ps.length c] 48)) := (Below.refl _ _).alloc (Nat.le_refl _) _
  have HB := Lib.hid hba
  have HA := Lib.hid (ha.below hba hh)
  have HG : Hid (RdB (w.alloc (.cells #[.slice A ps.length c] 48)) hi (.agg #[.slice A ps.length c]) ps) := ⟨_, rfl, HA.out⟩
  have hcb0 : (w.alloc (.cells #[.slice A ps.length c] 48)).cell? ⟨w.heap.size, 0, Option.none⟩ = some (.slice A ps.length c) := (Blk.new w 48 #[.slice A ps.length c]).cell 0
  have HCB := Lib.hid hcb0
  have hsz1 : hi ≤ (w.alloc (.cells #[.slice A ps.length c] 48)).heap.size := by simp; omega
  clear ha hba hcb0
  have cB := bkGood_any ps (.agg #[.slice A ps.length c]) hi (w.alloc (.cells #[.slice A ps.length c] 48)) HG.out hsz1
  cases hbk : bookB ps
  · rw [hbk] at cB
    have CB := Lib.hid cB
    clear cB
    go_enter Try.func37, Try.ntmps37
    go_wp2_with (go_at_call 134; refine CB.out.mono ?_; rintro e w1 ⟨rfl, hb1⟩)
    go_ret2
    exact ⟨ret_val rfl, HB.out.trans (hb1.mono (by simp))⟩
  · rw [hbk] at cB
    have CB := Lib.hid cB
    have HBK := Lib.hid hbk
    clear cB
    go_enter Try.func37, Try.ntmps37
    go_wp2_with fail
    refine CB.out.mono ?_
    rintro e w1 ⟨rfl, hb1⟩
    have hcb := (hb1.cell (p := ⟨w.heap.size, 0, Option.none⟩) (by simp)).trans HCB.out
    have hs1 : w.heap.size + 1 ≤ w1.heap.size := by have := hb1.size; simpa using this
    have HA1 := Lib.hid (HA.out.below hb1 hsz1)
    have HG1 : Hid (RdB w1 hi (.agg #[.slice A ps.length c]) ps) := ⟨_, rfl, HA1.out⟩
    have HB1 := Lib.hid (HB.out.trans (hb1.mono (by simp)))
    clear hb1
    have cR := bkRests_any ps (.agg #[.slice A ps.length c]) hi w1 HG1.out (by omega) HBK.out
    have CR := Lib.hid cR
    clear cR
    go_wp2_with fail
    refine CR.out.mono ?_
    rintro e w2 ⟨v', rfl, hr2, hb2⟩
    have HB2 := Lib.hid (HB1.out.trans (hb2.mono (by omega)))
    have HR2 := Lib.hid hr2
    obtain ⟨A2, c2, rfl, hm2⟩ := hr2.form
    clear hb2 hr2
    go_wp2_with fail
    go_loop [12] (fun i => ∃ k : Nat, k ≤ (restsR ps).length ∧ i = .int .i64 k ∧ Hid (∀ j, j < k → (restsR ps)[j]? ≠ some [])) (fun i => (restsR ps).length - (intOf i).toNat)
    case atStart => exact ⟨0, Nat.zero_le _, rfl, fun j hj => by omega⟩
    case round =>
      obtain ⟨k, hk, rfl, hno⟩ := hrel
      by_cases hlt : k < (restsR ps).length
      · obtain ⟨b1, o1, c1, a1, xs, hv, _, hx, hcell1, hra⟩ := HR2.out.at_ hlt
        injection hv with hv1 hv2 hv3
        subst hv1
        obtain ⟨A3, c3, rfl, hc3, hm3⟩ := Rd.form hra
        clear hv2 hv3
        by_cases he : xs.length = 0
        · have hxe : xs = [] := List.length_eq_zero_iff.1 he
          have HONE := Lib.hid (show oneB ps = false by unfold oneB; exact decide_eq_false (fun hn => hn (rest_some (hxe ▸ hx))))
          clear hx hra
          go_wp2_with fail
          go_ret2
          exact ⟨ret_val (by rw [HONE.out]; rfl), HB2.out⟩
        · have HN : Hid ((restsR ps)[k]? ≠ some []) := by show _ ≠ _; rw [hx]; intro e; cases e; exact he rfl
          clear hx hra
          go_wp2_with fail
          go_round
          case rel => exact ⟨k + 1, by omega, by go_num, fun j hj => by
            by_cases e : j = k
            · subst e; exact HN.out
            · exact hno.out j (by omega)⟩
          case measure => simp [intOf]; omega
      · obtain rfl : k = (restsR ps).length := by omega
        have HONE := Lib.hid (show oneB ps = true from one_yes (notIn_full hno.out))
        go_wp2_with fail
        go_ret2
        exact ⟨ret_val (by rw [HONE.out]; rfl), HB2.out⟩
end Go.Proofs.Ytabiobjcfopakaa
