/- Contracts: CanonicalCode of the reference. -/
import Derived.Test.YtabiobjcfopakaaR5
namespace Go.Proofs.Ytabiobjcfopakaa
open Go.RowKit
/-- Two results: a slice of rows of the call's own, and a bool. -/
def RetOwIIT (xss : List (List Int)) (b : Bool) (w : World) (e : Ending) (w' : World) : Prop := ∃ v, e = .returned (.tuple #[v, .bool b]) ∧ OwII w' w.heap.size w'.heap.size v xss ∧ Below w.heap.size w w'
theorem owII_nil (w : World) (lo hi : Nat) : OwII w lo hi (.slice Option.none 0 0) [] := ⟨[], RowsO.nil _ _ _, World.ownsRow_nil _ _ _ _, fun k hk => by cases hk⟩
theorem retOwIIT_nil {w w' : World} (b : Bool) (h : Below w.heap.size w w') : RetOwIIT [] b w (.returned (.tuple #[.slice Option.none 0 0, .bool b])) w' := ⟨_, rfl, owII_nil _ _ _, h⟩
/-- One row is put in the place of another one. -/
theorem RowsO.put {w : World} {lo mid hi j : Nat} {us : List Value} {xss : List (List Int)} {u : Value} {xs : List Int} (h : RowsO w lo mid us xss) (hu : OwI w mid hi u xs) (h1 : lo ≤ mid) (h2 : mid ≤ hi) : RowsO w lo hi (us.set j u) (xss.set j xs) := by
  have hl := h.1
  refine ⟨by simp [hl], fun i a b ha hb => ?_, fun i k a b hik ha hb g hg => ?_⟩
  · by_cases e : j = i
    · subst e
      rcases Nat.lt_or_ge j us.length with hi2 | hi2
      · rw [List.getElem?_set_self hi2] at ha
        rw [List.getElem?_set_self (by omega)] at hb
        cases ha; cases hb
        exact hu.mono h1 (Nat.le_refl _)
      · rw [List.getElem?_eq_none (by simpa using hi2)] at ha; cases ha
    · rw [List.getElem?_set_ne e] at ha hb
      exact (h.2.1 i a b ha hb).mono (Nat.le_refl _) h2
  · have hold : ∀ (i : Nat) (a : Value), us[i]? = some a → ∀ g, a.ownBlock = some g → g < mid := by
      intro i a ha g hg
      have hil := (List.getElem?_eq_some_iff.1 ha).1
      exact ((h.2.1 i a xss[i] ha (List.getElem?_eq_getElem (by omega))).range g hg).2
    have hget : ∀ (i : Nat) (a : Value), (us.set j u)[i]? = some a → (i = j ∧ a = u) ∨ (i ≠ j ∧ us[i]? = some a) := by
      intro i a ha
      by_cases e : j = i
      · subst e
        rcases Nat.lt_or_ge j us.length with hi2 | hi2
        · rw [List.getElem?_set_self hi2] at ha; cases ha; exact .inl ⟨rfl, rfl⟩
        · rw [List.getElem?_eq_none (by simpa using hi2)] at ha; cases ha
      · rw [List.getElem?_set_ne e] at ha
        exact .inr ⟨fun e2 => e e2.symm, ha⟩
    intro hg2
    rcases hget i a ha with ⟨rfl, rfl⟩ | ⟨_, ha2⟩
    · rcases hget k b hb with ⟨rfl, rfl⟩ | ⟨_, hb2⟩
      · omega
      · have := hold k b hb2 g hg2
        have := (hu.range g hg).1
        omega
    · rcases hget k b hb with ⟨rfl, rfl⟩ | ⟨_, hb2⟩
      · have := hold i a ha2 g hg
        have := (hu.range g hg2).1
        omega
      · exact h.2.2 i k a b hik ha2 hb2 g hg hg2
/-- Rows that are all empty. -/
theorem RowsO.empty (w : World) (lo hi n : Nat) : RowsO w lo hi (List.replicate n (.slice Option.none 0 0)) (List.replicate n []) := by
  refine ⟨by simp, fun i u xs hu hx => ?_, fun i k a b _ ha _ g hg => ?_⟩
  · rw [List.getElem?_replicate] at hu hx
    split at hu
    · rw [if_pos (by assumption)] at hx
      cases hu; cases hx
      exact owI_nil _ _ _
    · cases hu
  · rw [List.getElem?_replicate] at ha
    split at ha
    · cases ha; cases hg
    · cases ha
theorem RowsO.form {w : World} {lo hi i : Nat} {us : List Value} {xss : List (List Int)} (h : RowsO w lo hi us xss) (hi2 : i < us.length) : ∃ A n c, us[i]? = some (.slice A n c) := by
  have hl := h.1
  obtain ⟨A, c, hv, _⟩ := (h.2.1 i us[i] xss[i] (List.getElem?_eq_getElem hi2) (List.getElem?_eq_getElem (by omega))).form
  exact ⟨A, _, c, by rw [List.getElem?_eq_getElem hi2, hv]⟩
/-- The indices that the reference has passed. -/
def preC (ls : List Int) (l i : Nat) : List Nat := grpN ls ls.length 1 (l - 1) ++ grpF ls i l
theorem preC_yes {ls : List Int} {l i : Nat} (h : ls.getD i 0 = (l : Int)) : preC ls l (i + 1) = preC ls l i ++ [i] := by unfold preC; rw [grpF_yes h, List.append_assoc]
theorem preC_no {ls : List Int} {l i : Nat} (h : ls.getD i 0 ≠ (l : Int)) : preC ls l (i + 1) = preC ls l i := by unfold preC; rw [grpF_no h]
theorem preC_end {ls : List Int} {l : Nat} (hl : 1 ≤ l) : preC ls l ls.length = grpN ls ls.length 1 l := by
  unfold preC
  have := grpN_split (ls := ls) (m := ls.length) (a := 1) (k := l - 1) (j := 1)
  rw [grpN_one, show l - 1 + 1 = l by omega, show 1 + (l - 1) = l by omega] at this
  exact this.symm
theorem preC_zero {ls : List Int} {l : Nat} : preC ls (l + 1) 0 = grpN ls ls.length 1 l := by unfold preC grpF; simp
theorem grpF_sub {ls : List Int} {i m l : Nat} (h : i ≤ m) : (grpF ls i l).Sublist (grpF ls m l) := by
  unfold grpF
  refine List.Sublist.filter _ ?_
  rw [List.range_eq_range', List.range_eq_range', show m = i + (m - i) by omega]
  have := List.range'_append (s := 0) (m := i) (n := m - i) (step := 1)
  rw [Nat.one_mul] at this
  rw [← this]
  exact List.sublist_append_left _ _
theorem preC_sub {ls : List Int} {l i : Nat} (hl : 1 ≤ l) (h6 : l ≤ 6) (hi : i ≤ ls.length) : (preC ls l i).Sublist (grpN ls ls.length 1 6) := by
  have h1 : (preC ls l i).Sublist (preC ls l ls.length) := List.Sublist.append (List.Sublist.refl _) (grpF_sub hi)
  rw [preC_end hl] at h1
  have h2 := grpN_split (ls := ls) (m := ls.length) (a := 1) (k := l) (j := 6 - l)
  rw [show l + (6 - l) = 6 by omega] at h2
  rw [h2]
  exact h1.trans (List.sublist_append_left _ _)
theorem sub_bd {ls : List Int} {r : Nat} (h : allB ls 1 6 = true) (hn : ls.length ≤ 20) (hr1 : 1 ≤ r) (hr : r ≤ 60) {is : List Nat} (hs : is.Sublist (grpN ls ls.length 1 6)) {l : Nat} (hl : (canRun ls r is).last ≤ l) (h6 : l ≤ 6) :
    1 ≤ (canRun ls r is).last ∧ (canRun ls r is).next ≤ 933120000000 ∧ (canRun ls r is).next * r ^ (l - (canRun ls r is).last) ≤ 933120000000 ∧ (is = [] ∨ ∃ i, is.getLast? = some i ∧ (canRun ls r is).last = (ls.getD i 0).toNat) := by
  have hp := (grpN_sorted ls ls.length 1 6).sublist hs
  have hm : ∀ i ∈ is, 1 ≤ ls.getD i 0 := fun i hi => by have := grpN_mem (hs.subset hi); omega
  have hb := canRun_bd hr1 is.length is rfl hp hm
  have hlen := hs.length_le
  rw [← order_grp h ls.length (Nat.le_refl _), orderBy_len] at hlen
  have e : r ^ l = r ^ (canRun ls r is).last * r ^ (l - (canRun ls r is).last) := by rw [← Nat.pow_add]; congr 1; omega
  have h2 := Nat.mul_le_mul_right (r ^ (l - (canRun ls r is).last)) hb.1
  rw [Nat.mul_assoc, ← e] at h2
  have h3 := pow_le hr h6
  have h4 : is.length * r ^ l ≤ 20 * 46656000000 := Nat.mul_le_mul (by omega) h3
  have h5 := pow_le hr (show (canRun ls r is).last ≤ 6 by omega)
  have h7 : is.length * r ^ (canRun ls r is).last ≤ 20 * 46656000000 := Nat.mul_le_mul (by omega) h5
  refine ⟨hb.2.1, by have := hb.1; omega, by omega, hb.2.2⟩
theorem preC_bd {ls : List Int} {r l i : Nat} (h : allB ls 1 6 = true) (hn : ls.length ≤ 20) (hr1 : 1 ≤ r) (hr : r ≤ 60) (hl : 1 ≤ l) (h6 : l ≤ 6) (hi : i ≤ ls.length) :
    1 ≤ (canRun ls r (preC ls l i)).last ∧ (canRun ls r (preC ls l i)).last ≤ l ∧ (canRun ls r (preC ls l i)).next ≤ 933120000000 ∧ (canRun ls r (preC ls l i)).next * r ^ (l - (canRun ls r (preC ls l i)).last) ≤ 933120000000 := by
  have hs := preC_sub (ls := ls) hl h6 hi
  have hp := (grpN_sorted ls ls.length 1 6).sublist hs
  have hm : ∀ k ∈ preC ls l i, 1 ≤ ls.getD k 0 := fun k hk => by have := grpN_mem (hs.subset hk); omega
  have hb := canRun_bd hr1 _ _ rfl hp hm
  have hla : (canRun ls r (preC ls l i)).last ≤ l := by
    rcases hb.2.2 with e | ⟨j, hj, e⟩
    · rw [e, canRun_nil]; exact hl
    · have hjm := List.mem_of_getLast? hj
      rw [e]
      unfold preC at hjm
      rcases List.mem_append.1 hjm with h1 | h1
      · have := grpN_mem h1; omega
      · have := grpF_mem h1; omega
  have := sub_bd h hn hr1 hr hs hla h6
  exact ⟨this.1, hla, this.2.1, this.2.2.1⟩
def canB (ls : List Int) (r : Int) : Bool := (lengthsB ls && inB r 2 60) && decide ((kraftN r.toNat (mostI ls).toNat ls : Int) ≤ ((r.toNat ^ (mostI ls).toNat : Nat) : Int))
def canR (ls : List Int) (r : Int) : List (List Int) := if canB ls r then canonL ls r.toNat else []
theorem sizeII_le {m : Nat} : ∀ (xss : List (List Int)), (∀ x ∈ xss, x.length ≤ m) → sizeII xss ≤ m * xss.length
  | [], _ => by simp [sizeII]
  | x :: xss, h => by
    have h1 := h x (by simp)
    have h2 := sizeII_le xss (fun y hy => h y (by simp [hy]))
    simp only [sizeII, List.length_cons, Nat.mul_add, Nat.mul_one]
    omega
theorem canRun_six {ls : List Int} {r : Nat} : ∀ (is : List Nat), (∀ i ∈ is, ls.getD i 0 ≤ 6) → ∀ s : CanS, (∀ x ∈ s.rows, x.length ≤ 6) → ∀ x ∈ (is.foldl (canStep ls r) s).rows, x.length ≤ 6
  | [], _, s, h => h
  | i :: is, hi, s, h => by
    rw [List.foldl_cons]
    refine canRun_six is (fun j hj => hi j (by simp [hj])) _ (fun x hx => ?_)
    have hi6 := hi i (by simp)
    unfold canStep at hx
    rcases List.mem_or_eq_of_mem_set hx with h1 | h1
    · exact h x h1
    · rw [h1, digL_len]; omega
theorem canR_size (ls : List Int) (r : Int) : sizeII (canR ls r) ≤ 120 ∧ (canR ls r).length ≤ 20 := by
  unfold canR
  split
  · rename_i h
    unfold canB at h
    simp only [Bool.and_eq_true] at h
    have hl := h.1.1
    unfold lengthsB at hl
    rw [Bool.and_eq_true] at hl
    have h20 := inB_iff.1 hl.1
    have h6 : ∀ x ∈ canonL ls r.toNat, x.length ≤ 6 := by
      refine canRun_six _ (fun i hi => ?_) _ (fun x hx => ?_)
      · have := grpN_mem hi; omega
      · rw [List.eq_of_mem_replicate hx]; simp
    have := sizeII_le _ h6
    rw [canonL_len] at this ⊢
    omega
  · simp [sizeII]
set_option maxRecDepth 100000 in
set_option maxHeartbeats 8000000 in
theorem sCanonicalCode_any (ls : List Int) (r : Int) (v : Value) (hi : Nat) (w : World) (h : RdI w hi v ls) (hh : hi ≤ w.heap.size) : Calls Try.prog 53 #[v, .int .i64 r] w (RetOwIIT (canR ls r) (canB ls r) w) := by
  obtain ⟨A, c, rfl, hc, hm⟩ := Rd.form h
  have H := Lib.hid h
  clear h
  cases hll : lengthsB ls
  · have HF : Hid (canB ls r = false) := by show _ = _; unfold canB; rw [hll]; rfl
    unfold canR; rw [HF.out]
    go_enter Try.func53, Try.ntmps53
    go_wp2_with (first | (go_at_call 151; refine (cmGood_any ls _ hi _ H.out).mono ?_; rintro e w' ⟨rfl, rfl⟩) | (go_at_call 152; refine (cmBase_any _ _).mono ?_; rintro e w' ⟨rfl, rfl⟩))
    go_ret2
    exact retOwIIT_nil _ (Below.refl _ _)
  · cases hr : inB r 2 60
    · have HF : Hid (canB ls r = false) := by show _ = _; unfold canB; rw [hll, hr]; rfl
      unfold canR; rw [HF.out]
      go_enter Try.func53, Try.ntmps53
      go_wp2_with (first | (go_at_call 151; refine (cmGood_any ls _ hi _ H.out).mono ?_; rintro e w' ⟨rfl, rfl⟩) | (go_at_call 152; refine (cmBase_any _ _).mono ?_; rintro e w' ⟨rfl, rfl⟩))
      go_ret2
      exact retOwIIT_nil _ (Below.refl _ _)
    · obtain ⟨hr1, hr2⟩ := inB_iff.1 hr
      obtain ⟨r, rfl⟩ := Int.eq_ofNat_of_zero_le (show 0 ≤ r by omega)
      have cH := cmHas_any ls r _ hi w H.out hll (by omega)
      cases hk : decide ((kraftN r (mostI ls).toNat ls : Int) ≤ ((r ^ (mostI ls).toNat : Nat) : Int))
      · have HF : Hid (canB ls (r : Int) = false) := by show _ = _; unfold canB; rw [Int.toNat_natCast, hk, Bool.and_false]
        rw [hk] at cH
        have CH := Lib.hid cH
        clear cH hk
        unfold canR; rw [HF.out]
        go_enter Try.func53, Try.ntmps53
        go_wp2_with (first | (go_at_call 151; refine (cmGood_any ls _ hi _ H.out).mono ?_; rintro e w' ⟨rfl, rfl⟩) | (go_at_call 152; refine (cmBase_any _ _).mono ?_; rintro e w' ⟨rfl, rfl⟩) | (go_at_call 153; refine (CH.out).mono ?_; rintro e w' ⟨rfl, rfl⟩))
        go_ret2
        exact retOwIIT_nil _ (Below.refl _ _)
      · have HF : Hid (canB ls (r : Int) = true) := by show _ = _; unfold canB; rw [Int.toNat_natCast, hk, hll, hr]; rfl
        rw [hk] at cH
        have CH := Lib.hid cH
        clear cH hk
        have hls := hll
        unfold lengthsB at hls
        rw [Bool.and_eq_true] at hls
        have hn20 := (inB_iff.1 hls.1)
        have HAL := Lib.hid hls.2
        have hmk := make_rows ls.length (by omega)
        clear hls
        go_enter Try.func53, Try.ntmps53
        go_wp2_with (first | (go_at_call 151; refine (cmGood_any ls _ hi _ H.out).mono ?_; rintro e w' ⟨rfl, rfl⟩) | (go_at_call 152; refine (cmBase_any _ _).mono ?_; rintro e w' ⟨rfl, rfl⟩) | (go_at_call 153; refine (CH.out).mono ?_; rintro e w' ⟨rfl, rfl⟩))
        go_loopw [7, 8, 9] (fun nv lv iv wr => ∃ (l nx la : Nat) (rows : List (List Int)) (us : List Value), 1 ≤ l ∧ l ≤ 7 ∧ nv = .int .i64 (nx : Int) ∧ lv = .int .i64 (la : Int) ∧ iv = .int .i64 (l : Int) ∧ Hid (canRun ls r (grpN ls ls.length 1 (l - 1)) = ⟨nx, la, rows⟩) ∧
          Hid (Blk wr w.heap.size 29 us) ∧ Hid (RowsO wr (w.heap.size + 1) wr.heap.size us rows) ∧ Hid (Below w.heap.size w wr)) (fun _ _ i _ => 7 - (intOf i).toNat)
        case atStart =>
          refine ⟨1, 0, 1, List.replicate ls.length [], List.replicate ls.length (.slice Option.none 0 0), Nat.le_refl _, by omega, rfl, rfl, rfl, canRun_nil, ?_, RowsO.empty _ _ _ _, (Below.refl _ _).alloc (Nat.le_refl _) _⟩
          have := Blk.new w 29 (nils ls.length)
          unfold nils at this
          exact this
        case round =>
          obtain ⟨l, nx, la, rows, us, hl1, hl7, rfl, rfl, rfl, hst, hbk, hrw, hbl⟩ := hrel
          by_cases hl6 : l ≤ 6
          · have hl6i : (l : Int) ≤ 6 := by omega
            have HST : Hid (canRun ls r (preC ls l 0) = ⟨nx, la, rows⟩) := by
              show _ = _
              have e := preC_zero (ls := ls) (l := l - 1)
              rw [show l - 1 + 1 = l by omega] at e
              rw [e]; exact hst.out
            clear hst
            rename World => wo
            go_wp2_with fail
            go_loopw [7, 8, 35] (fun nv lv iv wr => ∃ (i nx la : Nat) (rows : List (List Int)) (us : List Value), i ≤ ls.length ∧ nv = .int .i64 (nx : Int) ∧ lv = .int .i64 (la : Int) ∧ iv = .int .i64 (i : Int) ∧ Hid (canRun ls r (preC ls l i) = ⟨nx, la, rows⟩) ∧
              Hid (Blk wr w.heap.size 29 us) ∧ Hid (RowsO wr (w.heap.size + 1) wr.heap.size us rows) ∧ Hid (Below w.heap.size w wr)) (fun _ _ i _ => ls.length - (intOf i).toNat)
            case atStart => exact ⟨0, nx, la, rows, us, Nat.zero_le _, rfl, rfl, rfl, HST.out, hbk.out, hrw.out, hbl.out⟩
            case round =>
              obtain ⟨i, nx, la, rows, us, hil, rfl, rfl, rfl, hst, hbk, hrw, hbl⟩ := hrel
              by_cases hlt : i < ls.length
              · obtain ⟨b1, o1, c1, hv, _, hcell⟩ := RdI.getD (RdI.below H.out hbl.out hh) hlt
                cases hv
                obtain ⟨z, hz⟩ : ∃ z, z = ls.getD i 0 := ⟨_, rfl⟩
                rw [← hz] at hcell
                by_cases hzl : z = (l : Int)
                · subst hzl
                  have hbd := preC_bd (i := i) HAL.out (by omega) (show 1 ≤ r by omega) (by omega) hl1 hl6 hil
                  rw [hst.out] at hbd
                  obtain ⟨q1, q2, q3, q4⟩ := hbd
                  have q1' : 1 ≤ la := q1
                  have q2' : la ≤ l := q2
                  have q3' : nx ≤ 933120000000 := q3
                  obtain ⟨pw, hpw⟩ : ∃ pw, pw = r ^ (l - la) := ⟨_, rfl⟩
                  obtain ⟨N, hN⟩ : ∃ N, N = nx * pw := ⟨_, rfl⟩
                  have hNb : N ≤ 933120000000 := by rw [hN, hpw]; exact q4
                  have hmul : (nx : Int) * (pw : Int) = (N : Int) := by rw [hN]; simp
                  obtain ⟨d, hd⟩ : ∃ d, d = l - la := ⟨_, rfl⟩
                  have hsub : (l : Int) - (la : Int) = (d : Int) := by omega
                  have hd6 : d ≤ 6 := by omega
                  have cP := cmPower_any r d (by omega) hd6 wr
                  rw [hd, ← hpw, ← hd] at cP
                  have CP := Lib.hid cP
                  have HNX : Hid (canRun ls r (preC ls l (i + 1)) = ⟨N + 1, l, rows.set i (digL r N l)⟩) := by
                    show _ = _
                    rw [preC_yes hz.symm, canRun_snoc, hst.out]
                    unfold canStep
                    rw [← hz, Int.toNat_natCast, hN, hpw]
                  have CD := Lib.hid (cmDigits_any r N l wr (by omega) (by omega) hNb hl6)
                  have hul : us.length = ls.length := by
                    have h1 := hrw.out.1
                    have h2 := canRun_rows ls r (preC ls l i)
                    rw [hst.out] at h2
                    rw [h1]; exact h2
                  have HUL := Lib.hid hul
                  clear cP q1 q2 q3 q4 hN hpw hz hst hul hd
                  go_wp2_with (first | (go_at_call 154; refine (CP.out).mono ?_; rintro e w' ⟨rfl, rfl⟩))
                  refine CD.out.mono ?_
                  rintro e w2 ⟨u, rfl, hu, hb2⟩
                  have hs2 := hb2.size
                  have hgw : w.heap.size < wr.heap.size := hbk.out.lt
                  have hbk2 := hbk.out.below hb2 hgw
                  obtain ⟨A5, n5, c5, h5⟩ := hrw.out.form (i := i) (by rw [HUL.out]; exact hlt)
                  have hcell2 := hbk2.cell i
                  rw [h5] at hcell2
                  have hfr2 := hbk2.frozen i
                  obtain ⟨A6, c6, rfl, hm6⟩ := hu.form
                  have hset := hbk2.set_ i (.slice A6 (digL r N l).length c6)
                  have hput := (hrw.out.below hb2 (Nat.le_refl _)).put (j := i) hu (by omega) hs2
                  have hput2 := hput.keep ((Keep.refl w.heap.size (w.heap.size + 1) w2).setCell (p := ⟨w.heap.size, i, Option.none⟩) (Nat.le_refl _) (by simp) (.slice A6 (digL r N l).length c6)) (.inr (Nat.le_refl _))
                  have hblx := (hbl.out.trans (hb2.mono (by omega))).setCell (p := ⟨w.heap.size, i, Option.none⟩) (Nat.le_refl _) (.slice A6 (digL r N l).length c6)
                  have hszs : (w2.setCell ⟨w.heap.size, i, Option.none⟩ (.slice A6 (digL r N l).length c6)).heap.size = w2.heap.size := by simp [World.setCell]
                  rw [← hszs] at hput2
                  have HS := Lib.hid hset
                  have HP2 := Lib.hid hput2
                  have HBX := Lib.hid hblx
                  clear hset hput hput2 hblx hu hb2 hbk2 h5 hszs
                  go_wp2_with fail
                  go_roundw
                  case rel => exact ⟨i + 1, N + 1, l, _, _, by omega, by go_num, rfl, by go_num, HNX.out, HS.out, HP2.out, HBX.out⟩
                  case measure => (simp [intOf]; try omega)
                · have hne : (z == (l : Int)) = false := by rw [beq_eq_false_iff_ne]; exact hzl
                  have HNX : Hid (canRun ls r (preC ls l (i + 1)) = ⟨nx, la, rows⟩) := by
                    show _ = _
                    rw [preC_no (by rw [← hz]; exact hzl)]; exact hst.out
                  clear hst hz
                  go_wp2_with fail
                  go_roundw
                  case rel => exact ⟨i + 1, nx, la, rows, us, by omega, rfl, rfl, by go_num, HNX.out, hbk.out, hrw.out, hbl.out⟩
                  case measure => (simp [intOf]; try omega)
              · obtain rfl : i = ls.length := by omega
                have HNX : Hid (canRun ls r (grpN ls ls.length 1 (l + 1 - 1)) = ⟨nx, la, rows⟩) := by
                  show _ = _
                  rw [Nat.add_sub_cancel, ← preC_end hl1]; exact hst.out
                go_wp2_with fail
                go_roundw
                case rel => exact ⟨l + 1, nx, la, rows, us, by omega, by omega, rfl, rfl, by go_num, HNX.out, hbk.out, hrw.out, hbl.out⟩
                case measure => (simp [intOf]; try omega)
          · obtain rfl : l = 7 := by omega
            have HR : Hid (rows = canR ls (r : Int)) := by
              show _ = _
              unfold canR
              rw [HF.out]
              simp only [if_true, Int.toNat_natCast]
              unfold canonL
              rw [show (6 : Nat) = 7 - 1 from rfl, hst.out]
            have hul : us.length = ls.length := by
              have h1 := hrw.out.1
              have h2 := canRun_rows ls r (grpN ls ls.length 1 (7 - 1))
              rw [hst.out] at h2
              rw [h1]; exact h2
            have HUL := Lib.hid hul
            clear hst hul
            go_wp2_with fail
            go_ret2
            rw [HF.out, ← HR.out]
            refine ⟨.slice (some ⟨w.heap.size, 0, Option.none⟩) ls.length ls.length, ret_val rfl, ?_, hbl.out⟩
            refine ⟨us, hrw.out.mono (by omega) (Nat.le_refl _), ⟨?_, .inr ⟨w.heap.size, ls.length, us.toArray, ?_, Nat.le_refl _, hbk.out, ?_, by unfold maxLen; omega, by simp [HUL.out], ?_⟩⟩, fun g hg => by cases hg; exact hbk.out.lt⟩
            · rw [Nat.mul_one]; exact hrw.out.1
            · rw [← hrw.out.1, HUL.out]
            · rw [← hrw.out.1, HUL.out]; exact Nat.le_refl _
            · rw [List.take_of_length_le (by rw [← hrw.out.1]; exact Nat.le_of_eq (by simp))]
end Go.Proofs.Ytabiobjcfopakaa
