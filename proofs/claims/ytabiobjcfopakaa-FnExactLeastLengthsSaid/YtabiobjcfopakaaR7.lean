/- Contracts: CanonicalCode of the program. -/
import Derived.Test.YtabiobjcfopakaaR6
namespace Go.Proofs.Ytabiobjcfopakaa
open Go.RowKit
theorem nats_at {L : List Nat} {k i : Nat} (h : L[k]? = some i) : (nats L)[k]? = some (.int .i64 (i : Int)) := by unfold nats; rw [List.getElem?_map, h]; rfl
/-- The first k numbers, then zeros. -/
def cntI (n k : Nat) : List Value := nats (List.range k) ++ List.replicate (n - k) (Value.int .i64 0)
theorem cntI_zero (n : Nat) : (zeros n).toList = cntI n 0 := by simp [zeros, cntI]
theorem cntI_full (n : Nat) : cntI n n = nats (List.range n) := by simp [cntI]
theorem cntI_at {n k : Nat} (h : k < n) : (cntI n k)[k]? = some (.int .i64 0) := by
  unfold cntI
  rw [List.getElem?_append_right (by simp), List.getElem?_replicate, if_pos (by simp; omega)]
theorem cntI_set {n k : Nat} (h : k < n) : (cntI n k).set k (.int .i64 (k : Int)) = cntI n (k + 1) := by
  unfold cntI
  obtain ⟨q, hq⟩ : ∃ q, n - k = q + 1 := ⟨n - k - 1, by omega⟩
  rw [hq, show n - (k + 1) = q by omega, List.replicate_succ]
  have := set_mid (nats (List.range k)) (List.replicate q (Value.int .i64 0)) (.int .i64 0) (.int .i64 (k : Int))
  rw [show (nats (List.range k)).length = k by simp] at this
  rw [this, List.range_succ]
  simp [nats]
theorem Only.bel {w w' : World} {g lo : Nat} (h : Only (some g) w w') (hl : lo ≤ g) : Below lo w w' :=
  ⟨h.os, h.tape, h.output, Nat.le_of_eq h.size.symm, fun k hk => h.block k (by intro e; cases e; omega)⟩
/-- One step of the program. -/
theorem can_on {ls : List Int} {r : Nat} (h : allB ls 1 6 = true) (hn : ls.length ≤ 20) (hr1 : 1 ≤ r) (hr : r ≤ 60) {k i : Nat} (hi : (grpN ls ls.length 1 6)[k]? = some i) :
    ∃ li : Nat, ls.getD i 0 = (li : Int) ∧ i < ls.length ∧ 1 ≤ li ∧ li ≤ 6 ∧ (canRun ls r ((grpN ls ls.length 1 6).take k)).last ≤ li ∧ (canRun ls r ((grpN ls ls.length 1 6).take k)).next * r ^ (li - (canRun ls r ((grpN ls ls.length 1 6).take k)).last) ≤ 933120000000 ∧
      canRun ls r ((grpN ls ls.length 1 6).take (k + 1)) = canStep ls r (canRun ls r ((grpN ls ls.length 1 6).take k)) i := by
  have hm := grpN_mem (List.mem_of_getElem? hi)
  have hb := allB_at h hm.1
  refine ⟨(ls.getD i 0).toNat, by omega, hm.1, by omega, by omega, ?_⟩
  have hk := (List.getElem?_eq_some_iff.1 hi).1
  have hs := grpN_sorted ls ls.length 1 6
  rw [← List.take_append_drop k (grpN ls ls.length 1 6), List.pairwise_append] at hs
  have hd : (grpN ls ls.length 1 6).drop k = i :: (grpN ls ls.length 1 6).drop (k + 1) := by rw [List.drop_eq_getElem_cons hk]; rw [List.getElem?_eq_getElem hk] at hi; cases hi; rfl
  rw [hd] at hs
  have hmm : ∀ j ∈ (grpN ls ls.length 1 6).take k, 1 ≤ ls.getD j 0 := fun j hj => by have := grpN_mem (List.mem_of_mem_take hj); omega
  have hbd := canRun_bd hr1 _ _ rfl hs.1 hmm
  have hla : (canRun ls r ((grpN ls ls.length 1 6).take k)).last ≤ (ls.getD i 0).toNat := by
    rcases hbd.2.2 with e | ⟨j, hj, e⟩
    · rw [e, canRun_nil]; show 1 ≤ _; omega
    · have := hs.2.2 j (List.mem_of_getLast? hj) i (by simp)
      omega
  have hsb := sub_bd h hn hr1 hr (List.take_sublist k _) hla (by omega)
  exact ⟨hla, hsb.2.2.1, by rw [take_snocN hi, canRun_snoc]⟩
theorem cmp_len {ls : List Int} {s : Value} {B g hi : Nat} {w : World} (h : RdI w hi s ls) (hc : w.cell? ⟨B, 0, Option.none⟩ = some s) (hB : B < g) (hh : hi ≤ g) : CmpI 160 #[.pointer (some ⟨B, 0, Option.none⟩)] g ls.length (cLen ls) w :=
  fun w' ho x y hx hy => canon1_any ls s B hi x y w' (RdI.below h (ho.bel (Nat.le_refl g)) hh) hx hy (((ho.bel (Nat.le_refl g)).cell (p := ⟨B, 0, Option.none⟩) hB).trans hc)
set_option maxRecDepth 100000 in
set_option maxHeartbeats 8000000 in
theorem CanonicalCode_any (ls : List Int) (r : Int) (v : Value) (hi : Nat) (w : World) (h : RdI w hi v ls) (hh : hi ≤ w.heap.size) : Calls Try.prog 55 #[v, .int .i64 r] w (RetOwIIT (canR ls r) (canB ls r) w) := by
  obtain ⟨A, c, rfl, hc, hm⟩ := Rd.form h
  have hba : Below w.heap.size w (w.alloc (.cells #[.slice A ls.length c] 29)) := (Below.refl _ _).alloc (Nat.le_refl _) _
  have HBA := Lib.hid hba
  have HBX : Hid (Blk (w.alloc (.cells #[.slice A ls.length c] 29)) w.heap.size 29 [.slice A ls.length c]) := Blk.new _ _ _
  have hcb := HBX.out.cell 0
  simp only [List.getElem?_cons_zero] at hcb
  have H := Lib.hid (RdI.below h hba hh)
  clear h hba
  cases hll : lengthsB ls
  · have HF : Hid (canB ls r = false) := by show _ = _; unfold canB; rw [hll]; rfl
    unfold canR; rw [HF.out]
    go_enter Try.func55, Try.ntmps55
    go_wp2_with (first | (go_at_call 156; refine (areLengths_any ls _ hi _ H.out).mono ?_; rintro e w' ⟨rfl, rfl⟩) | (go_at_call 157; refine (isRadix_any _ _).mono ?_; rintro e w' ⟨rfl, rfl⟩))
    go_ret2
    exact retOwIIT_nil _ HBA.out
  · cases hr : inB r 2 60
    · have HF : Hid (canB ls r = false) := by show _ = _; unfold canB; rw [hll, hr]; rfl
      unfold canR; rw [HF.out]
      go_enter Try.func55, Try.ntmps55
      go_wp2_with (first | (go_at_call 156; refine (areLengths_any ls _ hi _ H.out).mono ?_; rintro e w' ⟨rfl, rfl⟩) | (go_at_call 157; refine (isRadix_any _ _).mono ?_; rintro e w' ⟨rfl, rfl⟩))
      go_ret2
      exact retOwIIT_nil _ HBA.out
    · obtain ⟨hr1, hr2⟩ := inB_iff.1 hr
      obtain ⟨r, rfl⟩ := Int.eq_ofNat_of_zero_le (show 0 ≤ r by omega)
      obtain ⟨kn, hkn⟩ : ∃ k, k = kraftN r (mostI ls).toNat ls := ⟨_, rfl⟩
      obtain ⟨ka, hka⟩ : ∃ k, k = r ^ (mostI ls).toNat := ⟨_, rfl⟩
      have cK := kraftSum_any ls r _ hi _ H.out hll (by omega)
      rw [← hkn, ← hka] at cK
      by_cases hk : ka < kn
      · have HF : Hid (canB ls (r : Int) = false) := by show _ = _; unfold canB; rw [Int.toNat_natCast, ← hkn, ← hka, decide_eq_false (by omega), Bool.and_false]
        have CK := Lib.hid cK
        have hki : (ka : Int) < (kn : Int) := by omega
        clear cK hkn hka
        unfold canR; rw [HF.out]
        go_enter Try.func55, Try.ntmps55
        go_wp2_with (first | (go_at_call 156; refine (areLengths_any ls _ hi _ H.out).mono ?_; rintro e w' ⟨rfl, rfl⟩) | (go_at_call 157; refine (isRadix_any _ _).mono ?_; rintro e w' ⟨rfl, rfl⟩) | (go_at_call 158; refine (CK.out).mono ?_; rintro e w' ⟨rfl, rfl⟩))
        go_ret2
        exact retOwIIT_nil _ HBA.out
      · have HF : Hid (canB ls (r : Int) = true) := by show _ = _; unfold canB; rw [Int.toNat_natCast, ← hkn, ← hka, decide_eq_true (by omega), hll, hr]; rfl
        have CK := Lib.hid cK
        have hki : ¬ (ka : Int) < (kn : Int) := by omega
        clear cK hkn hka
        have hls := hll
        unfold lengthsB at hls
        rw [Bool.and_eq_true] at hls
        have hn20 := (inB_iff.1 hls.1)
        have HAL := Lib.hid hls.2
        have hmk := make_ints ls.length (by omega)
        have hmr := make_rows ls.length (by omega)
        clear hls
        go_enter Try.func55, Try.ntmps55
        go_wp2_with (first | (go_at_call 156; refine (areLengths_any ls _ hi _ H.out).mono ?_; rintro e w' ⟨rfl, rfl⟩) | (go_at_call 157; refine (isRadix_any _ _).mono ?_; rintro e w' ⟨rfl, rfl⟩) | (go_at_call 158; refine (CK.out).mono ?_; rintro e w' ⟨rfl, rfl⟩))
        have hcb1 : ∀ wr, Below (w.heap.size + 1) (w.alloc (.cells #[.slice A ls.length c] 29)) wr → wr.cell? ⟨w.heap.size, 0, Option.none⟩ = some (.slice A ls.length c) := fun wr hb => (hb.cell (p := ⟨w.heap.size, 0, Option.none⟩) (Nat.lt_succ_self _)).trans hcb
        have HC1 := Lib.hid hcb1
        clear hcb hcb1
        go_loopw [40] (fun i wr => ∃ k : Nat, k ≤ ls.length ∧ i = .int .i64 (k : Int) ∧ Hid (Blk wr (w.heap.size + 1) 3 (cntI ls.length k)) ∧ Hid (Below (w.heap.size + 1) (w.alloc (.cells #[.slice A ls.length c] 29)) wr)) (fun i _ => ls.length - (intOf i).toNat)
        case atStart => 
          refine ⟨0, Nat.zero_le _, rfl, ?_, ?_⟩
          · have := Blk.new (w.alloc (.cells #[.slice A ls.length c] 29)) 3 (zeros ls.length)
            rw [cntI_zero] at this
            show Blk _ _ _ _
            simpa using this
          · exact (Below.refl _ _).alloc (by simp) _
        case round =>
          obtain ⟨k, hk2, rfl, hbk, hbl⟩ := hrel
          by_cases hlt : k < ls.length
          · have hcell := hbk.out.cell k
            rw [cntI_at hlt] at hcell
            have hfr := hbk.out.frozen k
            have HB2 := Lib.hid (hbk.out.set_ k (.int .i64 (k : Int)))
            go_wp2_with fail
            go_roundw
            case rel => exact ⟨k + 1, by omega, by go_num, by have := HB2.out; rw [cntI_set hlt] at this; exact this, hbl.out.setCell (p := ⟨w.heap.size + 1, k, Option.none⟩) (Nat.le_refl _) _⟩
            case measure => (simp [intOf]; try omega)
          · obtain rfl : k = ls.length := by omega
            have hb0 := hbk.out
            rw [cntI_full] at hb0
            have hrd := RdI.below H.out (hbl.out.mono (show w.heap.size ≤ w.heap.size + 1 by omega)) hh
            have hcx := HC1.out wr hbl.out
            have CS := Lib.hid (sortStable_any ls.length ls.length (w.heap.size + 1) 160 #[.pointer (some ⟨w.heap.size, 0, Option.none⟩)] (cLen ls) wr (by omega) (by omega) (Nat.le_refl _) hb0 (cmp_len hrd hcx (by omega) (by omega)) (enters_of Try.func160 (by kernel_rfl) rfl))
            clear hb0 hrd hcx
            go_wp2_with fail
            refine CS.out.mono ?_
            rintro e w1 ⟨⟨zz, rfl⟩, hb1, ho1⟩
            rw [pOf_len, order_grp HAL.out ls.length (Nat.le_refl _)] at hb1
            obtain ⟨L, hL⟩ : ∃ L, L = grpN ls ls.length 1 6 := ⟨_, rfl⟩
            have hLl : L.length = ls.length := by rw [hL, ← order_grp HAL.out ls.length (Nat.le_refl _), orderBy_len]
            rw [← hL] at hb1
            have hw1 : Below (w.heap.size + 1) (w.alloc (.cells #[.slice A ls.length c] 29)) w1 := hbl.out.trans (ho1.bel (Nat.le_refl _))
            have hs1 : w.heap.size + 2 ≤ w1.heap.size := by have := hb1.lt; omega
            have hcb1 := HC1.out w1 hw1
            have HCB := Lib.hid hcb1
            have H1 := Lib.hid (RdI.below H.out (hw1.mono (show w.heap.size ≤ w.heap.size + 1 by omega)) hh)
            have HB1 := Lib.hid hb1
            have HL := Lib.hid hL
            have HLL := Lib.hid hLl
            have HWB : Hid (Below w.heap.size w w1) := HBA.out.trans (hw1.mono (by omega))
            clear hb1 ho1 hw1 hL hLl hbk hbl CS hcb1
            obtain ⟨i0, hi0⟩ : ∃ i, L[0]? = some i := ⟨_, List.getElem?_eq_getElem (by rw [HLL.out]; omega)⟩
            obtain ⟨l0, z1, z2, z3, z4, _⟩ := can_on (r := r) HAL.out (by omega) (by omega) (by omega) (show (grpN ls ls.length 1 6)[0]? = some i0 by rw [← HL.out]; exact hi0)
            obtain ⟨b1, o1, c1, hv, hb1h, hcl⟩ := RdI.getD H1.out z2
            cases hv
            rw [z1] at hcl
            have hco := HB1.out.cell 0
            rw [nats_at hi0] at hco
            have hba2 : Below w1.heap.size w1 (w1.alloc (.cells (nils ls.length) 29)) := (Below.refl _ _).alloc (Nat.le_refl _) _
            have hco2 := (hba2.cell (p := ⟨w.heap.size + 1, 0, Option.none⟩) (by show w.heap.size + 1 < w1.heap.size; omega)).trans hco
            have hcl2 := (hba2.cell (p := ⟨b1, o1 + i0, Option.none⟩) (by show b1 < w1.heap.size; omega)).trans hcl
            have hcb2 := (hba2.cell (p := ⟨w.heap.size, 0, Option.none⟩) (by show w.heap.size < w1.heap.size; omega)).trans HCB.out
            have HI0 := Lib.hid hi0
            have HZ1 := Lib.hid z1
            have hcbw := HCB.out
            clear hi0 z1 hcl hco
            go_wp2_with fail
            go_quiet (fail)
            have hnx0 : Hid (canRun ls r (L.take 0) = ⟨0, 1, List.replicate ls.length []⟩) := by show _ = _; rw [List.take_zero, canRun_nil]
            have HBN : Hid (Blk ((w1.alloc (.cells (nils ls.length) 29)).drewN nq) w1.heap.size 29 (List.replicate ls.length (.slice Option.none 0 0))) := by
              have := Blk.new w1 29 (nils ls.length)
              unfold nils at this
              exact this
            have HBD : Hid (Below w1.heap.size w1 ((w1.alloc (.cells (nils ls.length) 29)).drewN nq)) := hba2.trans (bel_drewN _ _ _)
            have hsz3 : ((w1.alloc (.cells (nils ls.length) 29)).drewN nq).heap.size = w1.heap.size + 1 := by show (w1.alloc (.cells (nils ls.length) 29)).heap.size = _; simp
            have HSZ := Lib.hid hsz3
            clear hco2 hcl2 hcb2 hsz3 hba2 hcbw
            generalize ((w1.alloc (.cells (nils ls.length) 29)).drewN nq) = w2 at HBN HBD HSZ ⊢
            go_wp2_with fail
            go_loopw [11, 12, 62] (fun dv lv kv wr => ∃ (k wd lo nx la : Nat) (rows : List (List Int)) (us : List Value), k ≤ ls.length ∧ dv = .int .i64 (wd : Int) ∧ lv = .int .i64 (lo : Int) ∧ kv = .int .i64 (k : Int) ∧ Hid (canRun ls r (L.take k) = ⟨nx, la, rows⟩) ∧
              ((k = 0 ∧ wd = 0 ∧ lo = l0) ∨ (0 < k ∧ wd + 1 = nx ∧ lo = la)) ∧ Hid (Blk wr w1.heap.size 29 us) ∧ Hid (RowsO wr (w1.heap.size + 1) wr.heap.size us rows) ∧ Hid (Below w1.heap.size w1 wr)) (fun _ _ i _ => ls.length - (intOf i).toNat)
            case atStart => exact ⟨0, 0, l0, 0, 1, _, _, Nat.zero_le _, rfl, rfl, rfl, hnx0.out, .inl ⟨rfl, rfl, rfl⟩, HBN.out, RowsO.empty _ _ _ _, HBD.out⟩
            case round =>
              obtain ⟨k, wd, lo, nx, la, rows, us, hkl, rfl, rfl, rfl, hst, hlink, hbk, hrw, hbl⟩ := hrel
              have hG : w1.heap.size < wr.heap.size := hbk.out.lt
              have hul : us.length = ls.length := by
                have h1 := hrw.out.1
                have h2 := canRun_rows ls r (L.take k)
                rw [hst.out] at h2
                rw [h1]; exact h2
              have HUL := Lib.hid hul
              clear hul
              by_cases hlt : k < ls.length
              · obtain ⟨i, hi⟩ : ∃ i, L[k]? = some i := ⟨_, List.getElem?_eq_getElem (by rw [HLL.out]; exact hlt)⟩
                obtain ⟨li, z1, z2, z3, z4, z5, z6, z7⟩ := can_on (r := r) HAL.out (by omega) (by omega) (by omega) (show (grpN ls ls.length 1 6)[k]? = some i by rw [← HL.out]; exact hi)
                rw [← HL.out, hst.out] at z5 z6 z7
                have z5' : la ≤ li := z5
                have z6' : nx * r ^ (li - la) ≤ 933120000000 := z6
                obtain ⟨d, hd⟩ : ∃ d, d = li - lo := ⟨_, rfl⟩
                obtain ⟨pw, hpw⟩ : ∃ pw, pw = r ^ d := ⟨_, rfl⟩
                obtain ⟨N, hN⟩ : ∃ N, N = nx * pw := ⟨_, rfl⟩
                have hfst : k = 0 → nx = 0 ∧ la = 1 ∧ li = l0 := by
                  intro e
                  subst e
                  have h1 := hnx0.out
                  rw [hst.out] at h1
                  cases h1
                  have h2 := HI0.out
                  rw [hi] at h2
                  cases h2
                  have h3 := HZ1.out
                  rw [z1] at h3
                  exact ⟨rfl, rfl, by omega⟩
                have hNN : N = nx * r ^ (li - la) := by
                  rw [hN, hpw, hd]
                  rcases hlink with ⟨e, _, _⟩ | ⟨_, _, e⟩
                  · rw [(hfst e).1]; simp
                  · rw [e]
                have hNb : N ≤ 933120000000 := by rw [hNN]; exact z6'
                have hlo : lo ≤ li := by
                  rcases hlink with ⟨e, _, e2⟩ | ⟨_, _, e⟩
                  · have := (hfst e).2.2; omega
                  · omega
                have hnxb : nx ≤ 933120000000 := by
                  have h1 := sub_bd (r := r) HAL.out (by omega) (by omega) (by omega) (List.take_sublist k _) (l := li) (show (canRun ls r ((grpN ls ls.length 1 6).take k)).last ≤ li by rw [← HL.out, hst.out]; exact z5') z4
                  rw [← HL.out, hst.out] at h1
                  exact h1.2.1
                have HNX : Hid (canRun ls r (L.take (k + 1)) = ⟨N + 1, li, rows.set i (digL r N li)⟩) := by
                  show _ = _
                  rw [z7]
                  unfold canStep
                  rw [z1, Int.toNat_natCast, hNN]
                have hsub : (li : Int) - (lo : Int) = (d : Int) := by omega
                have hd6 : d ≤ 6 := by omega
                have cP := powerOf_any r d (by omega) hd6 wr
                rw [← hpw] at cP
                have CP := Lib.hid cP
                have hmul : (nx : Int) * (pw : Int) = (N : Int) := by rw [hN]; simp
                obtain ⟨b1', o1', c1', hv, hb1h', hcl⟩ := RdI.getD (RdI.below H1.out hbl.out (by omega)) z2
                cases hv
                rw [z1] at hcl
                have hco := (HB1.out.below hbl.out (show w.heap.size + 1 < w1.heap.size by omega)).cell k
                rw [nats_at hi] at hco
                have hcb := (hbl.out.cell (p := ⟨w.heap.size, 0, Option.none⟩) (by show w.heap.size < w1.heap.size; omega)).trans HCB.out
                have hmz := make_ints li (by omega)
                have HI := Lib.hid hi
                have hr0 : (r : Int) ≠ 0 := by omega
                have HLI := Lib.hid z2
                have HNX1 : Hid (k = 0 → nx = 0) := fun e => (hfst e).1
                have HN1 : Hid (k = 0 → N = 0) := fun e => by rw [hN, (hfst e).1, Nat.zero_mul]
                clear z1 z5 z6 z6' z7 hd hpw hN hNN cP hfst hst hi z2
                rcases hlink with ⟨e, rfl, rfl⟩ | ⟨e, e2, rfl⟩
                · have hdk : decide (0 < k) = false := decide_eq_false (by omega)
                  have hnx1 : nx = 0 := HNX1.out e
                  have HNV : Hid (Value.int .i64 0 = .int .i64 (N : Int)) := by show _ = _; rw [HN1.out e]; rfl
                  subst hnx1
                  clear e
                  go_wp2_with (first | (go_at_call 162; refine (CP.out).mono ?_; rintro e w' ⟨rfl, rfl⟩))
                  have hbm : Below wr.heap.size wr (wr.alloc (.cells (zeros li) 3)) := (Below.refl _ _).alloc (Nat.le_refl _) _
                  have HZ0 : Hid (Blk (wr.alloc (.cells (zeros li) 3)) wr.heap.size 3 (zerI li [])) := by
                    have := Blk.new wr 3 (zeros li)
                    rw [zerI_start] at this
                    exact this
                  have HBM := Lib.hid hbm
                  clear hbm hcl hco hcb
                  rename World => wo
                  go_loopw [16, 17] (fun zv qv wr => ∃ (kk q : Nat) (z : Int) (D : List Int), kk ≤ li ∧ zv = .int .i64 z ∧ qv = .int .i64 (q : Int) ∧ z + 1 = (kk : Int) ∧ q ≤ N ∧ Hid (DigTo r N li kk q D) ∧ Hid (Blk wr wo.heap.size 3 (zerI kk D)) ∧ Hid (Below wo.heap.size wo wr)) (fun i _ _ => (intOf i + 1).toNat)
                  case atStart => exact ⟨li, N, _, [], Nat.le_refl _, rfl, by first | rfl | exact HNV.out, by omega, Nat.le_refl _, DigTo.start _ _ _, HZ0.out, HBM.out⟩
                  case round =>
                    obtain ⟨kk, q, z, D, hkk, rfl, rfl, hz, hqn, hd, hb, hbel⟩ := hrel
                    rcases Nat.eq_zero_or_pos kk with h0 | h0
                    · subst h0
                      obtain rfl : z = -1 := by omega
                      have hdd := hd.out.done
                      have hdl : D.length = li := by rw [hdd, digL_len]
                      have hown : OwI wr wo.heap.size wr.heap.size (.slice (some ⟨wo.heap.size, 0, Option.none⟩) D.length D.length) D := own_of_blk (show Blk wr wo.heap.size 3 (ints D) from hb.out) (Nat.le_refl _) hb.out.lt (by unfold maxLen; omega)
                      rw [hdl] at hown
                      have hszw := hbel.out.size
                      have hbk2 := hbk.out.below hbel.out hG
                      obtain ⟨A5, n5, c5, h5⟩ := hrw.out.form (i := i) (by rw [HUL.out]; exact HLI.out)
                      have hcell2 := hbk2.cell i
                      rw [h5] at hcell2
                      have hfr2 := hbk2.frozen i
                      have hset := hbk2.set_ i (.slice (some ⟨wo.heap.size, 0, Option.none⟩) li li)
                      have hput := (hrw.out.below hbel.out (Nat.le_refl _)).put (j := i) hown (by omega) hszw
                      have hput2 := hput.keep ((Keep.refl w1.heap.size (w1.heap.size + 1) wr).setCell (p := ⟨w1.heap.size, i, Option.none⟩) (Nat.le_refl _) (by simp) (.slice (some ⟨wo.heap.size, 0, Option.none⟩) li li)) (.inr (Nat.le_refl _))
                      have hblx := (hbl.out.trans (hbel.out.mono (by omega))).setCell (p := ⟨w1.heap.size, i, Option.none⟩) (Nat.le_refl _) (.slice (some ⟨wo.heap.size, 0, Option.none⟩) li li)
                      have hszs : (wr.setCell ⟨w1.heap.size, i, Option.none⟩ (.slice (some ⟨wo.heap.size, 0, Option.none⟩) li li)).heap.size = wr.heap.size := by simp [World.setCell]
                      rw [← hszs, hdd] at hput2
                      have HS := Lib.hid hset
                      have HP2 := Lib.hid hput2
                      have HBX2 := Lib.hid hblx
                      have hli2 : i < ls.length := HLI.out
                      clear hset hput hput2 hblx hown hbk2 h5 hszs hdd hdl hz
                      go_wp2_with fail
                      go_roundw
                      case rel => exact ⟨k + 1, N, li, N + 1, li, _, _, by omega, by first | rfl | exact HNV.out, rfl, by go_num, HNX.out, .inr ⟨by omega, rfl, rfl⟩, HS.out, HP2.out, HBX2.out⟩
                      case measure => (simp [intOf]; try omega)
                    · obtain ⟨s, rfl⟩ : ∃ s, kk = s + 1 := ⟨kk - 1, by omega⟩
                      obtain rfl : z = (s : Int) := by omega
                      have hcell := hb.out.cell s
                      rw [zerI_at] at hcell
                      have hfr := hb.out.frozen s
                      have hsl : (s : Int) < (li : Int) := by omega
                      have HD2 := Lib.hid hd.out.step
                      have HB2 : Hid (∀ u, Blk (wr.setCell ⟨wo.heap.size, s, Option.none⟩ (.int .i64 u)) wo.heap.size 3 (zerI s (u :: D))) := fun u => by rw [← zerI_set]; exact hb.out.set_ _ _
                      have HC2 : Hid (∀ u, Below wo.heap.size wo (wr.setCell ⟨wo.heap.size, s, Option.none⟩ u)) := fun u => hbel.out.setCell (p := ⟨wo.heap.size, s, Option.none⟩) (Nat.le_refl _) _
                      have hq2' : q / r ≤ 933120000000 := Nat.le_trans (Nat.div_le_self _ _) (by omega)
                      have hq2 : q / r ≤ N := Nat.le_trans (Nat.div_le_self _ _) hqn
                      have HQW : Hid (wrap64 ((q : Int) / (r : Int)) = ((q / r : Nat) : Int)) := by show _ = _; rw [← Int.natCast_ediv]; exact wrap_nat hq2'
                      clear hz h0
                      go_wp2_with fail
                      go_quiet (fail)
                      go_wp2_with fail
                      go_roundw
                      case rel => exact ⟨s, q / r, (s : Int) - 1, _, by omega, by rfl, by rw [HQW.out], by omega, hq2, HD2.out, HB2.out _, (HC2.out _).trans (bel_drewN _ _ _)⟩
                      case measure => (simp [intOf]; try omega)
                · have hdk : decide (0 < k) = true := decide_eq_true e
                  have hwd : (wd : Int) + 1 = (nx : Int) := by omega
                  clear e e2
                  go_wp2_with (first | (go_at_call 162; refine (CP.out).mono ?_; rintro e w' ⟨rfl, rfl⟩))
                  have hbm : Below wr.heap.size wr (wr.alloc (.cells (zeros li) 3)) := (Below.refl _ _).alloc (Nat.le_refl _) _
                  have HZ0 : Hid (Blk (wr.alloc (.cells (zeros li) 3)) wr.heap.size 3 (zerI li [])) := by
                    have := Blk.new wr 3 (zeros li)
                    rw [zerI_start] at this
                    exact this
                  have HBM := Lib.hid hbm
                  clear hbm hcl hco hcb
                  rename World => wo
                  go_loopw [16, 17] (fun zv qv wr => ∃ (kk q : Nat) (z : Int) (D : List Int), kk ≤ li ∧ zv = .int .i64 z ∧ qv = .int .i64 (q : Int) ∧ z + 1 = (kk : Int) ∧ q ≤ N ∧ Hid (DigTo r N li kk q D) ∧ Hid (Blk wr wo.heap.size 3 (zerI kk D)) ∧ Hid (Below wo.heap.size wo wr)) (fun i _ _ => (intOf i + 1).toNat)
                  case atStart => exact ⟨li, N, _, [], Nat.le_refl _, rfl, by first | rfl | exact HNV.out, by omega, Nat.le_refl _, DigTo.start _ _ _, HZ0.out, HBM.out⟩
                  case round =>
                    obtain ⟨kk, q, z, D, hkk, rfl, rfl, hz, hqn, hd, hb, hbel⟩ := hrel
                    rcases Nat.eq_zero_or_pos kk with h0 | h0
                    · subst h0
                      obtain rfl : z = -1 := by omega
                      have hdd := hd.out.done
                      have hdl : D.length = li := by rw [hdd, digL_len]
                      have hown : OwI wr wo.heap.size wr.heap.size (.slice (some ⟨wo.heap.size, 0, Option.none⟩) D.length D.length) D := own_of_blk (show Blk wr wo.heap.size 3 (ints D) from hb.out) (Nat.le_refl _) hb.out.lt (by unfold maxLen; omega)
                      rw [hdl] at hown
                      have hszw := hbel.out.size
                      have hbk2 := hbk.out.below hbel.out hG
                      obtain ⟨A5, n5, c5, h5⟩ := hrw.out.form (i := i) (by rw [HUL.out]; exact HLI.out)
                      have hcell2 := hbk2.cell i
                      rw [h5] at hcell2
                      have hfr2 := hbk2.frozen i
                      have hset := hbk2.set_ i (.slice (some ⟨wo.heap.size, 0, Option.none⟩) li li)
                      have hput := (hrw.out.below hbel.out (Nat.le_refl _)).put (j := i) hown (by omega) hszw
                      have hput2 := hput.keep ((Keep.refl w1.heap.size (w1.heap.size + 1) wr).setCell (p := ⟨w1.heap.size, i, Option.none⟩) (Nat.le_refl _) (by simp) (.slice (some ⟨wo.heap.size, 0, Option.none⟩) li li)) (.inr (Nat.le_refl _))
                      have hblx := (hbl.out.trans (hbel.out.mono (by omega))).setCell (p := ⟨w1.heap.size, i, Option.none⟩) (Nat.le_refl _) (.slice (some ⟨wo.heap.size, 0, Option.none⟩) li li)
                      have hszs : (wr.setCell ⟨w1.heap.size, i, Option.none⟩ (.slice (some ⟨wo.heap.size, 0, Option.none⟩) li li)).heap.size = wr.heap.size := by simp [World.setCell]
                      rw [← hszs, hdd] at hput2
                      have HS := Lib.hid hset
                      have HP2 := Lib.hid hput2
                      have HBX2 := Lib.hid hblx
                      have hli2 : i < ls.length := HLI.out
                      clear hset hput hput2 hblx hown hbk2 h5 hszs hdd hdl hz
                      go_wp2_with fail
                      go_roundw
                      case rel => exact ⟨k + 1, N, li, N + 1, li, _, _, by omega, by first | rfl | exact HNV.out, rfl, by go_num, HNX.out, .inr ⟨by omega, rfl, rfl⟩, HS.out, HP2.out, HBX2.out⟩
                      case measure => (simp [intOf]; try omega)
                    · obtain ⟨s, rfl⟩ : ∃ s, kk = s + 1 := ⟨kk - 1, by omega⟩
                      obtain rfl : z = (s : Int) := by omega
                      have hcell := hb.out.cell s
                      rw [zerI_at] at hcell
                      have hfr := hb.out.frozen s
                      have hsl : (s : Int) < (li : Int) := by omega
                      have HD2 := Lib.hid hd.out.step
                      have HB2 : Hid (∀ u, Blk (wr.setCell ⟨wo.heap.size, s, Option.none⟩ (.int .i64 u)) wo.heap.size 3 (zerI s (u :: D))) := fun u => by rw [← zerI_set]; exact hb.out.set_ _ _
                      have HC2 : Hid (∀ u, Below wo.heap.size wo (wr.setCell ⟨wo.heap.size, s, Option.none⟩ u)) := fun u => hbel.out.setCell (p := ⟨wo.heap.size, s, Option.none⟩) (Nat.le_refl _) _
                      have hq2' : q / r ≤ 933120000000 := Nat.le_trans (Nat.div_le_self _ _) (by omega)
                      have hq2 : q / r ≤ N := Nat.le_trans (Nat.div_le_self _ _) hqn
                      have HQW : Hid (wrap64 ((q : Int) / (r : Int)) = ((q / r : Nat) : Int)) := by show _ = _; rw [← Int.natCast_ediv]; exact wrap_nat hq2'
                      clear hz h0
                      go_wp2_with fail
                      go_quiet (fail)
                      go_wp2_with fail
                      go_roundw
                      case rel => exact ⟨s, q / r, (s : Int) - 1, _, by omega, by rfl, by rw [HQW.out], by omega, hq2, HD2.out, HB2.out _, (HC2.out _).trans (bel_drewN _ _ _)⟩
                      case measure => (simp [intOf]; try omega)
              · obtain rfl : k = ls.length := by omega
                have HR : Hid (rows = canR ls (r : Int)) := by
                  show _ = _
                  unfold canR
                  rw [HF.out]
                  simp only [if_true, Int.toNat_natCast]
                  unfold canonL
                  have h1 := hst.out
                  rw [List.take_of_length_le (by rw [HLL.out]; exact Nat.le_refl _), HL.out] at h1
                  rw [h1]
                clear hst hlink
                go_wp2_with fail
                go_ret2
                rw [HF.out, ← HR.out]
                refine ⟨.slice (some ⟨w1.heap.size, 0, Option.none⟩) ls.length ls.length, ret_val rfl, ?_, HWB.out.trans (hbl.out.mono (by omega))⟩
                refine ⟨us, hrw.out.mono (by omega) (Nat.le_refl _), ⟨?_, .inr ⟨w1.heap.size, ls.length, us.toArray, ?_, by omega, hbk.out, ?_, by unfold maxLen; omega, by simp [HUL.out], ?_⟩⟩, fun g hg => by cases hg; exact hbk.out.lt⟩
                · rw [Nat.mul_one]; exact hrw.out.1
                · rw [← hrw.out.1, HUL.out]
                · rw [← hrw.out.1, HUL.out]; exact Nat.le_refl _
                · rw [List.take_of_length_le (by rw [← hrw.out.1]; exact Nat.le_of_eq (by simp))]
end Go.Proofs.Ytabiobjcfopakaa
