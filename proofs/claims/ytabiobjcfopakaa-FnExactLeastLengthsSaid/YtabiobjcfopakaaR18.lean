/- Contracts: LeastLengths and LeastCost of the reference. -/
import Derived.Test.YtabiobjcfopakaaR17
namespace Go.Proofs.Ytabiobjcfopakaa
open Go.RowKit
theorem sortW_take {ws : List Int} {k i : Nat} {x : Int} (h : (orderBy (pWei ws) ws.length)[k]? = some i) (hx : x = ws.getD i 0) : (sortW ws).take k ++ [x] = (sortW ws).take (k + 1) := by
  have : (sortW ws)[k]? = some x := by unfold sortW; rw [List.getElem?_map, h, hx]; rfl
  rw [take_snocI this]
/-- What is still to be laid out: the list found for what is left. -/
def Left (r L : Nat) (Z : List Int) (X : List Nat) (level done free : Nat) : Prop := ∃ y, lvl r L (Z.drop done) level free = some y ∧ X.drop done = y.1
theorem Left.start {r L : Nat} {Z : List Int} {x : List Nat × Int} (hr : 1 ≤ r) (hL : 1 ≤ L) (hZ : ∀ w ∈ Z, 0 ≤ w) (h : bst r L Z 1 (r ^ L) = some x) : Left r L Z x.1 1 0 (min r Z.length) := by
  refine ⟨x, ?_, by simp⟩
  rw [List.drop_zero, lvl_min hr hZ]
  unfold lvl
  rw [show r * r ^ (L - 1) = r ^ L by rw [Nat.mul_comm, ← Nat.pow_succ]; congr 1; omega]
  exact h
theorem start_none {r L : Nat} {Z : List Int} (hr : 1 ≤ r) (hL : 1 ≤ L) (hZ : ∀ w ∈ Z, 0 ≤ w) (hb : (L : Int) * sumW Z < 1000000000) : (relC r L Z 1 (min r Z.length) = 1000000000) ↔ bst r L Z 1 (r ^ L) = Option.none := by
  have e : lvl r L Z 1 r = bst r L Z 1 (r ^ L) := by
    unfold lvl
    rw [show r * r ^ (L - 1) = r ^ L by rw [Nat.mul_comm, ← Nat.pow_succ]; congr 1; omega]
  rw [relC_min hr hZ]
  unfold relC
  rw [e]
  cases hb2 : bst r L Z 1 (r ^ L) with
  | none => simp
  | some x =>
    rw [← e] at hb2
    have := (lvl_cheap hZ hb2).2
    simp
    omega
/-- One level is laid out. -/
theorem Left.step {r L : Nat} {Z : List Int} {X : List Nat} {level done free : Nat} (hr : 1 ≤ r) (hZ : ∀ w ∈ Z, 0 ≤ w) (hb : (L : Int) * sumW (Z.drop done) < 1000000000) (h : Left r L Z X level done free) (hf : free ≤ Z.length - done) (h1 : 1 ≤ level) (hd : done < Z.length) :
    level ≤ L ∧ ∃ t, t ≤ free ∧ withC r L (Z.drop done) level free t = relC r L (Z.drop done) level free ∧ (∀ s, t < s → s ≤ free → relC r L (Z.drop done) level free < withC r L (Z.drop done) level free s) ∧
      (∀ k, k < t → X[done + k]? = some level) ∧ Left r L Z X (level + 1) (done + t) (min ((free - t) * r) (Z.length - (done + t))) := by
  obtain ⟨y, hy, hX⟩ := h
  have hne : Z.drop done ≠ [] := by intro e; have := congrArg List.length e; rw [List.length_drop, List.length_nil] at this; omega
  have hlL : level ≤ L := by
    rcases Nat.lt_or_ge L level with h2 | h2
    · rw [lvl_end hne h2] at hy; cases hy
    · exact h2
  have hZd : ∀ w ∈ Z.drop done, 0 ≤ w := fun w hw => hZ w (List.mem_of_mem_drop hw)
  obtain ⟨t, z, ht, hw, hs, hz, he⟩ := lvl_greedy hr hZd (by rw [List.length_drop]; exact hf) h1 hlL hb hy
  refine ⟨hlL, t, ht, hw, hs, fun k hk => ?_, z, ?_, ?_⟩
  · have h2 : (X.drop done)[k]? = some level := by
      rw [hX, he, List.getElem?_append_left (by simp; exact hk), List.getElem?_replicate, if_pos hk]
    rwa [List.getElem?_drop] at h2
  · rw [List.drop_drop] at hz
    have h3 := lvl_min (r := r) (L := L) hr (ws := Z.drop (done + t)) (fun w hw => hZ w (List.mem_of_mem_drop hw)) (level := level + 1) (f := (free - t) * r)
    rw [List.length_drop] at h3
    rw [h3]; exact hz
  · rw [← List.drop_drop, hX, he]
    simp
set_option maxRecDepth 100000 in
set_option maxHeartbeats 16000000 in
theorem cmLengths_any (ls : List Int) (r l : Nat) (v : Value) (hi : Nat) (w : World) (h : RdI w hi v ls) (hh : hi ≤ w.heap.size) (hask : askB ls (r : Int) (l : Int) = true) :
    Calls Try.prog 164 #[v, .int .i64 (r : Int), .int .i64 (l : Int)] w (RetOwT (leastL ls (r : Int) (l : Int)) (leastB ls (r : Int) (l : Int)) w) := by
  have CO := Lib.hid (cmOrder_any ls v hi w h hh (by have := (askB_iff.1 hask).1; omega))
  obtain ⟨A, c, rfl, hc, hm⟩ := Rd.form h
  obtain ⟨hn, hal, hr, hl⟩ := askB_iff.1 hask
  obtain ⟨O, hO⟩ : ∃ O, O = orderBy (pWei ls) ls.length := ⟨_, rfl⟩
  obtain ⟨Z, hZ⟩ : ∃ Z, Z = sortW ls := ⟨_, rfl⟩
  have hOl : O.length = ls.length := by rw [hO, orderBy_len]
  have hZl : Z.length = ls.length := by rw [hZ, sortW_len]
  have HOM : Hid (∀ i ∈ O, i < ls.length) := by show ∀ i ∈ O, i < ls.length; rw [hO]; exact fun i hi => orderBy_lt hi
  have HZP : Hid (∀ w ∈ Z, 0 ≤ w) := by show ∀ w ∈ Z, 0 ≤ w; rw [hZ]; exact sortW_pos hal
  have HZA : Hid (allB Z 0 10000 = true) := by show _ = _; rw [hZ]; exact sortW_all hal
  have HASK := Lib.hid hask
  have HO := Lib.hid hO
  have HZ := Lib.hid hZ
  have HOL := Lib.hid hOl
  have HZL := Lib.hid hZl
  have H := Lib.hid h
  have hmk := make_ints ls.length (by omega)
  clear h hO hZ hOl hZl hask hal
  go_enter Try.func164, Try.ntmps164
  go_wp2_with fail
  refine CO.out.mono ?_
  rintro e w1 ⟨u, rfl, hu, hb1⟩
  rw [← HO.out] at hu
  obtain ⟨A1, c1, rfl, hc1, _⟩ := Rd.form hu
  have hwl : (waysI O).length = ls.length := by rw [waysI_len, HOL.out]
  rw [hwl] at hc1 hu ⊢
  have HU := Lib.hid hu
  have HB1 := Lib.hid hb1
  have HWL := Lib.hid hwl
  have HW1 := Lib.hid (RdI.below H.out hb1 hh)
  clear hu hb1 hwl
  go_wp2_with fail
  go_loopw [9, 23] (fun sv i wr => ∃ k : Nat, k ≤ ls.length ∧ i = .int .i64 (k : Int) ∧ Hid (GrowI w1 w1.heap.size wr sv (Z.take k))) (fun _ i _ => ls.length - (intOf i).toNat)
  case atStart => exact ⟨0, Nat.zero_le _, rfl, by rw [List.take_zero]; exact GrowI.start w1⟩
  case round =>
    obtain ⟨k, hk, rfl, hG⟩ := hrel
    by_cases hlt : k < ls.length
    · obtain ⟨i, hi⟩ : ∃ i, O[k]? = some i := ⟨_, List.getElem?_eq_getElem (by rw [HOL.out]; exact hlt)⟩
      have hil := HOM.out i (List.mem_of_getElem? hi)
      obtain ⟨b1, o1, d1, hv, hbb, hco⟩ := RdI.getD (by have := RdI.below HU.out hG.out.2.1 (Nat.le_refl _); rw [← HWL.out] at this; exact this) (k := k) (by rw [HWL.out]; exact hlt)
      rw [show (waysI O).getD k 0 = (i : Int) by unfold waysI; rw [List.getD_eq_getElem?_getD, List.getElem?_map, hi]; rfl] at hco
      cases hv
      obtain ⟨b2, o2, d2, hv, hbb2, hcl⟩ := RdI.getD (RdI.below HW1.out hG.out.2.1 (by have := HB1.out.size; omega)) hil
      cases hv
      obtain ⟨x, hx⟩ : ∃ x, x = ls.getD i 0 := ⟨_, rfl⟩
      rw [← hx] at hcl
      have HTK : Hid (Z.take k ++ [x] = Z.take (k + 1)) := by show _ = _; rw [HZ.out]; exact sortW_take (by rw [← HO.out]; exact hi) hx
      have hlen : (Z.take k).length < 1099511627776 := by rw [List.length_take]; omega
      have HLEN := Lib.hid hlen
      have hil2 : i < ls.length := hil
      clear hi hx hlen
      go_wp2_with (at_builtin; refine GrowI.app rfl (.tmp 27) (.tmp 32) rfl hG.out HLEN.out rfl rfl ?_; intro v' w5 hG')
      rw [HTK.out] at hG'
      have HG' := Lib.hid hG'
      clear hG'
      go_roundw
      case rel => exact ⟨k + 1, by omega, by go_num, HG'.out⟩
      case measure => (simp [intOf]; try omega)
    · obtain rfl : k = ls.length := by omega
      have hG2 := hG.out
      rw [List.take_of_length_le (by rw [HZL.out]; exact Nat.le_refl _)] at hG2
      obtain ⟨A2, c2, rfl, hc2, _⟩ := Rd.form hG2.own.rd
      have CN := Lib.hid (cmNew_any Z r l _ wr.heap.size wr hG2.own.rd (Nat.le_refl _) HZA.out (by rw [HZL.out]; omega) (by rw [HZL.out]; omega) (by omega))
      have HG2 := Lib.hid hG2
      clear hG hG2
      go_wp2_with fail
      refine CN.out.mono ?_
      rintro e w3 ⟨T, rfl, htn⟩
      obtain ⟨k0, ck, lev, ht, hrg, hTw, hbl⟩ := htn.tbl
      have hs3 := ht.blk.lt
      have HBS : Hid (Below w.heap.size w w3) := by
        have h1 := HB1.out.trans (HG2.out.2.1.mono HB1.out.size)
        exact h1.trans (hbl.mono h1.size)
      have HU3 : Hid (RdI w3 w1.heap.size (.slice A1 ls.length c1) (waysI O)) := RdI.below (RdI.below HU.out HG2.out.2.1 (Nat.le_refl _)) hbl HG2.out.2.2
      have hsw : w1.heap.size ≤ wr.heap.size := HG2.out.2.2
      have HRG := Lib.hid hrg
      have HT := Lib.hid ht
      have hmin : min (r : Int) (ls.length : Int) = ((min r ls.length : Nat) : Int) := by omega
      obtain ⟨fr0, hfr0⟩ : ∃ f, f = min r ls.length := ⟨_, rfl⟩
      rw [← hfr0] at hmin
      have HFR := Lib.hid hfr0
      clear htn ht hrg hbl CN hfr0
      go_wp2_with (go_at_call 232; refine (l1LeastI_any _ _ _).mono ?_; rintro e w' ⟨rfl, rfl⟩)
      obtain ⟨N0, hN0⟩ : ∃ N, N = wr.heap.size := ⟨_, rfl⟩
      have HT0 : Hid (Tbl w3 T N0 k0 ck Z r l lev fun _ _ _ => 0) := by rw [hN0]; exact HT.out
      have hN1 : N0 < T := by omega
      have hw1N : w1.heap.size ≤ N0 := by omega
      have hwN : w.heap.size ≤ N0 := by have := HB1.out.size; omega
      clear hN0 HT hTw hsw
      have HTL := Lib.hid HT0.out.tlt
      have hb4 : Below w3.heap.size w3 (w3.alloc (.cells (zeros ls.length) 3)) := (Below.refl _ _).alloc (Nat.le_refl _) _
      have ht4 := HT0.out.same HTL.out hb4
      have hi4 : InvT Z r l (fun _ _ _ => 0) := fun _ _ _ _ _ _ _ => .inl rfl
      have HB0 : Hid (Blk (w3.alloc (.cells (zeros ls.length) 3)) w3.heap.size 3 (ints (List.replicate ls.length 0))) := by
        have := Blk.new w3 3 (zeros ls.length)
        rw [zeros_len] at this
        exact this
      have HBA := Lib.hid hb4
      have CA := Lib.hid fun (lv : Nat) (h1 : 1 ≤ lv) (h2 : lv ≤ l + 1) => cost_any (T := T) (Rb := N0) (k0 := k0) (ck := ck) (Z := Z) (r := r) (L := l) (lev := lev) (by omega) (by omega) (by omega) (by rw [HZL.out]; omega) HZA.out _ lv rfl h1 h2
      have hsum : ∀ l : List Int, (∀ x ∈ l, 0 ≤ x ∧ x ≤ 10000) → 0 ≤ sumW l ∧ sumW l ≤ 10000 * l.length := by
        intro l
        induction l with
        | nil => intro _; simp [sumW]
        | cons x l ih =>
          intro hl
          have h1 := ih (fun y hy => hl y (by simp [hy]))
          have h2 := hl x (by simp)
          simp only [sumW, List.length_cons]
          omega
      have HSD : Hid (∀ d, 0 ≤ sumW (Z.drop d) ∧ sumW (Z.drop d) ≤ 200000) := by
        intro d
        have hall : ∀ x ∈ Z, 0 ≤ x ∧ x ≤ 10000 := by have := HZA.out; unfold allB at this; rw [List.all_eq_true] at this; exact fun x hx => inB_iff.1 (this x hx)
        have := hsum (Z.drop d) (fun x hx => hall x (List.mem_of_mem_drop hx))
        rw [List.length_drop, HZL.out] at this
        omega
      have HBIG : Hid (∀ d, (l : Int) * sumW (Z.drop d) < 1000000000) := by
        intro d
        have h1 := HSD.out d
        have h2 : (l : Int) * sumW (Z.drop d) ≤ 6 * 200000 := Int.mul_le_mul (by omega) h1.2 h1.1 (by omega)
        omega
      have HRB : Hid (∀ d lv fr, 1 ≤ lv → 0 ≤ relC r l (Z.drop d) lv fr ∧ relC r l (Z.drop d) lv fr ≤ 1000000000) := fun d lv fr h1 => relC_bd (fun x hx => HZP.out x (List.mem_of_mem_drop hx)) h1 (HBIG.out d)
      have hcc := CA.out 1 (Nat.le_refl _) (by omega) 0 fr0 _ _ (Nat.zero_le _) (by omega) ht4 hi4
      rw [List.drop_zero] at hcc
      have HSN := Lib.hid (start_none (r := r) (L := l) (Z := Z) (by omega) (by omega) HZP.out (by have := HBIG.out 0; rwa [List.drop_zero] at this))
      have hfz : fr0 = min r Z.length := by rw [HFR.out, HZL.out]
      rw [← hfz] at HSN
      have HLC : Hid (leastC ls (r : Int) (l : Int) = bst r l Z 1 (r ^ l)) := by
        show _ = _
        unfold leastC
        rw [HASK.out, HZ.out]
        simp only [if_true, Int.toNat_natCast]
      have HFZ := Lib.hid hfz
      clear hsum ht4 hi4 hb4 hfz
      cases hbb : bst r l Z 1 (r ^ l) with
      | none =>
        have hq := HSN.out.2 hbb
        rw [hq] at hcc
        have CC := Lib.hid hcc
        have HN : Hid (leastL ls (r : Int) (l : Int) = [] ∧ leastB ls (r : Int) (l : Int) = false) := by
          unfold leastL leastB; rw [HLC.out, hbb]; exact ⟨rfl, rfl⟩
        clear hcc hq hbb
        refine CC.out.mono ?_
        rintro e w5 ⟨rfl, x5, rfl⟩
        go_wp2_with fail
        go_ret2
        rw [HN.out.1, HN.out.2]
        exact retOwT _ (GrowI.nil ((HBS.out.trans (HBA.out.mono HBS.out.size)).trans (x5.fr.bel (fun g hg => by have := HRG.out g hg; omega))))
      | some xx =>
        obtain ⟨X, xk⟩ := xx
        obtain ⟨q, hq⟩ : ∃ q, q = relC r l Z 1 fr0 := ⟨_, rfl⟩
        have hqn : (q == 1000000000) = false := by
          rw [beq_eq_false_iff_ne]
          intro e
          have := HSN.out.1 (by rw [← hq]; exact e)
          rw [hbb] at this
          cases this
        rw [← hq] at hcc
        have CC := Lib.hid hcc
        have HXL : Hid (X.length = ls.length) := by show _ = _; rw [← HZL.out]; exact (bst_bd Z HZP.out _ 1 _ rfl _ hbb).1
        have HLF : Hid (Left r l Z X 1 0 fr0) := by show Left _ _ _ _ _ _ _; rw [HFZ.out]; exact Left.start (by omega) (by omega) HZP.out hbb
        have HN : Hid (leastL ls (r : Int) (l : Int) = layB O ls.length X ∧ leastB ls (r : Int) (l : Int) = true) := by
          unfold leastL leastB; rw [HLC.out, hbb, HO.out]; exact ⟨rfl, rfl⟩
        have hfr0n : fr0 ≤ ls.length := by rw [HFR.out]; exact Nat.min_le_right _ _
        clear hcc hq hbb
        refine CC.out.mono ?_
        rintro e w5 ⟨rfl, x5, rfl⟩
        have HB5 : Hid (Blk x5.val w3.heap.size 3 (ints (layK O ls.length X 0))) := (x5.fr.block _ (fun hm => by have := HRG.out _ hm; omega)).trans HB0.out
        have HL5 : Hid (Below N0 w3 x5.val) := (HBA.out.mono (by omega)).trans (x5.fr.bel (fun g hg => by have := HRG.out g hg; omega))
        go_wp2_with fail
        go_loopw [14, 15, 16] (fun lvv dnv frv wr => ∃ (lv dn fr : Nat) (f : Nat → Nat → Nat → Int), lvv = .int .i64 (lv : Int) ∧ dnv = .int .i64 (dn : Int) ∧ frv = .int .i64 (fr : Int) ∧ 1 ≤ lv ∧ lv ≤ l + 1 ∧ dn ≤ ls.length ∧ fr ≤ ls.length - dn ∧ Hid (Tbl wr T N0 k0 ck Z r l lev f) ∧ Hid (InvT Z r l f) ∧ Hid (Left r l Z X lv dn fr) ∧
          Hid (Blk wr w3.heap.size 3 (ints (layK O ls.length X dn))) ∧ Hid (Below N0 w3 wr)) (fun lv _ _ _ => 8 - (intOf lv).toNat)
        case atStart => exact ⟨1, 0, fr0, x5.f, rfl, rfl, rfl, Nat.le_refl _, by omega, Nat.zero_le _, by omega, x5.tbl, x5.inv, HLF.out, HB5.out, HL5.out⟩
        case round =>
          obtain ⟨lv, dn, fr, f, rfl, rfl, rfl, hlv1, hlvL, hdn, hfr, htb, hiv, hlf, hbk, hbl⟩ := hrel
          by_cases hdlt : dn < ls.length
          · obtain ⟨hlL, t, htf, hwt, hwgt, hXt, hlf2⟩ := hlf.out.step (by omega) HZP.out (HBIG.out dn) (by rw [HZL.out]; exact hfr) hlv1 (by rw [HZL.out]; exact hdlt)
            rw [HZL.out] at hlf2
            have HWT := Lib.hid hwt
            have HWG := Lib.hid hwgt
            have HXT := Lib.hid hXt
            have HLF2 := Lib.hid hlf2
            have hdi : (dn : Int) < (ls.length : Int) := by omega
            have hfr20 : fr ≤ 20 := by omega
            clear hwt hwgt hXt hlf2 hlf
            go_wp2_with fail
            go_loopw [17] (fun tv wr => ∃ (tk : Nat) (f : Nat → Nat → Nat → Int), tv = .int .i64 (tk : Int) ∧ t ≤ tk ∧ tk ≤ fr ∧ Hid (Tbl wr T N0 k0 ck Z r l lev f) ∧ Hid (InvT Z r l f) ∧ Hid (Blk wr w3.heap.size 3 (ints (layK O ls.length X dn))) ∧ Hid (Below N0 w3 wr)) (fun tv _ => (intOf tv).toNat)
            case atStart => exact ⟨fr, f, rfl, htf, Nat.le_refl _, htb.out, hiv.out, hbk.out, hbl.out⟩
            case round =>
              obtain ⟨tk, f, rfl, ht1, ht2, htb, hiv, hbk, hbl⟩ := hrel
              have hdt : dn + tk ≤ Z.length := by rw [HZL.out]; omega
              have cW := with_any (t := tk) (fr := fr) wr htb.out hiv.out hlL (by omega) (by rw [HZL.out]; omega) (by rw [HZL.out]; omega) (by omega) hfr20 ht2 hdt (HSD.out dn) (HRB.out (dn + tk) (lv + 1) ((fr - tk) * r) (by omega)) fun y => CA.out (lv + 1) (by omega) (by omega) (dn + tk) ((fr - tk) * r) y.val y.f hdt (Nat.le_trans (Nat.mul_le_mul (show fr - tk ≤ 20 by omega) (show r ≤ 60 by omega)) (by omega)) y.tbl y.inv
              obtain ⟨a, ha⟩ : ∃ a, a = withC r l (Z.drop dn) lv fr tk := ⟨_, rfl⟩
              obtain ⟨b, hb⟩ : ∃ b, b = relC r l (Z.drop dn) lv fr := ⟨_, rfl⟩
              rw [← ha] at cW
              have CW := Lib.hid cW
              have CB : Hid (∀ (x : LaterX wr T N0 k0 ck Z r l lev), Calls Try.prog 233 #[.pointer (some ⟨T, 0, Option.none⟩), .int .i64 (lv : Int), .int .i64 (dn : Int), .int .i64 (fr : Int)] x.val (PostX x.val T N0 k0 ck Z r l lev b)) := by
                intro x
                have := CA.out lv hlv1 hlvL dn fr x.val x.f (by rw [HZL.out]; omega) (by omega) x.tbl x.inv
                rw [← hb] at this
                exact this
              have HAB : Hid ((tk = t → b = a) ∧ (t < tk → b < a)) := ⟨fun e => by rw [hb, ha, e]; exact HWT.out.symm, fun e => by rw [hb, ha]; exact HWG.out tk e ht2⟩
              have hmulb : (fr - tk) * r ≤ 1200 := Nat.le_trans (Nat.mul_le_mul (show fr - tk ≤ 20 by omega) (show r ≤ 60 by omega)) (by omega)
              clear cW ha hb
              rcases Nat.lt_or_ge t tk with htt | htt
              · have hba := HAB.out.2 htt
                have hbi : decide (b < a) = true := decide_eq_true hba
                go_wp2_with fail
                refine CW.out.mono ?_
                rintro e w6 ⟨rfl, x6, rfl⟩
                have CB6 := Lib.hid (CB.out x6)
                go_wp2_with fail
                refine CB6.out.mono ?_
                rintro e w7 ⟨rfl, x7, rfl⟩
                have hfr67 := x6.fr.trans x7.fr
                have HB7 : Hid (Blk x7.val w3.heap.size 3 (ints (layK O ls.length X dn))) := (hfr67.block _ (fun hm => by have := HRG.out _ hm; omega)).trans hbk.out
                have HL7 : Hid (Below N0 w3 x7.val) := hbl.out.trans (hfr67.bel (fun g hg => by have := HRG.out g hg; omega))
                clear hfr67
                go_wp2_with fail
                go_roundw
                case rel => exact ⟨tk - 1, x7.f, by go_num, by omega, by omega, x7.tbl, x7.inv, HB7.out, HL7.out⟩
                case measure => (simp [intOf]; try omega)
              · obtain rfl : tk = t := by omega
                have hba := HAB.out.1 rfl
                have hbi : ¬ b < a := by omega
                have HBA2 := Lib.hid hba
                clear hba
                have hbi2 : decide (b < a) = false := decide_eq_false hbi
                go_wp2_with fail
                refine CW.out.mono ?_
                rintro e w6 ⟨rfl, x6, rfl⟩
                have CB6 := Lib.hid (CB.out x6)
                go_wp2_with fail
                refine CB6.out.mono ?_
                rintro e w7 ⟨rfl, x7, rfl⟩
                have hfr67 := x6.fr.trans x7.fr
                have HB7 : Hid (Blk x7.val w3.heap.size 3 (ints (layK O ls.length X (dn + 0)))) := (hfr67.block _ (fun hm => by have := HRG.out _ hm; omega)).trans hbk.out
                have HL7 : Hid (Below N0 w3 x7.val) := hbl.out.trans (hfr67.bel (fun g hg => by have := HRG.out g hg; omega))
                clear hfr67
                go_wp2_with fail
                go_loopw [18] (fun kv wr => ∃ (k : Nat), kv = .int .i64 (k : Int) ∧ k ≤ tk ∧ Hid (Tbl wr T N0 k0 ck Z r l lev x7.f) ∧ Hid (Blk wr w3.heap.size 3 (ints (layK O ls.length X (dn + k)))) ∧ Hid (Below N0 w3 wr)) (fun kv _ => tk - (intOf kv).toNat)
                case atStart => exact ⟨0, rfl, Nat.zero_le _, x7.tbl, HB7.out, HL7.out⟩
                case round =>
                  obtain ⟨k, rfl, hkt, htb8, hbk8, hbl8⟩ := hrel
                  by_cases hklt : k < tk
                  · obtain ⟨i, hi⟩ : ∃ i, O[dn + k]? = some i := ⟨_, List.getElem?_eq_getElem (by rw [HOL.out]; omega)⟩
                    have hil := HOM.out i (List.mem_of_getElem? hi)
                    obtain ⟨b1, o1, d1, hv, _, hco⟩ := RdI.getD (by have := RdI.below HU3.out hbl8.out (by omega); rw [← HWL.out] at this; exact this) (k := dn + k) (by rw [HWL.out]; omega)
                    rw [show (waysI O).getD (dn + k) 0 = (i : Int) by unfold waysI; rw [List.getD_eq_getElem?_getD, List.getElem?_map, hi]; rfl] at hco
                    cases hv
                    have hx := HXT.out k hklt
                    have hll := layK_len O ls.length X (dn + k)
                    obtain ⟨u, hu⟩ : ∃ u, (layK O ls.length X (dn + k))[i]? = some u := ⟨_, List.getElem?_eq_getElem (by rw [hll]; exact hil)⟩
                    have hou := hbk8.out.cell i
                    rw [show (ints (layK O ls.length X (dn + k)))[i]? = some (.int .i64 u) by simp [ints, hu]] at hou
                    have hfz := hbk8.out.frozen i
                    have HB9 : Hid (Blk (wr.setCell ⟨w3.heap.size, i, Option.none⟩ (.int .i64 (lv : Int))) w3.heap.size 3 (ints (layK O ls.length X (dn + (k + 1))))) := by
                      have h1 := hbk8.out.set_ i (.int .i64 (lv : Int))
                      show Blk _ _ _ _
                      rw [show dn + (k + 1) = dn + k + 1 by omega, layK_succ hi hx]
                      unfold ints
                      rw [List.map_set]
                      exact h1
                    have HT9 : Hid (Tbl (wr.setCell ⟨w3.heap.size, i, Option.none⟩ (.int .i64 (lv : Int))) T N0 k0 ck Z r l lev x7.f) := htb8.out.same HTL.out ((Below.refl w3.heap.size wr).setCell (p := ⟨w3.heap.size, i, Option.none⟩) (Nat.le_refl _) _)
                    have HL9 : Hid (Below N0 w3 (wr.setCell ⟨w3.heap.size, i, Option.none⟩ (.int .i64 (lv : Int)))) := hbl8.out.setCell (p := ⟨w3.heap.size, i, Option.none⟩) (by show N0 ≤ w3.heap.size; omega) _
                    have hdki : (dn : Int) + (k : Int) < (ls.length : Int) := by omega
                    have hil2 : i < ls.length := hil
                    have hki : (k : Int) < (tk : Int) := by omega
                    clear hi hx hu hll
                    go_wp2_with fail
                    go_roundw
                    case rel => exact ⟨k + 1, by go_num, by omega, HT9.out, HB9.out, HL9.out⟩
                    case measure => (simp [intOf]; try omega)
                  · obtain rfl : k = tk := by omega
                    obtain ⟨m, hm⟩ : ∃ m, m = fr - k := ⟨_, rfl⟩
                    have hsub : (fr : Int) - (k : Int) = (m : Int) := by omega
                    have hmr : 0 ≤ (m : Int) * (r : Int) ∧ (m : Int) * (r : Int) ≤ 1200 := by
                      have h2 : (m : Int) * (r : Int) = ((m * r : Nat) : Int) := by simp
                      rw [h2, hm]
                      omega
                    have HMN : Hid (min ((m : Int) * (r : Int)) ((ls.length : Int) - ((dn : Int) + (k : Int))) = ((min ((fr - k) * r) (ls.length - (dn + k)) : Nat) : Int)) := by
                      show _ = _
                      have h2 : (m : Int) * (r : Int) = ((m * r : Nat) : Int) := by simp
                      rw [h2, hm]
                      omega
                    clear hm
                    go_wp2_with (go_at_call 232; refine (l1LeastI_any _ _ _).mono ?_; rintro e w' ⟨rfl, rfl⟩)
                    go_roundw
                    case rel => exact ⟨lv + 1, dn + k, min ((fr - k) * r) (ls.length - (dn + k)), x7.f, by go_num, by go_num, by rw [HMN.out], by omega, by omega, by omega, Nat.min_le_right _ _, htb8.out, x7.inv, HLF2.out, hbk8.out, hbl8.out⟩
                    case measure => (simp [intOf]; try omega)
          · obtain rfl : dn = ls.length := by omega
            go_wp2_with fail
            go_ret2
            have hll := layK_len O ls.length X ls.length
            have hsz9 := hbl.out.size
            have hown := own_of_blk (lo := w.heap.size) (hi := wr.heap.size) hbk.out (by have := HBS.out.size; omega) hbk.out.lt (by rw [hll]; unfold maxLen; omega)
            rw [hll] at hown
            rw [HN.out.1, HN.out.2]
            refine ⟨.slice (some ⟨w3.heap.size, 0, Option.none⟩) ls.length ls.length, ret_val rfl, ?_, HBS.out.trans (hbl.out.mono hwN)⟩
            unfold layB
            rw [HXL.out]
            exact hown
end Go.Proofs.Ytabiobjcfopakaa
