/- Contracts: digits read as words; of the program and of the reference. -/
import Derived.Test.YtabiobjcfopakaaE8
import Derived.Test.YtabiobjcfopakaaE6
import Derived.StillTailTactics
namespace Go.Proofs.Ytabiobjcfopakaa
open Go.RowKit
set_option maxRecDepth 100000 in
set_option maxHeartbeats 4000000 in
theorem sReadWords_any (code : List (List Int)) (ds : List Int) (v u : Value) (hi hj : Nat) (w : World) (h : RdII w hi v code) (g : RdI w hj u ds) (hh : hi ≤ w.heap.size) (hg : hj ≤ w.heap.size) :
    Calls Try.prog 116 #[v, u] w (RetOwT (readRes code ds).1 (readRes code ds).2 w) := by
  obtain ⟨A, c, rfl, hm⟩ := h.form
  obtain ⟨A', c', rfl, hc', hm'⟩ := Rd.form g
  have H := Lib.hid h
  have G := Lib.hid g
  clear h g
  have cC := cmCode_any code _ hi w H.out
  cases hcb : codeB code
  · rw [hcb] at cC
    have CC := Lib.hid cC
    have HX : Hid ((codeB code && digB ds) = false) := by show (_ && _) = false; rw [hcb]; rfl
    clear cC hcb
    rw [readRes_bad HX.out]
    go_enter Try.func116, Try.ntmps116
    go_wp2_with (go_at_call 205; refine CC.out.mono ?_; rintro e w1 ⟨rfl, n1, rfl⟩)
    go_ret2
    exact retOwT _ (GrowI.nil (bel_drewN _ _ _))
  · rw [hcb] at cC
    have CC := Lib.hid cC
    have HCB := Lib.hid hcb
    clear cC
    by_cases h180 : ds.length ≤ 180
    · have H180 := Lib.hid h180
      have h180i : ¬ (180 : Int) < (ds.length : Int) := by omega
      have cA := fun n => l1All_any ds 0 59 _ hj (w.drewN n) (show RdI (w.drewN n) hj _ _ from G.out)
      cases hal : allB ds 0 59
      · rw [hal] at cA
        have CA := Lib.hid cA
        have HX : Hid ((codeB code && digB ds) = false) := by show (_ && _) = false; unfold digB; rw [hal, Bool.and_false, Bool.and_false]
        clear cA hal hcb
        rw [readRes_bad HX.out]
        go_enter Try.func116, Try.ntmps116
        go_wp2_with fail
        refine CC.out.mono ?_
        rintro e w1 ⟨rfl, n1, rfl⟩
        go_wp2_with (go_at_call 184; refine (CA.out _).mono ?_; rintro e w' ⟨rfl, rfl⟩)
        go_ret2
        exact retOwT _ (GrowI.nil (bel_drewN _ _ _))
      · rw [hal] at cA
        have CA := Lib.hid cA
        have HX : Hid ((codeB code && digB ds) = true) := by show (_ && _) = true; unfold digB; rw [hcb, hal, decide_eq_true h180]; rfl
        have hcl := (code_len hcb).2
        clear cA hal hcb
        go_enter Try.func116, Try.ntmps116
        go_wp2_with fail
        refine CC.out.mono ?_
        rintro e w1 ⟨rfl, n1, rfl⟩
        go_wp2_with (go_at_call 184; refine (CA.out _).mono ?_; rintro e w' ⟨rfl, rfl⟩)
        go_loopw [1, 6] (fun dv q wr => ∃ (rest L : List Int) (D : Option Addr) (n cc : Nat), dv = .slice D n cc ∧ Hid (n = rest.length) ∧ n ≤ cc ∧ n + L.length ≤ 180 ∧ Hid (RdI w hj (.slice D n cc) rest) ∧ Hid (ReadTo code ds L rest) ∧ GrowI w w.heap.size wr q L) (fun dv _ _ => lenV dv)
        case atStart => exact ⟨ds, [], A', ds.length, c', rfl, rfl, hc', by simpa using h180, G.out, ReadTo.start _ _, GrowI.nil (bel_drewN _ _ _)⟩
        case round =>
          obtain ⟨rest, L, D, n, cc, rfl, hn, hncc, hlen, hrd, hto, hG⟩ := hrel
          rcases Nat.eq_zero_or_pos n with hn0 | hpos
          · have hR : Hid (rest = []) := List.eq_nil_of_length_eq_zero (by rw [← hn.out]; exact hn0)
            have hi0 : ¬ (0 : Int) < (n : Int) := by omega
            have hn1 : ¬ 0 < n := by omega
            have HN0 := Lib.hid hn0
            clear hn0
            go_wp2_with fail
            go_ret2
            have := hto.out
            rw [hR.out] at this
            rw [this.done HX.out]
            exact retOwT _ hG
          · have hpi : (0 : Int) < (n : Int) := by omega
            have HRP : Hid (0 < rest.length) := by show 0 < _; rw [← hn.out]; exact hpos
            have hncl : cc ≤ 9223372036854775807 := by
              have := hrd.out; obtain ⟨_, _, _, hv, _, h2, _⟩ := this; cases hv; unfold maxLen at h2; omega
            obtain ⟨b0, o0, rfl⟩ : ∃ b0 o0, D = some ⟨b0, o0, Option.none⟩ := by
              have := hrd.out; obtain ⟨_, _, _, hv, _, _, h3⟩ := this; cases hv
              obtain ⟨b, o, e, _⟩ := h3 HRP.out; exact ⟨b, o, e⟩
            rename World => wo
            have hGs := hG.2.1
            go_wp2_with fail
            go_loopw [7, 28] (fun f i wr => ∃ k : Nat, k ≤ code.length ∧ i = .int .i64 k ∧ f = .int .i64 (ixI (ixUp code rest k)) ∧ ∃ m, wr = wo.drewN m) (fun _ i _ => code.length - (intOf i).toNat)
            case atStart => exact ⟨0, Nat.zero_le _, rfl, by simp [ixUp, ixC, ixI], 0, rfl⟩
            case round =>
              obtain ⟨k, hk, rfl, rfl, m, rfl⟩ := hrel
              by_cases hlt : k < code.length
              · obtain ⟨b1, o1, c1, a, xs, hv, _, hx, hcell1, hra⟩ := (H.out.below hGs hh).at_ hlt
                cases hv
                obtain ⟨A2, c2, rfl, hc2, hm2⟩ := Rd.form hra
                have HX2 := Lib.hid hx
                have HRA := Lib.hid hra
                have HRR := Lib.hid (RdI.below hrd.out hGs hg)
                have cB := fun q => bkBegins_any xs rest _ _ hi hj (wo.drewN q) (show RdI (wo.drewN q) hi _ _ from HRA.out) (show RdI (wo.drewN q) hj _ _ from HRR.out)
                clear hx hra
                cases hbg : begB xs rest
                · rw [hbg] at cB
                  have CB := Lib.hid cB
                  have HBG := Lib.hid hbg
                  clear cB hbg
                  go_wp2_with (go_at_call 209; refine (CB.out _).mono ?_; rintro e w' ⟨rfl, m2, rfl⟩)
                  go_roundw
                  case rel => exact ⟨k + 1, by omega, by go_num, by rw [ixUp_no HX2.out HBG.out], m + m2, by first | rfl | rw [World.drewN_drewN]⟩
                  case measure => (simp [intOf]; try omega)
                · rw [hbg] at cB
                  have CB := Lib.hid cB
                  have HBG := Lib.hid hbg
                  clear cB hbg
                  go_wp2_with (go_at_call 209; refine (CB.out _).mono ?_; rintro e w' ⟨rfl, m2, rfl⟩)
                  go_roundw
                  case rel => exact ⟨k + 1, by omega, by go_num, by rw [ixUp_yes HCB.out HX2.out HBG.out]; rfl, m + m2, by first | rfl | rw [World.drewN_drewN]⟩
                  case measure => (simp [intOf]; try omega)
              · obtain rfl : k = code.length := by omega
                have hGd : GrowI w w.heap.size (wo.drewN m) _ L := hG.belowR (bel_drewN _ _ _)
                rcases hix : ixUp code rest code.length with _ | i
                · rw [ixUp_full] at hix
                  have HIX := Lib.hid hix
                  clear hix
                  unfold ixI
                  go_wp2_with fail
                  go_ret2
                  rw [hto.out.stuck HX.out HIX.out HRP.out]
                  exact retOwT _ (GrowI.nil (hGd.2.1))
                · rw [ixUp_full] at hix
                  obtain ⟨x, hx, hbx, hil⟩ := ixC_some hix
                  have HIX := Lib.hid hix
                  have hxl := code_pos HCB.out (List.mem_of_getElem? hx)
                  have hxn : x.length ≤ n := by rw [begB_iff] at hbx; have := hbx.length_le; rw [hn.out]; exact this
                  obtain ⟨b1, o1, c1, a, xs, hv, hb1, hx2, hcell1, hra⟩ := (H.out).at_ hil
                  cases hv
                  rw [hx] at hx2
                  cases hx2
                  obtain ⟨A2, c2, rfl, hc2, hm2⟩ := Rd.form hra
                  have HXX := Lib.hid hx
                  have hx1 := hxl.1
                  have hLl : L.length < 180 := by omega
                  have HHC := Lib.hid hcell1
                  clear hix hx hbx hxl hra hcell1
                  unfold ixI
                  have hcell5 := fun (w5 : World) (hb5 : Below w.heap.size w w5) => (hb5.cell (p := ⟨b1, o1 + i, Option.none⟩) (by show b1 < _; omega)).trans HHC.out
                  have HC5 := Lib.hid hcell5
                  clear hcell5
                  by_cases hck : cc = x.length
                  · have HCK := Lib.hid hck
                    have hxi : (x.length : Int) ≤ (n : Int) := by omega
                    go_wp2_with (at_builtin; refine GrowI.app rfl (.tmp 40) (.tmp 42) rfl hGd (by omega) rfl rfl ?_; intro v' w5 hG'; have hc5 := HC5.out w5 hG'.2.1)
                    go_roundw
                    case rel => exact ⟨rest.drop x.length, L ++ [(i : Int)], some ⟨b0, o0, Option.none⟩, n - x.length, 0, rfl, by show n - x.length = _; rw [List.length_drop, ← hn.out], by have := HCK.out; omega, by rw [List.length_append]; simp; omega,
                      by have h1 := (RdI.dropAll hrd.out hn.out hncc hxn).2 (by have := HCK.out; omega); rwa [show cc - x.length = 0 by have := HCK.out; omega] at h1, hto.out.next HCB.out HIX.out HXX.out HRP.out, hG'⟩
                    case measure => show n - x.length < n; omega
                  · have hxi : (x.length : Int) ≤ (n : Int) := by omega
                    go_wp2_with (at_builtin; refine GrowI.app rfl (.tmp 40) (.tmp 42) rfl hGd (by omega) rfl rfl ?_; intro v' w5 hG'; have hc5 := HC5.out w5 hG'.2.1)
                    go_roundw
                    case rel => exact ⟨rest.drop x.length, L ++ [(i : Int)], some ⟨b0, o0 + x.length, Option.none⟩, n - x.length, cc - x.length, rfl, by show n - x.length = _; rw [List.length_drop, ← hn.out], by omega, by rw [List.length_append]; simp; omega,
                      (RdI.dropAll hrd.out hn.out hncc hxn).1, hto.out.next HCB.out HIX.out HXX.out HRP.out, hG'⟩
                    case measure => show n - x.length < n; omega
    · have h180i : (180 : Int) < (ds.length : Int) := by omega
      have HX : Hid ((codeB code && digB ds) = false) := by show (_ && _) = false; unfold digB; rw [decide_eq_false h180, Bool.false_and, Bool.and_false]
      rw [readRes_bad HX.out]
      go_enter Try.func116, Try.ntmps116
      go_wp2_with (go_at_call 205; refine CC.out.mono ?_; rintro e w1 ⟨rfl, n1, rfl⟩)
      go_ret2
      exact retOwT _ (GrowI.nil (bel_drewN _ _ _))
/-- What is asked of a predicate on lists. -/
def PredI (g : Nat) (lb : Array Value) (hi : Nat) (p : List Int → Bool) (w : World) : Prop :=
  ∀ (n : Nat) (x : List Int) (u : Value), RdI (w.drewN n) hi u x → Calls Try.prog g (#[u] ++ lb) (w.drewN n) fun e w' => e = .returned (.bool (p x)) ∧ ∃ m, w' = (w.drewN n).drewN m
set_option maxHeartbeats 800000 in
theorem indexII_any (xss : List (List Int)) (v : Value) (hi : Nat) (w : World) (g : Nat) (lb : Array Value) (p : List Int → Bool) (h : RdII w hi v xss) (hp : PredI g lb hi p w)
    (eg : ∀ args w, (callFunc g args).run Try.prog w = .ok (.enter g args) w) :
    Calls Try.prog 206 #[v, .func (.func g) #[] lb] w fun e w' => e = .returned (.int .i64 (ixI (xss.findIdx? p))) ∧ ∃ n, w' = w.drewN n := by
  obtain ⟨A, c, rfl, hm⟩ := h.form
  have H := Lib.hid h
  have HP := Lib.hid hp
  clear h hp
  go_enter Try.func206, Try.ntmps206
  go_wp2
  go_loopw [8] (fun i wr => ∃ k : Nat, k ≤ xss.length ∧ i = .int .i64 k ∧ Hid (∀ j, j < k → ∀ x, xss[j]? = some x → p x = false) ∧ ∃ n, wr = w.drewN n) (fun i _ => xss.length - (intOf i).toNat)
  case atStart => exact ⟨0, Nat.zero_le _, rfl, fun j hj => by omega, 0, rfl⟩
  case round =>
    obtain ⟨k, hk, rfl, hno, n, rfl⟩ := hrel
    by_cases hlt : k < xss.length
    · obtain ⟨b1, o1, c1, a, xs, hv, _, hx, hcell1, hra⟩ := H.out.at_ hlt
      cases hv
      obtain ⟨A2, c2, rfl, hc2, hm2⟩ := Rd.form hra
      have hcall := HP.out n xs _ (show RdI (w.drewN n) hi _ _ from hra)
      have HX := Lib.hid hx
      clear hra hx
      cases hq : p xs
      · have HQ := Lib.hid hq
        rw [hq] at hcall
        clear hq
        have HC := Lib.hid hcall
        clear hcall
        go_wp2_with (go_at_fn g; refine HC.out.mono ?_; rintro e w' ⟨rfl, m, rfl⟩)
        go_roundw
        case rel => exact ⟨k + 1, by omega, by go_num, fun j hj x hx => by
          by_cases e : j = k
          · subst e; rw [HX.out] at hx; cases hx; exact HQ.out
          · exact hno.out j (by omega) x hx, n + m, by first | rfl | rw [World.drewN_drewN]⟩
        case measure => (simp [intOf]; try omega)
      · have HQ := Lib.hid hq
        rw [hq] at hcall
        clear hq
        have HC := Lib.hid hcall
        clear hcall
        go_wp2_with (go_at_fn g; refine HC.out.mono ?_; rintro e w' ⟨rfl, m, rfl⟩)
        go_ret
        refine ⟨ret_int ?_, n + m, by first | rfl | rw [World.drewN_drewN]⟩
        rw [findIdx_take (fun j hj x hx => hno.out j hj x hx) HX.out HQ.out]
        rfl
    · obtain rfl : k = xss.length := by omega
      go_wp2_with fail
      go_ret
      refine ⟨ret_int ?_, n, rfl⟩
      rw [findIdx_none (fun j x hx => hno.out j (List.getElem?_eq_some_iff.1 hx).1 x hx)]
      rfl
theorem ReadWords1_any (xs ys : List Int) (u s : Value) (B hi hj : Nat) (w : World) (h : RdI w hi u xs) (g : RdI w hj s ys) (hc : w.cell? ⟨B, 0, Option.none⟩ = some s) :
    Calls Try.prog 207 #[u, .pointer (some ⟨B, 0, Option.none⟩)] w fun e w' => e = .returned (.bool (begB xs ys)) ∧ ∃ n, w' = w.drewN n := by
  obtain ⟨A, c, rfl, hc1, hm⟩ := Rd.form h
  obtain ⟨A', c', rfl, hc2, hm'⟩ := Rd.form g
  have H := Lib.hid h
  have G := Lib.hid g
  clear h g
  go_enter Try.func207, Try.ntmps207
  go_wp2_with fail
  refine (begins_any xs ys _ _ hi hj _ H.out G.out).mono ?_
  rintro e w' ⟨rfl, n, rfl⟩
  go_wp2_with fail
  go_ret
  exact ⟨rfl, n, rfl⟩
theorem own_down {w : World} {lo : Nat} {v : Value} {xs : List Int} (h : w.ownsRow (lo + 1) 3 1 v xs.length (ints xs)) : OwI w lo w.heap.size v xs := by
  refine ⟨⟨h.1, ?_⟩, fun k hk => (h.lt k hk).2⟩
  rcases h.2 with hn | ⟨g, cap, cur, rfl, hl, rest⟩
  · exact .inl hn
  · exact .inr ⟨g, cap, cur, rfl, by omega, rest⟩
set_option maxRecDepth 100000 in
set_option maxHeartbeats 4000000 in
theorem ReadWords_any (code : List (List Int)) (ds : List Int) (v u : Value) (hi hj : Nat) (w : World) (h : RdII w hi v code) (g : RdI w hj u ds) (hh : hi ≤ w.heap.size) (hg : hj ≤ w.heap.size) :
    Calls Try.prog 115 #[v, u] w (RetOwT (readRes code ds).1 (readRes code ds).2 w) := by
  obtain ⟨A, c, rfl, hm⟩ := h.form
  obtain ⟨A', c', rfl, hc', hm'⟩ := Rd.form g
  have hba : Below w.heap.size w (w.alloc (.cells #[.slice A' ds.length c'] 29)) := (Below.refl _ _).alloc (Nat.le_refl _) _
  have HBA := Lib.hid hba
  have H := Lib.hid (h.below hba hh)
  have G := Lib.hid (RdI.below g hba hg)
  have HBL := Lib.hid (Blk.new w 29 #[.slice A' ds.length c'])
  have hcell0 := HBL.out.cell 0
  simp only [List.getElem?_cons_zero] at hcell0
  have HG0 := Lib.hid g
  have HC0 := Lib.hid h
  clear h g hba
  have cC := isCode_any code _ hi (w.alloc (.cells #[.slice A' ds.length c'] 29)) H.out
  cases hcb : codeB code
  · rw [hcb] at cC
    have CC := Lib.hid cC
    have HX : Hid ((codeB code && digB ds) = false) := by show (_ && _) = false; rw [hcb]; rfl
    clear cC hcb
    rw [readRes_bad HX.out]
    go_enter Try.func115, Try.ntmps115
    go_wp2_with (go_at_call 204; refine CC.out.mono ?_; rintro e w1 ⟨rfl, n1, rfl⟩)
    go_ret2
    exact retOwT _ (GrowI.nil (HBA.out.trans (bel_drewN _ _ _)))
  · rw [hcb] at cC
    have CC := Lib.hid cC
    have HCB := Lib.hid hcb
    clear cC
    by_cases h180 : ds.length ≤ 180
    · have H180 := Lib.hid h180
      have h180i : ¬ (180 : Int) < (ds.length : Int) := by omega
      have cA := fun n => allWithin_any ds 0 59 _ hj ((w.alloc (.cells #[.slice A' ds.length c'] 29)).drewN n) (show RdI ((w.alloc (.cells #[.slice A' ds.length c'] 29)).drewN n) hj _ _ from G.out)
      cases hal : allB ds 0 59
      · rw [hal] at cA
        have CA := Lib.hid cA
        have HX : Hid ((codeB code && digB ds) = false) := by show (_ && _) = false; unfold digB; rw [hal, Bool.and_false, Bool.and_false]
        clear cA hal hcb
        rw [readRes_bad HX.out]
        go_enter Try.func115, Try.ntmps115
        go_wp2_with fail
        refine CC.out.mono ?_
        rintro e w1 ⟨rfl, n1, rfl⟩
        go_wp2_with (go_at_call 181; refine (CA.out _).mono ?_; rintro e w' ⟨rfl, rfl⟩)
        go_ret2
        exact retOwT _ (GrowI.nil (HBA.out.trans (bel_drewN _ _ _)))
      · rw [hal] at cA
        have CA := Lib.hid cA
        have HX : Hid ((codeB code && digB ds) = true) := by show (_ && _) = true; unfold digB; rw [hcb, hal, decide_eq_true h180]; rfl
        clear cA hal hcb
        go_enter Try.func115, Try.ntmps115
        go_wp2_with fail
        refine CC.out.mono ?_
        rintro e w1 ⟨rfl, n1, rfl⟩
        go_wp2_with (go_at_call 181; refine (CA.out _).mono ?_; rintro e w' ⟨rfl, rfl⟩)
        clear hcell0
        go_loopw [6] (fun q wr => ∃ (rest L : List Int) (D : Option Addr) (n cc : Nat), Hid (Blk wr w.heap.size 29 [.slice D n cc]) ∧ Hid (n = rest.length) ∧ n ≤ cc ∧ n + L.length ≤ 180 ∧ Hid (RdI w hj (.slice D n cc) rest) ∧ Hid (ReadTo code ds L rest) ∧ Hid (wr.ownsRow (w.heap.size + 1) 3 1 q L.length (ints L)) ∧ Hid (Below w.heap.size w wr)) (fun _ wr => lenV ((wr.cell? ⟨w.heap.size, 0, Option.none⟩).getD undef))
        case atStart => exact ⟨ds, [], A', ds.length, c', HBL.out, rfl, hc', by simpa using h180, HG0.out, ReadTo.start _ _, World.ownsRow_nil _ _ _ _, HBA.out.trans (bel_drewN _ _ _)⟩
        case round =>
          obtain ⟨rest, L, D, n, cc, hblk, hn, hncc, hlen, hrd, hto, hown, hbr⟩ := hrel
          have hcl := hblk.out.cell 0
          simp only [List.getElem?_cons_zero] at hcl
          have hszr : w.heap.size + 1 ≤ wr.heap.size := by have := hblk.out.lt; omega
          rcases Nat.eq_zero_or_pos n with hn0 | hpos
          · have hR : Hid (rest = []) := List.eq_nil_of_length_eq_zero (by rw [← hn.out]; exact hn0)
            have hi0 : ¬ (0 : Int) < (n : Int) := by omega
            have hn1 : ¬ 0 < n := by omega
            have HN0 := Lib.hid hn0
            clear hn0
            go_wp2_with fail
            go_ret2
            have := hto.out
            rw [hR.out] at this
            rw [this.done HX.out]
            exact ⟨_, rfl, own_down hown.out, hbr.out⟩
          · have hpi : (0 : Int) < (n : Int) := by omega
            have HRP : Hid (0 < rest.length) := by show 0 < _; rw [← hn.out]; exact hpos
            have hncl : cc ≤ 9223372036854775807 := by
              have := hrd.out; obtain ⟨_, _, _, hv, _, h2, _⟩ := this; cases hv; unfold maxLen at h2; omega
            obtain ⟨b0, o0, rfl⟩ : ∃ b0 o0, D = some ⟨b0, o0, Option.none⟩ := by
              have := hrd.out; obtain ⟨_, _, _, hv, _, _, h3⟩ := this; cases hv
              obtain ⟨b, o, e, _⟩ := h3 HRP.out; exact ⟨b, o, e⟩
            have hpred : PredI 207 #[.pointer (some ⟨w.heap.size, 0, Option.none⟩)] hi (fun x => begB x rest) wr := fun q x u hu =>
              ReadWords1_any x rest u (.slice (some ⟨b0, o0, Option.none⟩) n cc) w.heap.size hi hj _ hu (show RdI (wr.drewN q) hj _ _ from (RdI.below hrd.out hbr.out hg : RdI wr hj _ _)) hcl
            have HIC := Lib.hid (indexII_any code _ hi wr _ _ _ (HC0.out.below hbr.out hh) hpred (enters_of Try.func207 (by kernel_rfl) rfl))
            clear hpred
            rcases hix : ixC code rest with _ | i
            · have HIX := Lib.hid hix
              go_wp2_with fail
              refine HIC.out.mono ?_
              rintro e w2 ⟨rfl, m2, rfl⟩
              rw [show code.findIdx? (fun x => begB x rest) = Option.none from HIX.out]
              unfold ixI
              go_wp2_with fail
              go_ret2
              rw [hto.out.stuck HX.out HIX.out HRP.out]
              exact retOwT _ (GrowI.nil (hbr.out.trans (bel_drewN _ _ _)))
            · obtain ⟨x, hx, hbx, hil⟩ := ixC_some hix
              have HIX := Lib.hid hix
              have hxl := code_pos HCB.out (List.mem_of_getElem? hx)
              have hxn : x.length ≤ n := by rw [begB_iff] at hbx; have := hbx.length_le; rw [hn.out]; exact this
              have hcl2 := (code_len HCB.out).2
              obtain ⟨b1, o1, c1, a, xs, hv, hb1, hx2, hcell1, hra⟩ := (HC0.out).at_ hil
              cases hv
              rw [hx] at hx2
              cases hx2
              obtain ⟨A2, c2, rfl, hc2, hm2⟩ := Rd.form hra
              have HXX := Lib.hid hx
              have hx1 := hxl.1
              have hLl : L.length < 180 := by omega
              have hcl5 := fun (w5 : World) (hb5 : Below (w.heap.size + 1) wr w5) => ((hb5.mono (show w.heap.size ≤ w.heap.size + 1 by omega)).cell (p := ⟨b1, o1 + i, Option.none⟩) (by show b1 < _; omega)).trans ((hbr.out.cell (p := ⟨b1, o1 + i, Option.none⟩) (by show b1 < _; omega)).trans hcell1)
              have HC5 := Lib.hid hcl5
              have hg5 := fun m => (show GrowI wr (w.heap.size + 1) (wr.drewN m) _ L from ⟨hown.out, bel_drewN _ _ _, hszr⟩)
              have HG5 := Lib.hid hg5
              clear hg5
              clear hix hx hbx hxl hra hcell1 hcl5
              go_wp2_with fail
              refine HIC.out.mono ?_
              rintro e w2 ⟨rfl, m2, rfl⟩
              rw [show code.findIdx? (fun x => begB x rest) = some i from HIX.out]
              unfold ixI
              have hxi : (x.length : Int) ≤ (n : Int) := by omega
              by_cases hck : cc = x.length
              · have HCK := Lib.hid hck
                go_wp2_with (at_builtin; refine GrowI.app rfl (.tmp 29) (.tmp 31) rfl (HG5.out m2) (by omega) rfl rfl ?_; intro v' w5 hG')
                have d0 := (hG'.2.1.cell (p := ⟨w.heap.size, 0, Option.none⟩) (by show w.heap.size < _; omega)).trans hcl
                have d1 := HC5.out w5 hG'.2.1
                have d2 := (hG'.2.1.frozen (p := ⟨w.heap.size, 0, Option.none⟩) (by show w.heap.size < _; omega)).trans (hblk.out.frozen 0)
                have hbl5 := hblk.out.below hG'.2.1 (by omega)
                have HBL5 := Lib.hid hbl5
                have HG6 := Lib.hid hG'
                clear hG' hbl5 hcl
                go_still_tail 7, (by kernel_rfl)
                change wpList _ _ _ _ _ w5.drew
                have e0 : w5.drew.cell? ⟨w.heap.size, 0, Option.none⟩ = some (.slice (some ⟨b0, o0, Option.none⟩) n cc) := d0
                have e2 : w5.drew.frozen? ⟨w.heap.size, 0, Option.none⟩ = false := d2
                clear d0 d1 d2
                go_wp2_with fail
                go_roundw
                case rel =>
                  refine ⟨rest.drop x.length, L ++ [(i : Int)], some ⟨b0, o0, Option.none⟩, n - x.length, 0, (Blk.set_ (show Blk w5.drew w.heap.size 29 _ from HBL5.out) 0 _), by show n - x.length = _; rw [List.length_drop, ← hn.out], by have := HCK.out; omega, by rw [List.length_append]; simp; omega, by have h1 := (RdI.dropAll hrd.out hn.out hncc hxn).2 (by have := HCK.out; omega); rwa [show cc - x.length = 0 by have := HCK.out; omega] at h1, hto.out.next HCB.out HIX.out HXX.out HRP.out, ?_, ?_⟩
                  · exact ownsRow_setCell_below (show w5.drew.ownsRow _ _ _ _ _ _ from HG6.out.1) (by show w.heap.size < _; omega) _
                  · exact ((hbr.out.trans (HG6.out.2.1.mono (by omega))).drew).setCell (Nat.le_refl _) _
                case measure =>
                  have h1 := (Blk.set_ HBL5.out 0 (.slice (some ⟨b0, o0, Option.none⟩) (n - x.length) (0))).cell 0
                  have h2 := hblk.out.cell 0
                  simp only [List.set_cons_zero, List.getElem?_cons_zero] at h1 h2
                  have h3 : ((w5.setCell ⟨w.heap.size, 0, Option.none⟩ _).drew).cell? ⟨w.heap.size, 0, Option.none⟩ = _ := h1
                  rw [h3, h2]
                  show n - x.length < n
                  omega
              · skip
                go_wp2_with (at_builtin; refine GrowI.app rfl (.tmp 29) (.tmp 31) rfl (HG5.out m2) (by omega) rfl rfl ?_; intro v' w5 hG')
                have d0 := (hG'.2.1.cell (p := ⟨w.heap.size, 0, Option.none⟩) (by show w.heap.size < _; omega)).trans hcl
                have d1 := HC5.out w5 hG'.2.1
                have d2 := (hG'.2.1.frozen (p := ⟨w.heap.size, 0, Option.none⟩) (by show w.heap.size < _; omega)).trans (hblk.out.frozen 0)
                have hbl5 := hblk.out.below hG'.2.1 (by omega)
                have HBL5 := Lib.hid hbl5
                have HG6 := Lib.hid hG'
                clear hG' hbl5 hcl
                go_still_tail 7, (by kernel_rfl)
                change wpList _ _ _ _ _ w5.drew
                have e0 : w5.drew.cell? ⟨w.heap.size, 0, Option.none⟩ = some (.slice (some ⟨b0, o0, Option.none⟩) n cc) := d0
                have e2 : w5.drew.frozen? ⟨w.heap.size, 0, Option.none⟩ = false := d2
                clear d0 d1 d2
                go_wp2_with fail
                go_roundw
                case rel =>
                  refine ⟨rest.drop x.length, L ++ [(i : Int)], some ⟨b0, o0 + x.length, Option.none⟩, n - x.length, cc - x.length, (Blk.set_ (show Blk w5.drew w.heap.size 29 _ from HBL5.out) 0 _), by show n - x.length = _; rw [List.length_drop, ← hn.out], by omega, by rw [List.length_append]; simp; omega, (RdI.dropAll hrd.out hn.out hncc hxn).1, hto.out.next HCB.out HIX.out HXX.out HRP.out, ?_, ?_⟩
                  · exact ownsRow_setCell_below (show w5.drew.ownsRow _ _ _ _ _ _ from HG6.out.1) (by show w.heap.size < _; omega) _
                  · exact ((hbr.out.trans (HG6.out.2.1.mono (by omega))).drew).setCell (Nat.le_refl _) _
                case measure =>
                  have h1 := (Blk.set_ HBL5.out 0 (.slice (some ⟨b0, o0 + x.length, Option.none⟩) (n - x.length) (cc - x.length))).cell 0
                  have h2 := hblk.out.cell 0
                  simp only [List.set_cons_zero, List.getElem?_cons_zero] at h1 h2
                  have h3 : ((w5.setCell ⟨w.heap.size, 0, Option.none⟩ _).drew).cell? ⟨w.heap.size, 0, Option.none⟩ = _ := h1
                  rw [h3, h2]
                  show n - x.length < n
                  omega
    · have h180i : (180 : Int) < (ds.length : Int) := by omega
      have HX : Hid ((codeB code && digB ds) = false) := by show (_ && _) = false; unfold digB; rw [decide_eq_false h180, Bool.false_and, Bool.and_false]
      rw [readRes_bad HX.out]
      go_enter Try.func115, Try.ntmps115
      go_wp2_with (go_at_call 204; refine CC.out.mono ?_; rintro e w1 ⟨rfl, n1, rfl⟩)
      go_ret2
      exact retOwT _ (GrowI.nil (HBA.out.trans (bel_drewN _ _ _)))
end Go.Proofs.Ytabiobjcfopakaa
