/- Contracts: the least cost by the table of the reference, at every level. -/
import Derived.Test.YtabiobjcfopakaaR15
namespace Go.Proofs.Ytabiobjcfopakaa
open Go.RowKit
theorem lowDown_bd {g : Nat → Int} {f : Nat} (h : ∀ t, t ≤ f → 0 ≤ g t) : ∀ k, k ≤ f + 1 → 0 ≤ lowDown g f k ∧ lowDown g f k ≤ 1000000000
  | 0, _ => by simp [lowDown]
  | k + 1, hk => by
    have h1 := lowDown_bd h k (by omega)
    have h2 := h (f - k) (by omega)
    rw [lowDown]
    omega
set_option maxRecDepth 100000 in
set_option maxHeartbeats 16000000 in
theorem cost_any {T Rb k0 ck : Nat} {Z : List Int} {r L : Nat} {lev : List (Nat × Nat × List Nat)} (hL : L ≤ 6) (hr1 : 1 ≤ r) (hr : r ≤ 60) (hn : Z.length ≤ 20) (hZ : allB Z 0 10000 = true) :
    ∀ (q l : Nat), q = L + 1 - l → 1 ≤ l → l ≤ L + 1 → ∀ (d fr : Nat) (w : World) (f : Nat → Nat → Nat → Int), d ≤ Z.length → fr ≤ 1200 → Tbl w T Rb k0 ck Z r L lev f → InvT Z r L f →
      Calls Try.prog 233 #[.pointer (some ⟨T, 0, Option.none⟩), .int .i64 (l : Int), .int .i64 (d : Int), .int .i64 (fr : Int)] w (PostX w T Rb k0 ck Z r L lev (relC r L (Z.drop d) l fr)) := by
  have hall : ∀ x ∈ Z, 0 ≤ x ∧ x ≤ 10000 := by unfold allB at hZ; rw [List.all_eq_true] at hZ; exact fun x hx => inB_iff.1 (hZ x hx)
  have hsum : ∀ l : List Int, (∀ x ∈ l, 0 ≤ x ∧ x ≤ 10000) → 0 ≤ sumW l ∧ sumW l ≤ 10000 * l.length := by
    intro l
    induction l with
    | nil => intro _; simp [sumW]
    | cons x l ih =>
      intro hl
      have h1 := ih (fun y hy => hl y (by simp [hy]))
      have h2 := hl x (by simp)
      simp only [sumW, List.length_cons]
      omega
  have hpos : ∀ d, ∀ x ∈ Z.drop d, 0 ≤ x := fun d x hx => (hall x (List.mem_of_mem_drop hx)).1
  have hsd : ∀ d, 0 ≤ sumW (Z.drop d) ∧ sumW (Z.drop d) ≤ 200000 := by
    intro d
    have := hsum (Z.drop d) (fun x hx => hall x (List.mem_of_mem_drop hx))
    rw [List.length_drop] at this
    omega
  have hbig : ∀ d, (L : Int) * sumW (Z.drop d) < 1000000000 := by
    intro d
    have h1 := hsd d
    have h2 : (L : Int) * sumW (Z.drop d) ≤ 6 * 200000 := Int.mul_le_mul (by omega) h1.2 h1.1 (by omega)
    omega
  have hrb : ∀ d l fr, 1 ≤ l → 0 ≤ relC r L (Z.drop d) l fr ∧ relC r L (Z.drop d) l fr ≤ 1000000000 := fun d l fr h1 => relC_bd (hpos d) h1 (hbig d)
  have HPOS := Lib.hid hpos
  have HSD := Lib.hid hsd
  have HBIG := Lib.hid hbig
  have HRB := Lib.hid hrb
  clear hall hsum hpos hsd hbig hrb hZ
  intro q
  induction q with
  | zero =>
    intro l hq hl1 hlL d fr w f hd hfr ht hi
    obtain rfl : l = L + 1 := by omega
    have q0 := ht.blk.cell 0
    have q2 := ht.blk.cell 2
    simp only [List.getElem?_cons_zero, List.getElem?_cons_succ] at q0 q2
    have HX : Hid (∃ x : LaterX w T Rb k0 ck Z r L lev, w = x.val) := ⟨⟨w, f, ht, hi, FrG.refl _ _⟩, rfl⟩
    by_cases hdn : d = Z.length
    · have HV : Hid (relC r L (Z.drop d) (L + 1) fr = 0) := by show _ = _; rw [hdn, List.drop_length, relC_nil]
      have heq : ((d : Int) == (Z.length : Int)) = true := by rw [beq_iff_eq]; omega
      clear ht hi hdn hq
      go_enter Try.func233, Try.ntmps233
      go_wp2_with (go_at_call 232; refine (l1LeastI_any _ _ _).mono ?_; rintro e w' ⟨rfl, rfl⟩)
      go_ret
      exact ⟨by rw [HV.out]; rfl, HX.out⟩
    · have HV : Hid (relC r L (Z.drop d) (L + 1) fr = 1000000000) := by
        show _ = _
        exact relC_end (by intro e; have := congrArg List.length e; rw [List.length_drop, List.length_nil] at this; omega) (by omega)
      have heq : ((d : Int) == (Z.length : Int)) = false := by rw [beq_eq_false_iff_ne]; omega
      have hgt : decide ((L : Int) < (L : Int) + 1) = true := decide_eq_true (by omega)
      clear ht hi hdn hq
      go_enter Try.func233, Try.ntmps233
      go_wp2_with (go_at_call 232; refine (l1LeastI_any _ _ _).mono ?_; rintro e w' ⟨rfl, rfl⟩)
      go_ret
      exact ⟨by rw [HV.out]; rfl, HX.out⟩
  | succ q ih =>
    intro l hq hl1 hlL d fr w f hd hfr ht hi
    have hl : l ≤ L := by omega
    have q0 := ht.blk.cell 0
    have q2 := ht.blk.cell 2
    have q3 := ht.blk.cell 3
    simp only [List.getElem?_cons_zero, List.getElem?_cons_succ] at q0 q2 q3
    have HX : Hid (∃ x : LaterX w T Rb k0 ck Z r L lev, w = x.val) := ⟨⟨w, f, ht, hi, FrG.refl _ _⟩, rfl⟩
    by_cases hdn : d = Z.length
    · have HV : Hid (relC r L (Z.drop d) l fr = 0) := by show _ = _; rw [hdn, List.drop_length, relC_nil]
      have heq : ((d : Int) == (Z.length : Int)) = true := by rw [beq_iff_eq]; omega
      clear ht hi hdn hq ih
      go_enter Try.func233, Try.ntmps233
      go_wp2_with (go_at_call 232; refine (l1LeastI_any _ _ _).mono ?_; rintro e w' ⟨rfl, rfl⟩)
      go_ret
      exact ⟨by rw [HV.out]; rfl, HX.out⟩
    · have heq : ((d : Int) == (Z.length : Int)) = false := by rw [beq_eq_false_iff_ne]; omega
      have hne : Z.drop d ≠ [] := by intro e; have := congrArg List.length e; rw [List.length_drop, List.length_nil] at this; omega
      obtain ⟨m, hm⟩ : ∃ m, m = min fr (Z.length - d) := ⟨_, rfl⟩
      have hmn : min (fr : Int) ((Z.length : Int) - (d : Int)) = (m : Int) := by omega
      have HRM : Hid (relC r L (Z.drop d) l fr = relC r L (Z.drop d) l m) := by
        show _ = _
        rw [hm, ← relC_min hr1 (HPOS.out d) (f := fr), List.length_drop]
      have hml : m ≤ Z.length - d := by omega
      clear hm
      rw [HRM.out]
      have hng : decide ((L : Int) < (l : Int)) = false := decide_eq_false (by omega)
      have hng2 : decide (L < l) = false := decide_eq_false (by omega)
      by_cases hm0 : m = 0
      · have HV : Hid (relC r L (Z.drop d) l m = 1000000000) := by show _ = _; rw [hm0]; exact relC_zero hr1 hne
        subst hm0
        clear ht hi hdn hq ih hne
        go_enter Try.func233, Try.ntmps233
        go_wp2_with (go_at_call 232; refine (l1LeastI_any _ _ _).mono ?_; rintro e w' ⟨rfl, rfl⟩)
        go_ret
        exact ⟨by rw [HV.out]; rfl, HX.out⟩
      · have hmz : ((m : Int) == 0) = false := by rw [beq_eq_false_iff_ne]; omega
        have hmn20 : m ≤ Z.length := by omega
        have hou := ht.outer l hl
        have hmi := ht.mid l d hl hd
        have hce := ht.cell hl hd hmn20
        obtain ⟨h5, c5, hl5⟩ : ∃ h5 c5, lvV (Z.length + 1) (levAt lev l) = .slice (some ⟨h5, 0, Option.none⟩) (Z.length + 1) c5 ∧ (levAt lev l).1 = h5 := ⟨_, _, rfl, rfl⟩
        rw [hl5.1] at hou
        rw [hl5.2] at hmi
        obtain ⟨g, hg⟩ : ∃ g, g = gAt lev l d := ⟨_, rfl⟩
        rw [← hg] at hmi hce
        have hli : (l : Int) < (L : Int) + 1 := by omega
        have hdi : (d : Int) < (Z.length : Int) + 1 := by omega
        have hmi2 : (m : Int) < (Z.length : Int) + 1 := by omega
        rcases hi l d m hl1 hl hd hml with h0 | h0
        · rw [h0] at hce
          obtain ⟨G, hG⟩ : ∃ G, G = withC r L (Z.drop d) l m := ⟨_, rfl⟩
          have hGp : ∀ t, t ≤ m → 0 ≤ G t := by
            intro t ht2
            rw [hG]
            unfold withC
            have h1 := (HSD.out d).1
            have h2 := (HRB.out (d + t) (l + 1) ((m - t) * r) (by omega)).1
            rw [List.drop_drop]
            omega
          have HLB := Lib.hid (lowDown_bd hGp)
          have HLOW : Hid (lowDown G m (m + 1) = relC r L (Z.drop d) l m) := by
            show _ = _
            rw [hG]
            exact relC_low hr1 (HPOS.out d) (by rw [List.length_drop]; exact hml) hl1 hl (HBIG.out d)
          have HCW : Hid (∀ (t : Nat) (x : LaterX w T Rb k0 ck Z r L lev), t ≤ m → Calls Try.prog 234 #[.pointer (some ⟨T, 0, Option.none⟩), .int .i64 (l : Int), .int .i64 (d : Int), .int .i64 (m : Int), .int .i64 (t : Int)] x.val (PostX x.val T Rb k0 ck Z r L lev (G t))) := by
            intro t x htm
            rw [hG]
            refine with_any x.val x.tbl x.inv hl hL hd hn hr (by omega) htm (by omega) (HSD.out d) (HRB.out (d + t) (l + 1) _ (by omega)) fun y => ?_
            refine ih (l + 1) (by omega) (by omega) (by omega) (d + t) ((m - t) * r) y.val y.f (by omega) ?_ y.tbl y.inv
            exact Nat.le_trans (Nat.mul_le_mul (show m - t ≤ 20 by omega) hr) (by omega)
          obtain ⟨x0, hx0⟩ : ∃ x0 : LaterX w T Rb k0 ck Z r L lev, w = x0.val := HX.out
          have HGE := Lib.hid hg
          have HL5 := Lib.hid hl5
          have hlow0 : lowDown G m 0 = 1000000000 := rfl
          have HX0 := Lib.hid hx0
          clear ht hi hdn hq ih hne h0 hl5 hg hG hGp hlow0 hx0
          go_enter Try.func233, Try.ntmps233
          go_wp2_with (go_at_call 232; refine (l1LeastI_any _ _ _).mono ?_; rintro e w' ⟨rfl, rfl⟩)
          go_loopw [10, 11] (fun bv tv wr => ∃ (k : Nat) (z : Int) (x : LaterX w T Rb k0 ck Z r L lev), k ≤ m + 1 ∧ bv = .int .i64 (lowDown G m k) ∧ tv = .int .i64 z ∧ z + (k : Int) = (m : Int) ∧ wr = x.val) (fun _ t _ => (intOf t + 1).toNat)
          case atStart => exact ⟨0, _, x0, by omega, rfl, rfl, by omega, HX0.out⟩
          case round =>
            obtain ⟨k, z, x, hk, rfl, rfl, hz, rfl⟩ := hrel
            obtain ⟨b, hb⟩ : ∃ b, b = lowDown G m k := ⟨_, rfl⟩
            have hbb := HLB.out k hk
            rw [← hb] at hbb ⊢
            have HB := Lib.hid hb
            clear hb
            by_cases hkm : k ≤ m
            · obtain ⟨t, rfl⟩ : ∃ t : Nat, z = (t : Int) := ⟨z.toNat, by omega⟩
              have htm : t = m - k := by omega
              have CW := Lib.hid (HCW.out t x (by omega))
              have HN : Hid (lowDown G m (k + 1) = min b (G t)) := by show _ = _; rw [lowDown, HB.out, htm]
              clear htm
              go_wp2_with fail
              refine CW.out.mono ?_
              rintro e w5 ⟨rfl, y, rfl⟩
              go_wp2_with (go_at_call 232; refine (l1LeastI_any _ _ _).mono ?_; rintro e w' ⟨rfl, rfl⟩)
              go_roundw
              case rel => exact ⟨k + 1, (t : Int) - 1, ⟨y.val, y.f, y.tbl, y.inv, x.fr.trans y.fr⟩, by omega, by rw [HN.out], rfl, by omega, rfl⟩
              case measure => (simp [intOf]; try omega)
            · obtain rfl : k = m + 1 := by omega
              obtain rfl : z = -1 := by omega
              have hvb : b = relC r L (Z.drop d) l m := by rw [HB.out]; exact HLOW.out
              have hou2 := x.tbl.outer l hl
              have hmi3 := x.tbl.mid l d hl hd
              have hce2 := x.tbl.cell hl hd hmn20
              rw [HL5.out.1] at hou2
              rw [HL5.out.2, ← HGE.out] at hmi3
              rw [← HGE.out] at hce2
              have r3 := x.tbl.blk.cell 3
              simp only [List.getElem?_cons_zero, List.getElem?_cons_succ] at r3
              have hfz := (x.tbl.rows l d hl hd).frozen m
              rw [← HGE.out] at hfz
              have htb : Tbl (x.val.setCell ⟨g, m, Option.none⟩ (.int .i64 (b + 1))) T Rb k0 ck Z r L lev (upd x.f l d m (b + 1)) := by rw [HGE.out]; exact x.tbl.set hl hd (b + 1)
              have hiv := x.inv.set (l := l) (d := d) (i := m) (v := b + 1) (by rw [hvb])
              have hfr : FrG (flatG lev) w (x.val.setCell ⟨g, m, Option.none⟩ (.int .i64 (b + 1))) := x.fr.trans (frG_set x.val (by rw [HGE.out]; exact x.tbl.mem l d hl hd) _)
              have hou4 := htb.outer l hl
              have hmi4 := htb.mid l d hl hd
              have hce4 := htb.cell hl hd hmn20
              rw [HL5.out.1] at hou4
              rw [HL5.out.2, ← HGE.out] at hmi4
              rw [← HGE.out, show upd x.f l d m (b + 1) l d m = b + 1 by simp [upd]] at hce4
              have r34 := htb.blk.cell 3
              simp only [List.getElem?_cons_zero, List.getElem?_cons_succ] at r34
              have HXX : Hid (∃ y : LaterX w T Rb k0 ck Z r L lev, x.val.setCell ⟨g, m, Option.none⟩ (.int .i64 (b + 1)) = y.val) := ⟨⟨_, _, htb, hiv, hfr⟩, rfl⟩
              have HVB := Lib.hid hvb
              clear hz htb hiv hfr hvb
              go_wp2_with fail
              go_ret
              exact ⟨ret_int (by rw [← HVB.out] <;> omega), HXX.out⟩
        · rw [h0] at hce
          have hb := HRB.out d l m hl1
          obtain ⟨v, hv⟩ : ∃ v, v = relC r L (Z.drop d) l m := ⟨_, rfl⟩
          rw [← hv] at hce hb ⊢
          have hvz : ((v + 1) == 0) = false := by rw [beq_eq_false_iff_ne]; omega
          clear ht hi hdn hq ih hne h0 hv hl5 hg
          go_enter Try.func233, Try.ntmps233
          go_wp2_with (go_at_call 232; refine (l1LeastI_any _ _ _).mono ?_; rintro e w' ⟨rfl, rfl⟩)
          go_ret
          exact ⟨ret_int (by omega), HX.out⟩
end Go.Proofs.Ytabiobjcfopakaa
