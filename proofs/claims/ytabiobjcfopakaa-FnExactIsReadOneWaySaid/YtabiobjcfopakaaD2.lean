/- Comparisons of phrases and books, by the helpers of the laws. -/
import Derived.Test.YtabiobjcfopakaaD1
import Derived.StillTailTactics
namespace Go.Proofs.Ytabiobjcfopakaa
open Go.RowKit
theorem eqPhrase_sameB (p : Phr) (v u : Value) (hi hj : Nat) (w : World) (h : RdP w hi v p) (g : RdP w hj u p) (hh : hi ≤ w.heap.size := by omega) (hg : hj ≤ w.heap.size := by omega) :
    Calls Try.prog 70 #[v, u] w fun e w' => e = .returned (.bool true) ∧ Below w.heap.size w w' := by
  obtain ⟨a, rfl, ha, hta⟩ := h
  obtain ⟨b, rfl, hb, htb⟩ := g
  have hba : Below w.heap.size w ((w.alloc (.cells #[.string p.1, a] 60)).alloc (.cells #[.string p.1, b] 60)) := ((Below.refl _ _).alloc (Nat.le_refl _) _).alloc (by simp) _
  have HA := Lib.hid (ha.below hba hh)
  have HB := Lib.hid (hb.below hba hg)
  clear ha hb
  go_enter Try.func70, Try.ntmps70
  go_wp2_with fail
  refine (eqIntS_sameB p.2 a b hi hj _ HA.out HB.out).mono ?_
  rintro e w4 ⟨rfl, hb4⟩
  have hbz := hba.trans (hb4.mono (by simp; omega))
  clear hba hb4
  go_wp2_with fail
  go_ret
  exact ⟨rfl, hbz⟩
set_option maxRecDepth 100000 in
set_option maxHeartbeats 400000 in
theorem eqPhraseS_sameB (ps : List Phr) (v u : Value) (hi hj : Nat) (w : World) (h : RdPS w hi v ps) (g : RdPS w hj u ps) (hh : hi ≤ w.heap.size := by omega) (hg : hj ≤ w.heap.size := by omega) :
    Calls Try.prog 139 #[v, u] w fun e w' => e = .returned (.bool true) ∧ Below w.heap.size w w' := by
  obtain ⟨A, c, rfl, hc, hm⟩ := h.form
  obtain ⟨A', c', rfl, hc', hm'⟩ := g.form
  have H := Lib.hid h
  have G := Lib.hid g
  clear h g
  go_enter Try.func139, Try.ntmps139
  go_wp2
  go_loopw [5] (fun i wr => ∃ k : Nat, k ≤ ps.length ∧ i = .int .i64 k ∧ Below w.heap.size w wr) (fun i _ => ps.length - (intOf i).toNat)
  case atStart => exact ⟨0, Nat.zero_le _, rfl, Below.refl _ _⟩
  case round =>
    obtain ⟨k, hk, rfl, hbr⟩ := hrel
    by_cases hlt : k < ps.length
    · obtain ⟨b1, o1, c1, a, t, xs, hv, _, hx, hcell1, hcell2, hra, hta⟩ := (H.out.below hbr hh).at_ hlt
      cases hv
      obtain ⟨b2, o2, c2, b, t', xs', hv, _, hx', hcell3, hcell4, hrb, htb⟩ := (G.out.below hbr hg).at_ hlt
      cases hv
      rw [hx] at hx'
      cases hx'
      have HA : Hid (RdP wr hi (.agg #[.string t, a]) (t, xs)) := ⟨a, rfl, hra, hta⟩
      have HB : Hid (RdP wr hj (.agg #[.string t, b]) (t, xs)) := ⟨b, rfl, hrb, htb⟩
      have hs := hbr.size
      clear hx hra hrb
      go_wp2
      go_still_tail 8, (by kernel_rfl)
      change wpList _ _ _ _ _ wr.drew
      have hbd : Below w.heap.size w wr.drew := hbr.drew
      have HA' : Hid (RdP wr.drew hi (.agg #[.string t, a]) (t, xs)) := HA.out
      have HB' : Hid (RdP wr.drew hj (.agg #[.string t, b]) (t, xs)) := HB.out
      have hs' : w.heap.size ≤ wr.drew.heap.size := hs
      revert hbd HA' HB' hs'
      clear hcell1 hcell2 hcell3 hcell4 HA HB
      generalize wr.drew = w2
      intro hbd HA' HB' hs'
      go_wp2_with fail
      refine (eqPhrase_sameB (t, xs) _ _ hi hj _ HA'.out HB'.out (by omega) (by omega)).mono ?_
      rintro e w4 ⟨rfl, hb4⟩
      have hbz := hbd.trans (hb4.mono hs')
      clear hbd hb4
      go_wp2_with fail
      go_roundw
      case rel => exact ⟨k + 1, by omega, by go_num, hbz⟩
      case measure => simp [intOf]; omega
    · go_wp2
      go_ret
      exact ⟨rfl, hbr⟩
theorem eqBook_sameB (ps : List Phr) (v u : Value) (hi hj : Nat) (w : World) (h : RdB w hi v ps) (g : RdB w hj u ps) (hh : hi ≤ w.heap.size := by omega) (hg : hj ≤ w.heap.size := by omega) :
    Calls Try.prog 40 #[v, u] w fun e w' => e = .returned (.bool true) ∧ Below w.heap.size w w' := by
  obtain ⟨a, rfl, ha⟩ := h
  obtain ⟨b, rfl, hb⟩ := g
  have hba : Below w.heap.size w ((w.alloc (.cells #[a] 48)).alloc (.cells #[b] 48)) := ((Below.refl _ _).alloc (Nat.le_refl _) _).alloc (by simp) _
  have HA := Lib.hid (ha.below hba hh)
  have HB := Lib.hid (hb.below hba hg)
  clear ha hb
  go_enter Try.func40, Try.ntmps40
  go_wp2_with fail
  refine (eqPhraseS_sameB ps a b hi hj _ HA.out HB.out (by simp; omega) (by simp; omega)).mono ?_
  rintro e w4 ⟨rfl, hb4⟩
  have hbz := hba.trans (hb4.mono (by simp; omega))
  clear hba hb4
  go_wp2_with fail
  go_ret
  exact ⟨rfl, hbz⟩
end Go.Proofs.Ytabiobjcfopakaa
