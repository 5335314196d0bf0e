/- Contracts: the texts of phrases one after the other; of the program and of the reference. -/
import Derived.Test.YtabhnbooboceeaaE2
import Derived.Test.YtabhnbooboceeaaS
namespace Go.Proofs.Ytabhnbooboceeaa
open Go.RowKit
/-- The text of the phrase with a number. -/
def txtOf (ps : List Phr) (y : Int) : List UInt8 := match ps[y.toNat]? with
  | some p => p.1.data.toList
  | Option.none => []
def textL (ps : List Phr) (l : List Int) : List UInt8 := l.flatMap (txtOf ps)
def IxOk (ps : List Phr) (l : List Int) : Prop := ∀ y ∈ l, 0 ≤ y ∧ y < (ps.length : Int)
theorem textL_snoc {ps : List Phr} {l : List Int} {k : Nat} {y : Int} {p : Phr} (h : l[k]? = some y) (hp : ps[y.toNat]? = some p) : textL ps (l.take (k + 1)) = textL ps (l.take k) ++ p.1.data.toList := by
  unfold textL; rw [take_snocN h, List.flatMap_append]; simp [txtOf, hp]
theorem textL_len {ps : List Phr} (hbk : bookB ps = true) (l : List Int) : (textL ps l).length ≤ 12 * l.length := by
  unfold textL
  induction l with
  | nil => simp
  | cons y r ih =>
    rw [List.flatMap_cons, List.length_append, List.length_cons]
    have : (txtOf ps y).length ≤ 12 := by
      unfold txtOf
      cases e : ps[y.toNat]? with
      | none => simp
      | some p => have := phrOk_txt (bookB_phr hbk (List.mem_of_getElem? e)); simpa using this.2.1
    omega
theorem str_app (l : List UInt8) (t : ByteArray) : (⟨l.toArray⟩ : ByteArray) ++ t = ⟨(l ++ t.data.toList).toArray⟩ := by
  rw [ByteArray.ext_iff]; simp
set_option maxHeartbeats 800000 in
theorem spText_any (ps : List Phr) (l : List Int) (v u : Value) (hi hj : Nat) (w : World) (h : RdB w hi v ps) (g : RdI w hj u l) (hh : hi ≤ w.heap.size) (hg : hj ≤ w.heap.size) (hbk : bookB ps = true) (hix : IxOk ps l) (hlen : l.length ≤ 60) :
    Calls Try.prog 67 #[v, u] w fun e w' => e = .returned (.string ⟨(textL ps l).toArray⟩) ∧ Below w.heap.size w w' := by
  obtain ⟨A', c', rfl, hc', hm'⟩ := Rd.form g
  have G := Lib.hid g
  clear g
  obtain ⟨a, rfl, ha⟩ := h
  obtain ⟨A, c, rfl, hc, hm⟩ := ha.form
  have hba : Below w.heap.size w (w.alloc (.cells #[.slice A ps.length c] 30)) := (Below.refl _ _).alloc (Nat.le_refl _) _
  have HB := Lib.hid hba
  have HA := Lib.hid (ha.below hba hh)
  have HG : Hid (RdB (w.alloc (.cells #[.slice A ps.length c] 30)) hi (.agg #[.slice A ps.length c]) ps) := ⟨_, rfl, HA.out⟩
  have hcb0 : (w.alloc (.cells #[.slice A ps.length c] 30)).cell? ⟨w.heap.size, 0, Option.none⟩ = some (.slice A ps.length c) := (Blk.new w 30 #[.slice A ps.length c]).cell 0
  have HCB := Lib.hid hcb0
  have hsz1 : hi ≤ (w.alloc (.cells #[.slice A ps.length c] 30)).heap.size := by simp; omega
  clear ha hba hcb0
  have HBK := Lib.hid hbk
  have HIX := Lib.hid hix
  have G0 := Lib.hid (RdI.below G.out HB.out hg)
  clear hbk hix
  have hcb := HCB.out
  go_enter Try.func67, Try.ntmps67
  go_wp2_with fail
  go_loop [5, 10] (fun q i => ∃ k : Nat, k ≤ l.length ∧ i = .int .i64 k ∧ q = .string ⟨(textL ps (l.take k)).toArray⟩) (fun _ i => l.length - (intOf i).toNat)
  case atStart => exact ⟨0, Nat.zero_le _, rfl, rfl⟩
  case round =>
    obtain ⟨k, hk, rfl, rfl⟩ := hrel
    by_cases hlt : k < l.length
    · obtain ⟨b1, o1, c1, y, hv, hb1, hy, hcell1⟩ := Rd.at_ (G0.out) hlt
      injection hv with hv1 hv2 hv3
      subst hv1
      clear hv2 hv3
      have hyy := HIX.out y (List.mem_of_getElem? hy)
      obtain ⟨b2, o2, c2, a2, t, xs, hv, hb2, hx, hcell2, hcell3, hra, hta⟩ := (HA.out).at_ (show y.toNat < ps.length by omega)
      injection hv with hv1 hv2 hv3
      subst hv1
      clear hv2 hv3
      have hy0 := hyy.1
      have hy1 := hyy.2
      have htl := (phrOk_txt (bookB_phr HBK.out (List.mem_of_getElem? hx))).2.1
      have HY := Lib.hid hy
      have HX := Lib.hid hx
      have htx := textL_len HBK.out (l.take k)
      have htx2 : (textL ps (l.take k)).length ≤ 720 := by rw [List.length_take] at htx; omega
      have htl2 : t.size ≤ 12 := htl
      clear hra hy hx hyy htl htx hcell3
      go_wp2_with fail
      go_round
      case rel => exact ⟨k + 1, by omega, by go_num, by rw [textL_snoc HY.out HX.out, str_app]⟩
      case measure => simp [intOf]; omega
    · obtain rfl : k = l.length := by omega
      go_wp2_with fail
      go_ret
      exact ⟨ret_val (by first | rfl | rw [List.take_of_length_le (Nat.le_refl _)]), HB.out⟩
set_option maxHeartbeats 1600000 in
theorem textOf_any (ps : List Phr) (l : List Int) (v u : Value) (hi hj : Nat) (w : World) (h : RdB w hi v ps) (g : RdI w hj u l) (hh : hi ≤ w.heap.size) (hg : hj ≤ w.heap.size) (hbk : bookB ps = true) (hix : IxOk ps l) (hlen : l.length ≤ 60) :
    Calls Try.prog 69 #[v, u] w fun e w' => e = .returned (.string ⟨(textL ps l).toArray⟩) ∧ Below w.heap.size w w' := by
  obtain ⟨A', c', rfl, hc', hm'⟩ := Rd.form g
  have G := Lib.hid g
  clear g
  obtain ⟨a, rfl, ha⟩ := h
  obtain ⟨A, c, rfl, hc, hm⟩ := ha.form
  have hba : Below w.heap.size w (w.alloc (.cells #[.slice A ps.length c] 30)) := (Below.refl _ _).alloc (Nat.le_refl _) _
  have HB := Lib.hid hba
  have HA := Lib.hid (ha.below hba hh)
  have HG : Hid (RdB (w.alloc (.cells #[.slice A ps.length c] 30)) hi (.agg #[.slice A ps.length c]) ps) := ⟨_, rfl, HA.out⟩
  have hcb0 : (w.alloc (.cells #[.slice A ps.length c] 30)).cell? ⟨w.heap.size, 0, Option.none⟩ = some (.slice A ps.length c) := (Blk.new w 30 #[.slice A ps.length c]).cell 0
  have HCB := Lib.hid hcb0
  have hsz1 : hi ≤ (w.alloc (.cells #[.slice A ps.length c] 30)).heap.size := by simp; omega
  clear ha hba hcb0
  have HBK := Lib.hid hbk
  have HIX := Lib.hid hix
  have G0 := Lib.hid (RdI.below G.out HB.out hg)
  clear hbk hix
  have hfr : Bld (w.heap.size + 1) (w.heap.size + 1) [] ((w.alloc (.cells #[.slice A ps.length c] 30)).alloc (.cells #[.pointer Option.none, .slice Option.none 0 0] 98)) := by
    have := Lib.fresh_isBuilder 98 5 (w.alloc (.cells #[.slice A ps.length c] 30))
    simp only [World.size_alloc] at this
    exact this
  have HFR := Lib.hid hfr
  clear hfr
  have HB1 : Hid (Below (w.heap.size + 1) (w.alloc (.cells #[.slice A ps.length c] 30)) ((w.alloc (.cells #[.slice A ps.length c] 30)).alloc (.cells #[.pointer Option.none, .slice Option.none 0 0] 98))) := (Below.refl _ _).alloc (by simp) _
  go_enter Try.func69, Try.ntmps69
  go_wp2_with fail
  go_loopw [10] (fun i wr => ∃ k : Nat, k ≤ l.length ∧ i = .int .i64 k ∧ Hid (Bld (w.heap.size + 1) (w.heap.size + 1) (textL ps (l.take k)) wr) ∧ Below (w.heap.size + 1) (w.alloc (.cells #[.slice A ps.length c] 30)) wr) (fun i _ => l.length - (intOf i).toNat)
  case atStart => exact ⟨0, Nat.zero_le _, rfl, HFR.out, HB1.out⟩
  case round =>
    obtain ⟨k, hk, rfl, hbld, hbr⟩ := hrel
    have hs : w.heap.size + 1 ≤ wr.heap.size := by have := hbr.size; simpa using this
    have hboxr := (hbr.cell (p := ⟨w.heap.size, 0, Option.none⟩) (by show w.heap.size < _; omega)).trans HCB.out
    by_cases hlt : k < l.length
    · obtain ⟨b1, o1, c1, y, hv, hb1, hy, hcell1⟩ := Rd.at_ (G0.out.below hbr (by omega)) hlt
      injection hv with hv1 hv2 hv3
      subst hv1
      clear hv2 hv3
      have hyy := HIX.out y (List.mem_of_getElem? hy)
      obtain ⟨b2, o2, c2, a2, t, xs, hv, hb2, hx, hcell2, hcell3, hra, hta⟩ := (HA.out.below hbr (by omega)).at_ (show y.toNat < ps.length by omega)
      injection hv with hv1 hv2 hv3
      subst hv1
      clear hv2 hv3
      have hy0 := hyy.1
      have hy1 := hyy.2
      have htl := (phrOk_txt (bookB_phr HBK.out (List.mem_of_getElem? hx))).2.1
      have HY := Lib.hid hy
      have HX := Lib.hid hx
      have htx := textL_len HBK.out (l.take k)
      have htx2 : (textL ps (l.take k)).length ≤ 720 := by rw [List.length_take] at htx; omega
      have htl2 : t.size ≤ 12 := htl
      clear hra hy hx hyy htl htx hcell3
      have HBR := Lib.hid hbr
      clear hbr
      go_wp2_with fail
      refine (writeString_any (w.heap.size + 1) (w.heap.size + 1) (textL ps (l.take k)) t _ hbld.out (by omega) (by omega)).mono ?_
      rintro e w2 ⟨rfl, hb2, hbe⟩
      have HBL := Lib.hid hb2
      have HBE := Lib.hid (HBR.out.trans hbe)
      clear hb2 hbe
      go_wp2_with fail
      go_roundw
      case rel => exact ⟨k + 1, by omega, by go_num, by rw [textL_snoc HY.out HX.out]; exact HBL.out, HBE.out⟩
      case measure => simp [intOf]; omega
    · obtain rfl : k = l.length := by omega
      have HBR := Lib.hid hbr
      clear hbr
      go_wp2_with fail
      refine (Try.Builder_String_any (w.heap.size + 1) (w.heap.size + 1) (textL ps (l.take l.length)) _ hbld.out (by omega)).mono ?_
      rintro e w2 ⟨rfl, hb2⟩
      have HB2 := Lib.hid hb2
      clear hb2
      go_wp2_with fail
      go_ret
      exact ⟨ret_val (by first | rfl | rw [List.take_of_length_le (Nat.le_refl _)]), HB.out.trans ((HBR.out.mono (by omega)).trans (HB2.out.mono (by omega)))⟩
def ixB (ps : List Phr) (l : List Int) : Bool := decide (l.length ≤ 40) && allB l 0 ((ps.length : Int) - 1)
theorem ixB_ok {ps : List Phr} {l : List Int} (h : ixB ps l = true) : IxOk ps l ∧ l.length ≤ 40 := by
  unfold ixB allB at h
  rw [Bool.and_eq_true, decide_eq_true_eq, List.all_eq_true] at h
  exact ⟨fun y hy => by have := inB_iff.1 (h.2 y hy); omega, h.1⟩
def txtsV (ps : List Phr) (l : List Int) : Value := if bookB ps && ixB ps l then .tuple #[.string ⟨(textL ps l).toArray⟩, .bool true] else .tuple #[.string ⟨#[]⟩, .bool false]
theorem txtsV_form (ps : List Phr) (l : List Int) : ∃ p q, txtsV ps l = .tuple #[.string p, .bool q] := by unfold txtsV; split <;> exact ⟨_, _, rfl⟩
end Go.Proofs.Ytabhnbooboceeaa
