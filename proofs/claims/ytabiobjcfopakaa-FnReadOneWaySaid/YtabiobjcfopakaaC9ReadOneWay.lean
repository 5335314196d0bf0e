/- Texts of one claim, joined: R9, R10, R11, R12, R13, R14, R15. -/
import Derived.BigQuiet
import Derived.Lib.SliceRun
import Derived.Deep.QuietTactic
import Derived.Deep.RegionHeld3
import Derived.Deep.AppendLies
import Derived.Deep.RegionLaw
import Derived.BigRegion
import Derived.Test.YtabiobjcfopakaaC8ReadOneWay
/- Contracts: the search goes on from a list of lengths. -/
namespace Go.Proofs.Ytabiobjcfopakaa
open Go.RowKit
theorem pick_next {bs : Cand} {acc : List Nat} {cost w cost2 : Int} {r L m fr room k room2 : Nat} {ws : List Int} (h : r ^ (L - m) ≤ room) (hm : m = fr + k) (hc : cost2 = cost + w * (m : Int)) (hr : room2 = room - r ^ (L - m)) :
    pickC (pickC bs (addC acc cost (bstTo r L w ws fr room k))) (addC (acc ++ [m]) cost2 (bst r L ws m room2)) = pickC bs (addC acc cost (bstTo r L w ws fr room (k + 1))) := by
  subst hm
  rw [bstTo_yes h, addC_pick, addC_add, pickC_assoc, ← hc, ← hr]
theorem pick_skip {bs : Cand} {acc : List Nat} {cost w : Int} {r L m fr room k : Nat} {ws : List Int} (h : ¬ r ^ (L - m) ≤ room) (hm : m = fr + k) :
    pickC bs (addC acc cost (bstTo r L w ws fr room k)) = pickC bs (addC acc cost (bstTo r L w ws fr room (k + 1))) := by
  subst hm
  rw [bstTo_no h]
theorem addC_nilS {acc : List Nat} {cost : Int} : addC acc cost (some ([], 0)) = some (acc, cost) := by simp [addC]
def PostS (w0 : World) (B S bw cw : Nat) (W : List Int) (r L : Nat) (acc : List Nat) (bs : Cand) (e : Ending) (w' : World) : Prop := (∃ z, e = .returned z) ∧ ∃ A ca bv least, Srch w0 w' B S bw cw W r L A ca bv least acc bs
theorem drop_cons {W ws : List Int} {x : Int} {k : Nat} (h : W.drop k = x :: ws) : W[k]? = some x ∧ W.drop (k + 1) = ws := by
  have h1 : (W.drop k)[0]? = some x := by rw [h]; rfl
  rw [List.getElem?_drop, Nat.add_zero] at h1
  refine ⟨h1, ?_⟩
  rw [← List.drop_drop, h]; rfl
set_option maxRecDepth 100000 in
set_option maxHeartbeats 16000000 in
theorem goOn_any {B S bw cw r L : Nat} {W : List Int} {w0 : World} (hr : r ≤ 60) (hL1 : 1 ≤ L) (hL : L ≤ 6) (hW : allB W 0 10000 = true) (hn1 : 1 ≤ W.length) (hn : W.length ≤ 20) :
    ∀ (ws : List Int) (acc : List Nat) (fr room : Nat) (cost : Int) (w : World) (A : Option Addr) (ca : Nat) (bv : Value) (least : Int) (bs : Cand), acc.length + ws.length = W.length → W.drop acc.length = ws → 1 ≤ fr → fr ≤ L → room ≤ 46656000000 → 0 ≤ cost → cost ≤ 60000 * acc.length →
      Srch w0 w B S bw cw W r L A ca bv least acc bs →
      Calls Try.prog 236 #[.pointer (some ⟨S, 0, Option.none⟩), .int .i64 (fr : Int), .int .i64 (room : Int), .int .i64 cost] w (PostS w0 B S bw cw W r L acc (pickC bs (addC acc cost (bst r L ws fr room)))) := by
  intro ws
  induction ws with
  | nil =>
    intro acc fr room cost w A ca bv least bs hlen _ _ _ _ hc0 hc1 hS
    have hal : acc.length = W.length := by simpa using hlen
    obtain ⟨g, rfl, hca, hcm, hcell⟩ := hS.form (by omega)
    have q0 := hS.blk.cell 0
    have q3 := hS.blk.cell 3
    have q4 := hS.blk.cell 4
    have q5 := hS.blk.cell 5
    have hfz := fun i => hS.blk.frozen i
    simp only [List.getElem?_cons_zero, List.getElem?_cons_succ] at q0 q3 q4 q5
    have cC := (Try.slices_Clone_int g 0 acc.length ca (waysI acc) w (by unfold waysI; simp) (by omega) (fun j hj => by
      unfold waysI at hj ⊢
      rw [List.length_map] at hj
      rw [Nat.zero_add, hcell j acc[j] (List.getElem?_eq_getElem hj), List.getD_eq_getElem?_getD]
      simp [hj]))
    have htk : ((waysI acc).take acc.length).map (Value.int .i64) = ints (waysI acc) := by rw [List.take_of_length_le (by unfold waysI; simp)]
    rw [htk] at cC
    have CC := Lib.hid cC
    have HS := Lib.hid hS
    have HE : Hid (pickC bs (addC acc cost (bst r L [] fr room)) = pickC bs (some (acc, cost))) := by show _ = _; rw [bst, addC_nilS]
    have hall : ((acc.length : Int) == (W.length : Int)) = true := by rw [beq_iff_eq]; omega
    have HAL := Lib.hid hal
    rw [HE.out]
    clear hcell cC htk hlen hal
    have hb := hS.best
    clear hS
    cases bs with
    | none =>
      obtain rfl : bv = .slice Option.none 0 0 := hb
      have heq : ∀ w, (binOp .eql 29 (.slice Option.none 0 0) (.slice Option.none 0 0)).run Try.prog w = .ok (.bool true) w := fun w => Lib.run_eql_slice_nil w _ _ Option.none 0 0 0 0 Try.underlying29
      go_enter Try.func236, Try.ntmps236
      go_wp2_with fail
      refine CC.out.mono ?_
      rintro e w1 ⟨v', rfl, ho, hnz, hb1⟩
      obtain ⟨g2, c2, rfl, hgl, hcl⟩ : ∃ g2 c2, v' = .slice (some ⟨g2, 0, Option.none⟩) acc.length c2 ∧ acc.length ≤ c2 ∧ c2 ≤ maxLen := by
        rcases ho.2 with ⟨e, _⟩ | ⟨g2, cap, cur, e, _, _, h1, h2, _⟩
        · exact absurd e hnz
        · exact ⟨g2, cap, e, h1, h2⟩
      have hK := HS.out.keep (cost := cost) ho hb1
      have hbk1 := HS.out.blk.below hb1 HS.out.blk.lt
      have p4 := hbk1.cell 4
      have p5 := hbk1.cell 5
      have hfz1 := fun i => hbk1.frozen i
      have p5b : ∀ u, (w1.setCell ⟨S, 4, Option.none⟩ u).cell? ⟨S, 5, Option.none⟩ = some (.int .i64 least) := fun u => (hbk1.set_ 4 u).cell 5
      have hfz2 : ∀ u, (w1.setCell ⟨S, 4, Option.none⟩ u).frozen? ⟨S, 5, Option.none⟩ = false := fun u => (hbk1.set_ 4 u).frozen 5
      simp only [List.getElem?_cons_zero, List.getElem?_cons_succ] at p4 p5
      have HK := Lib.hid hK
      clear hK hbk1 ho hb1 hnz
      go_wp2_with fail
      refine bodyPost_end (results_none Try.results236 _ _ _) rfl ?_
      exact ⟨⟨_, rfl⟩, _, _, _, _, HK.out⟩
    | some x =>
      obtain ⟨l, k⟩ := x
      obtain ⟨gb, cb, rfl, hob, rfl, hne⟩ := hb
      clear hob hne
      have heq : ∀ w, (binOp .eql 29 (.slice (some ⟨gb, 0, Option.none⟩) l.length cb) (.slice Option.none 0 0)).run Try.prog w = .ok (.bool false) w := fun w => Lib.run_eql_slice_nil w _ _ (some ⟨gb, 0, Option.none⟩) _ _ 0 0 Try.underlying29
      by_cases hlt : cost < least
      · have hlt2 : decide (cost < least) = true := decide_eq_true hlt
        go_enter Try.func236, Try.ntmps236
        go_wp2_with fail
        refine CC.out.mono ?_
        rintro e w1 ⟨v', rfl, ho, hnz, hb1⟩
        obtain ⟨g2, c2, rfl, hgl, hcl⟩ : ∃ g2 c2, v' = .slice (some ⟨g2, 0, Option.none⟩) acc.length c2 ∧ acc.length ≤ c2 ∧ c2 ≤ maxLen := by
          rcases ho.2 with ⟨e, _⟩ | ⟨g2, cap, cur, e, _, _, h1, h2, _⟩
          · exact absurd e hnz
          · exact ⟨g2, cap, e, h1, h2⟩
        have hK := HS.out.keep (cost := cost) ho hb1
        have hbk1 := HS.out.blk.below hb1 HS.out.blk.lt
        have p4 := hbk1.cell 4
        have p5 := hbk1.cell 5
        have hfz1 := fun i => hbk1.frozen i
        have p5b : ∀ u, (w1.setCell ⟨S, 4, Option.none⟩ u).cell? ⟨S, 5, Option.none⟩ = some (.int .i64 least) := fun u => (hbk1.set_ 4 u).cell 5
        have hfz2 : ∀ u, (w1.setCell ⟨S, 4, Option.none⟩ u).frozen? ⟨S, 5, Option.none⟩ = false := fun u => (hbk1.set_ 4 u).frozen 5
        simp only [List.getElem?_cons_zero, List.getElem?_cons_succ] at p4 p5
        have HK := Lib.hid hK
        clear hK hbk1 ho hb1 hnz
        go_wp2_with fail
        refine bodyPost_end (results_none Try.results236 _ _ _) rfl ?_
        exact ⟨⟨_, rfl⟩, _, _, _, _, by simp only [pickC]; rw [if_pos hlt]; exact HK.out⟩
      · have hlt2 : decide (cost < least) = false := decide_eq_false hlt
        go_enter Try.func236, Try.ntmps236
        go_wp2_with fail
        refine bodyPost_end (results_none Try.results236 _ _ _) rfl ?_
        exact ⟨⟨_, rfl⟩, _, _, _, _, by simp only [pickC]; rw [if_neg (by omega)]; exact HS.out⟩
  | cons x ws ih =>
    intro acc fr room cost w A ca bv least bs hlen hdrop hf1 hfL hroom hc0 hc1 hS
    have hal : acc.length < W.length := by rw [List.length_cons] at hlen; omega
    obtain ⟨hx, hdrop2⟩ := drop_cons hdrop
    have hxb : 0 ≤ x ∧ x ≤ 10000 := by
      unfold allB at hW
      rw [List.all_eq_true] at hW
      exact inB_iff.1 (hW x (List.mem_of_getElem? hx))
    have hall : ((acc.length : Int) == (W.length : Int)) = false := by rw [beq_eq_false_iff_ne]; omega
    have IH := Lib.hid fun m room2 cost2 w1 A1 ca1 bv1 least1 bs1 (h1 : 1 ≤ m) (h2 : m ≤ L) (h3 : room2 ≤ 46656000000) (h4 : 0 ≤ cost2) (h5 : cost2 ≤ 60000 * ((acc ++ [m]).length : Int)) (h6 : Srch w0 w1 B S bw cw W r L A1 ca1 bv1 least1 (acc ++ [m]) bs1) =>
      ih (acc ++ [m]) m room2 cost2 w1 A1 ca1 bv1 least1 bs1 (by rw [List.length_append, List.length_singleton]; rw [List.length_cons] at hlen; omega) (by rw [List.length_append, List.length_singleton]; exact hdrop2) h1 h2 h3 h4 h5 h6
    have HX := Lib.hid hx
    have q0 := hS.blk.cell 0
    have q3 := hS.blk.cell 3
    simp only [List.getElem?_cons_zero, List.getElem?_cons_succ] at q0 q3
    have HS0 := Lib.hid hS
    clear ih hx hdrop hdrop2 hlen hS
    go_enter Try.func236, Try.ntmps236
    go_wp2_with fail
    clear q0 q3
    go_loopw [9] (fun i wr => ∃ (m : Nat) (A : Option Addr) (ca : Nat) (bv : Value) (least : Int), i = .int .i64 (m : Int) ∧ fr ≤ m ∧ m ≤ L + 1 ∧ Hid (Srch w0 wr B S bw cw W r L A ca bv least acc (pickC bs (addC acc cost (bstTo r L x ws fr room (m - fr)))))) (fun i _ => 7 - (intOf i).toNat)
    case atStart => exact ⟨fr, A, ca, bv, least, rfl, Nat.le_refl _, by omega, by rw [Nat.sub_self, bstTo_zero]; show Srch _ _ _ _ _ _ _ _ _ _ _ _ _ _ _; rw [show addC acc cost Option.none = Option.none from rfl, pickC_none]; exact HS0.out⟩
    case round =>
      obtain ⟨m, A, ca, bv, least, rfl, hfm, hmL, hS⟩ := hrel
      have q0 := hS.out.blk.cell 0
      have q1 := hS.out.blk.cell 1
      have q2 := hS.out.blk.cell 2
      have q3 := hS.out.blk.cell 3
      simp only [List.getElem?_cons_zero, List.getElem?_cons_succ] at q0 q1 q2 q3
      by_cases hm : m ≤ L
      · have hmi : (m : Int) ≤ (L : Int) := by omega
        obtain ⟨d, hd⟩ : ∃ d, d = L - m := ⟨_, rfl⟩
        obtain ⟨pw, hpw⟩ : ∃ pw, pw = r ^ d := ⟨_, rfl⟩
        have hsub : (L : Int) - (m : Int) = (d : Int) := by omega
        have CP : Hid (∀ nq, Calls Try.prog 162 #[.int .i64 (r : Int), .int .i64 (d : Int)] (wr.drewN nq) fun e w' => e = .returned (.int .i64 (pw : Int)) ∧ ∃ n, w' = (wr.drewN nq).drewN n) := by
          intro nq
          have := powerOf_any r d (by omega) (by omega) (wr.drewN nq)
          rw [← hpw] at this
          exact this.mono fun _ _ ⟨he, hw⟩ => ⟨he, 0, by rw [← hw]; rfl⟩
        have HPW : Hid (pw = r ^ (L - m)) := by show _ = _; rw [hpw, hd]
        have hd6 : d ≤ 6 := by omega
        clear hd hpw q0 q3
        go_wp2_with fail
        go_quiet ((go_at_call 162; exact Calls.quiet_of (CP.out _)))
        have HS := Lib.hid (hS.out.drewN nq)
        clear q1 q2 CP hS
        generalize wr.drewN nq = wq at HS ⊢
        by_cases hgt : room < pw
        · have hgi : (room : Int) < (pw : Int) := by omega
          have HSK := Lib.hid (pick_skip (bs := bs) (acc := acc) (cost := cost) (w := x) (ws := ws) (L := L) (r := r) (room := room) (fr := fr) (m := m) (k := m - fr) (by rw [← HPW.out]; omega) (by omega))
          go_wp2_with fail
          go_roundw
          case rel => exact ⟨m + 1, A, ca, bv, least, by go_num, by omega, by omega, by show Srch _ _ _ _ _ _ _ _ _ _ _ _ _ _ _; rw [show m + 1 - fr = m - fr + 1 by omega, ← HSK.out]; exact HS.out⟩
          case measure => (simp [intOf]; try omega)
        · have hgi : ¬ (room : Int) < (pw : Int) := by omega
          have q3 := HS.out.blk.cell 3
          simp only [List.getElem?_cons_zero, List.getElem?_cons_succ] at q3
          have hown := HS.out.len
          have hlw : (waysI acc).length = acc.length := by unfold waysI; simp
          have q3a := (Blk.alloc HS.out.blk (.cells #[.int .i64 (m : Int)] 3)).cell 3
          simp only [List.getElem?_cons_zero, List.getElem?_cons_succ] at q3a
          have HOWN : Hid (wq.ownsRow B 3 1 (.slice A acc.length ca) (waysI acc).length (ints (waysI acc))) := by rw [hlw]; exact hown
          have HLW := Lib.hid hlw
          obtain ⟨room2, hr2⟩ : ∃ q, q = room - pw := ⟨_, rfl⟩
          have hsub2 : (room : Int) - (pw : Int) = (room2 : Int) := by omega
          obtain ⟨y, hy⟩ : ∃ y, y = x * (m : Int) := ⟨_, rfl⟩
          have hy0 : 0 ≤ y := by rw [hy]; exact Int.mul_nonneg hxb.1 (by omega)
          have hy1 : y ≤ 60000 := by
            rw [hy]
            have h1 := Int.mul_le_mul_of_nonneg_right hxb.2 (show (0 : Int) ≤ (m : Int) by omega)
            omega
          have hmul : x * (m : Int) = y := hy.symm
          have HNX := Lib.hid (pick_next (bs := bs) (acc := acc) (cost := cost) (w := x) (ws := ws) (L := L) (r := r) (room := room) (fr := fr) (m := m) (k := m - fr) (cost2 := cost + y) (room2 := room2) (by rw [← HPW.out]; omega) (by omega) (by rw [hy]) (by rw [hr2, HPW.out]))
          have HIH := Lib.hid fun w1 A1 ca1 bv1 least1 bs1 => IH.out m room2 (cost + y) w1 A1 ca1 bv1 least1 bs1 (by omega) hm (by omega) (by omega) (by rw [List.length_append, List.length_singleton]; omega)
          clear hown hlw hr2 hy
          go_wp2_with (at_builtin; refine wpList_appI rfl (.tmp 75) (.tmp 77) rfl HOWN.out (by rw [HLW.out]; omega) HS.out.size rfl rfl ?_; intro v5 w5 ho5 hg5 hA5; rw [HLW.out] at ho5; obtain ⟨g5, c5, rfl, hn5, hm5⟩ : ∃ g5 c5, v5 = .slice (some ⟨g5, 0, Option.none⟩) (acc.length + 1) c5 ∧ acc.length + 1 ≤ c5 ∧ c5 ≤ maxLen := by { rcases ho5.2 with ⟨_, e⟩ | ⟨g2, cap, cur, e, _, _, h1, h2, _⟩; exact absurd e (by omega); exact ⟨g2, cap, e, h1, h2⟩ }; have HS5 := Lib.hid (HS.out.push ho5 hg5 hA5); have p3 : w5.cell? ⟨S, 3, Option.none⟩ = some (.slice A acc.length ca) := (hg5.cell q3a (by have := HS.out.sb; intro e; have := (HS.out.len.lt S e.symm).1; omega)); have pf3 : w5.frozen? ⟨S, 3, Option.none⟩ = false := Blk.frozen (show Blk w5 S 160 _ from (hg5.block S (by have := HS.out.blk.lt; simp; omega) (by have := HS.out.sb; intro e; have := (HS.out.len.lt S e.symm).1; omega)).trans (Blk.alloc HS.out.blk _)) 3; have p0 := HS5.out.blk.cell 0; have pw0 := HS5.out.wts acc.length x HX.out; simp only [List.getElem?_cons_zero] at p0; clear ho5 hg5 hA5)
          refine (HIH.out _ _ _ _ _ _ HS5.out).mono ?_
          rintro e w7 ⟨⟨z, rfl⟩, A7, ca7, bv7, least7, hS7⟩
          rw [HNX.out] at hS7
          obtain ⟨g7, rfl, hc7, hm7, _⟩ := hS7.form (by simp)
          have hb7 := hS7.blk
          have hl7 : (acc ++ [m]).length = acc.length + 1 := by simp
          rw [hl7] at hb7 hc7
          have s3 := hb7.cell 3
          have sf3 := hb7.frozen 3
          simp only [List.getElem?_cons_zero, List.getElem?_cons_succ] at s3
          have hi7 : (acc.length : Int) ≤ (ca7 : Int) := by omega
          have hi8 : acc.length ≤ ca7 := by omega
          have HS8 := Lib.hid hS7.pop
          clear hS7 hb7 hl7 p0 p3 pf3 pw0
          go_wp2_with fail
          go_roundw
          case rel => exact ⟨m + 1, _, ca7, bv7, least7, by go_num, by omega, by omega, by show Srch _ _ _ _ _ _ _ _ _ _ _ _ _ _ _; rw [show m + 1 - fr = m - fr + 1 by omega]; exact HS8.out⟩
          case measure => (simp [intOf]; try omega)
      · obtain rfl : m = L + 1 := by omega
        have hno : ¬ ((L : Int) + 1 ≤ (L : Int)) := by omega
        go_wp2_with fail
        refine bodyPost_end (results_none Try.results236 _ _ _) rfl ?_
        exact ⟨⟨_, rfl⟩, A, ca, bv, least, by rw [bst_to, show L + 1 - fr = L + 1 - fr from rfl]; exact hS.out⟩
end Go.Proofs.Ytabiobjcfopakaa
/- Contracts: LeastLengths of the program. -/
namespace Go.Proofs.Ytabiobjcfopakaa
open Go.RowKit
def askB (ws : List Int) (r l : Int) : Bool := (weightsB ws && inB r 2 60) && inB l 1 6
/-- The weights in the order of the search. -/
def sortW (ws : List Int) : List Int := (orderBy (pWei ws) ws.length).map fun i => ws.getD i 0
/-- A list in the order of the search is laid back to the order of the weights: the first k ones. -/
def layK (os : List Nat) (n : Nat) (l : List Nat) (k : Nat) : List Int := (List.range k).foldl (fun acc k => acc.set (os.getD k 0) ((l.getD k 0 : Nat) : Int)) (List.replicate n 0)
def layB (os : List Nat) (n : Nat) (l : List Nat) : List Int := layK os n l l.length
theorem layK_succ {os : List Nat} {n : Nat} {l : List Nat} {k i x : Nat} (hi : os[k]? = some i) (hx : l[k]? = some x) : layK os n l (k + 1) = (layK os n l k).set i ((x : Nat) : Int) := by
  unfold layK
  rw [List.range_succ, List.foldl_append]
  simp [List.getD_eq_getElem?_getD, hi, hx]
theorem layK_len (os : List Nat) (n : Nat) (l : List Nat) : ∀ k, (layK os n l k).length = n
  | 0 => by simp [layK]
  | k + 1 => by
    have := layK_len os n l k
    unfold layK at this ⊢
    rw [List.range_succ, List.foldl_append]
    simpa using this
theorem sortW_all {ws : List Int} {a b : Int} (h : allB ws a b = true) : allB (sortW ws) a b = true := by
  unfold allB
  rw [List.all_eq_true]
  intro x hx
  unfold sortW at hx
  rw [List.mem_map] at hx
  obtain ⟨i, hi, rfl⟩ := hx
  have := allB_at h (orderBy_lt hi)
  exact inB_iff.2 this
def leastC (ws : List Int) (r l : Int) : Cand := if askB ws r l then bst r.toNat l.toNat (sortW ws) 1 (r.toNat ^ l.toNat) else Option.none
def leastL (ws : List Int) (r l : Int) : List Int := match leastC ws r l with
  | Option.none => []
  | some x => layB (orderBy (pWei ws) ws.length) ws.length x.1
def leastB (ws : List Int) (r l : Int) : Bool := (leastC ws r l).isSome
/-- One weight more behind the struct's first field. -/
theorem wts_push {w1 wr w5 : World} {S k c2 g cap : Nat} {A2 : Option Addr} {t : TypeId} {cs : List Value} {Z : List Int} {z : Int} (hbk : Blk wr S t (.slice A2 k c2 :: cs)) (how : wr.ownsRow (S + 1) 3 1 (.slice A2 k c2) k (ints (Z.take k))) (hbl : Below S w1 wr)
    (hown5 : w5.ownsRow (S + 1) 3 1 (.slice (some ⟨g, 0, Option.none⟩) (k + 1) cap) (k + 1) (ints (Z.take k) ++ [Value.int .i64 z])) (hgrow : (wr.alloc (.cells #[.int .i64 z] 3)).drew.grownBy w5 (Value.slice A2 k c2).ownBlock) (hz : Z[k]? = some z) :
    Blk (w5.setCell ⟨S, 0, Option.none⟩ (.slice (some ⟨g, 0, Option.none⟩) (k + 1) cap)) S t (.slice (some ⟨g, 0, Option.none⟩) (k + 1) cap :: cs) ∧
      (w5.setCell ⟨S, 0, Option.none⟩ (.slice (some ⟨g, 0, Option.none⟩) (k + 1) cap)).ownsRow (S + 1) 3 1 (.slice (some ⟨g, 0, Option.none⟩) (k + 1) cap) (k + 1) (ints (Z.take (k + 1))) ∧
      Below S w1 (w5.setCell ⟨S, 0, Option.none⟩ (.slice (some ⟨g, 0, Option.none⟩) (k + 1) cap)) := by
  have hS := hbk.lt
  have hrow : ∀ b, b ≤ S → some b ≠ (Value.slice A2 k c2).ownBlock := fun b hb e => by have := (how.lt b e.symm).1; omega
  have hal : (wr.alloc (.cells #[.int .i64 z] 3)).drew.heap.size = wr.heap.size + 1 := by simp
  have hold : ∀ b, b ≤ S → w5.heap[b]? = wr.heap[b]? := fun b hb => (hgrow.block b (by rw [hal]; omega) (hrow b hb)).trans (Below.heap_alloc wr _ b (by omega))
  refine ⟨?_, ?_, ?_⟩
  · have h1 : Blk w5 S t (.slice A2 k c2 :: cs) := (hold S (Nat.le_refl _)).trans hbk
    exact h1.set_ 0 (.slice (some ⟨g, 0, Option.none⟩) (k + 1) cap)
  · have e : ints (Z.take k) ++ [Value.int .i64 z] = ints (Z.take (k + 1)) := by rw [take_snocI hz]; simp
    rw [e] at hown5
    exact hown5.kept (grown_set (w := w5) (p := ⟨S, 0, Option.none⟩) rfl _) (.inr fun e => by have := (hown5.lt S e).1; omega)
  · have h1 : Below S wr w5 := ⟨hgrow.os, hgrow.tape, hgrow.output, by have := hgrow.size; rw [hal] at this; omega, fun b hb => hold b (by omega)⟩
    exact (hbl.trans h1).setCell (p := ⟨S, 0, Option.none⟩) (Nat.le_refl _) _
theorem cmp_wei {ls : List Int} {s : Value} {B g hi : Nat} {w : World} (h : RdI w hi s ls) (hc : w.cell? ⟨B, 0, Option.none⟩ = some s) (hB : B < g) (hh : hi ≤ g) : CmpI 235 #[.pointer (some ⟨B, 0, Option.none⟩)] g ls.length (cWei ls) w :=
  fun w' ho x y hx hy => least1_any ls s B hi x y w' (RdI.below h (ho.bel (Nat.le_refl g)) hh) hx hy (((ho.bel (Nat.le_refl g)).cell (p := ⟨B, 0, Option.none⟩) hB).trans hc)
set_option maxRecDepth 100000 in
set_option maxHeartbeats 16000000 in
theorem leastLengths_any (ls : List Int) (r l : Int) (v : Value) (hi : Nat) (w : World) (h : RdI w hi v ls) (hh : hi ≤ w.heap.size) : Calls Try.prog 165 #[v, .int .i64 r, .int .i64 l] w (RetOwT (leastL ls r l) (leastB ls r l) w) := by
  obtain ⟨A, c, rfl, hc, hm⟩ := Rd.form h
  have hba : Below w.heap.size w (w.alloc (.cells #[.slice A ls.length c] 29)) := (Below.refl _ _).alloc (Nat.le_refl _) _
  have HBA := Lib.hid hba
  have HBX : Hid (Blk (w.alloc (.cells #[.slice A ls.length c] 29)) w.heap.size 29 [.slice A ls.length c]) := Blk.new _ _ _
  have hcb := HBX.out.cell 0
  simp only [List.getElem?_cons_zero] at hcb
  have H := Lib.hid (RdI.below h hba hh)
  clear h hba
  have hnil : askB ls r l = false → leastL ls r l = [] ∧ leastB ls r l = false := by
    intro h
    have : leastC ls r l = Option.none := by unfold leastC; rw [h]; rfl
    unfold leastL leastB; rw [this]; exact ⟨rfl, rfl⟩
  cases hww : weightsB ls
  · have HF := Lib.hid (hnil (by unfold askB; rw [hww]; rfl))
    clear hnil
    rw [HF.out.1, HF.out.2]
    go_enter Try.func165, Try.ntmps165
    go_wp2_with (first | (go_at_call 189; refine (areWeights_any ls _ hi _ H.out).mono ?_; rintro e w' ⟨rfl, rfl⟩) | (go_at_call 157; refine (isRadix_any _ _).mono ?_; rintro e w' ⟨rfl, rfl⟩) | (go_at_call 125; refine (within_any _ _ _ _).mono ?_; rintro e w' ⟨rfl, rfl⟩))
    go_ret2
    exact retOwT _ (GrowI.nil HBA.out)
  · cases hr : inB r 2 60
    · have HF := Lib.hid (hnil (by unfold askB; rw [hww, hr]; rfl))
      clear hnil
      rw [HF.out.1, HF.out.2]
      go_enter Try.func165, Try.ntmps165
      go_wp2_with (first | (go_at_call 189; refine (areWeights_any ls _ hi _ H.out).mono ?_; rintro e w' ⟨rfl, rfl⟩) | (go_at_call 157; refine (isRadix_any _ _).mono ?_; rintro e w' ⟨rfl, rfl⟩) | (go_at_call 125; refine (within_any _ _ _ _).mono ?_; rintro e w' ⟨rfl, rfl⟩))
      go_ret2
      exact retOwT _ (GrowI.nil HBA.out)
    · cases hl : inB l 1 6
      · have HF := Lib.hid (hnil (by unfold askB; rw [hww, hr, hl]; rfl))
        clear hnil
        rw [HF.out.1, HF.out.2]
        go_enter Try.func165, Try.ntmps165
        go_wp2_with (first | (go_at_call 189; refine (areWeights_any ls _ hi _ H.out).mono ?_; rintro e w' ⟨rfl, rfl⟩) | (go_at_call 157; refine (isRadix_any _ _).mono ?_; rintro e w' ⟨rfl, rfl⟩) | (go_at_call 125; refine (within_any _ _ _ _).mono ?_; rintro e w' ⟨rfl, rfl⟩))
        go_ret2
        exact retOwT _ (GrowI.nil HBA.out)
      · have HASK : Hid (askB ls r l = true) := by show _ = _; unfold askB; rw [hww, hr, hl]; rfl
        clear hnil
        obtain ⟨hr1, hr2⟩ := inB_iff.1 hr
        obtain ⟨r, rfl⟩ := Int.eq_ofNat_of_zero_le (show 0 ≤ r by omega)
        obtain ⟨hl1, hl2⟩ := inB_iff.1 hl
        obtain ⟨l, rfl⟩ := Int.eq_ofNat_of_zero_le (show 0 ≤ l by omega)
        have hls := hww
        unfold weightsB at hls
        rw [Bool.and_eq_true] at hls
        have hn20 := (inB_iff.1 hls.1)
        have HAL := Lib.hid hls.2
        have hmk := make_ints ls.length (by omega)
        clear hls
        go_enter Try.func165, Try.ntmps165
        go_wp2_with (first | (go_at_call 189; refine (areWeights_any ls _ hi _ H.out).mono ?_; rintro e w' ⟨rfl, rfl⟩) | (go_at_call 157; refine (isRadix_any _ _).mono ?_; rintro e w' ⟨rfl, rfl⟩) | (go_at_call 125; refine (within_any _ _ _ _).mono ?_; rintro e w' ⟨rfl, rfl⟩))
        have hcb1 : ∀ wr, Below (w.heap.size + 1) (w.alloc (.cells #[.slice A ls.length c] 29)) wr → wr.cell? ⟨w.heap.size, 0, Option.none⟩ = some (.slice A ls.length c) := fun wr hb => (hb.cell (p := ⟨w.heap.size, 0, Option.none⟩) (Nat.lt_succ_self _)).trans hcb
        have HC1 := Lib.hid hcb1
        clear hcb hcb1
        go_loopw [34] (fun i wr => ∃ k : Nat, k ≤ ls.length ∧ i = .int .i64 (k : Int) ∧ Hid (Blk wr (w.heap.size + 1) 3 (cntI ls.length k)) ∧ Hid (Below (w.heap.size + 1) (w.alloc (.cells #[.slice A ls.length c] 29)) wr)) (fun i _ => ls.length - (intOf i).toNat)
        case atStart =>
          refine ⟨0, Nat.zero_le _, rfl, ?_, ?_⟩
          · have := Blk.new (w.alloc (.cells #[.slice A ls.length c] 29)) 3 (zeros ls.length)
            rw [cntI_zero] at this
            show Blk _ _ _ _
            simpa using this
          · exact (Below.refl _ _).alloc (by simp) _
        case round =>
          obtain ⟨k, hk2, rfl, hbk, hbl⟩ := hrel
          by_cases hlt : k < ls.length
          · have hcell := hbk.out.cell k
            rw [cntI_at hlt] at hcell
            have hfr := hbk.out.frozen k
            have HB2 := Lib.hid (hbk.out.set_ k (.int .i64 (k : Int)))
            go_wp2_with fail
            go_roundw
            case rel => exact ⟨k + 1, by omega, by go_num, by have := HB2.out; rw [cntI_set hlt] at this; exact this, hbl.out.setCell (p := ⟨w.heap.size + 1, k, Option.none⟩) (Nat.le_refl _) _⟩
            case measure => (simp [intOf]; try omega)
          · obtain rfl : k = ls.length := by omega
            have hb0 := hbk.out
            rw [cntI_full] at hb0
            have hrd := RdI.below H.out (hbl.out.mono (show w.heap.size ≤ w.heap.size + 1 by omega)) hh
            have hcx := HC1.out wr hbl.out
            have CS := Lib.hid (sortStable_any ls.length ls.length (w.heap.size + 1) 235 #[.pointer (some ⟨w.heap.size, 0, Option.none⟩)] (cWei ls) wr (by omega) (by omega) (Nat.le_refl _) hb0 (cmp_wei hrd hcx (by omega) (by omega)) (enters_of Try.func235 (by kernel_rfl) rfl))
            clear hb0 hrd hcx
            go_wp2_with fail
            refine CS.out.mono ?_
            rintro e w1 ⟨⟨zz, rfl⟩, hb1, ho1⟩
            rw [pOf_wei] at hb1
            obtain ⟨O, hO⟩ : ∃ O, O = orderBy (pWei ls) ls.length := ⟨_, rfl⟩
            have hOl : O.length = ls.length := by rw [hO, orderBy_len]
            have HOM : Hid (∀ i ∈ O, i < ls.length) := by show ∀ i ∈ O, i < ls.length; rw [hO]; exact fun i hi => orderBy_lt hi
            rw [← hO] at hb1
            have hw1 : Below (w.heap.size + 1) (w.alloc (.cells #[.slice A ls.length c] 29)) w1 := hbl.out.trans (ho1.bel (Nat.le_refl _))
            have hs1 : w.heap.size + 2 ≤ w1.heap.size := by have := hb1.lt; omega
            have HCB := Lib.hid (HC1.out w1 hw1)
            have H1 := Lib.hid (RdI.below H.out (hw1.mono (show w.heap.size ≤ w.heap.size + 1 by omega)) hh)
            have HB1 := Lib.hid hb1
            have HO := Lib.hid hO
            have HOL := Lib.hid hOl
            have HWB : Hid (Below w.heap.size w w1) := HBA.out.trans (hw1.mono (by omega))
            clear hb1 ho1 hw1 hO hOl hbk hbl CS
            go_wp2_with fail
            have HBS : Hid (Blk (w1.alloc (.cells #[.slice Option.none 0 0, .int .i64 (r : Int), .int .i64 (l : Int), .slice Option.none 0 0, .slice Option.none 0 0, .int .i64 0] 160)) w1.heap.size 160 [.slice Option.none 0 0, .int .i64 (r : Int), .int .i64 (l : Int), .slice Option.none 0 0, .slice Option.none 0 0, .int .i64 0]) := Blk.new _ _ _
            have HBD : Hid (Below w1.heap.size w1 (w1.alloc (.cells #[.slice Option.none 0 0, .int .i64 (r : Int), .int .i64 (l : Int), .slice Option.none 0 0, .slice Option.none 0 0, .int .i64 0] 160))) := (Below.refl _ _).alloc (Nat.le_refl _) _
            have hsz0 : (w1.alloc (.cells #[.slice Option.none 0 0, .int .i64 (r : Int), .int .i64 (l : Int), .slice Option.none 0 0, .slice Option.none 0 0, .int .i64 0] 160)).heap.size = w1.heap.size + 1 := by simp
            have HSZ := Lib.hid hsz0
            clear hsz0
            generalize (w1.alloc (.cells #[.slice Option.none 0 0, .int .i64 (r : Int), .int .i64 (l : Int), .slice Option.none 0 0, .slice Option.none 0 0, .int .i64 0] 160)) = w2 at HBS HBD HSZ ⊢
            obtain ⟨Z, hZ⟩ : ∃ Z, Z = sortW ls := ⟨_, rfl⟩
            have hZl : Z.length = ls.length := by rw [hZ]; unfold sortW; rw [List.length_map, orderBy_len]
            have HZ := Lib.hid hZ
            have HZL := Lib.hid hZl
            clear hZ hZl
            go_loopw [50] (fun i wr => ∃ (k : Nat) (A2 : Option Addr) (c2 : Nat), k ≤ ls.length ∧ i = .int .i64 (k : Int) ∧ Hid (Blk wr w1.heap.size 160 [.slice A2 k c2, .int .i64 (r : Int), .int .i64 (l : Int), .slice Option.none 0 0, .slice Option.none 0 0, .int .i64 0]) ∧
              Hid (wr.ownsRow (w1.heap.size + 1) 3 1 (.slice A2 k c2) k (ints (Z.take k))) ∧ Hid (Below w1.heap.size w1 wr)) (fun i _ => ls.length - (intOf i).toNat)
            case atStart => exact ⟨0, Option.none, 0, Nat.zero_le _, rfl, HBS.out, by rw [List.take_zero]; exact World.ownsRow_nil _ _ _ _, HBD.out⟩
            case round =>
              obtain ⟨k, A2, c2, hkl, rfl, hbk, how, hbl⟩ := hrel
              have hG : w1.heap.size < wr.heap.size := hbk.out.lt
              by_cases hlt : k < ls.length
              · obtain ⟨i, hi⟩ : ∃ i, O[k]? = some i := ⟨_, List.getElem?_eq_getElem (by rw [HOL.out]; exact hlt)⟩
                have hil := HOM.out i (List.mem_of_getElem? hi)
                obtain ⟨b1, o1, c1, hv, hb1h, hcl⟩ := RdI.getD (RdI.below H1.out hbl.out (by omega)) hil
                cases hv
                obtain ⟨z, hz⟩ : ∃ z, z = ls.getD i 0 := ⟨_, rfl⟩
                rw [← hz] at hcl
                have hco := (HB1.out.below hbl.out (show w.heap.size + 1 < w1.heap.size by omega)).cell k
                rw [nats_at hi] at hco
                have hcb := (hbl.out.cell (p := ⟨w.heap.size, 0, Option.none⟩) (by show w.heap.size < w1.heap.size; omega)).trans HCB.out
                have q0 := hbk.out.cell 0
                simp only [List.getElem?_cons_zero] at q0
                have hil2 : i < ls.length := hil
                have HIZ := Lib.hid hz
                have HI := Lib.hid hi
                have HZK : Hid (Z[k]? = some z) := by
                  show _ = _
                  rw [HZ.out]
                  unfold sortW
                  rw [← HO.out, List.getElem?_map, hi, hz]; rfl
                clear hz hi
                obtain ⟨ti, hti, htz, hts, htb⟩ := info_parts info_int
                have hrow : ∀ b, b ≤ w1.heap.size → some b ≠ (Value.slice A2 k c2).ownBlock := fun b hb e => by have := (how.out.lt b e.symm).1; omega
                have hfz := hbk.out.frozen 0
                have hba : Below wr.heap.size wr (wr.drew.alloc (.cells #[.int .i64 z] 3)) := (Below.refl _ _).drew.alloc (Nat.le_refl _) _
                have a0 := (hba.cell (p := ⟨w1.heap.size, 0, Option.none⟩) hG).trans q0
                have acb := (hba.cell (p := ⟨w.heap.size, 0, Option.none⟩) (by show w.heap.size < wr.heap.size; omega)).trans hcb
                have acl := (hba.cell (p := ⟨b1, o1 + i, Option.none⟩) (by show b1 < wr.heap.size; omega)).trans hcl
                have a0' : (wr.alloc (.cells #[.int .i64 z] 3)).cell? ⟨w1.heap.size, 0, Option.none⟩ = some (.slice A2 k c2) := a0
                have afz := (hba.frozen (p := ⟨w1.heap.size, 0, Option.none⟩) hG).trans hfz
                go_wp2_with fail
                go_region_law ((refine step_append_lies _ (by rfl) (.tmp 55) (.tmp 60) 29 (by rfl) (w1.heap.size + 1) 3 ti (.int .i64 0) 1 8 Try.underlying29 hti htz hts htb rfl (by decide) (.slice A2 k c2) k (ints (Z.take k)) (by rfl) (World.ownsRow.alloc (w := wr.drew) how.out _) ⟨wr.heap.size, 0, Option.none⟩ 1 1 [.int .i64 z] (by rfl) rfl (one_cell _ _ _) (by intro u hu; simp at hu; subst hu; rfl) (by decide) (by unfold maxLen; omega) (by omega) (by simp; omega) (wr.heap.size + 1) (by simp) ?_; intro g cap w5 hown5 hgrow hat5 hlt5; have p0 := (hgrow.cell_far ⟨w1.heap.size, 0, Option.none⟩ (by simp; omega) (hrow _ (Nat.le_refl _))).trans a0; have pf := (hgrow.frozen_far ⟨w1.heap.size, 0, Option.none⟩ (by simp; omega) (hrow _ (Nat.le_refl _))).trans afz))
                all_goals
                  have HP := Lib.hid (wts_push hbk.out how.out hbl.out hown5 hgrow HZK.out)
                  clear hown5 hgrow hat5 hlt5 p0 pf
                  go_wp2_with fail
                  go_roundw
                  case rel => exact ⟨k + 1, _, cap, by omega, by go_num, HP.out.1, HP.out.2.1, HP.out.2.2⟩
                  case measure => (simp [intOf]; try omega)
              · obtain rfl : k = ls.length := by omega
                obtain ⟨bw, rfl, hbw1, hbw2, hwt⟩ : ∃ bw, A2 = some ⟨bw, 0, Option.none⟩ ∧ w1.heap.size < bw ∧ bw < wr.heap.size ∧ ∀ j x, Z[j]? = some x → wr.cell? ⟨bw, j, Option.none⟩ = some (.int .i64 x) := by
                  rcases how.out.2 with ⟨e, hn⟩ | ⟨g, cap, cur, e, hgl, hgg, _⟩
                  · omega
                  · cases e
                    refine ⟨g, rfl, by omega, (Array.getElem?_eq_some_iff.1 hgg).1, fun j x hx => ?_⟩
                    have h1 := how.out.cells (g := g) rfl j (.int .i64 x) (by rw [List.take_of_length_le (by rw [HZL.out]; exact Nat.le_refl _)]; simp [hx])
                    have hadd : (⟨g, 0, Option.none⟩ : Addr).add j = ⟨g, 0 + j, Option.none⟩ := by unfold Addr.add; split <;> simp_all
                    rw [hadd, Nat.zero_add] at h1
                    exact h1
                have hbk2 := hbk.out
                rw [← HZL.out] at hbk2
                have hS0 : Srch wr wr wr.heap.size w1.heap.size bw c2 Z r l Option.none 0 (.slice Option.none 0 0) 0 [] Option.none :=
                  ⟨hbk2, hG, hbw2, by omega, hwt, World.ownsRow_nil _ _ _ _, rfl, Nat.le_refl _, ButS.refl _ _ _⟩
                obtain ⟨pw, hpw⟩ : ∃ pw, pw = r ^ l := ⟨_, rfl⟩
                have cP := powerOf_any r l (by omega) (by omega) wr
                rw [← hpw] at cP
                have CP := Lib.hid cP
                have hpb : pw ≤ 46656000000 := by rw [hpw]; exact pow_le (by omega) (by omega)
                have hZA : allB Z 0 10000 = true := by rw [HZ.out]; exact sortW_all HAL.out
                have CG : Hid (Calls Try.prog 236 #[.pointer (some ⟨w1.heap.size, 0, Option.none⟩), .int .i64 1, .int .i64 (pw : Int), .int .i64 0] wr (PostS wr wr.heap.size w1.heap.size bw c2 Z r l [] (bst r l Z 1 (r ^ l)))) := by
                  have := goOn_any (by omega) (by omega) (by omega) hZA (by rw [HZL.out]; omega) (by rw [HZL.out]; omega) Z [] 1 pw 0 wr Option.none 0 (.slice Option.none 0 0) 0 Option.none (by simp) (by simp) (Nat.le_refl _) (by omega) hpb (by omega) (by simp) hS0
                  rw [show pickC Option.none (addC [] 0 (bst r l Z 1 pw)) = bst r l Z 1 (r ^ l) by rw [addC_nil, hpw]; rfl] at this
                  exact this
                have HLC : Hid (leastC ls (r : Int) (l : Int) = bst r l Z 1 (r ^ l)) := by
                  show _ = _
                  unfold leastC
                  rw [HASK.out, HZ.out]
                  simp only [if_true, Int.toNat_natCast]
                have HBL := Lib.hid hbl.out
                clear cP hpw hpb hZA hS0 hbk2 hwt hbk how hbl
                go_wp2_with (first | (go_at_call 162; refine (CP.out).mono ?_; rintro e w' ⟨rfl, rfl⟩))
                refine CG.out.mono ?_
                rintro e w9 ⟨⟨zz2, rfl⟩, A9, ca9, bv9, least9, hS9⟩
                have hfr := hS9.fr
                have hq4 := hS9.blk.cell 4
                simp only [List.getElem?_cons_zero, List.getElem?_cons_succ] at hq4
                have HBW : Hid (Below w.heap.size w w9) := (HWB.out.trans (HBL.out.mono (by omega))).trans ⟨hfr.os, hfr.tape, hfr.output, hfr.size, fun k hk => hfr.block k (by omega) (by omega)⟩
                have HCB9 : Hid (w9.cell? ⟨w.heap.size, 0, Option.none⟩ = some (.slice A ls.length c)) := ((hfr.cell (show w.heap.size < wr.heap.size by omega) (by omega)).trans (HBL.out.cell (p := ⟨w.heap.size, 0, Option.none⟩) (by show w.heap.size < w1.heap.size; omega))).trans HCB.out
                have HO9 : Hid (Blk w9 (w.heap.size + 1) 3 (nats O)) := ((hfr.block _ (by omega) (by omega)).trans (HBL.out.block _ (by omega))).trans HB1.out
                have hsz9 := hfr.size
                have hbest := hS9.best
                have HS9L := Lib.hid hS9.blk
                clear hfr
                cases hbb : bst r l Z 1 (r ^ l) with
                | none =>
                  rw [hbb] at hbest
                  obtain rfl : bv9 = .slice Option.none 0 0 := hbest
                  have heq : ∀ w, (binOp .eql 29 (.slice Option.none 0 0) (.slice Option.none 0 0)).run Try.prog w = .ok (.bool true) w := fun w => Lib.run_eql_slice_nil w _ _ Option.none 0 0 0 0 Try.underlying29
                  have HN : Hid (leastL ls (r : Int) (l : Int) = [] ∧ leastB ls (r : Int) (l : Int) = false) := by
                    unfold leastL leastB; rw [HLC.out, hbb]; exact ⟨rfl, rfl⟩
                  clear hS9 hbb
                  go_wp2_with fail
                  go_ret2
                  rw [HN.out.1, HN.out.2]
                  exact retOwT _ (GrowI.nil HBW.out)
                | some x =>
                  rw [hbb] at hbest
                  obtain ⟨xl, xk⟩ := x
                  obtain ⟨gb, cb, rfl, hob, rfl, _⟩ := hbest
                  have hbd := bst_bd Z (fun w hw => by have h1 := sortW_all HAL.out; rw [← HZ.out] at h1; unfold allB at h1; rw [List.all_eq_true] at h1; exact (inB_iff.1 (h1 w hw)).1) _ 1 _ rfl _ hbb
                  have hxl : xl.length = ls.length := by rw [← HZL.out]; exact hbd.1
                  have heq : ∀ w, (binOp .eql 29 (.slice (some ⟨gb, 0, Option.none⟩) xl.length cb) (.slice Option.none 0 0)).run Try.prog w = .ok (.bool false) w := fun w => Lib.run_eql_slice_nil w _ _ (some ⟨gb, 0, Option.none⟩) _ _ 0 0 Try.underlying29
                  have HN : Hid (leastL ls (r : Int) (l : Int) = layB O ls.length xl ∧ leastB ls (r : Int) (l : Int) = true) := by
                    unfold leastL leastB; rw [HLC.out, hbb, HO.out]; exact ⟨rfl, rfl⟩
                  have hgl := hob.lt gb rfl
                  have HCEL : Hid (∀ (j x : Nat), xl[j]? = some x → w9.cell? ⟨gb, j, Option.none⟩ = some (.int .i64 (x : Int))) := by
                    intro j x hx
                    have h1 := hob.cells (g := gb) rfl j (.int .i64 (x : Int)) (by unfold waysI; simp [hx])
                    have hadd : (⟨gb, 0, Option.none⟩ : Addr).add j = ⟨gb, 0 + j, Option.none⟩ := by unfold Addr.add; split <;> simp_all
                    rw [hadd, Nat.zero_add] at h1
                    exact h1
                  have HXL := Lib.hid hxl
                  have hcbx := HCB9.out
                  clear hS9 hbb hbd hob hxl
                  go_wp2_with fail
                  have HB0 : Hid (Blk (w9.alloc (.cells (zeros ls.length) 3)) w9.heap.size 3 (ints (layK O ls.length xl 0))) := by
                    have := Blk.new w9 3 (zeros ls.length)
                    show Blk _ _ _ _
                    simpa [layK, zeros, ints] using this
                  have HBA0 : Hid (Below w9.heap.size w9 (w9.alloc (.cells (zeros ls.length) 3))) := (Below.refl _ _).alloc (Nat.le_refl _) _
                  clear hcbx hq4
                  go_loopw [76] (fun i wr => ∃ k : Nat, k ≤ ls.length ∧ i = .int .i64 (k : Int) ∧ Hid (Blk wr w9.heap.size 3 (ints (layK O ls.length xl k))) ∧ Hid (Below w9.heap.size w9 wr)) (fun i _ => ls.length - (intOf i).toNat)
                  case atStart => exact ⟨0, Nat.zero_le _, rfl, HB0.out, HBA0.out⟩
                  case round =>
                    obtain ⟨k, hk2, rfl, hbk, hbl⟩ := hrel
                    by_cases hlt : k < ls.length
                    · obtain ⟨i, hi⟩ : ∃ i, O[k]? = some i := ⟨_, List.getElem?_eq_getElem (by rw [HOL.out]; exact hlt)⟩
                      have hil := HOM.out i (List.mem_of_getElem? hi)
                      obtain ⟨x, hx⟩ : ∃ x, xl[k]? = some x := ⟨_, List.getElem?_eq_getElem (by rw [HXL.out]; exact hlt)⟩
                      have hco := (HO9.out.below hbl.out (show w.heap.size + 1 < w9.heap.size by omega)).cell k
                      rw [nats_at hi] at hco
                      have hq4 := (HS9L.out.below hbl.out (show w1.heap.size < w9.heap.size by omega)).cell 4
                      simp only [List.getElem?_cons_zero, List.getElem?_cons_succ] at hq4
                      have hce := (hbl.out.cell (p := ⟨gb, k, Option.none⟩) (by show gb < w9.heap.size; omega)).trans (HCEL.out k x hx)
                      have hll := layK_len O ls.length xl k
                      obtain ⟨u, hu⟩ : ∃ u, (layK O ls.length xl k)[i]? = some u := ⟨_, List.getElem?_eq_getElem (by rw [hll]; exact hil)⟩
                      have hou := hbk.out.cell i
                      rw [show (ints (layK O ls.length xl k))[i]? = some (.int .i64 u) by simp [ints, hu]] at hou
                      have hfz := hbk.out.frozen i
                      have HB3 : Hid (Blk (wr.setCell ⟨w9.heap.size, i, Option.none⟩ (.int .i64 (x : Int))) w9.heap.size 3 (ints (layK O ls.length xl (k + 1)))) := by
                        have h1 := hbk.out.set_ i (.int .i64 (x : Int))
                        show Blk _ _ _ _
                        rw [layK_succ hi hx]
                        unfold ints
                        rw [List.map_set]
                        exact h1
                      have hkx : k < xl.length := by rw [HXL.out]; exact hlt
                      have hkxi : (k : Int) < (xl.length : Int) := by omega
                      clear hi hx hu hll
                      go_wp2_with fail
                      go_roundw
                      case rel => exact ⟨k + 1, by omega, by go_num, HB3.out, hbl.out.setCell (p := ⟨w9.heap.size, i, Option.none⟩) (Nat.le_refl _) _⟩
                      case measure => (simp [intOf]; try omega)
                    · obtain rfl : k = ls.length := by omega
                      go_wp2_with fail
                      go_ret2
                      have hll := layK_len O ls.length xl ls.length
                      have hown := own_of_blk (lo := w.heap.size) (hi := wr.heap.size) hbk.out (by omega) hbk.out.lt (by rw [hll]; unfold maxLen; omega)
                      rw [hll] at hown
                      rw [HN.out.1, HN.out.2]
                      refine ⟨.slice (some ⟨w9.heap.size, 0, Option.none⟩) ls.length ls.length, ret_val rfl, ?_, HBW.out.trans (hbl.out.mono (by omega))⟩
                      unfold layB
                      rw [HXL.out]
                      exact hown
end Go.Proofs.Ytabiobjcfopakaa
/- Contracts: LeastLengths and LeastCost of the program; what the lengths are. -/
namespace Go.Proofs.Ytabiobjcfopakaa
open Go.RowKit
/-- The place of an index in the order has the length that was found for it. -/
theorem layK_at {os : List Nat} {n : Nat} {l : List Nat} (hn : os.Nodup) (ho : ∀ i ∈ os, i < n) : ∀ (m : Nat), m ≤ os.length → m ≤ l.length → ∀ (k i x : Nat), k < m → os[k]? = some i → l[k]? = some x → (layK os n l m)[i]? = some ((x : Nat) : Int)
  | 0, _, _, k, i, x, hk, _, _ => by omega
  | m + 1, hm, hml, k, i, x, hk, hi, hx => by
    have hj : os[m]? = some os[m] := List.getElem?_eq_getElem (by omega)
    have hy : l[m]? = some l[m] := List.getElem?_eq_getElem (by omega)
    rw [layK_succ hj hy]
    have hil := ho i (List.mem_of_getElem? hi)
    by_cases e : k = m
    · subst e
      rw [hj] at hi; cases hi
      rw [hy] at hx; cases hx
      rw [List.getElem?_set_self (by rw [layK_len]; exact hil)]
    · have hne : os[m] ≠ i := by
        intro e2
        have h1 : os[m]? = os[k]? := by rw [hj, hi, e2]
        have := (List.getElem?_inj (i := m) (j := k) (by omega) hn).1 h1
        omega
      rw [List.getElem?_set_ne hne]
      exact layK_at hn ho m (by omega) (by omega) k i x (by omega) hi hx
theorem layB_at {ws : List Int} {l : List Nat} (hl : l.length = ws.length) {i : Nat} (hi : i < ws.length) : ∃ (k x : Nat), (orderBy (pWei ws) ws.length)[k]? = some i ∧ l[k]? = some x ∧ (layB (orderBy (pWei ws) ws.length) ws.length l)[i]? = some ((x : Nat) : Int) := by
  obtain ⟨k, hk, he⟩ := List.getElem_of_mem (orderBy_mem (p := pWei ws) hi)
  rw [orderBy_len] at hk
  refine ⟨k, l[k], by rw [List.getElem?_eq_getElem (by rw [orderBy_len]; exact hk), he], List.getElem?_eq_getElem (by omega), ?_⟩
  unfold layB
  exact layK_at (orderBy_nodup _ _) (fun j hj => orderBy_lt hj) l.length (by rw [orderBy_len]; omega) (Nat.le_refl _) k i _ (by omega) (by rw [List.getElem?_eq_getElem (by rw [orderBy_len]; exact hk), he]) (List.getElem?_eq_getElem (by omega))
theorem sortW_len (ws : List Int) : (sortW ws).length = ws.length := by unfold sortW; rw [List.length_map, orderBy_len]
theorem sortW_pos {ws : List Int} (h : allB ws 0 10000 = true) : ∀ w ∈ sortW ws, 0 ≤ w := by
  have h1 := sortW_all h
  unfold allB at h1
  rw [List.all_eq_true] at h1
  exact fun w hw => (inB_iff.1 (h1 w hw)).1
theorem askB_iff {ws : List Int} {r l : Int} : askB ws r l = true ↔ (1 ≤ ws.length ∧ ws.length ≤ 20) ∧ allB ws 0 10000 = true ∧ (2 ≤ r ∧ r ≤ 60) ∧ (1 ≤ l ∧ l ≤ 6) := by
  unfold askB weightsB
  simp only [Bool.and_eq_true, inB_iff]
  constructor
  · rintro ⟨⟨⟨h1, h2⟩, h3⟩, h4⟩; exact ⟨by omega, h2, h3, h4⟩
  · rintro ⟨h1, h2, h3, h4⟩; exact ⟨⟨⟨by omega, h2⟩, h3⟩, h4⟩
theorem leastC_ask {ws : List Int} {r l : Int} {x : List Nat × Int} (h : leastC ws r l = some x) : askB ws r l = true ∧ bst r.toNat l.toNat (sortW ws) 1 (r.toNat ^ l.toNat) = some x := by
  unfold leastC at h
  split at h
  · exact ⟨by assumption, h⟩
  · cases h
/-- The lengths that are found. -/
theorem leastL_ok {ws : List Int} {r l : Int} (h : leastB ws r l = true) : lengthsB (leastL ws r l) = true ∧ (leastL ws r l).length = ws.length ∧ ∀ i, i < ws.length → 1 ≤ (leastL ws r l).getD i 0 ∧ (leastL ws r l).getD i 0 ≤ l := by
  unfold leastB at h
  obtain ⟨x, hx⟩ := Option.isSome_iff_exists.1 h
  obtain ⟨ha, hb⟩ := leastC_ask hx
  obtain ⟨h1, h2, h3, h4⟩ := askB_iff.1 ha
  have hbd := bst_bd _ (sortW_pos h2) _ 1 _ rfl _ hb
  rw [sortW_len] at hbd
  have hL : leastL ws r l = layB (orderBy (pWei ws) ws.length) ws.length x.1 := by unfold leastL; rw [hx]
  have hlen : (leastL ws r l).length = ws.length := by rw [hL]; unfold layB; rw [layK_len]
  have hat : ∀ i, i < ws.length → 1 ≤ (leastL ws r l).getD i 0 ∧ (leastL ws r l).getD i 0 ≤ l := by
    intro i hi
    obtain ⟨k, y, _, hy, he⟩ := layB_at hbd.1 hi
    rw [hL, List.getD_eq_getElem?_getD, he]
    have := hbd.2.2.2 y (List.mem_of_getElem? hy)
    simp only [Option.getD_some]
    omega
  refine ⟨?_, hlen, hat⟩
  unfold lengthsB
  rw [Bool.and_eq_true, inB_iff, hlen]
  refine ⟨by omega, ?_⟩
  unfold allB
  rw [List.all_eq_true]
  intro y hy
  obtain ⟨i, hi, rfl⟩ := List.getElem_of_mem hy
  have := hat i (by omega)
  rw [List.getD_eq_getElem?_getD, List.getElem?_eq_getElem hi] at this
  exact inB_iff.2 (by simp only [Option.getD_some] at this; omega)
theorem leastL_no {ws : List Int} {r l : Int} (h : leastB ws r l = false) : leastL ws r l = [] := by
  unfold leastB at h
  cases hx : leastC ws r l with
  | none => unfold leastL; rw [hx]
  | some x => rw [hx] at h; cases h
theorem leastL_len (ws : List Int) (r l : Int) : (leastL ws r l).length ≤ 20 := by
  cases h : leastB ws r l
  · rw [leastL_no h]; simp
  · have h1 := (leastL_ok h).1
    unfold lengthsB at h1
    rw [Bool.and_eq_true, inB_iff] at h1
    omega
def lcostV (ws : List Int) (r l : Int) : Value := if leastB ws r l then .tuple #[.int .i64 (dotI ws (leastL ws r l)), .bool true] else .tuple #[.int .i64 0, .bool false]
theorem lcostV_form (ws : List Int) (r l : Int) : ∃ (p : Int) (q : Bool), lcostV ws r l = .tuple #[.int .i64 p, .bool q] := by unfold lcostV; split <;> exact ⟨_, _, rfl⟩
theorem LeastLengths_any (ls : List Int) (r l : Int) (v : Value) (hi : Nat) (w : World) (h : RdI w hi v ls) (hh : hi ≤ w.heap.size) : Calls Try.prog 62 #[v, .int .i64 r, .int .i64 l] w (RetOwT (leastL ls r l) (leastB ls r l) w) := by
  have CL := Lib.hid (leastLengths_any ls r l v hi w h hh)
  obtain ⟨A, c, rfl, hc, hm⟩ := Rd.form h
  clear h
  go_enter Try.func62, Try.ntmps62
  go_wp2_with fail
  refine CL.out.mono ?_
  rintro e w1 ⟨u, rfl, hu, hb⟩
  obtain ⟨A2, c2, rfl, _⟩ := hu.form
  have HU := Lib.hid hu
  have HB := Lib.hid hb
  clear hu hb
  go_wp2_with fail
  go_ret2
  exact ⟨_, ret_val rfl, HU.out, HB.out⟩
theorem LeastCost_any (ls : List Int) (r l : Int) (v : Value) (hi : Nat) (w : World) (h : RdI w hi v ls) (hh : hi ≤ w.heap.size) : Calls Try.prog 65 #[v, .int .i64 r, .int .i64 l] w fun e w' => e = .returned (lcostV ls r l) ∧ Below w.heap.size w w' := by
  have cL := leastLengths_any ls r l v hi w h hh
  obtain ⟨A, c, rfl, hc, hm⟩ := Rd.form h
  have H := Lib.hid h
  clear h
  cases hb : leastB ls r l
  · rw [hb] at cL
    have CL := Lib.hid cL
    have HV : Hid (lcostV ls r l = .tuple #[.int .i64 0, .bool false]) := by show _ = _; unfold lcostV; rw [hb]; rfl
    clear cL
    go_enter Try.func65, Try.ntmps65
    go_wp2_with fail
    refine CL.out.mono ?_
    rintro e w1 ⟨u, rfl, hu, hb⟩
    obtain ⟨A2, c2, rfl, _⟩ := hu.form
    have HB := Lib.hid hb
    clear hu hb
    go_wp2_with fail
    go_ret2
    exact ⟨ret_val HV.out.symm, HB.out⟩
  · rw [hb] at cL
    have CL := Lib.hid cL
    have HV : Hid (lcostV ls r l = .tuple #[.int .i64 (dotI ls (leastL ls r l)), .bool true]) := by show _ = _; unfold lcostV; rw [hb]; rfl
    have hok := leastL_ok hb
    have HW : Hid (weightsB ls = true) := by
      show _ = _
      unfold leastB at hb
      obtain ⟨x, hx⟩ := Option.isSome_iff_exists.1 hb
      have ha := (leastC_ask hx).1
      unfold askB at ha
      simp only [Bool.and_eq_true] at ha
      exact ha.1.1
    have HOK := Lib.hid hok
    clear cL hok
    go_enter Try.func65, Try.ntmps65
    go_wp2_with fail
    refine CL.out.mono ?_
    rintro e w1 ⟨u, rfl, hu, hb⟩
    obtain ⟨A2, c2, rfl, _⟩ := hu.form
    have HU := Lib.hid hu
    have HB := Lib.hid hb
    have CC := Lib.hid (costOf_any ls (leastL ls r l) _ _ hi w1.heap.size w1 (RdI.below H.out hb hh) hu.rd HW.out HOK.out.1 HOK.out.2.1.symm)
    clear hu hb
    go_wp2_with (first | (go_at_call 167; refine (CC.out).mono ?_; rintro e w' ⟨rfl, rfl⟩))
    go_ret2
    exact ⟨ret_val HV.out.symm, HB.out⟩
end Go.Proofs.Ytabiobjcfopakaa
/- Contracts: the order of the weights, by the reference. -/
namespace Go.Proofs.Ytabiobjcfopakaa
open Go.RowKit
/-- A slice of numbers is appended to a row of the call's own: the run. -/
theorem run_appR {w : World} {B hi : Nat} {v u : Value} {xs ys : List Int} (ty : TypeId) (hown : w.ownsRow B 3 1 v xs.length (ints xs)) (hB : B ≤ w.heap.size) (hR : RdI w hi u ys) (hlen : xs.length + ys.length ≤ 1048576) :
    ∃ v' w', (Builtin.append_ #[29, 29] ty #[v, u]).run Try.prog w = .ok v' w' ∧ w'.ownsRow B 3 1 v' (xs ++ ys).length (ints (xs ++ ys)) ∧ w.grownBy w' v.ownBlock := by
  obtain ⟨i, hi0, hz0, hz1, hz2⟩ := info_parts info_int
  obtain ⟨hl, A, c, rfl, hc1, hc2, hcell⟩ := hR
  rcases A with _ | ad
  · have h0 : ys = [] := by
      rcases Nat.eq_zero_or_pos ys.length with h | h
      · exact List.eq_nil_of_length_eq_zero h
      · obtain ⟨b, off, e, _⟩ := hcell h; cases e
    subst h0
    exact ⟨v, w, run_append_nil B 29 ty 3 i 1 Try.underlying29 hi0 v xs.length (ints xs) hown c, by simpa using hown, World.grownBy.refl _ _⟩
  · have hnews : ∀ j u, (ints ys)[j]? = some u → w.cell? (ad.add j) = some u := by
      intro j u hj
      rcases Nat.eq_zero_or_pos ys.length with h | h
      · rw [List.eq_nil_of_length_eq_zero h] at hj; simp at hj
      · obtain ⟨b, off, e, _, hcc⟩ := hcell h
        cases e
        rw [Go.WideShapes.add_plain]; exact hcc j u hj
    obtain ⟨v', w', hr, ho, hg, _⟩ := run_append_own (P := Try.prog) w B 29 ty 3 i (.int .i64 0) 1 8 Try.underlying29 hi0 hz0 hz1 hz2 rfl (by decide) v xs.length (ints xs) hown ad ys.length c (ints ys) (by simp) hnews
      (by intro u hu; simp at hu; obtain ⟨z, _, rfl⟩ := hu; rfl) (by unfold maxLen; omega) (by omega) hB
    exact ⟨v', w', hr, by simpa [ints] using ho, hg⟩
/-- The same at a step of a region that draws its order. -/
theorem step_appR {w0 w : World} {B hi : Nat} {v u : Value} {xs ys : List Int} {ops : Array Oper} {o : Oper} {a : Act} {K : Act → World → Prop} {Q : Exit → Act → World → Prop} {E : Prop} (hgd : o.guard = Option.none) (s x : Operand)
    (ho : o.op = .call { callee := .builtin .append, args := #[s, x], argTypes := #[29, 29] }) (hG : GrowI w0 B w v xs) (hR : RdI w hi u ys) (hlen : xs.length + ys.length ≤ 1048576) (hs : a.eval s = v) (hx : a.eval x = u)
    (h : ∀ v' w', GrowI w0 B w' v' (xs ++ ys) → K (a.put o.dst v') w') : if Region.wanted o (yielded ops a.tmps) = true then Oper.wp Try.prog o a w K Q else E := by
  have hw : Region.wanted o (yielded ops a.tmps) = true := by simp [Region.wanted, hgd]
  rw [if_pos hw]
  obtain ⟨v', w', hr, h1, h2⟩ := run_appR o.type hG.1 hG.2.2 hR hlen
  unfold Oper.wp execOp
  simp only [ho, resolve, invoke, builtin, Sem.run_bind, Sem.run_pure, Result.andThen_ok, List.map_toArray, List.map_cons, List.map_nil, hs, hx, hr]
  exact h v' w' ⟨h1, hG.2.1.grown h2 hG.2.2 (fun k hk => (hG.1.lt k hk).1), Nat.le_trans hG.2.2 h2.size⟩
theorem growI_own {w w1 w2 : World} {v : Value} {xs : List Int} (hb1 : Below w.heap.size w w1) (ho : OwI w2 w1.heap.size w2.heap.size v xs) (hb : Below w1.heap.size w1 w2) : GrowI w w.heap.size w2 v xs := by
  have hs := hb1.size
  have hs2 := hb.size
  refine ⟨⟨ho.1.1, ?_⟩, hb1.trans (hb.mono hs), by omega⟩
  rcases ho.1.2 with hn | ⟨g, cap, cur, e, hl, rest⟩
  · exact .inl hn
  · exact .inr ⟨g, cap, cur, e, by omega, rest⟩
theorem one_rd (w : World) (x : Int) : RdI (w.alloc (.cells #[.int .i64 x] 3)) (w.heap.size + 1) (.slice (some ⟨w.heap.size, 0, Option.none⟩) 1 1) [x] := by
  refine ⟨rfl, _, 1, rfl, Nat.le_refl _, by decide, fun _ => ⟨w.heap.size, 0, rfl, by omega, fun j u hj => ?_⟩⟩
  match j, hj with
  | 0, hj =>
    simp at hj; subst hj
    exact (Blk.new w 3 #[.int .i64 x]).cell 0
theorem waysI_lenN (L : List Nat) : (waysI L).length = L.length := by unfold waysI; simp
theorem RdI.takeLe {w : World} {hi c : Nat} {A : Option Addr} {xs : List Int} (h : RdI w hi (.slice A xs.length c) xs) {m : Nat} (hm : m ≤ xs.length) : RdI w hi (.slice A m c) (xs.take m) := by
  obtain ⟨_, A', c', hv, h1, h2, h3⟩ := h
  cases hv
  have hl : (xs.take m).length = m := by rw [List.length_take]; omega
  refine ⟨by simp, A, c, by rw [hl], by rw [hl]; omega, h2, fun hp => ?_⟩
  rw [hl] at hp
  obtain ⟨b, off, e, hb, hc⟩ := h3 (by omega)
  refine ⟨b, off, e, hb, fun j u hj => hc j u ?_⟩
  unfold ints at hj ⊢
  rw [List.map_take, List.getElem?_take] at hj
  split at hj
  · exact hj
  · cases hj
theorem order_next {ls : List Int} {L : List Nat} {k m : Nat} (hL : L = orderBy (pWei ls) k) (hm : m ≤ k) (hB : ∀ y ∈ L.drop m, pWei ls k y = true) (hA : ¬ (0 < m ∧ ∃ y, L[m - 1]? = some y ∧ pWei ls k y = true)) : (waysI (L.take m) ++ [(k : Int)]) ++ waysI (L.drop m) = waysI (orderBy (pWei ls) (k + 1)) := by
  subst hL
  have hl := orderBy_len (pWei ls) k
  rw [orderBy_succ, insBy_at (j := m) (by omega) hB]
  · unfold waysI; simp
  · rcases Nat.eq_zero_or_pos m with h | h
    · exact .inl h
    · right
      have hy : (orderBy (pWei ls) k)[m - 1]? = some (orderBy (pWei ls) k)[m - 1] := List.getElem?_eq_getElem (by omega)
      refine ⟨_, hy, ?_⟩
      cases e : pWei ls k (orderBy (pWei ls) k)[m - 1]
      · rfl
      · exact absurd ⟨h, _, hy, e⟩ hA
set_option maxRecDepth 100000 in
set_option maxHeartbeats 8000000 in
theorem cmOrder_any (ls : List Int) (v : Value) (hi : Nat) (w : World) (h : RdI w hi v ls) (hh : hi ≤ w.heap.size) (hn : ls.length ≤ 20) : Calls Try.prog 230 #[v] w fun e w' => ∃ u, e = .returned u ∧ RdI w' w'.heap.size u (waysI (orderBy (pWei ls) ls.length)) ∧ Below w.heap.size w w' := by
  obtain ⟨A, c, rfl, hc, hm⟩ := Rd.form h
  have H := Lib.hid h
  clear h
  go_enter Try.func230, Try.ntmps230
  go_wp2
  go_loopw [3, 9] (fun o i wr => ∃ (k : Nat) (A2 : Option Addr) (c2 : Nat), k ≤ ls.length ∧ o = .slice A2 k c2 ∧ i = .int .i64 (k : Int) ∧ k ≤ c2 ∧ (k = 0 → A2 = Option.none ∧ c2 = 0) ∧ Hid (RdI wr wr.heap.size (.slice A2 k c2) (waysI (orderBy (pWei ls) k))) ∧ Hid (Below w.heap.size w wr)) (fun _ i _ => ls.length - (intOf i).toNat)
  case atStart => exact ⟨0, Option.none, 0, Nat.zero_le _, rfl, rfl, Nat.le_refl _, fun _ => ⟨rfl, rfl⟩, (owI_nil w 0 w.heap.size).rd, Below.refl _ _⟩
  case round =>
    obtain ⟨k, A2, c2, hk, rfl, rfl, hkc, hz0, hrd, hbl⟩ := hrel
    by_cases hlt : k < ls.length
    · obtain ⟨b1, o1, c1, hv, hb1h, hcl⟩ := RdI.getD (RdI.below H.out hbl.out hh) hlt
      cases hv
      obtain ⟨x, hx⟩ : ∃ x, x = ls.getD k 0 := ⟨_, rfl⟩
      rw [← hx] at hcl
      have HX := Lib.hid hx
      obtain ⟨L, hL⟩ : ∃ L, L = orderBy (pWei ls) k := ⟨_, rfl⟩
      have hLl : L.length = k := by rw [hL, orderBy_len]
      rw [← hL] at hrd
      have HLM : Hid (∀ i ∈ L, i < k) := by show ∀ i ∈ L, i < k; rw [hL]; exact fun i hi => orderBy_lt hi
      have HL := Lib.hid hL
      have HLL := Lib.hid hLl
      have HWL : Hid ((waysI L).length = k) := by show _ = _; rw [waysI_lenN, hLl]
      clear hx hL hLl
      rename World => wo
      go_wp2_with fail
      go_loopw [6] (fun q wr => ∃ m : Nat, m ≤ k ∧ q = .int .i64 (m : Int) ∧ Hid (∀ y ∈ L.drop m, pWei ls k y = true) ∧ wo = wr) (fun q _ => (intOf q).toNat)
      case atStart => exact ⟨k, Nat.le_refl _, rfl, by show ∀ y ∈ L.drop k, pWei ls k y = true; intro y hy; rw [List.drop_of_length_le (by rw [HLL.out]; exact Nat.le_refl _)] at hy; simp at hy, rfl⟩
      case round =>
        obtain ⟨m, hmk, rfl, hall, rfl⟩ := hrel
        have hmi : (m : Int) ≤ (c2 : Int) := by omega
        have hmki : (m : Int) ≤ (k : Int) := by omega
        have HTL : Hid ((waysI L).take m = waysI (L.take m) ∧ (waysI L).drop m = waysI (L.drop m)) := by show _ ∧ _; unfold waysI; rw [List.map_take, List.map_drop]; exact ⟨rfl, rfl⟩
        rcases Nat.eq_zero_or_pos k with hk0 | hk0
        · obtain ⟨rfl, rfl⟩ := hz0 hk0
          obtain rfl : m = 0 := by omega
          subst hk0
          have HNIL : Hid (∀ w' : World, RdI w' wo.heap.size (.slice Option.none 0 0) []) := fun w' => (owI_nil w' 0 wo.heap.size).rd
          have hb1 : Below wo.heap.size wo wo.drew := (Below.refl _ _).drew
          have hb2 : Below wo.heap.size wo (wo.drew.alloc (.cells #[.int .i64 0] 3)) := hb1.alloc (Nat.le_refl _) _
          have HON := one_rd wo.drew 0
          have HN : Hid (([] ++ [(0 : Int)]) ++ [] = waysI (orderBy (pWei ls) (0 + 1))) := rfl
          clear hz0
          go_wp2_with fail
          go_region_law (first
            | ((refine step_appR (by rfl) (.tmp 35) (.tmp 37) (by rfl) ((growI_own hb1 hu5 hb5).belowR ((Below.refl _ _).alloc (Nat.le_refl _) _)) (one_rd w5 0) (by simp) (by rfl) (by rfl) ?_; intro v6 w6 hg6))
            | ((refine step_appR (by rfl) (.tmp 35) (.tmp 37) (by rfl) (growI_own hb2 hu5 hb5) (RdI.below HON hb5 (by simp)) (by simp) (by rfl) (by rfl) ?_; intro v6 w6 hg6))
            | ((refine step_appR (by rfl) (.tmp 38) (.tmp 41) (by rfl) hg6 (HNIL.out _) (by simp) (by rfl) (by rfl) ?_; intro v7 w7 hg7))
            | ((go_simp; go_at_call 222; refine (l1Own_any [] _ wo.heap.size _ (HNIL.out _) (by simp) (by simp)).mono ?_; rintro e w5 ⟨v5, rfl, hu5, hb5⟩)))
          all_goals
            have HG7 : Hid (GrowI wo wo.heap.size w7 v7 (waysI (orderBy (pWei ls) (0 + 1)))) := by show GrowI _ _ _ _ _; rw [← HN.out]; exact hg7
            obtain ⟨A7, c7, rfl, hc7, _⟩ := Rd.form HG7.out.own.rd
            have hl7 : (waysI (orderBy (pWei ls) (0 + 1))).length = 0 + 1 := by rw [waysI_lenN, orderBy_len]
            rw [hl7] at hc7 HG7 ⊢
            clear hg7 hl7
            go_wp2_with fail
            go_roundw
            case rel => exact ⟨0 + 1, A7, c7, by omega, rfl, by go_num, hc7, fun e => by omega, HG7.out.own.rd, hbl.out.trans (HG7.out.2.1.mono (by have := hbl.out.size; omega))⟩
            case measure => (simp [intOf]; try omega)
        · obtain ⟨b2, o2, rfl⟩ : ∃ b2 o2, A2 = some ⟨b2, o2, Option.none⟩ := by
            obtain ⟨_, A', c', hv, _, _, h3⟩ := hrd.out
            cases hv
            obtain ⟨b, off, e, _⟩ := h3 (by rw [HWL.out]; exact hk0)
            exact ⟨b, off, e⟩
          by_cases hgo : 0 < m ∧ ∃ y, L[m - 1]? = some y ∧ pWei ls k y = true
          · obtain ⟨h0, y, hy, hp⟩ := hgo
            obtain ⟨s, rfl⟩ : ∃ s, m = s + 1 := ⟨m - 1, by omega⟩
            rw [Nat.add_sub_cancel] at hy
            have hyk := HLM.out y (List.mem_of_getElem? hy)
            obtain ⟨_, _, _, hv, _, hcy⟩ := RdI.getD (by have := hrd.out; rw [← HWL.out] at this; exact this) (k := s) (by rw [HWL.out]; omega)
            cases hv
            rw [show (waysI L).getD s 0 = (y : Int) by unfold waysI; rw [List.getD_eq_getElem?_getD, List.getElem?_map, hy]; rfl] at hcy
            obtain ⟨_, _, _, hv, _, hcw⟩ := RdI.getD (RdI.below H.out hbl.out hh) (k := y) (by omega)
            cases hv
            obtain ⟨z, hz⟩ : ∃ z, z = ls.getD y 0 := ⟨_, rfl⟩
            rw [← hz] at hcw
            have hzx : decide (z < x) = true := by
              unfold pWei at hp
              rw [← HX.out, ← hz] at hp
              exact hp
            have hyl : y < ls.length := by omega
            have HNX := Lib.hid (insL_next (p := pWei ls) hy hp hall.out)
            have hsk : (s : Int) < (k : Int) := by omega
            clear hz hy hp h0
            go_wp2_with fail
            go_roundw
            case rel => exact ⟨s, by omega, by go_num, HNX.out, by trivial⟩
            case measure => (simp [intOf]; try omega)
          · rcases Nat.eq_zero_or_pos m with hm0 | hm0
            · have hgd : decide (0 < m) = false := decide_eq_false (by omega)
              clear hm0

              have HTK : Hid (∀ w', Below wo.heap.size wo w' → RdI w' wo.heap.size (.slice (some ⟨b2, o2, Option.none⟩) m c2) (waysI (L.take m))) := by
                intro w' hb
                have h1 := RdI.takeLe (m := m) (by have := hrd.out; rw [← HWL.out] at this; exact this) (by rw [HWL.out]; exact hmk)
                rw [HTL.out.1] at h1
                exact RdI.below h1 hb (Nat.le_refl _)
              have HDR : Hid (∀ w', Below wo.heap.size wo w' → RdI w' wo.heap.size (.slice (if c2 = m then some ⟨b2, o2, Option.none⟩ else some ⟨b2, o2 + m, Option.none⟩) (k - m) (c2 - m)) (waysI (L.drop m))) := by
                intro w' hb
                have h1 := RdI.dropLe (k := m) (by have := hrd.out; rw [← HWL.out] at this; exact this) (by rw [HWL.out]; exact hmk)
                rw [HTL.out.2, HWL.out] at h1
                have h2 := RdI.below h1 hb (Nat.le_refl _)
                split
                · rename_i e
                  have hz : (waysI (L.drop m)).length = 0 := by rw [waysI_lenN, List.length_drop, HLL.out]; omega
                  obtain ⟨_, A', c', hv, h3, h4, _⟩ := h2
                  injection hv with _ _ e2
                  rw [← e2] at h3 h4
                  rw [show k - m = (waysI (L.drop m)).length by omega]
                  exact ⟨by simp, _, _, rfl, by omega, h4, fun hp => by omega⟩
                · exact h2
              have hll : (waysI (L.take m)).length = m := by rw [waysI_lenN, List.length_take, HLL.out]; omega
              have HLT := Lib.hid hll
              have hb1 : Below wo.heap.size wo wo.drew := (Below.refl _ _).drew
              have hb2 : Below wo.heap.size wo (wo.drew.alloc (.cells #[.int .i64 (k : Int)] 3)) := hb1.alloc (Nat.le_refl _) _
              have HN := Lib.hid (order_next HL.out hmk hall.out hgo)
              have HON := one_rd wo.drew (k : Int)
              clear hgo hll
              go_wp2_with fail
              go_region_law (first
                | ((refine step_appR (by rfl) (.tmp 35) (.tmp 37) (by rfl) ((growI_own hb1 hu5 hb5).belowR ((Below.refl _ _).alloc (Nat.le_refl _) _)) (one_rd w5 (k : Int)) (by rw [HLT.out]; simp; omega) (by rfl) (by rfl) ?_; intro v6 w6 hg6))
                | ((refine step_appR (by rfl) (.tmp 35) (.tmp 37) (by rfl) (growI_own hb2 hu5 hb5) (RdI.below HON hb5 (by simp)) (by rw [HLT.out]; simp; omega) (by rfl) (by rfl) ?_; intro v6 w6 hg6))
                | ((refine step_appR (by rfl) (.tmp 38) (.tmp 41) (by rfl) hg6 (HDR.out _ hg6.2.1) (by rw [List.length_append, HLT.out, waysI_lenN, List.length_drop, HLL.out]; simp; omega) (by rfl) (by rfl) ?_; intro v7 w7 hg7))
                | ((go_simp; go_at_call 222; refine (l1Own_any (waysI (L.take m)) _ wo.heap.size _ (HTK.out _ (by first | exact hb1 | exact hb2)) (by simp) (by rw [HLT.out]; omega)).mono ?_; rintro e w5 ⟨v5, rfl, hu5, hb5⟩)))
              all_goals
                have HG7 : Hid (GrowI wo wo.heap.size w7 v7 (waysI (orderBy (pWei ls) (k + 1)))) := by show GrowI _ _ _ _ _; rw [← HN.out]; exact hg7
                obtain ⟨A7, c7, rfl, hc7, _⟩ := Rd.form HG7.out.own.rd
                have hl7 : (waysI (orderBy (pWei ls) (k + 1))).length = k + 1 := by rw [waysI_lenN, orderBy_len]
                rw [hl7] at hc7 HG7 ⊢
                have HL7 := Lib.hid hl7
                clear hg7 hl7
                go_wp2_with fail
                go_roundw
                case rel => exact ⟨k + 1, A7, c7, by omega, rfl, by go_num, hc7, fun e => by omega, HG7.out.own.rd, hbl.out.trans (HG7.out.2.1.mono (by have := hbl.out.size; omega))⟩
                case measure => (simp [intOf]; try omega)
            · obtain ⟨s, rfl⟩ : ∃ s, m = s + 1 := ⟨m - 1, by omega⟩
              obtain ⟨y, hy⟩ : ∃ y, L[s]? = some y := ⟨_, List.getElem?_eq_getElem (by rw [HLL.out]; omega)⟩
              have hp : pWei ls k y = false := by
                cases e : pWei ls k y
                · rfl
                · exact absurd ⟨hm0, y, by rw [Nat.add_sub_cancel]; exact hy, e⟩ hgo
              have hyk := HLM.out y (List.mem_of_getElem? hy)
              obtain ⟨_, _, _, hv, _, hcy⟩ := RdI.getD (by have := hrd.out; rw [← HWL.out] at this; exact this) (k := s) (by rw [HWL.out]; omega)
              cases hv
              rw [show (waysI L).getD s 0 = (y : Int) by unfold waysI; rw [List.getD_eq_getElem?_getD, List.getElem?_map, hy]; rfl] at hcy
              obtain ⟨_, _, _, hv, _, hcw⟩ := RdI.getD (RdI.below H.out hbl.out hh) (k := y) (by omega)
              cases hv
              obtain ⟨z, hz⟩ : ∃ z, z = ls.getD y 0 := ⟨_, rfl⟩
              rw [← hz] at hcw
              have hzx : decide (z < x) = false := by
                unfold pWei at hp
                rw [← HX.out, ← hz] at hp
                exact hp
              have hyl : y < ls.length := by omega
              have hs3 : (s : Int) + 1 ≤ (c2 : Int) := by omega
              have hs4 : (s : Int) + 1 ≤ (k : Int) := by omega
              have hs5 : (0 : Int) ≤ (s : Int) + 1 := by omega
              have hsk : (s : Int) < (k : Int) := by omega
              clear hz hy hp hm0
              have HTK : Hid (∀ w', Below wo.heap.size wo w' → RdI w' wo.heap.size (.slice (some ⟨b2, o2, Option.none⟩) (s + 1) c2) (waysI (L.take (s + 1)))) := by
                intro w' hb
                have h1 := RdI.takeLe (m := (s + 1)) (by have := hrd.out; rw [← HWL.out] at this; exact this) (by rw [HWL.out]; exact hmk)
                rw [HTL.out.1] at h1
                exact RdI.below h1 hb (Nat.le_refl _)
              have HDR : Hid (∀ w', Below wo.heap.size wo w' → RdI w' wo.heap.size (.slice (if c2 = (s + 1) then some ⟨b2, o2, Option.none⟩ else some ⟨b2, o2 + (s + 1), Option.none⟩) (k - (s + 1)) (c2 - (s + 1))) (waysI (L.drop (s + 1)))) := by
                intro w' hb
                have h1 := RdI.dropLe (k := (s + 1)) (by have := hrd.out; rw [← HWL.out] at this; exact this) (by rw [HWL.out]; exact hmk)
                rw [HTL.out.2, HWL.out] at h1
                have h2 := RdI.below h1 hb (Nat.le_refl _)
                split
                · rename_i e
                  have hz : (waysI (L.drop (s + 1))).length = 0 := by rw [waysI_lenN, List.length_drop, HLL.out]; omega
                  obtain ⟨_, A', c', hv, h3, h4, _⟩ := h2
                  injection hv with _ _ e2
                  rw [← e2] at h3 h4
                  rw [show k - (s + 1) = (waysI (L.drop (s + 1))).length by omega]
                  exact ⟨by simp, _, _, rfl, by omega, h4, fun hp => by omega⟩
                · exact h2
              have hll : (waysI (L.take (s + 1))).length = s + 1 := by rw [waysI_lenN, List.length_take, HLL.out]; omega
              have HLT := Lib.hid hll
              have hb1 : Below wo.heap.size wo wo.drew := (Below.refl _ _).drew
              have hb2 : Below wo.heap.size wo (wo.drew.alloc (.cells #[.int .i64 (k : Int)] 3)) := hb1.alloc (Nat.le_refl _) _
              have HN := Lib.hid (order_next HL.out hmk hall.out hgo)
              have HON := one_rd wo.drew (k : Int)
              clear hgo hll
              go_wp2_with fail
              go_region_law (first
                | ((refine step_appR (by rfl) (.tmp 35) (.tmp 37) (by rfl) ((growI_own hb1 hu5 hb5).belowR ((Below.refl _ _).alloc (Nat.le_refl _) _)) (one_rd w5 (k : Int)) (by rw [HLT.out]; simp; omega) (by rfl) (by rfl) ?_; intro v6 w6 hg6))
                | ((refine step_appR (by rfl) (.tmp 35) (.tmp 37) (by rfl) (growI_own hb2 hu5 hb5) (RdI.below HON hb5 (by simp)) (by rw [HLT.out]; simp; omega) (by rfl) (by rfl) ?_; intro v6 w6 hg6))
                | ((refine step_appR (by rfl) (.tmp 38) (.tmp 41) (by rfl) hg6 (HDR.out _ hg6.2.1) (by rw [List.length_append, HLT.out, waysI_lenN, List.length_drop, HLL.out]; simp; omega) (by rfl) (by rfl) ?_; intro v7 w7 hg7))
                | ((go_simp; go_at_call 222; refine (l1Own_any (waysI (L.take (s + 1))) _ wo.heap.size _ (HTK.out _ (by first | exact hb1 | exact hb2)) (by simp) (by rw [HLT.out]; omega)).mono ?_; rintro e w5 ⟨v5, rfl, hu5, hb5⟩)))
              all_goals
                have HG7 : Hid (GrowI wo wo.heap.size w7 v7 (waysI (orderBy (pWei ls) (k + 1)))) := by show GrowI _ _ _ _ _; rw [← HN.out]; exact hg7
                obtain ⟨A7, c7, rfl, hc7, _⟩ := Rd.form HG7.out.own.rd
                have hl7 : (waysI (orderBy (pWei ls) (k + 1))).length = k + 1 := by rw [waysI_lenN, orderBy_len]
                rw [hl7] at hc7 HG7 ⊢
                have HL7 := Lib.hid hl7
                clear hg7 hl7
                go_wp2_with fail
                go_roundw
                case rel => exact ⟨k + 1, A7, c7, by omega, rfl, by go_num, hc7, fun e => by omega, HG7.out.own.rd, hbl.out.trans (HG7.out.2.1.mono (by have := hbl.out.size; omega))⟩
                case measure => (simp [intOf]; try omega)
    · obtain rfl : k = ls.length := by omega
      go_wp2_with fail
      go_ret
      exact ⟨.slice A2 ls.length c2, rfl, hrd.out, hbl.out⟩
end Go.Proofs.Ytabiobjcfopakaa
/- Contracts: the table of the reference, newly made. -/
namespace Go.Proofs.Ytabiobjcfopakaa
open Go.RowKit
abbrev slN (g n : Nat) : Value := .slice (some ⟨g, 0, Option.none⟩) n n
/-- What is left of the weights from each index on. -/
def restL (Z : List Int) : List Int := (List.range (Z.length + 1)).map fun j => sumW (Z.drop j)
theorem restL_len (Z : List Int) : (restL Z).length = Z.length + 1 := by simp [restL]
theorem restL_at {Z : List Int} {j : Nat} (h : j ≤ Z.length) : (restL Z)[j]? = some (sumW (Z.drop j)) := by unfold restL; rw [List.getElem?_map, List.getElem?_range (by omega)]; rfl
/-- Blocks of other types than some have not turned. -/
structure Frs (ts : List TypeId) (w w' : World) : Prop where
  os : w'.os = w.os
  tape : w'.tape = w.tape
  output : w'.output = w.output
  size : w.heap.size ≤ w'.heap.size
  block : ∀ (k : Nat) (c : Array Value) (e : TypeId) (fz : Nat × Nat), w.heap[k]? = some (.cells c e fz) → e ∉ ts → w'.heap[k]? = some (.cells c e fz)
theorem Frs.refl (ts : List TypeId) (w : World) : Frs ts w w := ⟨rfl, rfl, rfl, Nat.le_refl _, fun _ _ _ _ h _ => h⟩
theorem Frs.trans {ts : List TypeId} {a b c : World} (h : Frs ts a b) (k : Frs ts b c) : Frs ts a c :=
  ⟨k.os.trans h.os, k.tape.trans h.tape, k.output.trans h.output, Nat.le_trans h.size k.size, fun i x e fz h1 h2 => k.block i x e fz (h.block i x e fz h1 h2) h2⟩
theorem frs_alloc (ts : List TypeId) (w : World) (o : Obj) : Frs ts w (w.alloc o) :=
  ⟨rfl, rfl, rfl, by simp, fun k c e fz h _ => by
    have hk : k < w.heap.size := (Array.getElem?_eq_some_iff.1 h).1
    exact (Below.heap_alloc w o k hk).trans h⟩
theorem frs_grown {ts : List TypeId} {w w' : World} {B size n : Nat} {t : TypeId} {v : Value} {xs : List Value} (h : w.ownsRow B t size v n xs) (hg : w.grownBy w' v.ownBlock) (ht : t ∈ ts) : Frs ts w w' :=
  ⟨hg.os, hg.tape, hg.output, hg.size, fun k c e fz hk he => by
    refine (hg.block k (Array.getElem?_eq_some_iff.1 hk).1 fun e2 => ?_).trans hk
    rcases h.2 with ⟨rfl, _⟩ | ⟨g, cap, cur, rfl, _, hgg, _⟩
    · cases e2
    · cases e2
      rw [hgg] at hk
      cases hk
      exact he ht⟩
theorem frs_set {ts : List TypeId} {w : World} {S : Nat} {t : TypeId} {cs : List Value} {i : Nat} {u : Value} (h : Blk w S t cs) (ht : t ∈ ts) : Frs ts w (w.setCell ⟨S, i, Option.none⟩ u) :=
  ⟨rfl, rfl, rfl, by simp [World.setCell], fun k c e fz hk he => by
    refine (Below.heap_setCell w _ u k (fun e2 => ?_)).trans hk
    have e3 : k = S := e2
    subst e3
    unfold Blk at h
    rw [h] at hk
    cases hk
    exact he ht⟩
theorem Blk.frs {ts : List TypeId} {w w' : World} {g : Nat} {t : TypeId} {cs : List Value} (h : Blk w g t cs) (hf : Frs ts w w') (ht : t ∉ ts) : Blk w' g t cs := hf.block _ _ _ _ h ht
/-- One level of the table: its rows lie in the blocks gs. -/
structure LevOk (w : World) (n1 : Nat) (x : Nat × Nat × List Nat) : Prop where
  len : x.2.2.length = n1
  row : ∃ cur : Array Value, w.heap[x.1]? = some (.cells cur 29 (0, 0)) ∧ cur.toList.take n1 = x.2.2.map fun g => slN g n1
  zero : ∀ g ∈ x.2.2, Blk w g 3 (ints (List.replicate n1 0))
theorem LevOk.frs {ts : List TypeId} {w w' : World} {n1 : Nat} {x : Nat × Nat × List Nat} (h : LevOk w n1 x) (hf : Frs ts w w') (h1 : 3 ∉ ts) (h2 : 29 ∉ ts) : LevOk w' n1 x := by
  obtain ⟨cur, hc, ht⟩ := h.row
  exact ⟨h.len, ⟨cur, hf.block _ _ _ _ hc h2, ht⟩, fun g hg => (h.zero g hg).frs hf h1⟩
theorem LevOk.below {B : Nat} {w w' : World} {n1 : Nat} {x : Nat × Nat × List Nat} (h : LevOk w n1 x) (hb : Below B w w') (hx : w.heap.size ≤ B) : LevOk w' n1 x := by
  obtain ⟨cur, hc, ht⟩ := h.row
  exact ⟨h.len, ⟨cur, (hb.block _ (by have := (Array.getElem?_eq_some_iff.1 hc).1; omega)).trans hc, ht⟩, fun g hg => (h.zero g hg).below hb (by have := (h.zero g hg).lt; omega)⟩
def lvV (n1 : Nat) (x : Nat × Nat × List Nat) : Value := .slice (some ⟨x.1, 0, Option.none⟩) n1 x.2.1
def flatG (lev : List (Nat × Nat × List Nat)) : List Nat := lev.flatMap fun x => x.2.2
structure Levs (w : World) (T n1 : Nat) (lev : List (Nat × Nat × List Nat)) : Prop where
  ok : ∀ x ∈ lev, LevOk w n1 x
  nodup : (flatG lev).Nodup
  range : ∀ g ∈ flatG lev, T < g ∧ g < w.heap.size
theorem Levs.nil (w : World) (T n1 : Nat) : Levs w T n1 [] := ⟨by simp, by simp [flatG], by simp [flatG]⟩
theorem flatG_snoc (lev : List (Nat × Nat × List Nat)) (x : Nat × Nat × List Nat) : flatG (lev ++ [x]) = flatG lev ++ x.2.2 := by simp [flatG]
theorem Levs.frs {ts : List TypeId} {w w' : World} {T n1 : Nat} {lev : List (Nat × Nat × List Nat)} (h : Levs w T n1 lev) (hf : Frs ts w w') (h1 : 3 ∉ ts) (h2 : 29 ∉ ts) : Levs w' T n1 lev :=
  ⟨fun x hx => (h.ok x hx).frs hf h1 h2, h.nodup, fun g hg => ⟨(h.range g hg).1, by have := (h.range g hg).2; have := hf.size; omega⟩⟩
theorem Levs.snoc {w w' : World} {T n1 : Nat} {lev : List (Nat × Nat × List Nat)} {x : Nat × Nat × List Nat} (h : Levs w T n1 lev) (hT : T < w.heap.size) (hb : Below w.heap.size w w') (hx : LevOk w' n1 x) (hn : x.2.2.Nodup) (hr : ∀ g ∈ x.2.2, w.heap.size ≤ g) : Levs w' T n1 (lev ++ [x]) := by
  refine ⟨fun y hy => ?_, ?_, fun g hg => ?_⟩
  · rcases List.mem_append.1 hy with h1 | h1
    · exact (h.ok y h1).below hb (Nat.le_refl _)
    · rw [List.mem_singleton] at h1; rw [h1]; exact hx
  · rw [flatG_snoc, List.nodup_append]
    refine ⟨h.nodup, hn, fun a ha b hbb e => ?_⟩
    have h1 := (h.range a ha).2
    have h2 := hr b hbb
    omega
  · rw [flatG_snoc, List.mem_append] at hg
    rcases hg with h1 | h1
    · have := h.range g h1
      have := hb.size
      omega
    · have := hr g h1
      have := (hx.zero g h1).lt
      omega
theorem Blk.heap_ne {w : World} {g h : Nat} {t t' : TypeId} {cs : List Value} {cur : Array Value} {fz : Nat × Nat} (hb : Blk w g t cs) (hh : w.heap[h]? = some (.cells cur t' fz)) (ht : t ≠ t') : g ≠ h := by
  rintro rfl
  unfold Blk at hb
  rw [hb] at hh
  cases hh
  exact ht rfl
end Go.Proofs.Ytabiobjcfopakaa
/- Contracts: the reference makes its table. -/
namespace Go.Proofs.Ytabiobjcfopakaa
open Go.RowKit
theorem info_rows : (Try.prog.info? 61).map (fun i => (i.zero, i.size, i.bytes)) = some (some (.slice Option.none 0 0), 1, 24) := by kernel_rfl
theorem zeros_len (n : Nat) : (zeros n).toList = ints (List.replicate n 0) := by simp [zeros, ints]
/-- What cmNew hands back. -/
def TabNew (Z : List Int) (r L : Nat) (w0 w : World) (T : Nat) : Prop := ∃ (K : Option Addr) (ck : Nat) (lev : List (Nat × Nat × List Nat)), w0.heap.size < T ∧ Blk w T 180 [slN w0.heap.size (Z.length + 1), .int .i64 (r : Int), .int .i64 (L : Int), .slice K (L + 1) ck] ∧
  Blk w w0.heap.size 3 (ints (restL Z)) ∧ lev.length = L + 1 ∧ w.ownsRow (T + 1) 61 1 (.slice K (L + 1) ck) (L + 1) (lev.map (lvV (Z.length + 1))) ∧ Levs w T (Z.length + 1) lev ∧ Below w0.heap.size w0 w
theorem restL_drop {Z : List Int} {k : Nat} (h : k ≤ Z.length) : (restL Z).drop k = sumW (Z.drop k) :: (restL Z).drop (k + 1) := by
  rw [List.drop_eq_getElem_cons (by rw [restL_len]; omega)]
  have := restL_at h
  rw [List.getElem?_eq_getElem (by rw [restL_len]; omega)] at this
  rw [Option.some.inj this]
set_option maxRecDepth 100000 in
set_option maxHeartbeats 16000000 in
theorem cmNew_any (Z : List Int) (r L : Nat) (v : Value) (hi : Nat) (w : World) (h : RdI w hi v Z) (hh : hi ≤ w.heap.size) (hZ : allB Z 0 10000 = true) (hn1 : 1 ≤ Z.length) (hn : Z.length ≤ 20) (hL : L ≤ 6) :
    Calls Try.prog 231 #[v, .int .i64 (r : Int), .int .i64 (L : Int)] w fun e w' => ∃ T, e = .returned (.pointer (some ⟨T, 0, Option.none⟩)) ∧ TabNew Z r L w w' T := by
  obtain ⟨A, c, rfl, hc, hm⟩ := Rd.form h
  have H := Lib.hid h
  clear h
  have hmk := make_ints (Z.length + 1) (by omega)
  rw [show ((Z.length + 1 : Nat) : Int) = (Z.length : Int) + 1 from rfl] at hmk
  have hsb : ∀ j, 0 ≤ sumW (Z.drop j) ∧ sumW (Z.drop j) ≤ 200000 := by
    intro j
    have hall : ∀ x ∈ Z, 0 ≤ x ∧ x ≤ 10000 := by unfold allB at hZ; rw [List.all_eq_true] at hZ; exact fun x hx => inB_iff.1 (hZ x hx)
    refine ⟨sumW_nonneg fun x hx => (hall x (List.mem_of_mem_drop hx)).1, ?_⟩
    have : ∀ l : List Int, (∀ x ∈ l, x ≤ 10000) → sumW l ≤ 10000 * l.length := by
      intro l
      induction l with
      | nil => intro _; simp [sumW]
      | cons x l ih =>
        intro hl
        have h1 := ih (fun y hy => hl y (by simp [hy]))
        have h2 := hl x (by simp)
        simp only [sumW, List.length_cons]
        omega
    have h1 := this (Z.drop j) (fun x hx => (hall x (List.mem_of_mem_drop hx)).2)
    rw [List.length_drop] at h1
    omega
  have HSB := Lib.hid hsb
  clear hsb
  go_enter Try.func231, Try.ntmps231
  go_wp2_with fail
  have HR0 : Hid (Blk ((w.alloc (.cells (zeros (Z.length + 1)) 3)).alloc (.cells #[slN w.heap.size (Z.length + 1), .int .i64 (r : Int), .int .i64 (L : Int), .slice Option.none 0 0] 180)) w.heap.size 3 (zerI Z.length ((restL Z).drop Z.length))) := by
    have h1 := Blk.alloc (Blk.new w 3 (zeros (Z.length + 1))) (.cells #[slN w.heap.size (Z.length + 1), .int .i64 (r : Int), .int .i64 (L : Int), .slice Option.none 0 0] 180)
    rw [zerI_start] at h1
    have e : zerI (Z.length + 1) [] = zerI Z.length ((restL Z).drop Z.length) := by
      have e1 : (restL Z).drop (Z.length + 1) = [] := List.drop_of_length_le (by rw [restL_len]; exact Nat.le_refl _)
      have e2 : Z.drop Z.length = [] := by simp
      rw [restL_drop (Nat.le_refl _), e1, e2]
      unfold zerI
      rw [List.replicate_succ']
      simp [sumW, ints]
    rw [e] at h1
    exact h1
  have hsz0 : (w.alloc (.cells (zeros (Z.length + 1)) 3)).heap.size = w.heap.size + 1 := by simp
  have HT0 : Hid (Blk ((w.alloc (.cells (zeros (Z.length + 1)) 3)).alloc (.cells #[slN w.heap.size (Z.length + 1), .int .i64 (r : Int), .int .i64 (L : Int), .slice Option.none 0 0] 180)) (w.heap.size + 1) 180 [slN w.heap.size (Z.length + 1), .int .i64 (r : Int), .int .i64 (L : Int), .slice Option.none 0 0]) := by
    have := Blk.new (w.alloc (.cells (zeros (Z.length + 1)) 3)) 180 #[slN w.heap.size (Z.length + 1), .int .i64 (r : Int), .int .i64 (L : Int), .slice Option.none 0 0]
    rw [hsz0] at this
    exact this
  have HB0 : Hid (Below w.heap.size w ((w.alloc (.cells (zeros (Z.length + 1)) 3)).alloc (.cells #[slN w.heap.size (Z.length + 1), .int .i64 (r : Int), .int .i64 (L : Int), .slice Option.none 0 0] 180))) := ((Below.refl _ _).alloc (Nat.le_refl _) _).alloc (by simp) _
  clear hsz0
  generalize ((w.alloc (.cells (zeros (Z.length + 1)) 3)).alloc (.cells #[slN w.heap.size (Z.length + 1), .int .i64 (r : Int), .int .i64 (L : Int), .slice Option.none 0 0] 180)) = w1 at HR0 HT0 HB0 ⊢
  go_loopw [8] (fun i wr => ∃ (k : Nat) (z : Int), k ≤ Z.length ∧ i = .int .i64 z ∧ z + 1 = (k : Int) ∧ Hid (Blk wr w.heap.size 3 (zerI k ((restL Z).drop k))) ∧ Hid (Blk wr (w.heap.size + 1) 180 [slN w.heap.size (Z.length + 1), .int .i64 (r : Int), .int .i64 (L : Int), .slice Option.none 0 0]) ∧ Hid (Below w.heap.size w wr)) (fun i _ => (intOf i + 1).toNat)
  case atStart => exact ⟨Z.length, _, Nat.le_refl _, rfl, by omega, HR0.out, HT0.out, HB0.out⟩
  case round =>
    obtain ⟨k, z, hk, rfl, hz, hbr, hbt, hbl⟩ := hrel
    rcases Nat.eq_zero_or_pos k with h0 | h0
    · subst h0
      obtain rfl : z = -1 := by omega
      clear hz
      have HRR : Hid (Blk wr w.heap.size 3 (ints (restL Z))) := hbr.out
      obtain ⟨T, hT⟩ : ∃ T, T = w.heap.size + 1 := ⟨_, rfl⟩
      rw [← hT] at hbt
      have hTw : T < wr.heap.size := hbt.out.lt
      have HTE := Lib.hid hT
      have hT0 : w.heap.size < T := by omega
      have HTV : Hid ((.pointer (some ⟨w.heap.size + 1, 0, Option.none⟩) : Value) = .pointer (some ⟨T, 0, Option.none⟩)) := by show _ = _; rw [hT]
      clear hbr
      go_wp2_with fail
      simp only [← hT]
      clear hT
      rename World => wq
      go_loopw [9] (fun i wr => ∃ (l : Nat) (K : Option Addr) (ck : Nat) (lev : List (Nat × Nat × List Nat)), i = .int .i64 (l : Int) ∧ l ≤ L + 1 ∧ Hid (lev.length = l) ∧ Hid (Blk wr T 180 [slN w.heap.size (Z.length + 1), .int .i64 (r : Int), .int .i64 (L : Int), .slice K l ck]) ∧
        Hid (Blk wr w.heap.size 3 (ints (restL Z))) ∧ Hid (wr.ownsRow (T + 1) 61 1 (.slice K l ck) l (lev.map (lvV (Z.length + 1)))) ∧ Hid (Levs wr T (Z.length + 1) lev) ∧ Hid (Below w.heap.size w wr)) (fun i _ => 7 - (intOf i).toNat)
      case atStart => exact ⟨0, Option.none, 0, [], rfl, by omega, rfl, hbt.out, HRR.out, World.ownsRow_nil _ _ _ _, Levs.nil _ _ _, hbl.out⟩
      case round =>
        obtain ⟨l, K, ck, lev, rfl, hlL, hll, hbt, hbr, how, hlv, hbl⟩ := hrel
        have hTr : T < wr.heap.size := hbt.out.lt
        by_cases hl6 : l ≤ L
        · have hl6i : (l : Int) ≤ (L : Int) := by omega
          rename World => wo
          go_wp2_with fail
          go_loopw [10, 11] (fun rv i wr => ∃ (k : Nat) (A5 : Option Addr) (c5 : Nat) (gs : List Nat), rv = .slice A5 k c5 ∧ i = .int .i64 (k : Int) ∧ k ≤ Z.length + 1 ∧ Hid (gs.length = k) ∧ Hid (wr.ownsRow wo.heap.size 29 1 (.slice A5 k c5) k (gs.map fun g => slN g (Z.length + 1))) ∧
            Hid (∀ g ∈ gs, Blk wr g 3 (ints (List.replicate (Z.length + 1) 0))) ∧ Hid gs.Nodup ∧ Hid (∀ g ∈ gs, wo.heap.size ≤ g ∧ g < wr.heap.size) ∧ Hid (Below wo.heap.size wo wr)) (fun _ i _ => 22 - (intOf i).toNat)
          case atStart => exact ⟨0, Option.none, 0, [], rfl, rfl, Nat.zero_le _, rfl, World.ownsRow_nil _ _ _ _, by intro g hg; simp at hg, List.nodup_nil, by intro g hg; simp at hg, Below.refl _ _⟩
          case round =>
            obtain ⟨k, A5, c5, gs, rfl, rfl, hkn, hgl, hrow, hz, hnd, hrg, hb5⟩ := hrel
            have hsw := hb5.out.size
            by_cases hk : k ≤ Z.length
            · have hki : (k : Int) ≤ (Z.length : Int) := by omega
              obtain ⟨ti, hti, htz, hts, htb⟩ := info_parts info_ints
              have hsz1 : (wr.alloc (.cells (zeros (Z.length + 1)) 3)).heap.size = wr.heap.size + 1 := by simp
              have HNEW : Hid (∀ j u, [slN wr.heap.size (Z.length + 1)][j]? = some u → ((wr.alloc (.cells (zeros (Z.length + 1)) 3)).alloc (.cells #[slN wr.heap.size (Z.length + 1)] 29)).cell? ((⟨wr.heap.size + 1, 0, Option.none⟩ : Addr).add j) = some u) := by
                have := one_cell (wr.alloc (.cells (zeros (Z.length + 1)) 3)) (slN wr.heap.size (Z.length + 1)) 29
                rw [hsz1] at this
                exact this
              have hsz2 : ((wr.alloc (.cells (zeros (Z.length + 1)) 3)).alloc (.cells #[slN wr.heap.size (Z.length + 1)] 29)).heap.size = wr.heap.size + 2 := by simp
              have HOW := Lib.hid ((hrow.out.alloc (.cells (zeros (Z.length + 1)) 3)).alloc (.cells #[slN wr.heap.size (Z.length + 1)] 29))
              have HFA : Hid (Frs [29] wr ((wr.alloc (.cells (zeros (Z.length + 1)) 3)).alloc (.cells #[slN wr.heap.size (Z.length + 1)] 29))) := (frs_alloc _ _ _).trans (frs_alloc _ _ _)
              have HGN : Hid (Blk ((wr.alloc (.cells (zeros (Z.length + 1)) 3)).alloc (.cells #[slN wr.heap.size (Z.length + 1)] 29)) wr.heap.size 3 (ints (List.replicate (Z.length + 1) 0))) := by
                have := Blk.alloc (Blk.new wr 3 (zeros (Z.length + 1))) (.cells #[slN wr.heap.size (Z.length + 1)] 29)
                rw [zeros_len] at this
                exact this
              have HBA := Lib.hid ((hb5.out.alloc hsw (.cells (zeros (Z.length + 1)) 3)).alloc (by simp; omega) (.cells #[slN wr.heap.size (Z.length + 1)] 29))
              have HSZ2 := Lib.hid hsz2
              clear hsz1 hsz2
              go_wp2_with (at_builtin; refine wpList_append_own _ rfl (.tmp 57) (.tmp 62) 61 rfl wo.heap.size 29 ti (.slice Option.none 0 0) 1 24 Try.underlying61 hti htz hts htb rfl (by decide) (.slice A5 k c5) k (gs.map fun g => slN g (Z.length + 1)) rfl HOW.out ⟨wr.heap.size + 1, 0, Option.none⟩ 1 1 [slN wr.heap.size (Z.length + 1)] rfl rfl HNEW.out (by intro u hu; simp at hu; subst hu; rfl) (by unfold maxLen; omega) (by omega) (by rw [HSZ2.out]; omega) ?_; intro v6 w6 ho6 hg6 _)
              obtain ⟨h6, c6, rfl⟩ : ∃ h6 c6, v6 = .slice (some ⟨h6, 0, Option.none⟩) (k + 1) c6 := by
                rcases ho6.2 with ⟨_, e⟩ | ⟨g, cap, cur, e, _⟩
                · omega
                · exact ⟨g, cap, e⟩
              have hf6 : Frs [29] wr w6 := HFA.out.trans (frs_grown HOW.out hg6 (by simp))
              have hgn6 := HGN.out.frs (frs_grown HOW.out hg6 (ts := [29]) (by simp)) (by decide)
              have HB6 := Lib.hid (HBA.out.grown hg6 (by rw [HSZ2.out]; omega) (fun g hg => (HOW.out.lt g hg).1))
              have HF6 := Lib.hid hf6
              have HG6 : Hid (∀ g ∈ gs ++ [wr.heap.size], Blk w6 g 3 (ints (List.replicate (Z.length + 1) 0))) := by
                intro g hg
                rcases List.mem_append.1 hg with h1 | h1
                · exact (hz.out g h1).frs hf6 (by decide)
                · rw [List.mem_singleton] at h1; rw [h1]; exact hgn6
              have HS6 : Hid (wr.heap.size + 2 ≤ w6.heap.size) := by have := hg6.size; rw [HSZ2.out] at this; exact this
              have HO6 : Hid (w6.ownsRow wo.heap.size 29 1 (.slice (some ⟨h6, 0, Option.none⟩) (k + 1) c6) (k + 1) ((gs ++ [wr.heap.size]).map fun g => slN g (Z.length + 1))) := by
                rw [List.map_append]; exact ho6
              clear ho6 hg6 hf6 hgn6
              go_wp2_with fail
              go_roundw
              case rel => exact ⟨k + 1, _, c6, gs ++ [wr.heap.size], rfl, by go_num, by omega, by show _ = _; rw [List.length_append, hgl.out]; rfl, HO6.out, HG6.out, by show List.Nodup _; rw [List.nodup_append]; exact ⟨hnd.out, by simp, fun a ha b hbb e => by rw [List.mem_singleton] at hbb; have := (hrg.out a ha).2; omega⟩, fun g hg => by
                have hs6 := HS6.out
                rcases List.mem_append.1 hg with h1 | h1
                · have := hrg.out g h1; omega
                · rw [List.mem_singleton] at h1; omega, HB6.out⟩
              case measure => (simp [intOf]; try omega)
            · obtain rfl : k = Z.length + 1 := by omega
              have hno : ¬ ((Z.length : Int) + 1 ≤ (Z.length : Int)) := by omega
              obtain ⟨h5, rfl, hc5, cur5, hcur5, htk5⟩ : ∃ h5, A5 = some ⟨h5, 0, Option.none⟩ ∧ Z.length + 1 ≤ c5 ∧ ∃ cur : Array Value, wr.heap[h5]? = some (.cells cur 29 (0, 0)) ∧ cur.toList.take (Z.length + 1) = gs.map fun g => slN g (Z.length + 1) := by
                rcases hrow.out.2 with ⟨_, e⟩ | ⟨g, cap, cur, e, _, hgg, h1, _, _, h2⟩
                · omega
                · cases e; exact ⟨g, rfl, h1, cur, hgg, by rw [← h2, Nat.mul_one]⟩
              obtain ⟨x, hx⟩ : ∃ x : Nat × Nat × List Nat, x = (h5, c5, gs) := ⟨_, rfl⟩
              have HLX : Hid (LevOk wr (Z.length + 1) x) := by rw [hx]; exact ⟨hgl.out, ⟨cur5, hcur5, htk5⟩, hz.out⟩
              have HLS : Hid (Levs wr T (Z.length + 1) (lev ++ [x])) := hlv.out.snoc hTr hb5.out HLX.out (by rw [hx]; exact hnd.out) (by rw [hx]; exact fun g hg => (hrg.out g hg).1)
              have HXV : Hid (lvV (Z.length + 1) x = .slice (some ⟨h5, 0, Option.none⟩) (Z.length + 1) c5) := by show _ = _; rw [hx]; rfl
              have hbt2 := hbt.out.below hb5.out hTr
              have HBR2 := Lib.hid (hbr.out.below hb5.out (by omega))
              have how2 := owns_below how.out (hi := wo.heap.size) (fun k hk => (how.out.lt k hk).2) hb5.out (Nat.le_refl _)
              obtain ⟨ti, hti, htz, hts, htb⟩ := info_parts info_rows
              have HOW2 := Lib.hid (how2.alloc (.cells #[.slice (some ⟨h5, 0, Option.none⟩) (Z.length + 1) c5] 61))
              have q3 := hbt2.cell 3
              have q3a := (Blk.alloc hbt2 (.cells #[.slice (some ⟨h5, 0, Option.none⟩) (Z.length + 1) c5] 61)).cell 3
              simp only [List.getElem?_cons_zero, List.getElem?_cons_succ] at q3 q3a
              have HBT2 := Lib.hid hbt2
              have HBL2 := Lib.hid (hbl.out.trans (hb5.out.mono (by have := hbl.out.size; omega)))
              clear hx hbt2 how2 hcur5 htk5
              go_wp2_with (at_builtin; refine wpList_append_own _ rfl (.tmp 68) (.tmp 70) 178 rfl (T + 1) 61 ti (.slice Option.none 0 0) 1 24 Try.underlying178 hti htz hts htb rfl (by decide) (.slice K l ck) l (lev.map (lvV (Z.length + 1))) rfl HOW2.out ⟨wr.heap.size, 0, Option.none⟩ 1 1 [.slice (some ⟨h5, 0, Option.none⟩) (Z.length + 1) c5] rfl rfl (one_cell _ _ _) (by intro u hu; simp at hu; subst hu; rfl) (by unfold maxLen; omega) (by omega) (by simp; omega) ?_; intro v6 w6 ho6 hg6 _; obtain ⟨h6, c6, rfl⟩ : ∃ h6 c6, v6 = .slice (some ⟨h6, 0, Option.none⟩) (l + 1) c6 := by { rcases ho6.2 with ⟨_, e⟩ | ⟨g, cap, cur, e, _⟩; exact absurd e (by omega); exact ⟨g, cap, e⟩ }; have hf6 : Frs [61, 180] wr w6 := (frs_alloc _ _ _).trans (frs_grown HOW2.out hg6 (by simp)); have hbt6 : Blk w6 T 180 [slN w.heap.size (Z.length + 1), .int .i64 (r : Int), .int .i64 (L : Int), .slice K l ck] := (HBT2.out.alloc _).frs (frs_grown HOW2.out hg6 (ts := [61]) (by simp)) (by decide); have p3 := hbt6.cell 3; have pf3 := hbt6.frozen 3; simp only [List.getElem?_cons_zero, List.getElem?_cons_succ] at p3; have HBT6 := Lib.hid hbt6; have HF6 := Lib.hid hf6; have HO6 := Lib.hid ho6; have HG6 := Lib.hid hg6; clear hbt6 hf6 ho6 hg6)
              have HSS : Hid (Frs [61, 180] wr (w6.setCell ⟨T, 3, Option.none⟩ (.slice (some ⟨h6, 0, Option.none⟩) (l + 1) c6))) := HF6.out.trans (frs_set HBT6.out (by simp))
              have HBT7 : Hid (Blk (w6.setCell ⟨T, 3, Option.none⟩ (.slice (some ⟨h6, 0, Option.none⟩) (l + 1) c6)) T 180 [slN w.heap.size (Z.length + 1), .int .i64 (r : Int), .int .i64 (L : Int), .slice (some ⟨h6, 0, Option.none⟩) (l + 1) c6]) := HBT6.out.set_ 3 _
              have HO7 : Hid ((w6.setCell ⟨T, 3, Option.none⟩ (.slice (some ⟨h6, 0, Option.none⟩) (l + 1) c6)).ownsRow (T + 1) 61 1 (.slice (some ⟨h6, 0, Option.none⟩) (l + 1) c6) (l + 1) ((lev ++ [x]).map (lvV (Z.length + 1)))) := by
                rw [List.map_append, List.map_singleton, HXV.out]
                exact HO6.out.kept (grown_set (w := w6) (p := ⟨T, 3, Option.none⟩) rfl _) (.inr fun e => by have := (HO6.out.lt T e).1; omega)
              have HBL7 : Hid (Below w.heap.size w (w6.setCell ⟨T, 3, Option.none⟩ (.slice (some ⟨h6, 0, Option.none⟩) (l + 1) c6))) := by
                have h1 : Below w.heap.size w (wr.alloc (.cells #[.slice (some ⟨h5, 0, Option.none⟩) (Z.length + 1) c5] 61)) := HBL2.out.alloc (by omega) _
                exact (h1.grown HG6.out (by simp; omega) (fun k hk => by have := (HOW2.out.lt k hk).1; omega)).setCell (p := ⟨T, 3, Option.none⟩) (by show w.heap.size ≤ T; omega) _
              go_wp2_with fail
              go_roundw
              case rel => exact ⟨l + 1, _, c6, lev ++ [x], by go_num, by omega, by show _ = _; rw [List.length_append, hll.out]; rfl, HBT7.out, HBR2.out.frs HSS.out (by decide), HO7.out, HLS.out.frs HSS.out (by decide) (by decide), HBL7.out⟩
              case measure => (simp [intOf]; try omega)
        · obtain rfl : l = L + 1 := by omega
          have hno : ¬ ((L : Int) + 1 ≤ (L : Int)) := by omega
          go_wp2_with fail
          go_ret
          exact ⟨T, rfl, K, ck, lev, hT0, hbt.out, hbr.out, hll.out, how.out, hlv.out, hbl.out⟩
    · obtain ⟨s, rfl⟩ : ∃ s, k = s + 1 := ⟨k - 1, by omega⟩
      obtain rfl : z = (s : Int) := by omega
      clear hz h0
      obtain ⟨b1, o1, c1, hv, hb1h, hcl⟩ := RdI.getD (RdI.below H.out hbl.out hh) (show s < Z.length by omega)
      cases hv
      obtain ⟨x, hx⟩ : ∃ x, x = Z.getD s 0 := ⟨_, rfl⟩
      rw [← hx] at hcl
      obtain ⟨y, hy⟩ : ∃ y, y = sumW (Z.drop (s + 1)) := ⟨_, rfl⟩
      have hq0 := hbt.out.cell 0
      simp only [List.getElem?_cons_zero] at hq0
      have hr1 := hbr.out.cell (s + 1)
      have hr0 := hbr.out.cell s
      rw [zerI_at] at hr0
      rw [show (zerI (s + 1) ((restL Z).drop (s + 1)))[s + 1]? = some (.int .i64 y) by rw [restL_drop (by omega), ← hy]; unfold zerI; rw [List.getElem?_append_right (by simp)]; simp [ints]] at hr1
      have hfz := hbr.out.frozen s
      have hsum : sumW (Z.drop s) = y + x := by
        rw [List.drop_eq_getElem_cons (show s < Z.length by omega), hy, hx]
        simp only [sumW]
        rw [List.getD_eq_getElem?_getD, List.getElem?_eq_getElem (show s < Z.length by omega)]
        simp; omega
      have hb1' := HSB.out s
      have hb2' := HSB.out (s + 1)
      rw [hsum] at hb1'
      rw [← hy] at hb2'
      have HNX : Hid (Blk (wr.setCell ⟨w.heap.size, s, Option.none⟩ (.int .i64 (y + x))) w.heap.size 3 (zerI s ((restL Z).drop s))) := by
        have h1 := hbr.out.set_ s (.int .i64 (y + x))
        rw [zerI_set, ← hsum, ← restL_drop (by omega)] at h1
        rw [← hsum]
        exact h1
      have HTX : Hid (Blk (wr.setCell ⟨w.heap.size, s, Option.none⟩ (.int .i64 (y + x))) (w.heap.size + 1) 180 [slN w.heap.size (Z.length + 1), .int .i64 (r : Int), .int .i64 (L : Int), .slice Option.none 0 0]) := hbt.out.far (p := ⟨w.heap.size, s, Option.none⟩) (by show w.heap.size + 1 ≠ w.heap.size; omega) _
      have HBX := Lib.hid (hbl.out.setCell (p := ⟨w.heap.size, s, Option.none⟩) (Nat.le_refl _) (.int .i64 (y + x)))
      have hs1 : (s : Int) < (Z.length : Int) := by omega
      have hs2 : (s : Int) + 1 < (Z.length : Int) + 1 := by omega
      have hsz : (s : Int) < (Z.length : Int) + 1 := by omega
      clear hx hy hsum
      go_wp2_with fail
      go_region
      all_goals
        go_wp2_with fail
        go_roundw
        case rel => exact ⟨s, _, by omega, rfl, by omega, HNX.out, HTX.out, HBX.out.trans (bel_drewN _ _ 1)⟩
        case measure => (simp [intOf]; try omega)
end Go.Proofs.Ytabiobjcfopakaa
/- Contracts: the least cost by the table of the reference. -/
namespace Go.Proofs.Ytabiobjcfopakaa
open Go.RowKit
def levAt (lev : List (Nat × Nat × List Nat)) (l : Nat) : Nat × Nat × List Nat := lev.getD l (0, 0, [])
def gAt (lev : List (Nat × Nat × List Nat)) (l d : Nat) : Nat := (levAt lev l).2.2.getD d 0
/-- Only blocks of the table's rows have turned. -/
structure FrG (gs : List Nat) (w w' : World) : Prop where
  os : w'.os = w.os
  tape : w'.tape = w.tape
  output : w'.output = w.output
  size : w'.heap.size = w.heap.size
  block : ∀ k, k ∉ gs → w'.heap[k]? = w.heap[k]?
theorem FrG.refl (gs : List Nat) (w : World) : FrG gs w w := ⟨rfl, rfl, rfl, rfl, fun _ _ => rfl⟩
theorem FrG.trans {gs : List Nat} {a b c : World} (h : FrG gs a b) (k : FrG gs b c) : FrG gs a c :=
  ⟨k.os.trans h.os, k.tape.trans h.tape, k.output.trans h.output, k.size.trans h.size, fun i hi => (k.block i hi).trans (h.block i hi)⟩
theorem frG_set {gs : List Nat} (w : World) {g i : Nat} (hg : g ∈ gs) (u : Value) : FrG gs w (w.setCell ⟨g, i, Option.none⟩ u) :=
  ⟨rfl, rfl, rfl, by simp [World.setCell], fun k hk => Below.heap_setCell _ _ _ _ (fun e => hk (by rw [e]; exact hg))⟩
theorem frG_drewN (gs : List Nat) (w : World) (n : Nat) : FrG gs w (w.drewN n) := ⟨rfl, rfl, rfl, rfl, fun _ _ => rfl⟩
structure Tbl (w : World) (T Rb k0 ck : Nat) (Z : List Int) (r L : Nat) (lev : List (Nat × Nat × List Nat)) (f : Nat → Nat → Nat → Int) : Prop where
  blk : Blk w T 180 [slN Rb (Z.length + 1), .int .i64 (r : Int), .int .i64 (L : Int), .slice (some ⟨k0, 0, Option.none⟩) (L + 1) ck]
  rest : Blk w Rb 3 (ints (restL Z))
  outer : ∀ l, l ≤ L → w.cell? ⟨k0, l, Option.none⟩ = some (lvV (Z.length + 1) (levAt lev l))
  mid : ∀ l d, l ≤ L → d ≤ Z.length → w.cell? ⟨(levAt lev l).1, d, Option.none⟩ = some (slN (gAt lev l d) (Z.length + 1))
  rows : ∀ l d, l ≤ L → d ≤ Z.length → Blk w (gAt lev l d) 3 (ints ((List.range (Z.length + 1)).map (f l d)))
  mem : ∀ l d, l ≤ L → d ≤ Z.length → gAt lev l d ∈ flatG lev
  inj : ∀ l d l' d', l ≤ L → d ≤ Z.length → l' ≤ L → d' ≤ Z.length → gAt lev l d = gAt lev l' d' → l = l' ∧ d = d'
  far : ∀ g ∈ flatG lev, g ≠ T ∧ g ≠ Rb ∧ g ≠ k0 ∧ ∀ l, l ≤ L → g ≠ (levAt lev l).1
def upd (f : Nat → Nat → Nat → Int) (l d i : Nat) (v : Int) : Nat → Nat → Nat → Int := fun l' d' i' => if l' = l ∧ d' = d ∧ i' = i then v else f l' d' i'
theorem map_upd {f : Nat → Int} {n i : Nat} {v : Int} : ((List.range n).map f).set i v = (List.range n).map fun j => if j = i then v else f j := by
  refine List.ext_getElem (by simp) fun j h1 h2 => ?_
  rw [List.getElem_set]
  simp only [List.getElem_map, List.getElem_range]
  by_cases e : i = j
  · rw [if_pos e, if_pos e.symm]
  · rw [if_neg e, if_neg (fun h => e h.symm)]
theorem cell_far {w : World} {g i b o : Nat} {u v : Value} (h : w.cell? ⟨b, o, Option.none⟩ = some v) (hne : g ≠ b) : (w.setCell ⟨g, i, Option.none⟩ u).cell? ⟨b, o, Option.none⟩ = some v := by
  unfold World.cell? at h ⊢
  rw [Below.heap_setCell w _ u b (fun e => hne e.symm)]
  exact h
theorem Tbl.set {w : World} {T Rb k0 ck : Nat} {Z : List Int} {r L : Nat} {lev : List (Nat × Nat × List Nat)} {f : Nat → Nat → Nat → Int} (h : Tbl w T Rb k0 ck Z r L lev f) {l d i : Nat} (hl : l ≤ L) (hd : d ≤ Z.length) (v : Int) :
    Tbl (w.setCell ⟨gAt lev l d, i, Option.none⟩ (.int .i64 v)) T Rb k0 ck Z r L lev (upd f l d i v) := by
  have hg := h.far _ (h.mem l d hl hd)
  refine ⟨h.blk.far (p := ⟨gAt lev l d, i, Option.none⟩) (fun e => hg.1 e.symm) _, h.rest.far (p := ⟨gAt lev l d, i, Option.none⟩) (fun e => hg.2.1 e.symm) _, fun l' hl' => cell_far (h.outer l' hl') hg.2.2.1, fun l' d' hl' hd' => cell_far (h.mid l' d' hl' hd') (hg.2.2.2 l' hl'), fun l' d' hl' hd' => ?_, h.mem, h.inj, h.far⟩
  by_cases e : l' = l ∧ d' = d
  · obtain ⟨rfl, rfl⟩ := e
    have h1 := (h.rows l' d' hl' hd').set_ i (.int .i64 v)
    have h2 : (ints ((List.range (Z.length + 1)).map (f l' d'))).set i (.int .i64 v) = ints ((List.range (Z.length + 1)).map (upd f l' d' i v l' d')) := by
      unfold ints
      rw [← List.map_set, map_upd]
      simp [upd]
    rw [h2] at h1
    exact h1
  · have h1 := (h.rows l' d' hl' hd').far (p := ⟨gAt lev l d, i, Option.none⟩) (fun e2 => e (h.inj l' d' l d hl' hd' hl hd e2)) (.int .i64 v)
    have h2 : upd f l d i v l' d' = f l' d' := by
      funext j
      unfold upd
      rw [if_neg (fun h => e ⟨h.1, h.2.1⟩)]
    rw [h2]
    exact h1
theorem Tbl.cell {w : World} {T Rb k0 ck : Nat} {Z : List Int} {r L : Nat} {lev : List (Nat × Nat × List Nat)} {f : Nat → Nat → Nat → Int} (h : Tbl w T Rb k0 ck Z r L lev f) {l d i : Nat} (hl : l ≤ L) (hd : d ≤ Z.length) (hi : i ≤ Z.length) :
    w.cell? ⟨gAt lev l d, i, Option.none⟩ = some (.int .i64 (f l d i)) := by
  rw [(h.rows l d hl hd).cell i]
  unfold ints
  rw [List.getElem?_map, List.getElem?_map, List.getElem?_range (by omega)]; rfl
theorem Tbl.restc {w : World} {T Rb k0 ck : Nat} {Z : List Int} {r L : Nat} {lev : List (Nat × Nat × List Nat)} {f : Nat → Nat → Nat → Int} (h : Tbl w T Rb k0 ck Z r L lev f) {d : Nat} (hd : d ≤ Z.length) : w.cell? ⟨Rb, d, Option.none⟩ = some (.int .i64 (sumW (Z.drop d))) := by
  rw [h.rest.cell d]
  unfold ints
  rw [List.getElem?_map, restL_at hd]; rfl
/-- What stands in the table is right. -/
def InvT (Z : List Int) (r L : Nat) (f : Nat → Nat → Nat → Int) : Prop := ∀ l d i, 1 ≤ l → l ≤ L → d ≤ Z.length → i ≤ Z.length - d → f l d i = 0 ∨ f l d i = relC r L (Z.drop d) l i + 1
theorem InvT.set {Z : List Int} {r L : Nat} {f : Nat → Nat → Nat → Int} (h : InvT Z r L f) {l d i : Nat} {v : Int} (hv : v = relC r L (Z.drop d) l i + 1) : InvT Z r L (upd f l d i v) := by
  intro l' d' i' h1 h2 h3 h4
  unfold upd
  split
  · rename_i e
    obtain ⟨rfl, rfl, rfl⟩ := e
    exact .inr hv
  · exact h l' d' i' h1 h2 h3 h4
/-- Worlds behind calls that fill the table. -/
structure LaterX (w : World) (T Rb k0 ck : Nat) (Z : List Int) (r L : Nat) (lev : List (Nat × Nat × List Nat)) where
  val : World
  f : Nat → Nat → Nat → Int
  tbl : Tbl val T Rb k0 ck Z r L lev f
  inv : InvT Z r L f
  fr : FrG (flatG lev) w val
theorem Tbl.drewN {w : World} {T Rb k0 ck : Nat} {Z : List Int} {r L : Nat} {lev : List (Nat × Nat × List Nat)} {f : Nat → Nat → Nat → Int} (h : Tbl w T Rb k0 ck Z r L lev f) (n : Nat) : Tbl (w.drewN n) T Rb k0 ck Z r L lev f :=
  ⟨h.blk, h.rest, h.outer, h.mid, h.rows, h.mem, h.inj, h.far⟩
def PostX (w : World) (T Rb k0 ck : Nat) (Z : List Int) (r L : Nat) (lev : List (Nat × Nat × List Nat)) (v : Int) (e : Ending) (w' : World) : Prop := e = .returned (.int .i64 v) ∧ ∃ x : LaterX w T Rb k0 ck Z r L lev, w' = x.val
section
variable {w : World} {T Rb k0 ck : Nat} {Z : List Int} {r L : Nat} {lev : List (Nat × Nat × List Nat)}
theorem wp_region_laterX {P : Program} {id : Nat} {Q : Exit → Act → World → Prop} {a : Act} {l : List Oper} {f : Nat → Nat → Nat → Int} (ht : Tbl w T Rb k0 ck Z r L lev f) (hi : InvT Z r L f) (hm : P.follows .mixedOrders = true) (hB : Region.lexB .any l.toArray = true)
    (h : wpQuiet P l.toArray (fun w' => ∃ x : LaterX w T Rb k0 ck Z r L lev, w' = x.val) (fun a' => ∀ w', (∃ x : LaterX w T Rb k0 ck Z r L lev, w' = x.val) → Q .normal a' w') l a) : (Code.region id l.toArray true).wp P Q a w :=
  wp_region_quiet (C := fun w' => ∃ x : LaterX w T Rb k0 ck Z r L lev, w' = x.val) hm hB ⟨⟨_, f, ht.drewN 1, hi, frG_drewN _ _ _⟩, rfl⟩ (by simpa using h)
theorem laterX_nil {P : Program} {ops : Array Oper} {C : World → Prop} {a : Act} {Q : Act → World → Prop}
    (h : ∀ x : LaterX w T Rb k0 ck Z r L lev, Q a x.val) : wpQuiet P ops C (fun a' => ∀ w', (∃ x : LaterX w T Rb k0 ck Z r L lev, w' = x.val) → Q a' w') [] a :=
  wpQuiet_nil fun _ ⟨x, e⟩ => e ▸ h x
theorem laterX_of {P : Program} {fn : FuncId} {args : Array Value} {x : LaterX w T Rb k0 ck Z r L lev} {v : Int} (h : Calls P fn args x.val (PostX x.val T Rb k0 ck Z r L lev v)) :
    Calls P fn args x.val fun e w'' => e = .returned (.int .i64 v) ∧ ∃ y : LaterX w T Rb k0 ck Z r L lev, w'' = y.val :=
  h.mono fun _ _ ⟨he, y, hy⟩ => ⟨he, ⟨y.val, y.f, y.tbl, y.inv, x.fr.trans y.fr⟩, hy⟩
theorem laterX_same {P : Program} {fn : FuncId} {args : Array Value} {x : LaterX w T Rb k0 ck Z r L lev} {v : Value} (h : Calls P fn args x.val fun e w' => e = .returned v ∧ x.val = w') :
    Calls P fn args x.val fun e w'' => e = .returned v ∧ ∃ y : LaterX w T Rb k0 ck Z r L lev, w'' = y.val :=
  h.mono fun _ _ ⟨he, hb⟩ => ⟨he, x, hb.symm⟩
end
theorem l1LeastI_any (a b : Int) (w : World) : Calls Try.prog 232 #[.int .i64 a, .int .i64 b] w fun e w' => e = .returned (.int .i64 (min a b)) ∧ w = w' := by
  by_cases h : a < b
  · go_enter Try.func232, Try.ntmps232
    go_wp2
    go_ret
    exact ⟨ret_int (by omega), rfl⟩
  · go_enter Try.func232, Try.ntmps232
    go_wp2
    go_ret
    exact ⟨ret_int (by omega), rfl⟩
set_option maxRecDepth 100000 in
set_option maxHeartbeats 4000000 in
theorem with_any {T Rb k0 ck : Nat} {Z : List Int} {r L : Nat} {lev : List (Nat × Nat × List Nat)} {f : Nat → Nat → Nat → Int} {l d fr t : Nat} (w : World) (ht : Tbl w T Rb k0 ck Z r L lev f) (hi : InvT Z r L f) (hl : l ≤ L) (hL : L ≤ 6) (hd : d ≤ Z.length) (hn : Z.length ≤ 20) (hr : r ≤ 60) (hf : fr ≤ 20) (htf : t ≤ fr) (hdt : d + t ≤ Z.length)
    (hs : 0 ≤ sumW (Z.drop d) ∧ sumW (Z.drop d) ≤ 200000) (hrc : 0 ≤ relC r L (Z.drop (d + t)) (l + 1) ((fr - t) * r) ∧ relC r L (Z.drop (d + t)) (l + 1) ((fr - t) * r) ≤ 1000000000)
    (hc : ∀ x : LaterX w T Rb k0 ck Z r L lev, Calls Try.prog 233 #[.pointer (some ⟨T, 0, Option.none⟩), .int .i64 ((l + 1 : Nat) : Int), .int .i64 ((d + t : Nat) : Int), .int .i64 (((fr - t) * r : Nat) : Int)] x.val (PostX x.val T Rb k0 ck Z r L lev (relC r L (Z.drop (d + t)) (l + 1) ((fr - t) * r)))) :
    Calls Try.prog 234 #[.pointer (some ⟨T, 0, Option.none⟩), .int .i64 (l : Int), .int .i64 (d : Int), .int .i64 (fr : Int), .int .i64 (t : Int)] w (PostX w T Rb k0 ck Z r L lev (withC r L (Z.drop d) l fr t)) := by
  have hne : Nonempty (LaterX w T Rb k0 ck Z r L lev) := ⟨⟨w, f, ht, hi, FrG.refl _ _⟩⟩
  have hT0 : ∀ x : LaterX w T Rb k0 ck Z r L lev, x.val.cell? ⟨T, 0, Option.none⟩ = some (slN Rb (Z.length + 1)) := fun x => x.tbl.blk.cell 0
  have hT1 : ∀ x : LaterX w T Rb k0 ck Z r L lev, x.val.cell? ⟨T, 1, Option.none⟩ = some (.int .i64 (r : Int)) := fun x => x.tbl.blk.cell 1
  obtain ⟨y, hy⟩ : ∃ y, y = sumW (Z.drop d) := ⟨_, rfl⟩
  have hRc : ∀ x : LaterX w T Rb k0 ck Z r L lev, x.val.cell? ⟨Rb, d, Option.none⟩ = some (.int .i64 y) := fun x => by rw [hy]; exact x.tbl.restc hd
  obtain ⟨q, hq⟩ : ∃ q, q = relC r L (Z.drop (d + t)) (l + 1) ((fr - t) * r) := ⟨_, rfl⟩
  have HV : Hid (withC r L (Z.drop d) l fr t = min 1000000000 (y + q)) := by
    show _ = _
    unfold withC
    rw [List.drop_drop, hy, hq]
  rw [← hy] at hs
  rw [← hq] at hrc hc
  obtain ⟨m, hm⟩ : ∃ m, m = fr - t := ⟨_, rfl⟩
  have hsub : (fr : Int) - (t : Int) = (m : Int) := by omega
  have HM : Hid ((m : Int) * (r : Int) = (((fr - t) * r : Nat) : Int)) := by show _ = _; rw [hm]; simp
  have hmb : 0 ≤ (m : Int) * (r : Int) ∧ (m : Int) * (r : Int) ≤ 1200 := by
    have h1 : m * r ≤ 20 * 60 := Nat.mul_le_mul (by omega) hr
    have h2 : (m : Int) * (r : Int) = ((m * r : Nat) : Int) := by simp
    rw [h2]
    omega
  have CC : Hid (∀ x : LaterX w T Rb k0 ck Z r L lev, Calls Try.prog 233 #[.pointer (some ⟨T, 0, Option.none⟩), .int .i64 ((l : Int) + 1), .int .i64 ((d : Int) + (t : Int)), .int .i64 ((m : Int) * (r : Int))] x.val (PostX x.val T Rb k0 ck Z r L lev q)) := by
    intro x
    have := hc x
    rw [← HM.out] at this
    exact this
  have HT := Lib.hid ht
  have HI := Lib.hid hi
  have hdi : (d : Int) < (Z.length : Int) + 1 := by omega
  clear ht hi hc hy hq hm
  go_enter Try.func234, Try.ntmps234
  go_wp2_with fail
  refine wp_region_laterX HT.out HI.out (by kernel_rfl) (by kernel_rfl) ?_
  (repeat (go_big_quiet_step ((first | (go_at_call 233; exact laterX_of (CC.out _)) | (go_at_call 232; exact laterX_same (l1LeastI_any _ _ _))))))
  refine laterX_nil ?_
  intro x
  go_wp2_with fail
  go_ret
  exact ⟨by rw [HV.out]; rfl, x, rfl⟩
end Go.Proofs.Ytabiobjcfopakaa
