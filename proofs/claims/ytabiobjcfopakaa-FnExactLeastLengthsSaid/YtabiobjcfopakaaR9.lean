/- Contracts: the search goes on from a list of lengths. -/
import Derived.Test.YtabiobjcfopakaaR8
import Derived.BigQuiet
import Derived.Lib.SliceRun
import Derived.Deep.QuietTactic
namespace Go.Proofs.Ytabiobjcfopakaa
open Go.RowKit
theorem pick_next {bs : Cand} {acc : List Nat} {cost w cost2 : Int} {r L m fr room k room2 : Nat} {ws : List Int} (h : r ^ (L - m) ≤ room) (hm : m = fr + k) (hc : cost2 = cost + w * (m : Int)) (hr : room2 = room - r ^ (L - m)) :
    pickC (pickC bs (addC acc cost (bstTo r L w ws fr room k))) (addC (acc ++ [m]) cost2 (bst r L ws m room2)) = pickC bs (addC acc cost (bstTo r L w ws fr room (k + 1))) := by
  subst hm
  rw [bstTo_yes h, addC_pick, addC_add, pickC_assoc, ← hc, ← hr]
theorem pick_skip {bs : Cand} {acc : List Nat} {cost w : Int} {r L m fr room k : Nat} {ws : List Int} (h : ¬ r ^ (L - m) ≤ room) (hm : m = fr + k) :
    pickC bs (addC acc cost (bstTo r L w ws fr room k)) = pickC bs (addC acc cost (bstTo r L w ws fr room (k + 1))) := by
  subst hm
  rw [bstTo_no h]
theorem addC_nilS {acc : List Nat} {cost : Int} : addC acc cost (some ([], 0)) = some (acc, cost) := by simp [addC]
def PostS (w0 : World) (B S bw cw : Nat) (W : List Int) (r L : Nat) (acc : List Nat) (bs : Cand) (e : Ending) (w' : World) : Prop := (∃ z, e = .returned z) ∧ ∃ A ca bv least, Srch w0 w' B S bw cw W r L A ca bv least acc bs
theorem drop_cons {W ws : List Int} {x : Int} {k : Nat} (h : W.drop k = x :: ws) : W[k]? = some x ∧ W.drop (k + 1) = ws := by
  have h1 : (W.drop k)[0]? = some x := by rw [h]; rfl
  rw [List.getElem?_drop, Nat.add_zero] at h1
  refine ⟨h1, ?_⟩
  rw [← List.drop_drop, h]; rfl
set_option maxRecDepth 100000 in
set_option maxHeartbeats 16000000 in
theorem goOn_any {B S bw cw r L : Nat} {W : List Int} {w0 : World} (hr : r ≤ 60) (hL1 : 1 ≤ L) (hL : L ≤ 6) (hW : allB W 0 10000 = true) (hn1 : 1 ≤ W.length) (hn : W.length ≤ 20) :
    ∀ (ws : List Int) (acc : List Nat) (fr room : Nat) (cost : Int) (w : World) (A : Option Addr) (ca : Nat) (bv : Value) (least : Int) (bs : Cand), acc.length + ws.length = W.length → W.drop acc.length = ws → 1 ≤ fr → fr ≤ L → room ≤ 46656000000 → 0 ≤ cost → cost ≤ 60000 * acc.length →
      Srch w0 w B S bw cw W r L A ca bv least acc bs →
      Calls Try.prog 236 #[.pointer (some ⟨S, 0, Option.none⟩), .int .i64 (fr : Int), .int .i64 (room : Int), .int .i64 cost] w (PostS w0 B S bw cw W r L acc (pickC bs (addC acc cost (bst r L ws fr room)))) := by
  intro ws
  induction ws with
  | nil =>
    intro acc fr room cost w A ca bv least bs hlen _ _ _ _ hc0 hc1 hS
    have hal : acc.length = W.length := by simpa using hlen
    obtain ⟨g, rfl, hca, hcm, hcell⟩ := hS.form (by omega)
    have q0 := hS.blk.cell 0
    have q3 := hS.blk.cell 3
    have q4 := hS.blk.cell 4
    have q5 := hS.blk.cell 5
    have hfz := fun i => hS.blk.frozen i
    simp only [List.getElem?_cons_zero, List.getElem?_cons_succ] at q0 q3 q4 q5
    have cC := (Try.slices_Clone_int g 0 acc.length ca (waysI acc) w (by unfold waysI; simp) (by omega) (fun j hj => by
      unfold waysI at hj ⊢
      rw [List.length_map] at hj
      rw [Nat.zero_add, hcell j acc[j] (List.getElem?_eq_getElem hj), List.getD_eq_getElem?_getD]
      simp [hj]))
    have htk : ((waysI acc).take acc.length).map (Value.int .i64) = ints (waysI acc) := by rw [List.take_of_length_le (by unfold waysI; simp)]
    rw [htk] at cC
    have CC := Lib.hid cC
    have HS := Lib.hid hS
    have HE : Hid (pickC bs (addC acc cost (bst r L [] fr room)) = pickC bs (some (acc, cost))) := by show _ = _; rw [bst, addC_nilS]
    have hall : ((acc.length : Int) == (W.length : Int)) = true := by rw [beq_iff_eq]; omega
    have HAL := Lib.hid hal
    rw [HE.out]
    clear hcell cC htk hlen hal
    have hb := hS.best
    clear hS
    cases bs with
    | none =>
      obtain rfl : bv = .slice Option.none 0 0 := hb
      have heq : ∀ w, (binOp .eql 29 (.slice Option.none 0 0) (.slice Option.none 0 0)).run Try.prog w = .ok (.bool true) w := fun w => Lib.run_eql_slice_nil w _ _ Option.none 0 0 0 0 Try.underlying29
      go_enter Try.func236, Try.ntmps236
      go_wp2_with fail
      refine CC.out.mono ?_
      rintro e w1 ⟨v', rfl, ho, hnz, hb1⟩
      obtain ⟨g2, c2, rfl, hgl, hcl⟩ : ∃ g2 c2, v' = .slice (some ⟨g2, 0, Option.none⟩) acc.length c2 ∧ acc.length ≤ c2 ∧ c2 ≤ maxLen := by
        rcases ho.2 with ⟨e, _⟩ | ⟨g2, cap, cur, e, _, _, h1, h2, _⟩
        · exact absurd e hnz
        · exact ⟨g2, cap, e, h1, h2⟩
      have hK := HS.out.keep (cost := cost) ho hb1
      have hbk1 := HS.out.blk.below hb1 HS.out.blk.lt
      have p4 := hbk1.cell 4
      have p5 := hbk1.cell 5
      have hfz1 := fun i => hbk1.frozen i
      have p5b : ∀ u, (w1.setCell ⟨S, 4, Option.none⟩ u).cell? ⟨S, 5, Option.none⟩ = some (.int .i64 least) := fun u => (hbk1.set_ 4 u).cell 5
      have hfz2 : ∀ u, (w1.setCell ⟨S, 4, Option.none⟩ u).frozen? ⟨S, 5, Option.none⟩ = false := fun u => (hbk1.set_ 4 u).frozen 5
      simp only [List.getElem?_cons_zero, List.getElem?_cons_succ] at p4 p5
      have HK := Lib.hid hK
      clear hK hbk1 ho hb1 hnz
      go_wp2_with fail
      refine bodyPost_end (results_none Try.results236 _ _ _) rfl ?_
      exact ⟨⟨_, rfl⟩, _, _, _, _, HK.out⟩
    | some x =>
      obtain ⟨l, k⟩ := x
      obtain ⟨gb, cb, rfl, hob, rfl, hne⟩ := hb
      clear hob hne
      have heq : ∀ w, (binOp .eql 29 (.slice (some ⟨gb, 0, Option.none⟩) l.length cb) (.slice Option.none 0 0)).run Try.prog w = .ok (.bool false) w := fun w => Lib.run_eql_slice_nil w _ _ (some ⟨gb, 0, Option.none⟩) _ _ 0 0 Try.underlying29
      by_cases hlt : cost < least
      · have hlt2 : decide (cost < least) = true := decide_eq_true hlt
        go_enter Try.func236, Try.ntmps236
        go_wp2_with fail
        refine CC.out.mono ?_
        rintro e w1 ⟨v', rfl, ho, hnz, hb1⟩
        obtain ⟨g2, c2, rfl, hgl, hcl⟩ : ∃ g2 c2, v' = .slice (some ⟨g2, 0, Option.none⟩) acc.length c2 ∧ acc.length ≤ c2 ∧ c2 ≤ maxLen := by
          rcases ho.2 with ⟨e, _⟩ | ⟨g2, cap, cur, e, _, _, h1, h2, _⟩
          · exact absurd e hnz
          · exact ⟨g2, cap, e, h1, h2⟩
        have hK := HS.out.keep (cost := cost) ho hb1
        have hbk1 := HS.out.blk.below hb1 HS.out.blk.lt
        have p4 := hbk1.cell 4
        have p5 := hbk1.cell 5
        have hfz1 := fun i => hbk1.frozen i
        have p5b : ∀ u, (w1.setCell ⟨S, 4, Option.none⟩ u).cell? ⟨S, 5, Option.none⟩ = some (.int .i64 least) := fun u => (hbk1.set_ 4 u).cell 5
        have hfz2 : ∀ u, (w1.setCell ⟨S, 4, Option.none⟩ u).frozen? ⟨S, 5, Option.none⟩ = false := fun u => (hbk1.set_ 4 u).frozen 5
        simp only [List.getElem?_cons_zero, List.getElem?_cons_succ] at p4 p5
        have HK := Lib.hid hK
        clear hK hbk1 ho hb1 hnz
        go_wp2_with fail
        refine bodyPost_end (results_none Try.results236 _ _ _) rfl ?_
        exact ⟨⟨_, rfl⟩, _, _, _, _, by simp only [pickC]; rw [if_pos hlt]; exact HK.out⟩
      · have hlt2 : decide (cost < least) = false := decide_eq_false hlt
        go_enter Try.func236, Try.ntmps236
        go_wp2_with fail
        refine bodyPost_end (results_none Try.results236 _ _ _) rfl ?_
        exact ⟨⟨_, rfl⟩, _, _, _, _, by simp only [pickC]; rw [if_neg (by omega)]; exact HS.out⟩
  | cons x ws ih =>
    intro acc fr room cost w A ca bv least bs hlen hdrop hf1 hfL hroom hc0 hc1 hS
    have hal : acc.length < W.length := by rw [List.length_cons] at hlen; omega
    obtain ⟨hx, hdrop2⟩ := drop_cons hdrop
    have hxb : 0 ≤ x ∧ x ≤ 10000 := by
      unfold allB at hW
      rw [List.all_eq_true] at hW
      exact inB_iff.1 (hW x (List.mem_of_getElem? hx))
    have hall : ((acc.length : Int) == (W.length : Int)) = false := by rw [beq_eq_false_iff_ne]; omega
    have IH := Lib.hid fun m room2 cost2 w1 A1 ca1 bv1 least1 bs1 (h1 : 1 ≤ m) (h2 : m ≤ L) (h3 : room2 ≤ 46656000000) (h4 : 0 ≤ cost2) (h5 : cost2 ≤ 60000 * ((acc ++ [m]).length : Int)) (h6 : Srch w0 w1 B S bw cw W r L A1 ca1 bv1 least1 (acc ++ [m]) bs1) =>
      ih (acc ++ [m]) m room2 cost2 w1 A1 ca1 bv1 least1 bs1 (by rw [List.length_append, List.length_singleton]; rw [List.length_cons] at hlen; omega) (by rw [List.length_append, List.length_singleton]; exact hdrop2) h1 h2 h3 h4 h5 h6
    have HX := Lib.hid hx
    have q0 := hS.blk.cell 0
    have q3 := hS.blk.cell 3
    simp only [List.getElem?_cons_zero, List.getElem?_cons_succ] at q0 q3
    have HS0 := Lib.hid hS
    clear ih hx hdrop hdrop2 hlen hS
    go_enter Try.func236, Try.ntmps236
    go_wp2_with fail
    clear q0 q3
    go_loopw [9] (fun i wr => ∃ (m : Nat) (A : Option Addr) (ca : Nat) (bv : Value) (least : Int), i = .int .i64 (m : Int) ∧ fr ≤ m ∧ m ≤ L + 1 ∧ Hid (Srch w0 wr B S bw cw W r L A ca bv least acc (pickC bs (addC acc cost (bstTo r L x ws fr room (m - fr)))))) (fun i _ => 7 - (intOf i).toNat)
    case atStart => exact ⟨fr, A, ca, bv, least, rfl, Nat.le_refl _, by omega, by rw [Nat.sub_self, bstTo_zero]; show Srch _ _ _ _ _ _ _ _ _ _ _ _ _ _ _; rw [show addC acc cost Option.none = Option.none from rfl, pickC_none]; exact HS0.out⟩
    case round =>
      obtain ⟨m, A, ca, bv, least, rfl, hfm, hmL, hS⟩ := hrel
      have q0 := hS.out.blk.cell 0
      have q1 := hS.out.blk.cell 1
      have q2 := hS.out.blk.cell 2
      have q3 := hS.out.blk.cell 3
      simp only [List.getElem?_cons_zero, List.getElem?_cons_succ] at q0 q1 q2 q3
      by_cases hm : m ≤ L
      · have hmi : (m : Int) ≤ (L : Int) := by omega
        obtain ⟨d, hd⟩ : ∃ d, d = L - m := ⟨_, rfl⟩
        obtain ⟨pw, hpw⟩ : ∃ pw, pw = r ^ d := ⟨_, rfl⟩
        have hsub : (L : Int) - (m : Int) = (d : Int) := by omega
        have CP : Hid (∀ nq, Calls Try.prog 162 #[.int .i64 (r : Int), .int .i64 (d : Int)] (wr.drewN nq) fun e w' => e = .returned (.int .i64 (pw : Int)) ∧ ∃ n, w' = (wr.drewN nq).drewN n) := by
          intro nq
          have := powerOf_any r d (by omega) (by omega) (wr.drewN nq)
          rw [← hpw] at this
          exact this.mono fun _ _ ⟨he, hw⟩ => ⟨he, 0, by rw [← hw]; rfl⟩
        have HPW : Hid (pw = r ^ (L - m)) := by show _ = _; rw [hpw, hd]
        have hd6 : d ≤ 6 := by omega
        clear hd hpw q0 q3
        go_wp2_with fail
        go_quiet ((go_at_call 162; exact Calls.quiet_of (CP.out _)))
        have HS := Lib.hid (hS.out.drewN nq)
        clear q1 q2 CP hS
        generalize wr.drewN nq = wq at HS ⊢
        by_cases hgt : room < pw
        · have hgi : (room : Int) < (pw : Int) := by omega
          have HSK := Lib.hid (pick_skip (bs := bs) (acc := acc) (cost := cost) (w := x) (ws := ws) (L := L) (r := r) (room := room) (fr := fr) (m := m) (k := m - fr) (by rw [← HPW.out]; omega) (by omega))
          go_wp2_with fail
          go_roundw
          case rel => exact ⟨m + 1, A, ca, bv, least, by go_num, by omega, by omega, by show Srch _ _ _ _ _ _ _ _ _ _ _ _ _ _ _; rw [show m + 1 - fr = m - fr + 1 by omega, ← HSK.out]; exact HS.out⟩
          case measure => (simp [intOf]; try omega)
        · have hgi : ¬ (room : Int) < (pw : Int) := by omega
          have q3 := HS.out.blk.cell 3
          simp only [List.getElem?_cons_zero, List.getElem?_cons_succ] at q3
          have hown := HS.out.len
          have hlw : (waysI acc).length = acc.length := by unfold waysI; simp
          have q3a := (Blk.alloc HS.out.blk (.cells #[.int .i64 (m : Int)] 3)).cell 3
          simp only [List.getElem?_cons_zero, List.getElem?_cons_succ] at q3a
          have HOWN : Hid (wq.ownsRow B 3 1 (.slice A acc.length ca) (waysI acc).length (ints (waysI acc))) := by rw [hlw]; exact hown
          have HLW := Lib.hid hlw
          obtain ⟨room2, hr2⟩ : ∃ q, q = room - pw := ⟨_, rfl⟩
          have hsub2 : (room : Int) - (pw : Int) = (room2 : Int) := by omega
          obtain ⟨y, hy⟩ : ∃ y, y = x * (m : Int) := ⟨_, rfl⟩
          have hy0 : 0 ≤ y := by rw [hy]; exact Int.mul_nonneg hxb.1 (by omega)
          have hy1 : y ≤ 60000 := by
            rw [hy]
            have h1 := Int.mul_le_mul_of_nonneg_right hxb.2 (show (0 : Int) ≤ (m : Int) by omega)
            omega
          have hmul : x * (m : Int) = y := hy.symm
          have HNX := Lib.hid (pick_next (bs := bs) (acc := acc) (cost := cost) (w := x) (ws := ws) (L := L) (r := r) (room := room) (fr := fr) (m := m) (k := m - fr) (cost2 := cost + y) (room2 := room2) (by rw [← HPW.out]; omega) (by omega) (by rw [hy]) (by rw [hr2, HPW.out]))
          have HIH := Lib.hid fun w1 A1 ca1 bv1 least1 bs1 => IH.out m room2 (cost + y) w1 A1 ca1 bv1 least1 bs1 (by omega) hm (by omega) (by omega) (by rw [List.length_append, List.length_singleton]; omega)
          clear hown hlw hr2 hy
          go_wp2_with (at_builtin; refine wpList_appI rfl (.tmp 75) (.tmp 77) rfl HOWN.out (by rw [HLW.out]; omega) HS.out.size rfl rfl ?_; intro v5 w5 ho5 hg5 hA5; rw [HLW.out] at ho5; obtain ⟨g5, c5, rfl, hn5, hm5⟩ : ∃ g5 c5, v5 = .slice (some ⟨g5, 0, Option.none⟩) (acc.length + 1) c5 ∧ acc.length + 1 ≤ c5 ∧ c5 ≤ maxLen := by { rcases ho5.2 with ⟨_, e⟩ | ⟨g2, cap, cur, e, _, _, h1, h2, _⟩; exact absurd e (by omega); exact ⟨g2, cap, e, h1, h2⟩ }; have HS5 := Lib.hid (HS.out.push ho5 hg5 hA5); have p3 : w5.cell? ⟨S, 3, Option.none⟩ = some (.slice A acc.length ca) := (hg5.cell q3a (by have := HS.out.sb; intro e; have := (HS.out.len.lt S e.symm).1; omega)); have pf3 : w5.frozen? ⟨S, 3, Option.none⟩ = false := Blk.frozen (show Blk w5 S 160 _ from (hg5.block S (by have := HS.out.blk.lt; simp; omega) (by have := HS.out.sb; intro e; have := (HS.out.len.lt S e.symm).1; omega)).trans (Blk.alloc HS.out.blk _)) 3; have p0 := HS5.out.blk.cell 0; have pw0 := HS5.out.wts acc.length x HX.out; simp only [List.getElem?_cons_zero] at p0; clear ho5 hg5 hA5)
          refine (HIH.out _ _ _ _ _ _ HS5.out).mono ?_
          rintro e w7 ⟨⟨z, rfl⟩, A7, ca7, bv7, least7, hS7⟩
          rw [HNX.out] at hS7
          obtain ⟨g7, rfl, hc7, hm7, _⟩ := hS7.form (by simp)
          have hb7 := hS7.blk
          have hl7 : (acc ++ [m]).length = acc.length + 1 := by simp
          rw [hl7] at hb7 hc7
          have s3 := hb7.cell 3
          have sf3 := hb7.frozen 3
          simp only [List.getElem?_cons_zero, List.getElem?_cons_succ] at s3
          have hi7 : (acc.length : Int) ≤ (ca7 : Int) := by omega
          have hi8 : acc.length ≤ ca7 := by omega
          have HS8 := Lib.hid hS7.pop
          clear hS7 hb7 hl7 p0 p3 pf3 pw0
          go_wp2_with fail
          go_roundw
          case rel => exact ⟨m + 1, _, ca7, bv7, least7, by go_num, by omega, by omega, by show Srch _ _ _ _ _ _ _ _ _ _ _ _ _ _ _; rw [show m + 1 - fr = m - fr + 1 by omega]; exact HS8.out⟩
          case measure => (simp [intOf]; try omega)
      · obtain rfl : m = L + 1 := by omega
        have hno : ¬ ((L : Int) + 1 ≤ (L : Int)) := by omega
        go_wp2_with fail
        refine bodyPost_end (results_none Try.results236 _ _ _) rfl ?_
        exact ⟨⟨_, rfl⟩, A, ca, bv, least, by rw [bst_to, show L + 1 - fr = L + 1 - fr from rfl]; exact hS.out⟩
end Go.Proofs.Ytabiobjcfopakaa
