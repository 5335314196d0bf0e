/- Contracts: LeastLengths of the program. -/
import Derived.Test.YtabiobjcfopakaaR9
import Derived.Deep.RegionHeld3
import Derived.Deep.AppendLies
import Derived.Deep.RegionLaw
namespace Go.Proofs.Ytabiobjcfopakaa
open Go.RowKit
def askB (ws : List Int) (r l : Int) : Bool := (weightsB ws && inB r 2 60) && inB l 1 6
/-- The weights in the order of the search. -/
def sortW (ws : List Int) : List Int := (orderBy (pWei ws) ws.length).map fun i => ws.getD i 0
/-- A list in the order of the search is laid back to the order of the weights: the first k ones. -/
def layK (os : List Nat) (n : Nat) (l : List Nat) (k : Nat) : List Int := (List.range k).foldl (fun acc k => acc.set (os.getD k 0) ((l.getD k 0 : Nat) : Int)) (List.replicate n 0)
def layB (os : List Nat) (n : Nat) (l : List Nat) : List Int := layK os n l l.length
theorem layK_succ {os : List Nat} {n : Nat} {l : List Nat} {k i x : Nat} (hi : os[k]? = some i) (hx : l[k]? = some x) : layK os n l (k + 1) = (layK os n l k).set i ((x : Nat) : Int) := by
  unfold layK
  rw [List.range_succ, List.foldl_append]
  simp [List.getD_eq_getElem?_getD, hi, hx]
theorem layK_len (os : List Nat) (n : Nat) (l : List Nat) : ∀ k, (layK os n l k).length = n
  | 0 => by simp [layK]
  | k + 1 => by
    have := layK_len os n l k
    unfold layK at this ⊢
    rw [List.range_succ, List.foldl_append]
    simpa using this
theorem sortW_all {ws : List Int} {a b : Int} (h : allB ws a b = true) : allB (sortW ws) a b = true := by
  unfold allB
  rw [List.all_eq_true]
  intro x hx
  unfold sortW at hx
  rw [List.mem_map] at hx
  obtain ⟨i, hi, rfl⟩ := hx
  have := allB_at h (orderBy_lt hi)
  exact inB_iff.2 this
def leastC (ws : List Int) (r l : Int) : Cand := if askB ws r l then bst r.toNat l.toNat (sortW ws) 1 (r.toNat ^ l.toNat) else Option.none
def leastL (ws : List Int) (r l : Int) : List Int := match leastC ws r l with
  | Option.none => []
  | some x => layB (orderBy (pWei ws) ws.length) ws.length x.1
def leastB (ws : List Int) (r l : Int) : Bool := (leastC ws r l).isSome
/-- One weight more behind the struct's first field. -/
theorem wts_push {w1 wr w5 : World} {S k c2 g cap : Nat} {A2 : Option Addr} {t : TypeId} {cs : List Value} {Z : List Int} {z : Int} (hbk : Blk wr S t (.slice A2 k c2 :: cs)) (how : wr.ownsRow (S + 1) 3 1 (.slice A2 k c2) k (ints (Z.take k))) (hbl : Below S w1 wr)
    (hown5 : w5.ownsRow (S + 1) 3 1 (.slice (some ⟨g, 0, Option.none⟩) (k + 1) cap) (k + 1) (ints (Z.take k) ++ [Value.int .i64 z])) (hgrow : (wr.alloc (.cells #[.int .i64 z] 3)).drew.grownBy w5 (Value.slice A2 k c2).ownBlock) (hz : Z[k]? = some z) :
    Blk (w5.setCell ⟨S, 0, Option.none⟩ (.slice (some ⟨g, 0, Option.none⟩) (k + 1) cap)) S t (.slice (some ⟨g, 0, Option.none⟩) (k + 1) cap :: cs) ∧
      (w5.setCell ⟨S, 0, Option.none⟩ (.slice (some ⟨g, 0, Option.none⟩) (k + 1) cap)).ownsRow (S + 1) 3 1 (.slice (some ⟨g, 0, Option.none⟩) (k + 1) cap) (k + 1) (ints (Z.take (k + 1))) ∧
      Below S w1 (w5.setCell ⟨S, 0, Option.none⟩ (.slice (some ⟨g, 0, Option.none⟩) (k + 1) cap)) := by
  have hS := hbk.lt
  have hrow : ∀ b, b ≤ S → some b ≠ (Value.slice A2 k c2).ownBlock := fun b hb e => by have := (how.lt b e.symm).1; omega
  have hal : (wr.alloc (.cells #[.int .i64 z] 3)).drew.heap.size = wr.heap.size + 1 := by simp
  have hold : ∀ b, b ≤ S → w5.heap[b]? = wr.heap[b]? := fun b hb => (hgrow.block b (by rw [hal]; omega) (hrow b hb)).trans (Below.heap_alloc wr _ b (by omega))
  refine ⟨?_, ?_, ?_⟩
  · have h1 : Blk w5 S t (.slice A2 k c2 :: cs) := (hold S (Nat.le_refl _)).trans hbk
    exact h1.set_ 0 (.slice (some ⟨g, 0, Option.none⟩) (k + 1) cap)
  · have e : ints (Z.take k) ++ [Value.int .i64 z] = ints (Z.take (k + 1)) := by rw [take_snocI hz]; simp
    rw [e] at hown5
    exact hown5.kept (grown_set (w := w5) (p := ⟨S, 0, Option.none⟩) rfl _) (.inr fun e => by have := (hown5.lt S e).1; omega)
  · have h1 : Below S wr w5 := ⟨hgrow.os, hgrow.tape, hgrow.output, by have := hgrow.size; rw [hal] at this; omega, fun b hb => hold b (by omega)⟩
    exact (hbl.trans h1).setCell (p := ⟨S, 0, Option.none⟩) (Nat.le_refl _) _
theorem cmp_wei {ls : List Int} {s : Value} {B g hi : Nat} {w : World} (h : RdI w hi s ls) (hc : w.cell? ⟨B, 0, Option.none⟩ = some s) (hB : B < g) (hh : hi ≤ g) : CmpI 235 #[.pointer (some ⟨B, 0, Option.none⟩)] g ls.length (cWei ls) w :=
  fun w' ho x y hx hy => least1_any ls s B hi x y w' (RdI.below h (ho.bel (Nat.le_refl g)) hh) hx hy (((ho.bel (Nat.le_refl g)).cell (p := ⟨B, 0, Option.none⟩) hB).trans hc)
set_option maxRecDepth 100000 in
set_option maxHeartbeats 16000000 in
theorem leastLengths_any (ls : List Int) (r l : Int) (v : Value) (hi : Nat) (w : World) (h : RdI w hi v ls) (hh : hi ≤ w.heap.size) : Calls Try.prog 165 #[v, .int .i64 r, .int .i64 l] w (RetOwT (leastL ls r l) (leastB ls r l) w) := by
  obtain ⟨A, c, rfl, hc, hm⟩ := Rd.form h
  have hba : Below w.heap.size w (w.alloc (.cells #[.slice A ls.length c] 29)) := (Below.refl _ _).alloc (Nat.le_refl _) _
  have HBA := Lib.hid hba
  have HBX : Hid (Blk (w.alloc (.cells #[.slice A ls.length c] 29)) w.heap.size 29 [.slice A ls.length c]) := Blk.new _ _ _
  have hcb := HBX.out.cell 0
  simp only [List.getElem?_cons_zero] at hcb
  have H := Lib.hid (RdI.below h hba hh)
  clear h hba
  have hnil : askB ls r l = false → leastL ls r l = [] ∧ leastB ls r l = false := by
    intro h
    have : leastC ls r l = Option.none := by unfold leastC; rw [h]; rfl
    unfold leastL leastB; rw [this]; exact ⟨rfl, rfl⟩
  cases hww : weightsB ls
  · have HF := Lib.hid (hnil (by unfold askB; rw [hww]; rfl))
    clear hnil
    rw [HF.out.1, HF.out.2]
    go_enter Try.func165, Try.ntmps165
    go_wp2_with (first | (go_at_call 189; refine (areWeights_any ls _ hi _ H.out).mono ?_; rintro e w' ⟨rfl, rfl⟩) | (go_at_call 157; refine (isRadix_any _ _).mono ?_; rintro e w' ⟨rfl, rfl⟩) | (go_at_call 125; refine (within_any _ _ _ _).mono ?_; rintro e w' ⟨rfl, rfl⟩))
    go_ret2
    exact retOwT _ (GrowI.nil HBA.out)
  · cases hr : inB r 2 60
    · have HF := Lib.hid (hnil (by unfold askB; rw [hww, hr]; rfl))
      clear hnil
      rw [HF.out.1, HF.out.2]
      go_enter Try.func165, Try.ntmps165
      go_wp2_with (first | (go_at_call 189; refine (areWeights_any ls _ hi _ H.out).mono ?_; rintro e w' ⟨rfl, rfl⟩) | (go_at_call 157; refine (isRadix_any _ _).mono ?_; rintro e w' ⟨rfl, rfl⟩) | (go_at_call 125; refine (within_any _ _ _ _).mono ?_; rintro e w' ⟨rfl, rfl⟩))
      go_ret2
      exact retOwT _ (GrowI.nil HBA.out)
    · cases hl : inB l 1 6
      · have HF := Lib.hid (hnil (by unfold askB; rw [hww, hr, hl]; rfl))
        clear hnil
        rw [HF.out.1, HF.out.2]
        go_enter Try.func165, Try.ntmps165
        go_wp2_with (first | (go_at_call 189; refine (areWeights_any ls _ hi _ H.out).mono ?_; rintro e w' ⟨rfl, rfl⟩) | (go_at_call 157; refine (isRadix_any _ _).mono ?_; rintro e w' ⟨rfl, rfl⟩) | (go_at_call 125; refine (within_any _ _ _ _).mono ?_; rintro e w' ⟨rfl, rfl⟩))
        go_ret2
        exact retOwT _ (GrowI.nil HBA.out)
      · have HASK : Hid (askB ls r l = true) := by show _ = _; unfold askB; rw [hww, hr, hl]; rfl
        clear hnil
        obtain ⟨hr1, hr2⟩ := inB_iff.1 hr
        obtain ⟨r, rfl⟩ := Int.eq_ofNat_of_zero_le (show 0 ≤ r by omega)
        obtain ⟨hl1, hl2⟩ := inB_iff.1 hl
        obtain ⟨l, rfl⟩ := Int.eq_ofNat_of_zero_le (show 0 ≤ l by omega)
        have hls := hww
        unfold weightsB at hls
        rw [Bool.and_eq_true] at hls
        have hn20 := (inB_iff.1 hls.1)
        have HAL := Lib.hid hls.2
        have hmk := make_ints ls.length (by omega)
        clear hls
        go_enter Try.func165, Try.ntmps165
        go_wp2_with (first | (go_at_call 189; refine (areWeights_any ls _ hi _ H.out).mono ?_; rintro e w' ⟨rfl, rfl⟩) | (go_at_call 157; refine (isRadix_any _ _).mono ?_; rintro e w' ⟨rfl, rfl⟩) | (go_at_call 125; refine (within_any _ _ _ _).mono ?_; rintro e w' ⟨rfl, rfl⟩))
        have hcb1 : ∀ wr, Below (w.heap.size + 1) (w.alloc (.cells #[.slice A ls.length c] 29)) wr → wr.cell? ⟨w.heap.size, 0, Option.none⟩ = some (.slice A ls.length c) := fun wr hb => (hb.cell (p := ⟨w.heap.size, 0, Option.none⟩) (Nat.lt_succ_self _)).trans hcb
        have HC1 := Lib.hid hcb1
        clear hcb hcb1
        go_loopw [34] (fun i wr => ∃ k : Nat, k ≤ ls.length ∧ i = .int .i64 (k : Int) ∧ Hid (Blk wr (w.heap.size + 1) 3 (cntI ls.length k)) ∧ Hid (Below (w.heap.size + 1) (w.alloc (.cells #[.slice A ls.length c] 29)) wr)) (fun i _ => ls.length - (intOf i).toNat)
        case atStart =>
          refine ⟨0, Nat.zero_le _, rfl, ?_, ?_⟩
          · have := Blk.new (w.alloc (.cells #[.slice A ls.length c] 29)) 3 (zeros ls.length)
            rw [cntI_zero] at this
            show Blk _ _ _ _
            simpa using this
          · exact (Below.refl _ _).alloc (by simp) _
        case round =>
          obtain ⟨k, hk2, rfl, hbk, hbl⟩ := hrel
          by_cases hlt : k < ls.length
          · have hcell := hbk.out.cell k
            rw [cntI_at hlt] at hcell
            have hfr := hbk.out.frozen k
            have HB2 := Lib.hid (hbk.out.set_ k (.int .i64 (k : Int)))
            go_wp2_with fail
            go_roundw
            case rel => exact ⟨k + 1, by omega, by go_num, by have := HB2.out; rw [cntI_set hlt] at this; exact this, hbl.out.setCell (p := ⟨w.heap.size + 1, k, Option.none⟩) (Nat.le_refl _) _⟩
            case measure => (simp [intOf]; try omega)
          · obtain rfl : k = ls.length := by omega
            have hb0 := hbk.out
            rw [cntI_full] at hb0
            have hrd := RdI.below H.out (hbl.out.mono (show w.heap.size ≤ w.heap.size + 1 by omega)) hh
            have hcx := HC1.out wr hbl.out
            have CS := Lib.hid (sortStable_any ls.length ls.length (w.heap.size + 1) 235 #[.pointer (some ⟨w.heap.size, 0, Option.none⟩)] (cWei ls) wr (by omega) (by omega) (Nat.le_refl _) hb0 (cmp_wei hrd hcx (by omega) (by omega)) (enters_of Try.func235 (by kernel_rfl) rfl))
            clear hb0 hrd hcx
            go_wp2_with fail
            refine CS.out.mono ?_
            rintro e w1 ⟨⟨zz, rfl⟩, hb1, ho1⟩
            rw [pOf_wei] at hb1
            obtain ⟨O, hO⟩ : ∃ O, O = orderBy (pWei ls) ls.length := ⟨_, rfl⟩
            have hOl : O.length = ls.length := by rw [hO, orderBy_len]
            have HOM : Hid (∀ i ∈ O, i < ls.length) := by show ∀ i ∈ O, i < ls.length; rw [hO]; exact fun i hi => orderBy_lt hi
            rw [← hO] at hb1
            have hw1 : Below (w.heap.size + 1) (w.alloc (.cells #[.slice A ls.length c] 29)) w1 := hbl.out.trans (ho1.bel (Nat.le_refl _))
            have hs1 : w.heap.size + 2 ≤ w1.heap.size := by have := hb1.lt; omega
            have HCB := Lib.hid (HC1.out w1 hw1)
            have H1 := Lib.hid (RdI.below H.out (hw1.mono (show w.heap.size ≤ w.heap.size + 1 by omega)) hh)
            have HB1 := Lib.hid hb1
            have HO := Lib.hid hO
            have HOL := Lib.hid hOl
            have HWB : Hid (Below w.heap.size w w1) := HBA.out.trans (hw1.mono (by omega))
            clear hb1 ho1 hw1 hO hOl hbk hbl CS
            go_wp2_with fail
            have HBS : Hid (Blk (w1.alloc (.cells #[.slice Option.none 0 0, .int .i64 (r : Int), .int .i64 (l : Int), .slice Option.none 0 0, .slice Option.none 0 0, .int .i64 0] 160)) w1.heap.size 160 [.slice Option.none 0 0, .int .i64 (r : Int), .int .i64 (l : Int), .slice Option.none 0 0, .slice Option.none 0 0, .int .i64 0]) := Blk.new _ _ _
            have HBD : Hid (Below w1.heap.size w1 (w1.alloc (.cells #[.slice Option.none 0 0, .int .i64 (r : Int), .int .i64 (l : Int), .slice Option.none 0 0, .slice Option.none 0 0, .int .i64 0] 160))) := (Below.refl _ _).alloc (Nat.le_refl _) _
            have hsz0 : (w1.alloc (.cells #[.slice Option.none 0 0, .int .i64 (r : Int), .int .i64 (l : Int), .slice Option.none 0 0, .slice Option.none 0 0, .int .i64 0] 160)).heap.size = w1.heap.size + 1 := by simp
            have HSZ := Lib.hid hsz0
            clear hsz0
            generalize (w1.alloc (.cells #[.slice Option.none 0 0, .int .i64 (r : Int), .int .i64 (l : Int), .slice Option.none 0 0, .slice Option.none 0 0, .int .i64 0] 160)) = w2 at HBS HBD HSZ ⊢
            obtain ⟨Z, hZ⟩ : ∃ Z, Z = sortW ls := ⟨_, rfl⟩
            have hZl : Z.length = ls.length := by rw [hZ]; unfold sortW; rw [List.length_map, orderBy_len]
            have HZ := Lib.hid hZ
            have HZL := Lib.hid hZl
            clear hZ hZl
            go_loopw [50] (fun i wr => ∃ (k : Nat) (A2 : Option Addr) (c2 : Nat), k ≤ ls.length ∧ i = .int .i64 (k : Int) ∧ Hid (Blk wr w1.heap.size 160 [.slice A2 k c2, .int .i64 (r : Int), .int .i64 (l : Int), .slice Option.none 0 0, .slice Option.none 0 0, .int .i64 0]) ∧
              Hid (wr.ownsRow (w1.heap.size + 1) 3 1 (.slice A2 k c2) k (ints (Z.take k))) ∧ Hid (Below w1.heap.size w1 wr)) (fun i _ => ls.length - (intOf i).toNat)
            case atStart => exact ⟨0, Option.none, 0, Nat.zero_le _, rfl, HBS.out, by rw [List.take_zero]; exact World.ownsRow_nil _ _ _ _, HBD.out⟩
            case round =>
              obtain ⟨k, A2, c2, hkl, rfl, hbk, how, hbl⟩ := hrel
              have hG : w1.heap.size < wr.heap.size := hbk.out.lt
              by_cases hlt : k < ls.length
              · obtain ⟨i, hi⟩ : ∃ i, O[k]? = some i := ⟨_, List.getElem?_eq_getElem (by rw [HOL.out]; exact hlt)⟩
                have hil := HOM.out i (List.mem_of_getElem? hi)
                obtain ⟨b1, o1, c1, hv, hb1h, hcl⟩ := RdI.getD (RdI.below H1.out hbl.out (by omega)) hil
                cases hv
                obtain ⟨z, hz⟩ : ∃ z, z = ls.getD i 0 := ⟨_, rfl⟩
                rw [← hz] at hcl
                have hco := (HB1.out.below hbl.out (show w.heap.size + 1 < w1.heap.size by omega)).cell k
                rw [nats_at hi] at hco
                have hcb := (hbl.out.cell (p := ⟨w.heap.size, 0, Option.none⟩) (by show w.heap.size < w1.heap.size; omega)).trans HCB.out
                have q0 := hbk.out.cell 0
                simp only [List.getElem?_cons_zero] at q0
                have hil2 : i < ls.length := hil
                have HIZ := Lib.hid hz
                have HI := Lib.hid hi
                have HZK : Hid (Z[k]? = some z) := by
                  show _ = _
                  rw [HZ.out]
                  unfold sortW
                  rw [← HO.out, List.getElem?_map, hi, hz]; rfl
                clear hz hi
                obtain ⟨ti, hti, htz, hts, htb⟩ := info_parts info_int
                have hrow : ∀ b, b ≤ w1.heap.size → some b ≠ (Value.slice A2 k c2).ownBlock := fun b hb e => by have := (how.out.lt b e.symm).1; omega
                have hfz := hbk.out.frozen 0
                have hba : Below wr.heap.size wr (wr.drew.alloc (.cells #[.int .i64 z] 3)) := (Below.refl _ _).drew.alloc (Nat.le_refl _) _
                have a0 := (hba.cell (p := ⟨w1.heap.size, 0, Option.none⟩) hG).trans q0
                have acb := (hba.cell (p := ⟨w.heap.size, 0, Option.none⟩) (by show w.heap.size < wr.heap.size; omega)).trans hcb
                have acl := (hba.cell (p := ⟨b1, o1 + i, Option.none⟩) (by show b1 < wr.heap.size; omega)).trans hcl
                have a0' : (wr.alloc (.cells #[.int .i64 z] 3)).cell? ⟨w1.heap.size, 0, Option.none⟩ = some (.slice A2 k c2) := a0
                have afz := (hba.frozen (p := ⟨w1.heap.size, 0, Option.none⟩) hG).trans hfz
                go_wp2_with fail
                go_region_law ((refine step_append_lies _ (by rfl) (.tmp 55) (.tmp 60) 29 (by rfl) (w1.heap.size + 1) 3 ti (.int .i64 0) 1 8 Try.underlying29 hti htz hts htb rfl (by decide) (.slice A2 k c2) k (ints (Z.take k)) (by rfl) (World.ownsRow.alloc (w := wr.drew) how.out _) ⟨wr.heap.size, 0, Option.none⟩ 1 1 [.int .i64 z] (by rfl) rfl (one_cell _ _ _) (by intro u hu; simp at hu; subst hu; rfl) (by decide) (by unfold maxLen; omega) (by omega) (by simp; omega) (wr.heap.size + 1) (by simp) ?_; intro g cap w5 hown5 hgrow hat5 hlt5; have p0 := (hgrow.cell_far ⟨w1.heap.size, 0, Option.none⟩ (by simp; omega) (hrow _ (Nat.le_refl _))).trans a0; have pf := (hgrow.frozen_far ⟨w1.heap.size, 0, Option.none⟩ (by simp; omega) (hrow _ (Nat.le_refl _))).trans afz))
                all_goals
                  have HP := Lib.hid (wts_push hbk.out how.out hbl.out hown5 hgrow HZK.out)
                  clear hown5 hgrow hat5 hlt5 p0 pf
                  go_wp2_with fail
                  go_roundw
                  case rel => exact ⟨k + 1, _, cap, by omega, by go_num, HP.out.1, HP.out.2.1, HP.out.2.2⟩
                  case measure => (simp [intOf]; try omega)
              · obtain rfl : k = ls.length := by omega
                obtain ⟨bw, rfl, hbw1, hbw2, hwt⟩ : ∃ bw, A2 = some ⟨bw, 0, Option.none⟩ ∧ w1.heap.size < bw ∧ bw < wr.heap.size ∧ ∀ j x, Z[j]? = some x → wr.cell? ⟨bw, j, Option.none⟩ = some (.int .i64 x) := by
                  rcases how.out.2 with ⟨e, hn⟩ | ⟨g, cap, cur, e, hgl, hgg, _⟩
                  · omega
                  · cases e
                    refine ⟨g, rfl, by omega, (Array.getElem?_eq_some_iff.1 hgg).1, fun j x hx => ?_⟩
                    have h1 := how.out.cells (g := g) rfl j (.int .i64 x) (by rw [List.take_of_length_le (by rw [HZL.out]; exact Nat.le_refl _)]; simp [hx])
                    have hadd : (⟨g, 0, Option.none⟩ : Addr).add j = ⟨g, 0 + j, Option.none⟩ := by unfold Addr.add; split <;> simp_all
                    rw [hadd, Nat.zero_add] at h1
                    exact h1
                have hbk2 := hbk.out
                rw [← HZL.out] at hbk2
                have hS0 : Srch wr wr wr.heap.size w1.heap.size bw c2 Z r l Option.none 0 (.slice Option.none 0 0) 0 [] Option.none :=
                  ⟨hbk2, hG, hbw2, by omega, hwt, World.ownsRow_nil _ _ _ _, rfl, Nat.le_refl _, ButS.refl _ _ _⟩
                obtain ⟨pw, hpw⟩ : ∃ pw, pw = r ^ l := ⟨_, rfl⟩
                have cP := powerOf_any r l (by omega) (by omega) wr
                rw [← hpw] at cP
                have CP := Lib.hid cP
                have hpb : pw ≤ 46656000000 := by rw [hpw]; exact pow_le (by omega) (by omega)
                have hZA : allB Z 0 10000 = true := by rw [HZ.out]; exact sortW_all HAL.out
                have CG : Hid (Calls Try.prog 236 #[.pointer (some ⟨w1.heap.size, 0, Option.none⟩), .int .i64 1, .int .i64 (pw : Int), .int .i64 0] wr (PostS wr wr.heap.size w1.heap.size bw c2 Z r l [] (bst r l Z 1 (r ^ l)))) := by
                  have := goOn_any (by omega) (by omega) (by omega) hZA (by rw [HZL.out]; omega) (by rw [HZL.out]; omega) Z [] 1 pw 0 wr Option.none 0 (.slice Option.none 0 0) 0 Option.none (by simp) (by simp) (Nat.le_refl _) (by omega) hpb (by omega) (by simp) hS0
                  rw [show pickC Option.none (addC [] 0 (bst r l Z 1 pw)) = bst r l Z 1 (r ^ l) by rw [addC_nil, hpw]; rfl] at this
                  exact this
                have HLC : Hid (leastC ls (r : Int) (l : Int) = bst r l Z 1 (r ^ l)) := by
                  show _ = _
                  unfold leastC
                  rw [HASK.out, HZ.out]
                  simp only [if_true, Int.toNat_natCast]
                have HBL := Lib.hid hbl.out
                clear cP hpw hpb hZA hS0 hbk2 hwt hbk how hbl
                go_wp2_with (first | (go_at_call 162; refine (CP.out).mono ?_; rintro e w' ⟨rfl, rfl⟩))
                refine CG.out.mono ?_
                rintro e w9 ⟨⟨zz2, rfl⟩, A9, ca9, bv9, least9, hS9⟩
                have hfr := hS9.fr
                have hq4 := hS9.blk.cell 4
                simp only [List.getElem?_cons_zero, List.getElem?_cons_succ] at hq4
                have HBW : Hid (Below w.heap.size w w9) := (HWB.out.trans (HBL.out.mono (by omega))).trans ⟨hfr.os, hfr.tape, hfr.output, hfr.size, fun k hk => hfr.block k (by omega) (by omega)⟩
                have HCB9 : Hid (w9.cell? ⟨w.heap.size, 0, Option.none⟩ = some (.slice A ls.length c)) := ((hfr.cell (show w.heap.size < wr.heap.size by omega) (by omega)).trans (HBL.out.cell (p := ⟨w.heap.size, 0, Option.none⟩) (by show w.heap.size < w1.heap.size; omega))).trans HCB.out
                have HO9 : Hid (Blk w9 (w.heap.size + 1) 3 (nats O)) := ((hfr.block _ (by omega) (by omega)).trans (HBL.out.block _ (by omega))).trans HB1.out
                have hsz9 := hfr.size
                have hbest := hS9.best
                have HS9L := Lib.hid hS9.blk
                clear hfr
                cases hbb : bst r l Z 1 (r ^ l) with
                | none =>
                  rw [hbb] at hbest
                  obtain rfl : bv9 = .slice Option.none 0 0 := hbest
                  have heq : ∀ w, (binOp .eql 29 (.slice Option.none 0 0) (.slice Option.none 0 0)).run Try.prog w = .ok (.bool true) w := fun w => Lib.run_eql_slice_nil w _ _ Option.none 0 0 0 0 Try.underlying29
                  have HN : Hid (leastL ls (r : Int) (l : Int) = [] ∧ leastB ls (r : Int) (l : Int) = false) := by
                    unfold leastL leastB; rw [HLC.out, hbb]; exact ⟨rfl, rfl⟩
                  clear hS9 hbb
                  go_wp2_with fail
                  go_ret2
                  rw [HN.out.1, HN.out.2]
                  exact retOwT _ (GrowI.nil HBW.out)
                | some x =>
                  rw [hbb] at hbest
                  obtain ⟨xl, xk⟩ := x
                  obtain ⟨gb, cb, rfl, hob, rfl, _⟩ := hbest
                  have hbd := bst_bd Z (fun w hw => by have h1 := sortW_all HAL.out; rw [← HZ.out] at h1; unfold allB at h1; rw [List.all_eq_true] at h1; exact (inB_iff.1 (h1 w hw)).1) _ 1 _ rfl _ hbb
                  have hxl : xl.length = ls.length := by rw [← HZL.out]; exact hbd.1
                  have heq : ∀ w, (binOp .eql 29 (.slice (some ⟨gb, 0, Option.none⟩) xl.length cb) (.slice Option.none 0 0)).run Try.prog w = .ok (.bool false) w := fun w => Lib.run_eql_slice_nil w _ _ (some ⟨gb, 0, Option.none⟩) _ _ 0 0 Try.underlying29
                  have HN : Hid (leastL ls (r : Int) (l : Int) = layB O ls.length xl ∧ leastB ls (r : Int) (l : Int) = true) := by
                    unfold leastL leastB; rw [HLC.out, hbb, HO.out]; exact ⟨rfl, rfl⟩
                  have hgl := hob.lt gb rfl
                  have HCEL : Hid (∀ (j x : Nat), xl[j]? = some x → w9.cell? ⟨gb, j, Option.none⟩ = some (.int .i64 (x : Int))) := by
                    intro j x hx
                    have h1 := hob.cells (g := gb) rfl j (.int .i64 (x : Int)) (by unfold waysI; simp [hx])
                    have hadd : (⟨gb, 0, Option.none⟩ : Addr).add j = ⟨gb, 0 + j, Option.none⟩ := by unfold Addr.add; split <;> simp_all
                    rw [hadd, Nat.zero_add] at h1
                    exact h1
                  have HXL := Lib.hid hxl
                  have hcbx := HCB9.out
                  clear hS9 hbb hbd hob hxl
                  go_wp2_with fail
                  have HB0 : Hid (Blk (w9.alloc (.cells (zeros ls.length) 3)) w9.heap.size 3 (ints (layK O ls.length xl 0))) := by
                    have := Blk.new w9 3 (zeros ls.length)
                    show Blk _ _ _ _
                    simpa [layK, zeros, ints] using this
                  have HBA0 : Hid (Below w9.heap.size w9 (w9.alloc (.cells (zeros ls.length) 3))) := (Below.refl _ _).alloc (Nat.le_refl _) _
                  clear hcbx hq4
                  go_loopw [76] (fun i wr => ∃ k : Nat, k ≤ ls.length ∧ i = .int .i64 (k : Int) ∧ Hid (Blk wr w9.heap.size 3 (ints (layK O ls.length xl k))) ∧ Hid (Below w9.heap.size w9 wr)) (fun i _ => ls.length - (intOf i).toNat)
                  case atStart => exact ⟨0, Nat.zero_le _, rfl, HB0.out, HBA0.out⟩
                  case round =>
                    obtain ⟨k, hk2, rfl, hbk, hbl⟩ := hrel
                    by_cases hlt : k < ls.length
                    · obtain ⟨i, hi⟩ : ∃ i, O[k]? = some i := ⟨_, List.getElem?_eq_getElem (by rw [HOL.out]; exact hlt)⟩
                      have hil := HOM.out i (List.mem_of_getElem? hi)
                      obtain ⟨x, hx⟩ : ∃ x, xl[k]? = some x := ⟨_, List.getElem?_eq_getElem (by rw [HXL.out]; exact hlt)⟩
                      have hco := (HO9.out.below hbl.out (show w.heap.size + 1 < w9.heap.size by omega)).cell k
                      rw [nats_at hi] at hco
                      have hq4 := (HS9L.out.below hbl.out (show w1.heap.size < w9.heap.size by omega)).cell 4
                      simp only [List.getElem?_cons_zero, List.getElem?_cons_succ] at hq4
                      have hce := (hbl.out.cell (p := ⟨gb, k, Option.none⟩) (by show gb < w9.heap.size; omega)).trans (HCEL.out k x hx)
                      have hll := layK_len O ls.length xl k
                      obtain ⟨u, hu⟩ : ∃ u, (layK O ls.length xl k)[i]? = some u := ⟨_, List.getElem?_eq_getElem (by rw [hll]; exact hil)⟩
                      have hou := hbk.out.cell i
                      rw [show (ints (layK O ls.length xl k))[i]? = some (.int .i64 u) by simp [ints, hu]] at hou
                      have hfz := hbk.out.frozen i
                      have HB3 : Hid (Blk (wr.setCell ⟨w9.heap.size, i, Option.none⟩ (.int .i64 (x : Int))) w9.heap.size 3 (ints (layK O ls.length xl (k + 1)))) := by
                        have h1 := hbk.out.set_ i (.int .i64 (x : Int))
                        show Blk _ _ _ _
                        rw [layK_succ hi hx]
                        unfold ints
                        rw [List.map_set]
                        exact h1
                      have hkx : k < xl.length := by rw [HXL.out]; exact hlt
                      have hkxi : (k : Int) < (xl.length : Int) := by omega
                      clear hi hx hu hll
                      go_wp2_with fail
                      go_roundw
                      case rel => exact ⟨k + 1, by omega, by go_num, HB3.out, hbl.out.setCell (p := ⟨w9.heap.size, i, Option.none⟩) (Nat.le_refl _) _⟩
                      case measure => (simp [intOf]; try omega)
                    · obtain rfl : k = ls.length := by omega
                      go_wp2_with fail
                      go_ret2
                      have hll := layK_len O ls.length xl ls.length
                      have hown := own_of_blk (lo := w.heap.size) (hi := wr.heap.size) hbk.out (by omega) hbk.out.lt (by rw [hll]; unfold maxLen; omega)
                      rw [hll] at hown
                      rw [HN.out.1, HN.out.2]
                      refine ⟨.slice (some ⟨w9.heap.size, 0, Option.none⟩) ls.length ls.length, ret_val rfl, ?_, HBW.out.trans (hbl.out.mono (by omega))⟩
                      unfold layB
                      rw [HXL.out]
                      exact hown
end Go.Proofs.Ytabiobjcfopakaa
