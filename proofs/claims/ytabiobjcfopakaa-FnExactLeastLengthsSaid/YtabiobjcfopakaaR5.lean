/- Contracts: the stable sort of a program's order, its comparison of lengths; the digits of a number. -/
import Derived.Test.YtabiobjcfopakaaR4
import Derived.Test.YtabiobjcfopakaaB6
import Derived.Test.YtabiobjcfopakaaE2
import Derived.Test.YtabiobjcfopakaaShelf
import Derived.Shelf.Abstract
namespace Go.Proofs.Ytabiobjcfopakaa
open Go.RowKit
set_option maxHeartbeats 800000 in
theorem insSort_none (n cp g f a : Nat) (lb : Array Value) (w : World) (ha : a ≤ 20) :
    Calls Try.prog 252 #[.slice (some ⟨g, 0, Option.none⟩) n cp, .int .i64 (a : Int), .int .i64 (a : Int), .func (.func f) #[] lb] w fun e w' => (∃ z, e = .returned z) ∧ w = w' := by
  go_enter Try.func252, Try.ntmps252
  go_wp2
  go_loopw [8] (fun i wr => i = .int .i64 ((a : Int) + 1) ∧ w = wr) (fun _ _ => 0)
  case atStart => exact ⟨rfl, rfl⟩
  case round =>
    obtain ⟨rfl, rfl⟩ := hrel
    have hno : decide ((a : Int) + 1 < (a : Int)) = false := decide_eq_false (by omega)
    have hno2 : ¬ ((a : Int) + 1 < (a : Int)) := by omega
    go_wp2_with fail
    refine bodyPost_end (results_none Try.results252 _ _ _) rfl ?_
    exact ⟨⟨_, rfl⟩, rfl⟩
set_option maxHeartbeats 4000000 in
theorem stable_any (n cp g f : Nat) (lb : Array Value) (c : Nat → Nat → Int) (w : World) (hn1 : 1 ≤ n) (hn : n ≤ 20) (hcp : n ≤ cp) (h : Blk w g 3 (nats (List.range n))) (hp : CmpI f lb g n c w)
    (eg : ∀ args w, (callFunc f args).run Try.prog w = .ok (.enter f args) w) :
    Calls Try.prog 228 #[.slice (some ⟨g, 0, Option.none⟩) n cp, .int .i64 (n : Int), .func (.func f) #[] lb] w fun e w' => (∃ z, e = .returned z) ∧ Blk w' g 3 (nats (orderBy (pOf c) n)) ∧ Only (some g) w w' := by
  have CI := Lib.hid (insSort_any n cp g f lb c w hn1 hn hcp h hp eg)
  clear h hp
  by_cases h20 : n < 20
  · have hno : ¬ (20 : Int) ≤ (n : Int) := by omega
    have hno2 : ¬ (20 : Int) < (n : Int) := by omega
    have hno3 : ¬ 20 ≤ n := by omega
    have hno4 : ¬ 20 < n := by omega
    go_enter Try.func228, Try.ntmps228
    go_wp2
    go_loopw [7, 8] (fun i j wr => i = .int .i64 0 ∧ j = .int .i64 20 ∧ w = wr) (fun _ _ _ => 0)
    case atStart => exact ⟨rfl, rfl, rfl⟩
    case round =>
      obtain ⟨rfl, rfl, rfl⟩ := hrel
      go_wp2_with fail
      refine CI.out.mono ?_
      rintro e w1 ⟨⟨z, rfl⟩, hb1, ho1⟩
      have HB1 := Lib.hid hb1
      have HO1 := Lib.hid ho1
      clear hb1 ho1
      go_wp2_with fail
      go_loopw [6] (fun i wr => i = .int .i64 20 ∧ w1 = wr) (fun _ _ => 0)
      case atStart => exact ⟨rfl, rfl⟩
      case round =>
        obtain ⟨rfl, rfl⟩ := hrel
        go_wp2_with fail
        refine bodyPost_end (results_none Try.results228 _ _ _) rfl ?_
        exact ⟨⟨_, rfl⟩, HB1.out, HO1.out⟩
  · have HN : Hid ((n : Int) = 20) := by show _ = _; omega
    have CI2 : Hid (Calls Try.prog 252 #[.slice (some ⟨g, 0, Option.none⟩) n cp, .int .i64 0, .int .i64 20, .func (.func f) #[] lb] w fun e w' => (∃ z, e = .returned z) ∧ Blk w' g 3 (nats (orderBy (pOf c) n)) ∧ Only (some g) w w') := by
      have := CI.out
      rw [HN.out] at this
      exact this
    have h1 : (20 : Int) ≤ (n : Int) := by omega
    have h2 : 20 ≤ n := by omega
    have h3 : ¬ (40 : Int) ≤ (n : Int) := by omega
    have h4 : ¬ 40 ≤ n := by omega
    have h5 : ¬ (20 : Int) < (n : Int) := by omega
    have CN0 : Hid (∀ wr, Calls Try.prog 252 #[.slice (some ⟨g, 0, Option.none⟩) n cp, .int .i64 20, .int .i64 (n : Int), .func (.func f) #[] lb] wr fun e w' => (∃ z, e = .returned z) ∧ wr = w') := by
      intro wr
      rw [HN.out]
      exact insSort_none n cp g f 20 lb wr (Nat.le_refl _)
    clear CI
    go_enter Try.func228, Try.ntmps228
    go_wp2
    go_loopw [7, 8] (fun i j wr => (i = .int .i64 0 ∧ j = .int .i64 20 ∧ w = wr) ∨ (i = .int .i64 20 ∧ j = .int .i64 40 ∧ Hid (Blk wr g 3 (nats (orderBy (pOf c) n))) ∧ Hid (Only (some g) w wr))) (fun i _ _ => 20 - (intOf i).toNat)
    case atStart => exact .inl ⟨rfl, rfl, rfl⟩
    case round =>
      rcases hrel with ⟨rfl, rfl, rfl⟩ | ⟨rfl, rfl, hb1, ho1⟩
      · go_wp2_with fail
        refine CI2.out.mono ?_
        rintro e w1 ⟨⟨z, rfl⟩, hb1, ho1⟩
        have HB1 := Lib.hid hb1
        have HO1 := Lib.hid ho1
        clear hb1 ho1
        go_wp2_with fail
        go_roundw
        case rel => exact .inr ⟨rfl, rfl, HB1.out, HO1.out⟩
        case measure => simp [intOf]
      · have CN := Lib.hid (CN0.out wr)
        go_wp2_with fail
        refine CN.out.mono ?_
        rintro e w1 ⟨⟨z, rfl⟩, rfl⟩
        go_wp2_with fail
        go_loopw [6] (fun i wx => i = .int .i64 20 ∧ wr = wx) (fun _ _ => 0)
        case atStart => exact ⟨rfl, rfl⟩
        case round =>
          obtain ⟨rfl, rfl⟩ := hrel
          go_wp2_with fail
          refine bodyPost_end (results_none Try.results228 _ _ _) rfl ?_
          exact ⟨⟨_, rfl⟩, hb1.out, ho1.out⟩
theorem sortStable_any (n cp g f : Nat) (lb : Array Value) (c : Nat → Nat → Int) (w : World) (hn1 : 1 ≤ n) (hn : n ≤ 20) (hcp : n ≤ cp) (h : Blk w g 3 (nats (List.range n))) (hp : CmpI f lb g n c w)
    (eg : ∀ args w, (callFunc f args).run Try.prog w = .ok (.enter f args) w) :
    Calls Try.prog 159 #[.slice (some ⟨g, 0, Option.none⟩) n cp, .func (.func f) #[] lb] w fun e w' => (∃ z, e = .returned z) ∧ Blk w' g 3 (nats (orderBy (pOf c) n)) ∧ Only (some g) w w' := by
  have CI := Lib.hid (stable_any n cp g f lb c w hn1 hn hcp h hp eg)
  clear h hp
  go_enter Try.func159, Try.ntmps159
  go_wp2_with fail
  refine CI.out.mono ?_
  rintro e w1 ⟨⟨z, rfl⟩, hb1, ho1⟩
  have HB1 := Lib.hid hb1
  have HO1 := Lib.hid ho1
  clear hb1 ho1
  go_wp2_with fail
  refine bodyPost_end (results_none Try.results159 _ _ _) rfl ?_
  exact ⟨⟨_, rfl⟩, HB1.out, HO1.out⟩
def cLen (ls : List Int) (x y : Nat) : Int := Lib.compareInt (ls.getD x 0) (ls.getD y 0)
def cWei (ws : List Int) (x y : Nat) : Int := Lib.compareInt (ws.getD y 0) (ws.getD x 0)
theorem compare_neg (a b : Int) : decide (Lib.compareInt a b < 0) = decide (a < b) := by
  unfold Lib.compareInt
  by_cases h : a < b
  · rw [if_pos h]; simp [h]
  · rw [if_neg h]
    by_cases h2 : a > b
    · rw [if_pos h2]; simp [h]
    · rw [if_neg h2]; simp [h]
theorem pOf_len (ls : List Int) : pOf (cLen ls) = pLen ls := by funext x y; exact compare_neg _ _
theorem pOf_wei (ws : List Int) : pOf (cWei ws) = pWei ws := by funext x y; exact compare_neg _ _
theorem RdI.getD {w : World} {hi : Nat} {v : Value} {xs : List Int} (h : RdI w hi v xs) {k : Nat} (hk : k < xs.length) :
    ∃ b off c, v = .slice (some ⟨b, off, Option.none⟩) xs.length c ∧ b < hi ∧ w.cell? ⟨b, off + k, Option.none⟩ = some (.int .i64 (xs.getD k 0)) := by
  obtain ⟨b, off, c, y, hv, hb, hy, hc⟩ := Rd.at_ h hk
  refine ⟨b, off, c, hv, hb, ?_⟩
  rw [hc, List.getD_eq_getElem?_getD, hy]; rfl
theorem cmpI_any (x y : Int) (w : World) : Calls Try.prog 161 #[.int .i64 x, .int .i64 y] w fun e w' => e = .returned (.int .i64 (Lib.compareInt x y)) ∧ ∃ n, w' = w.drewN n :=
  (Try.cmp_Compare_int x y w).mono fun _ _ ⟨he, hw⟩ => ⟨he, 0, hw⟩
set_option maxHeartbeats 800000 in
theorem canon1_any (ls : List Int) (s : Value) (B hi x y : Nat) (w : World) (h : RdI w hi s ls) (hx : x < ls.length) (hy : y < ls.length) (hc : w.cell? ⟨B, 0, Option.none⟩ = some s) :
    Calls Try.prog 160 #[.int .i64 (x : Int), .int .i64 (y : Int), .pointer (some ⟨B, 0, Option.none⟩)] w fun e w' => e = .returned (.int .i64 (cLen ls x y)) ∧ ∃ n, w' = w.drewN n := by
  obtain ⟨b1, o1, c1, hv1, _, hcx⟩ := RdI.getD h hx
  obtain ⟨b2, o2, c2, hv2, _, hcy⟩ := RdI.getD h hy
  subst hv1
  cases hv2
  obtain ⟨_, _, hv3, hc3, hm3⟩ := Rd.form h
  cases hv3
  obtain ⟨zx, hzx⟩ : ∃ z, z = ls.getD x 0 := ⟨_, rfl⟩
  obtain ⟨zy, hzy⟩ : ∃ z, z = ls.getD y 0 := ⟨_, rfl⟩
  rw [← hzx] at hcx
  rw [← hzy] at hcy
  have HV : Hid (cLen ls x y = Lib.compareInt zx zy) := by show _ = _; rw [hzx, hzy]; rfl
  clear h hzx hzy
  go_enter Try.func160, Try.ntmps160
  go_wp2_with fail
  go_quiet ((go_at_call 161; exact Calls.quiet_of (cmpI_any _ _ _)))
  go_wp2_with fail
  go_ret
  exact ⟨by rw [HV.out]; rfl, nq, rfl⟩
set_option maxHeartbeats 800000 in
theorem least1_any (ls : List Int) (s : Value) (B hi x y : Nat) (w : World) (h : RdI w hi s ls) (hx : x < ls.length) (hy : y < ls.length) (hc : w.cell? ⟨B, 0, Option.none⟩ = some s) :
    Calls Try.prog 235 #[.int .i64 (x : Int), .int .i64 (y : Int), .pointer (some ⟨B, 0, Option.none⟩)] w fun e w' => e = .returned (.int .i64 (cWei ls x y)) ∧ ∃ n, w' = w.drewN n := by
  obtain ⟨b1, o1, c1, hv1, _, hcx⟩ := RdI.getD h hx
  obtain ⟨b2, o2, c2, hv2, _, hcy⟩ := RdI.getD h hy
  subst hv1
  cases hv2
  obtain ⟨_, _, hv3, hc3, hm3⟩ := Rd.form h
  cases hv3
  obtain ⟨zx, hzx⟩ : ∃ z, z = ls.getD x 0 := ⟨_, rfl⟩
  obtain ⟨zy, hzy⟩ : ∃ z, z = ls.getD y 0 := ⟨_, rfl⟩
  rw [← hzx] at hcx
  rw [← hzy] at hcy
  have HV : Hid (cWei ls x y = Lib.compareInt zy zx) := by show _ = _; rw [hzx, hzy]; rfl
  clear h hzx hzy
  go_enter Try.func235, Try.ntmps235
  go_wp2_with fail
  go_quiet ((go_at_call 161; exact Calls.quiet_of (cmpI_any _ _ _)))
  go_wp2_with fail
  go_ret
  exact ⟨by rw [HV.out]; rfl, nq, rfl⟩
theorem wrap_nat {d : Nat} (h : d ≤ 933120000000) : wrap64 (d : Int) = (d : Int) := by unfold wrap64; omega
/-- k zeros, then numbers. -/
def zerI (k : Nat) (D : List Int) : List Value := List.replicate k (Value.int .i64 0) ++ ints D
theorem zerI_set {k : Nat} {D : List Int} {z : Int} : (zerI (k + 1) D).set k (.int .i64 z) = zerI k (z :: D) := by
  unfold zerI
  rw [List.replicate_succ', List.append_assoc]
  have := set_mid (List.replicate k (Value.int .i64 0)) (ints D) (.int .i64 0) (.int .i64 z)
  rw [List.length_replicate] at this
  exact this
theorem zerI_at {k : Nat} {D : List Int} : (zerI (k + 1) D)[k]? = some (.int .i64 0) := by
  unfold zerI
  rw [List.getElem?_append_left (by simp), List.getElem?_replicate, if_pos (by omega)]
theorem zerI_start (n : Nat) : (zeros n).toList = zerI n [] := by simp [zeros, zerI]
/-- The last digits of a number stand, the number is cut. -/
def DigTo (r n len k m : Nat) (D : List Int) : Prop := digL r n len = digL r m k ++ D ∧ m ≤ n
theorem DigTo.start (r n len : Nat) : DigTo r n len len n [] := ⟨by simp, Nat.le_refl _⟩
theorem DigTo.step {r n len k m : Nat} {D : List Int} (h : DigTo r n len (k + 1) m D) : DigTo r n len k (m / r) (((m % r : Nat) : Int) :: D) := by
  refine ⟨?_, Nat.le_trans (Nat.div_le_self _ _) h.2⟩
  rw [h.1, digL]; simp
theorem DigTo.done {r n len m : Nat} {D : List Int} (h : DigTo r n len 0 m D) : D = digL r n len := by rw [h.1, digL]; rfl
set_option maxHeartbeats 1600000 in
theorem cmDigits_any (r n len : Nat) (w : World) (hr1 : 1 ≤ r) (hr : r ≤ 60) (hn : n ≤ 933120000000) (hl : len ≤ 6) : Calls Try.prog 155 #[.int .i64 (n : Int), .int .i64 (r : Int), .int .i64 (len : Int)] w (RetOwI (digL r n len) w) := by
  have hmk := make_ints len (by omega)
  have hr0 : (r : Int) ≠ 0 := by omega
  go_enter Try.func155, Try.ntmps155
  go_wp2
  go_loopw [0, 8] (fun m i wr => ∃ (k q : Nat) (z : Int) (D : List Int), k ≤ len ∧ m = .int .i64 (q : Int) ∧ i = .int .i64 z ∧ z + 1 = (k : Int) ∧ q ≤ n ∧ Hid (DigTo r n len k q D) ∧ Hid (Blk wr w.heap.size 3 (zerI k D)) ∧ Hid (Below w.heap.size w wr)) (fun _ i _ => (intOf i + 1).toNat)
  case atStart => exact ⟨len, n, _, [], Nat.le_refl _, rfl, rfl, by omega, Nat.le_refl _, DigTo.start _ _ _, by show Blk _ _ _ _; rw [← zerI_start]; exact Blk.new _ _ _, (Below.refl _ _).alloc (Nat.le_refl _) _⟩
  case round =>
    obtain ⟨k, q, z, D, hk, rfl, rfl, hz, hqn, hd, hb, hbel⟩ := hrel
    rcases Nat.eq_zero_or_pos k with h0 | h0
    · subst h0
      obtain rfl : z = -1 := by omega
      clear hz
      go_wp2_with fail
      go_ret
      refine ⟨_, rfl, ?_, hbel.out⟩
      have hb2 := hb.out
      have hdd := hd.out.done
      have e : zerI 0 D = ints D := rfl
      rw [e] at hb2
      have hle : D.length = len := by rw [hdd, digL_len]
      have := own_of_blk (lo := w.heap.size) (hi := wr.heap.size) hb2 (Nat.le_refl _) hb2.lt (by unfold maxLen; omega)
      rw [hle, hdd] at this
      exact this
    · obtain ⟨s, rfl⟩ : ∃ s, k = s + 1 := ⟨k - 1, by omega⟩
      obtain rfl : z = (s : Int) := by omega
      have hcell := hb.out.cell s
      rw [zerI_at] at hcell
      have hfr := hb.out.frozen s
      have hsl : (s : Int) < (len : Int) := by omega
      have HD2 := Lib.hid hd.out.step
      have HB2 : Hid (∀ u, Blk (wr.setCell ⟨w.heap.size, s, Option.none⟩ (.int .i64 u)) w.heap.size 3 (zerI s (u :: D))) := fun u => by rw [← zerI_set]; exact hb.out.set_ _ _
      have HC2 : Hid (∀ u, Below w.heap.size w (wr.setCell ⟨w.heap.size, s, Option.none⟩ u)) := fun u => hbel.out.setCell (p := ⟨w.heap.size, s, Option.none⟩) (Nat.le_refl _) _
      have hq2' : q / r ≤ 933120000000 := Nat.le_trans (Nat.div_le_self _ _) (by omega)
      have hq2 : q / r ≤ n := Nat.le_trans (Nat.div_le_self _ _) hqn
      have HQW : Hid (wrap64 ((q : Int) / (r : Int)) = ((q / r : Nat) : Int)) := by show _ = _; rw [← Int.natCast_ediv]; exact wrap_nat hq2'
      clear hz h0
      go_wp2_with fail
      go_roundw
      case rel => exact ⟨s, q / r, (s : Int) - 1, _, by omega, by rw [HQW.out], by rfl, by omega, hq2, HD2.out, HB2.out _, HC2.out _⟩
      case measure => (simp [intOf]; try omega)
end Go.Proofs.Ytabiobjcfopakaa
