/- Texts of one claim, joined: Z3, Z4, Z5. -/
import Derived.Deep.RegionLaw
import Derived.Test.YtjnkdjokbamibaaGreatDoorP7Books
/- Contracts: the lengths of texts of numbers and of books, whatever they hold. -/
namespace Go.Proofs.YtjnkdjokbamibaaGreatDoor
open Go.RowKit
theorem wrap_le {x : Int} (h : 0 ≤ x) : IntKind.i64.wrap x ≤ x ∧ IntKind.i64.wrap x < 9223372036854775808 := by rw [IntKind.wrap_i64]; omega
set_option maxRecDepth 100000 in
set_option maxHeartbeats 2000000 in
theorem l1Num_k : ∀ (k : Nat), k ≤ 100 → ∀ (n : Int), (n < 10 ^ (k + 1) ∨ 19 ≤ k) → ∀ (w : World), Calls Tryz.prog 104 #[.int .i64 n] w fun e w' => ∃ t : ByteArray, e = .returned (.string t) ∧ t.size ≤ k + 1 ∧ Below w.heap.size w w' := by
  intro k
  induction k with
  | zero =>
    intro hk n hn w
    have h10 : n < 10 := by rcases hn with h | h; simpa using h; omega
    clear hn
    obtain ⟨z, hz⟩ : ∃ z, z = wrap64 (48 + n) % 256 := ⟨_, rfl⟩
    have hz0 : 0 ≤ z := by omega
    have hz1 : z < 256 := by omega
    have hcv := fun wr' => conv_new z hz0 hz1 wr'
    have hz2 := hz.symm
    have hbx : Below w.heap.size w (w.alloc (.cells #[.int .u8 z] 5)) := (Below.refl _ _).alloc (Nat.le_refl _) _
    clear hz
    go_enter Tryz.func104, Tryz.ntmps104
    go_wp2_with fail
    go_ret
    exact ⟨_, rfl, by show (1 : Nat) ≤ _; omega, hbx⟩
  | succ k ih =>
    intro hk n hn w
    by_cases h10 : n < 10
    · obtain ⟨z, hz⟩ : ∃ z, z = wrap64 (48 + n) % 256 := ⟨_, rfl⟩
      have hz0 : 0 ≤ z := by omega
      have hz1 : z < 256 := by omega
      have hcv := fun wr' => conv_new z hz0 hz1 wr'
      have hz2 := hz.symm
      have hbx : Below w.heap.size w (w.alloc (.cells #[.int .u8 z] 5)) := (Below.refl _ _).alloc (Nat.le_refl _) _
      clear hz ih hn
      go_enter Tryz.func104, Tryz.ntmps104
      go_wp2_with fail
      go_ret
      exact ⟨_, rfl, by show (1 : Nat) ≤ _; omega, hbx⟩
    · obtain ⟨q, hq⟩ : ∃ q, IntKind.i64.wrap (n.tdiv 10) = q := ⟨_, rfl⟩
      obtain ⟨r, hr⟩ : ∃ r : Nat, n.tmod 10 = (r : Int) ∧ r < 10 := by
        rw [Int.tmod_eq_emod_of_nonneg (by omega)]
        exact ⟨(n % 10).toNat, by omega, by omega⟩
      have hrl := hr.2
      have hm1 := hr.1
      have hqk : q < 10 ^ (k + 1) ∨ 19 ≤ k := by
        have h1 := wrap_le (x := n / 10) (by omega)
        have hq2 := hq
        rw [Int.tdiv_eq_ediv_of_nonneg (by omega)] at hq2
        rw [hq2] at h1
        rcases hn with hn | hn
        · left
          rw [Int.pow_succ] at hn
          omega
        · rcases Nat.lt_or_ge k 19 with h | h
          · left
            obtain rfl : k = 18 := by omega
            have : (10 : Int) ^ (18 + 1) = 10000000000000000000 := by decide
            omega
          · exact .inr h
      have hw2 : IntKind.i64.wrap (48 + (r : Int)) = 48 + (r : Int) := by rw [IntKind.wrap_i64]; omega
      have hw3 : IntKind.u8.wrap (48 + (r : Int)) = 48 + (r : Int) := by rw [IntKind.wrap_u8]; omega
      have hc2 := fun (wr : World) (b : Nat) (hc : wr.cell? ⟨b, 0, Option.none⟩ = some (.int .u8 (48 + (r : Int)))) => conv_at (48 + (r : Int)) (by omega) (by omega) hc
      have hcv := fun wr' => conv_new (48 + (r : Int)) (by omega) (by omega) wr'
      have HC2 := Lib.hid hc2
      have IH := Lib.hid (ih (by omega) q hqk)
      have hcell : (w.alloc (.cells #[.int .u8 (48 + (r : Int))] 5)).drew.cell? ⟨w.heap.size, 0, Option.none⟩ = some (.int .u8 (48 + (r : Int))) := (Blk.new w 5 #[.int .u8 (48 + (r : Int))]).cell 0
      have HCELL := Lib.hid hcell
      have hcd := HC2.out _ _ HCELL.out
      have hbd : Below w.heap.size w w.drew := (Below.refl _ _).drew
      have hbe : Below w.heap.size w (w.alloc (.cells #[.int .u8 (48 + (r : Int))] 5)).drew := ((Below.refl _ _).alloc (Nat.le_refl _) _).drew
      clear ih hc2 hcell hr hqk hn
      go_enter Tryz.func104, Tryz.ntmps104
      go_wp2_with fail
      go_region_law (first
        | ((go_simp; go_at_call 104; (with_reducible refine (IH.out _).mono ?_); rintro e w2 ⟨t2, rfl, ht2, hb2⟩; have hls : ¬ (9223372036854775807 < t2.size + 1) := (by omega); (first | (have hcv2 := HC2.out w2 w.heap.size ((hb2.cell (p := ⟨w.heap.size, 0, Option.none⟩) (by simp)).trans HCELL.out)) | skip))))
      all_goals
        have hsz : (t2 ++ ⟨#[UInt8.ofNat (48 + (r : Int)).toNat]⟩).size = t2.size + 1 := by rw [ByteArray.size_append]; rfl
        have HSZ := Lib.hid hsz
        clear hsz
        go_wp2_with fail
        go_ret
        refine ⟨_, rfl, by rw [HSZ.out]; omega, ?_⟩
        first
          | exact (hbd.trans (hb2.mono (Nat.le_refl _))).alloc (Nat.le_trans hbd.size hb2.size) _
          | exact hbe.trans (hb2.mono hbe.size)
theorem l1Num_size (n : Int) (w : World) : Calls Tryz.prog 104 #[.int .i64 n] w fun e w' => ∃ t : ByteArray, e = .returned (.string t) ∧ t.size ≤ 20 ∧ Below w.heap.size w w' := l1Num_k 19 (by decide) n (.inr (Nat.le_refl _)) w
theorem IntSl.rd2 {w : World} {lo p : Nat} {u : Value} (h : IntSl w lo p u) : ∃ xs : List Int, RdI w w.heap.size u xs ∧ xs.length ≤ 1000 := by
  obtain ⟨xs, hx⟩ := h.rd
  obtain ⟨A, m, c, e1, _, e2⟩ := h.form
  obtain ⟨A', c', e3, _, _⟩ := Rd.form hx
  rw [e1] at e3
  injection e3 with _ e4 _
  exact ⟨xs, hx, by omega⟩
/-- A drawn row of phrases: its texts and its slices of signals are short. -/
theorem BookR.rd2 {w : World} {lo p n : Nat} {v : Value} (h : BookR w lo p v n) : ∃ ps : List Phr, ps.length = n ∧ RdPS w w.heap.size v ps ∧ ∀ q ∈ ps, q.1.size ≤ 1000 ∧ q.2.length ≤ 1000 := by
  classical
  obtain ⟨ts, us, h1, h2, h3, h4, h5⟩ := h
  have hx : ∃ f : Value → List Int, ∀ u ∈ us, RdI w w.heap.size u (f u) ∧ (f u).length ≤ 1000 := by
    refine ⟨fun u => if h : u ∈ us then Classical.choose (h5 u h).rd2 else [], fun u hu => ?_⟩
    dsimp only
    rw [dif_pos hu]
    exact Classical.choose_spec (h5 u hu).rd2
  obtain ⟨f, hf⟩ := hx
  have ht : txts (ts.zip (us.map f)) = ts := by unfold txts; rw [List.map_fst_zip]; simp; omega
  have hs : sigs (ts.zip (us.map f)) = us.map f := by unfold sigs; rw [List.map_snd_zip]; simp; omega
  have hl : (ts.zip (us.map f)).length = n := by simp; omega
  refine ⟨ts.zip (us.map f), hl, ⟨us, ⟨by rw [hs]; simp, fun i u xs hu hx => ?_⟩, ?_, fun p hp => ?_⟩, fun q hq => ⟨h4 q.1 (List.of_mem_zip hq).1, ?_⟩⟩
  · rw [hs, List.getElem?_map, hu] at hx
    cases hx
    exact (hf u (List.mem_of_getElem? hu)).1
  · rw [ht, hl]
    exact rd_of_owns h3 (fun k hk => (h3.lt k hk).2)
  · have := h4 p.1 (List.of_mem_zip hp).1
    omega
  · obtain ⟨u, hu, he⟩ := List.mem_map.1 (List.of_mem_zip hq).2
    rw [← he]
    exact (hf u hu).2
set_option maxRecDepth 100000 in
set_option maxHeartbeats 4000000 in
theorem bkText_size (ps : List Phr) (v : Value) (hi : Nat) (w : World) (h : RdB w hi v ps) (hh : hi ≤ w.heap.size) (hn : ps.length ≤ 26) (hq : ∀ q ∈ ps, q.1.size ≤ 1000 ∧ q.2.length ≤ 1000) :
    Calls Tryz.prog 70 #[v] w fun e w' => ∃ t : ByteArray, e = .returned (.string t) ∧ t.size ≤ 600000 ∧ Below w.heap.size w w' := by
  obtain ⟨a, rfl, ha⟩ := h
  obtain ⟨A, c, rfl, hc, hm⟩ := ha.form
  have hba : Below w.heap.size w (w.alloc (.cells #[.slice A ps.length c] 41)) := (Below.refl _ _).alloc (Nat.le_refl _) _
  have HB := Lib.hid hba
  have HA := Lib.hid (ha.below hba hh)
  have hsz1 : hi ≤ (w.alloc (.cells #[.slice A ps.length c] 41)).heap.size := by simp; omega
  have HQ := Lib.hid hq
  clear ha hba hq
  go_enter Tryz.func70, Tryz.ntmps70
  go_wp2_with fail
  go_loopw [3, 11] (fun s i wr => ∃ (k : Nat) (T : ByteArray), k ≤ ps.length ∧ i = .int .i64 (k : Int) ∧ s = .string T ∧ T.size ≤ 22002 * k ∧ Hid (Below (w.heap.size + 1) (w.alloc (.cells #[.slice A ps.length c] 41)) wr) ∧ w.heap.size + 1 ≤ wr.heap.size) (fun _ i _ => ps.length - (intOf i).toNat)
  case atStart => exact ⟨0, ⟨#[]⟩, Nat.zero_le _, rfl, rfl, Nat.le_refl _, Below.refl _ _, by simp⟩
  case round =>
    obtain ⟨k, T, hk, rfl, rfl, hT, hbr, hs⟩ := hrel
    by_cases hlt : k < ps.length
    · obtain ⟨b2, o2, c2, a2, t, xs, hv, hb2, hx, hcell2, hcell3, hra, hta⟩ := (HA.out.below hbr.out (by omega)).at_ hlt
      cases hv
      obtain ⟨A2, cc2, rfl, hcc2, hmm2⟩ := Rd.form hra
      have hqk := HQ.out _ (List.mem_of_getElem? hx)
      have htl : t.size ≤ 1000 := hqk.1
      have hxl : xs.length ≤ 1000 := hqk.2
      have HRA := Lib.hid hra
      have hbx : Below wr.heap.size wr (wr.alloc (.cells #[.string t, .slice A2 xs.length cc2] 45)) := (Below.refl _ _).alloc (Nat.le_refl _) _
      have q0 : (wr.alloc (.cells #[.string t, .slice A2 xs.length cc2] 45)).cell? ⟨wr.heap.size, 0, Option.none⟩ = some (.string t) := (Blk.new wr 45 #[.string t, .slice A2 xs.length cc2]).cell 0
      have q1 : (wr.alloc (.cells #[.string t, .slice A2 xs.length cc2] 45)).cell? ⟨wr.heap.size, 1, Option.none⟩ = some (.slice A2 xs.length cc2) := (Blk.new wr 45 #[.string t, .slice A2 xs.length cc2]).cell 1
      obtain ⟨wx, hwx⟩ : ∃ wx, wx = wr.alloc (.cells #[.string t, .slice A2 xs.length cc2] 45) := ⟨_, rfl⟩
      rw [← hwx] at hbx q0 q1
      have HWX := Lib.hid hwx
      obtain ⟨PRE, hPRE⟩ : ∃ PRE, T ++ (t ++ ⟨#[32]⟩) = PRE := ⟨_, rfl⟩
      have hpl : PRE.size ≤ T.size + 1001 := by rw [← hPRE, ByteArray.size_append, ByteArray.size_append]; show T.size + (t.size + 1) ≤ _; omega
      have HXS := Lib.hid (RdI.below HRA.out hbx (by omega))
      have HBX := Lib.hid (hbr.out.trans (hbx.mono hs))
      have hsx := hbx.size
      have HPRE := Lib.hid hPRE
      clear hx hra hwx hbx hqk hPRE
      go_wp2_with fail
      rw [← HWX.out, HPRE.out]
      clear HWX q0 q1 HPRE
      go_loopw [3, 23] (fun s i wq => ∃ (j : Nat) (U : ByteArray), j ≤ xs.length ∧ i = .int .i64 (j : Int) ∧ s = .string U ∧ U.size ≤ T.size + 1001 + 21 * j ∧ Hid (Below wx.heap.size wx wq)) (fun _ i _ => xs.length - (intOf i).toNat)
      case atStart => exact ⟨0, PRE, Nat.zero_le _, rfl, rfl, by omega, Below.refl _ _⟩
      case round =>
        obtain ⟨j, U, hj, rfl, rfl, hU, hbr2⟩ := hrel
        by_cases hltj : j < xs.length
        · obtain ⟨b1, o1, c1, y, hv, _, hy, hcell1⟩ := Rd.at_ (RdI.below HXS.out hbr2.out (by omega)) hltj
          cases hv
          have CN := Lib.hid (l1Num_size y wr)
          clear hy
          rcases Nat.eq_zero_or_pos j with h0 | h0
          · have hg : decide (0 < j) = false := decide_eq_false (by omega)
            clear h0
            go_wp2_with fail
            refine CN.out.mono ?_
            rintro e w2 ⟨t2, rfl, ht2, hb2⟩
            have HB := Lib.hid (hbr2.out.trans (hb2.mono hbr2.out.size))
            have HSZ : Hid ((U ++ t2).size ≤ T.size + 1001 + 21 * (j + 1)) := by show _ ≤ _; rw [ByteArray.size_append]; omega
            clear hb2
            go_wp2_with fail
            go_roundw
            case rel => exact ⟨j + 1, _, by omega, by go_num, rfl, HSZ.out, HB.out⟩
            case measure => (simp [intOf]; try omega)
          · have hg : decide (0 < j) = true := decide_eq_true (by omega)
            go_wp2_with fail
            refine CN.out.mono ?_
            rintro e w2 ⟨t2, rfl, ht2, hb2⟩
            have HB := Lib.hid (hbr2.out.trans (hb2.mono hbr2.out.size))
            have hu1 : (U ++ ⟨#[45]⟩).size = U.size + 1 := by rw [ByteArray.size_append]; rfl
            have HSZ : Hid (((U ++ ⟨#[45]⟩) ++ t2).size ≤ T.size + 1001 + 21 * (j + 1)) := by show _ ≤ _; rw [ByteArray.size_append, hu1]; omega
            have hls : ¬ (9223372036854775807 < U.size + 1 + t2.size) := by omega
            clear hb2 hu1
            go_wp2_with fail
            go_roundw
            case rel => exact ⟨j + 1, _, by omega, by go_num, rfl, HSZ.out, HB.out⟩
            case measure => (simp [intOf]; try omega)
        · have HBF := Lib.hid (HBX.out.trans (hbr2.out.mono (by omega)))
          have hsf := hbr2.out.size
          have HSZ : Hid ((U ++ ⟨#[10]⟩).size ≤ 22002 * (k + 1)) := by show _ ≤ _; rw [ByteArray.size_append]; show U.size + 1 ≤ _; omega
          go_wp2_with fail
          go_roundw
          case rel => exact ⟨k + 1, _, by omega, by go_num, rfl, HSZ.out, HBF.out, by omega⟩
          case measure => (simp [intOf]; try omega)
    · have HBR := Lib.hid (HB.out.trans (hbr.out.mono (by omega)))
      go_wp2_with fail
      go_ret
      exact ⟨T, rfl, by omega, HBR.out⟩
end Go.Proofs.YtjnkdjokbamibaaGreatDoor
/- Contracts: drawn texts of phrases, drawn books with a text: what is found, what begins, what is parsed. -/
namespace Go.Proofs.YtjnkdjokbamibaaGreatDoor
open Go.RowKit
theorem TxtR.own {w : World} {b : Nat} (h : TxtR w b) : ∃ cs : List Value, w.ownsRow b 9 1 (.slice (some ⟨b, 0, Option.none⟩) 26 26) 26 cs ∧ cs.length = 26 ∧ ∀ u ∈ cs, ∃ t : ByteArray, u = .string t ∧ t.size ≤ 1000 := by
  obtain ⟨cs, h1, h2, h3⟩ := h
  exact ⟨cs, ⟨by omega, .inr ⟨b, 26, cs.toArray, rfl, Nat.le_refl _, h1, Nat.le_refl _, by decide, by simpa using h2, by rw [List.take_of_length_le (by simp; omega)]⟩⟩, h2, h3⟩
theorem lstS_own {w : World} {b C m : Nat} {v : Value} {cs : List Value} (h : w.ownsRow b 9 1 v m cs) (h0 : 1 ≤ m) (hm : m ≤ 1000) (hC : C < b) (h3 : ∀ u ∈ cs, ∃ t : ByteArray, u = .string t ∧ t.size ≤ 1000) : LstS w C v m := by
  rcases h.2 with ⟨_, e⟩ | ⟨g, cap, cur, rfl, hl, hg, _⟩
  · omega
  · refine ⟨h0, hm, g, cap, rfl, by omega, (Array.getElem?_eq_some_iff.1 hg).1, fun j hj => ?_⟩
    have hlen : cs.length = m := by simpa using h.1
    have hx : cs[j]? = some cs[j] := List.getElem?_eq_getElem (by omega)
    obtain ⟨t, e, ht⟩ := h3 _ (List.mem_of_getElem? hx)
    exact ⟨t, by rw [h.cellAt j (by omega), hx, e], ht⟩
/-- Some texts more behind the 26. -/
theorem app_txt {wr : World} {b g m : Nat} {arr : Array Value} {ops : Array Oper} {rest : List Oper} {o : Oper} {a : Act} {Q : Exit → Act → World → Prop} (hgd : o.guard = Option.none) (s x : Operand)
    (ho : o.op = .call { callee := .builtin .append, args := #[s, x], argTypes := #[81, 81] }) (hT : TxtR wr b) (hm : arr.size = m) (hm2 : m ≤ 10) (hu : ∀ u ∈ arr.toList, ∃ t : ByteArray, u = .string t ∧ t.size ≤ 1000)
    (hs : a.eval s = .slice (some ⟨b, 0, Option.none⟩) 26 26) (hg : g = wr.heap.size) (hx : a.eval x = .slice (some ⟨g, 0, Option.none⟩) m m)
    (h : ∀ v' w', (∀ C, C < b → LstS w' C v' (26 + m)) → Below b wr w' → wpList Tryz.prog ops Q rest (a.put o.dst v') w') : wpList Tryz.prog ops Q (o :: rest) a (wr.alloc (.cells arr 9)) := by
  subst hg
  obtain ⟨i, hi, hz0, hz1, hz2⟩ := info_parts info_str
  obtain ⟨cs, h1, h2, h3⟩ := hT.own
  have hbl : b < wr.heap.size := by obtain ⟨_, hb, _⟩ := hT; exact hb.lt
  have hone : ∀ u ∈ arr.toList, u.oneCell' = true := fun u hu' => by obtain ⟨t, rfl, _⟩ := hu u hu'; rfl
  refine wpList_append_own _ hgd s x 81 ho b 9 i (.string { data := #[] }) 1 16 Tryz.underlying81 hi hz0 hz1 hz2 rfl (by decide) (.slice (some ⟨b, 0, Option.none⟩) 26 26) 26 cs hs (h1.alloc _) ⟨wr.heap.size, 0, Option.none⟩ m m arr.toList hx (by simpa using hm)
    (fun j u hj => by rw [Go.WideShapes.add_plain, show (0 : Nat) + j = j by omega, (Blk.new wr 9 arr).cell j]; exact hj) hone (by unfold maxLen; omega) (by omega) (by simp; omega) ?_
  intro v' w' hown hgr _
  refine h v' w' (fun C hC => lstS_own hown (by omega) (by omega) hC (fun u hu' => ?_)) (((Below.refl _ _).alloc (by omega) _).grown hgr (by simp; omega) (fun k hk => by cases hk; exact Nat.le_refl _))
  rcases List.mem_append.1 hu' with hu' | hu'
  · exact h3 u hu'
  · exact hu u hu'
/-- A drawn book, and a text. -/
def DrewBT (w : World) (e : Ending) (w' : World) : Prop := ∃ v n s, e = .returned (.tuple #[.agg #[v], .string s]) ∧ n ≤ 41 ∧ s.size ≤ 1000 ∧ BookR w' w.heap.size 0 v n ∧ Below w.heap.size w w'
set_option maxRecDepth 100000 in
set_option maxHeartbeats 2000000 in
theorem DrawIsPhraseText_any (zs : List UInt8) (v : Value) (hi : Nat) (w : World) (h : RdU w hi v zs) (hh : hi ≤ w.heap.size) :
    Calls Tryz.prog 42 #[v] w fun e w' => ∃ t : ByteArray, e = .returned (.string t) ∧ t.size ≤ 1000 ∧ Below w.heap.size w w' := by
  obtain ⟨A, c, rfl, hc, hm⟩ := Rd.form h
  have HCU := Lib.hid (cur_new h hh)
  have HBX : Hid (∀ w', KeepG w.heap.size (w.heap.size + 1) (w.alloc (.cells #[.slice A zs.length c, .int .i64 0, .int .u64 0] 71)) w' → Below w.heap.size w w') := fun w' hk => keepG_box hk
  have hsz : (w.alloc (.cells #[.slice A zs.length c, .int .i64 0, .int .u64 0] 71)).heap.size = w.heap.size + 1 := by simp
  clear h
  go_enter Tryz.func42, Tryz.ntmps42
  go_wp2_with fail
  generalize (w.alloc (.cells #[.slice A zs.length c, .int .i64 0, .int .u64 0] 71)) = wb at HCU HBX hsz ⊢
  have hle : w.heap.size < wb.heap.size := by omega
  clear hsz
  have HU : ∀ u ∈ (#[.string ⟨#[]⟩, .string ⟨#[65]⟩, .string ⟨#[97, 98, 99, 100, 101, 102, 103, 104, 105, 106, 107, 108]⟩, .string ⟨#[97, 98, 99, 100, 101, 102, 103, 104, 105, 106, 107, 108, 109]⟩, .string ⟨#[97, 32, 98]⟩, .string ⟨#[97, 49]⟩] : Array Value).toList, ∃ t : ByteArray, u = .string t ∧ t.size ≤ 1000 := by
    repeat (refine str_mem ⟨_, rfl, by decide⟩ ?_)
    intro u hu
    cases hu
  have HUH := Lib.hid HU
  clear HU
  have CT := Lib.hid (phraseTexts_any wb)
  refine CT.out.mono ?_
  rintro e w1 ⟨rfl, htx, hb1⟩
  have HT := Lib.hid htx
  have HC1 := Lib.hid (HCU.out.fresh hb1 HCU.out.lt)
  have HK1 := Lib.hid (below_g (lo := w.heap.size) (hi := w.heap.size + 1) hb1)
  clear htx hb1 HCU CT
  go_wp2_with (at_builtin; refine app_txt (b := wb.heap.size) rfl (.tmp 8) (.tmp 9) rfl HT.out rfl (by decide) HUH.out rfl rfl rfl ?_; intro v2 w2 hl2 hb2)
  have hlw := hl2 w.heap.size (by omega)
  have HC2 := Lib.hid (HC1.out.fresh hb2 (by omega))
  have HK2 : Hid (KeepG w.heap.size (w.heap.size + 1) wb w2) := HK1.out.fresh hb2
  have hlw2 := hlw
  obtain ⟨_, _, b3, c3, rfl, _⟩ := hlw2
  have c3 := Lib.hid (of_any 32 _ w.heap.size _ w2 HC2.out (by omega) hlw)
  clear hl2 hb2 hlw
  go_wp2_with fail
  refine c3.out.mono ?_
  rintro e w3 ⟨t, rfl, ht, _, hk3⟩
  have HK3 := Lib.hid (HK2.out.trans hk3)
  clear hk3
  go_wp2_with fail
  go_ret
  exact ⟨t, rfl, ht, HBX.out _ HK3.out⟩
set_option maxRecDepth 100000 in
set_option maxHeartbeats 2000000 in
theorem DrawParseBook_any (zs : List UInt8) (v : Value) (hi : Nat) (w : World) (h : RdU w hi v zs) (hh : hi ≤ w.heap.size) :
    Calls Tryz.prog 39 #[v] w fun e w' => ∃ t : ByteArray, e = .returned (.string t) ∧ t.size ≤ 700000 ∧ Below w.heap.size w w' := by
  obtain ⟨A, c, rfl, hc, hm⟩ := Rd.form h
  have HCU := Lib.hid (cur_new h hh)
  have HBX : Hid (∀ w', KeepG w.heap.size (w.heap.size + 1) (w.alloc (.cells #[.slice A zs.length c, .int .i64 0, .int .u64 0] 71)) w' → Below w.heap.size w w') := fun w' hk => keepG_box hk
  have hsz : (w.alloc (.cells #[.slice A zs.length c, .int .i64 0, .int .u64 0] 71)).heap.size = w.heap.size + 1 := by simp
  clear h
  go_enter Tryz.func39, Tryz.ntmps39
  go_wp2_with fail
  generalize (w.alloc (.cells #[.slice A zs.length c, .int .i64 0, .int .u64 0] 71)) = wb at HCU HBX hsz ⊢
  have CB := Lib.hid (book_any w.heap.size 0 wb HCU.out (by omega))
  refine CB.out.mono ?_
  rintro e w1 ⟨v1, n, rfl, hn1, hn26, hrow, hcur, hk1⟩
  obtain ⟨ps, hpl, hps, hpq⟩ := hrow.rd2
  have HC1 := Lib.hid hcur
  have HK1 := Lib.hid hk1
  have cT := Lib.hid (bkText_size ps (.agg #[v1]) w1.heap.size w1 ⟨_, rfl, hps⟩ (Nat.le_refl _) (by omega) hpq)
  obtain ⟨A1, c1, rfl⟩ := hrow.form
  clear hrow hcur hk1 hps hpq hpl CB HCU
  go_wp2_with fail
  refine cT.out.mono ?_
  rintro e w2 ⟨t, rfl, ht, hb2⟩
  have HC2 := Lib.hid (HC1.out.fresh hb2 HC1.out.lt)
  have HK2 : Hid (KeepG w.heap.size (w.heap.size + 1) wb w2) := HK1.out.trans (below_g hb2)
  have c3 := Lib.hid (one_any 3 w.heap.size _ w2 HC2.out (by omega) (by omega) (by omega))
  clear hb2 cT
  go_wp2_with fail
  refine c3.out.mono ?_
  rintro e w3 ⟨z3, rfl, hc3, hk3⟩
  have HK3 := Lib.hid (HK2.out.trans hk3)
  cases z3
  · clear hc3 hk3
    go_wp2_with fail
    go_ret
    exact ⟨t, rfl, by omega, HBX.out _ HK3.out⟩
  · have c4 := Lib.hid (spoilt_any t ⟨#[48, 49, 45, 97, 32, 10]⟩ w.heap.size _ w3 hc3 (by omega) (by omega) (by decide) (by decide))
    clear hc3 hk3
    go_wp2_with fail
    refine c4.out.mono ?_
    rintro e w4 ⟨t', rfl, hts, _, hk4⟩
    have HK4 := Lib.hid (HK3.out.trans hk4)
    clear hk4
    go_wp2_with fail
    go_ret
    exact ⟨t', rfl, by omega, HBX.out _ HK4.out⟩
end Go.Proofs.YtjnkdjokbamibaaGreatDoor
/- Contracts: drawn books with a text. -/
namespace Go.Proofs.YtjnkdjokbamibaaGreatDoor
open Go.RowKit
set_option maxRecDepth 100000 in
set_option maxHeartbeats 4000000 in
theorem DrawFindPhrase_any (zs : List UInt8) (v : Value) (hi : Nat) (w : World) (h : RdU w hi v zs) (hh : hi ≤ w.heap.size) :
    Calls Tryz.prog 30 #[v] w (DrewBT w) := by
  obtain ⟨A, c, rfl, hc, hm⟩ := Rd.form h
  have hR : Blk (w.alloc (.cells #[.slice Option.none 0 0] 41)) w.heap.size 41 [.slice Option.none 0 0] := Blk.new w _ _
  have hb0 : Below w.heap.size w (w.alloc (.cells #[.slice Option.none 0 0] 41)) := (Below.refl _ _).alloc (Nat.le_refl _) _
  have hsz : (w.alloc (.cells #[.slice Option.none 0 0] 41)).heap.size = w.heap.size + 1 := by simp
  have hu : RdU (w.alloc (.cells #[.slice Option.none 0 0] 41)) hi (.slice A zs.length c) zs := h.below hb0 hh
  clear h
  go_enter Tryz.func30, Tryz.ntmps30
  go_wp2_with fail
  generalize (w.alloc (.cells #[.slice Option.none 0 0] 41)) = wa at hR hb0 hsz hu ⊢
  have hcu := cur_new hu (by omega)
  have hR2 := hR.alloc (.cells #[.slice A zs.length c, .int .i64 0, .int .u64 0] 71)
  have hb1 : Below w.heap.size w (wa.alloc (.cells #[.slice A zs.length c, .int .i64 0, .int .u64 0] 71)) := hb0.alloc (by omega) _
  have hsz2 : (wa.alloc (.cells #[.slice A zs.length c, .int .i64 0, .int .u64 0] 71)).heap.size = w.heap.size + 2 := by simp; omega
  rw [hsz] at hcu
  generalize (wa.alloc (.cells #[.slice A zs.length c, .int .i64 0, .int .u64 0] 71)) = wb at hcu hR2 hb1 hsz2 ⊢
  try rw [hsz]
  have CB := Lib.hid (anyBook_any (w.heap.size + 1) 0 wb hcu (by omega))
  have hs2 : w.heap.size + 2 ≤ wb.heap.size := by omega
  clear hR hb0 hu hcu hsz hsz2
  refine CB.out.mono ?_
  rintro e w1 ⟨v1, n, rfl, hn, hr, hcur, hk⟩
  obtain ⟨A1, c1, rfl⟩ := hr.form
  have hs1 : w.heap.size + 2 ≤ w1.heap.size := by have := hk.size; omega
  have HR1 := Lib.hid (hR2.keepG hk (by omega))
  have HROW := Lib.hid (hr.lo (show w.heap.size + 2 ≤ wb.heap.size + 1 by omega))
  have HCUR := Lib.hid hcur
  have HBL := Lib.hid (keepG_bel hb1 hk (by omega))
  clear CB hR2 hb1 hr hcur hk hs2
  have HU : ∀ u ∈ (#[.string ⟨#[]⟩, .string ⟨#[120, 120]⟩] : Array Value).toList, ∃ t : ByteArray, u = .string t ∧ t.size ≤ 1000 := by
    repeat (refine str_mem ⟨_, rfl, by decide⟩ ?_)
    intro u hu
    cases hu
  have HUH := Lib.hid HU
  clear HU
  have CT := Lib.hid (phraseTexts_any w1)
  go_wp2_with fail
  refine CT.out.mono ?_
  rintro e w2 ⟨rfl, htx, hb2⟩
  have HT := Lib.hid htx
  have HB2 := Lib.hid hb2
  have hs2 := hb2.size
  clear htx hb2 CT
  go_wp2_with (at_builtin; refine app_txt (b := w1.heap.size) rfl (.tmp 11) (.tmp 12) rfl HT.out rfl (by decide) HUH.out rfl rfl rfl ?_; intro v3 w3 hl3 hb3)
  have hlw := hl3 (w.heap.size + 1) (by omega)
  have HB3 : Hid (Below w1.heap.size w1 w3) := HB2.out.trans hb3
  have hs3 : w1.heap.size ≤ w3.heap.size := HB3.out.size
  have hlw2 := hlw
  obtain ⟨_, _, b3, c3, rfl, _⟩ := hlw2
  have c4 := Lib.hid (of_any 28 _ (w.heap.size + 1) _ w3 (HCUR.out.fresh HB3.out (by omega)) (by omega) hlw)
  clear hl3 hb3 hlw
  go_wp2_with fail
  refine c4.out.mono ?_
  rintro e w4 ⟨t, rfl, ht, _, hk4⟩
  have hkk : KeepG (w.heap.size + 1) (w.heap.size + 1 + 1) w1 w4 := (below_g HB3.out).trans hk4
  have hrb := HR1.out.keepG hkk (by omega)
  have hrc := hrb.cell 0
  have hrf := hrb.frozen 0
  have c10 := (hrb.set_ 0 (.slice A1 n c1)).cell 0
  have HBK := Lib.hid ((HROW.out.step hkk (by omega)).ownBox hrb (u := .slice A1 n c1))
  have HL2 := Lib.hid ((keepG_bel HBL.out hkk (by omega)).setCell (p := ⟨w.heap.size, 0, Option.none⟩) (Nat.le_refl _) (.slice A1 n c1))
  clear hk4 hkk hrb
  go_wp2_with fail
  refine bodyPost_ret (v := .tuple #[.agg #[.slice A1 n c1], .string t]) (by simp [results, Tryz.results30, go_sem, c10]) rfl ?_
  exact ⟨_, n, t, rfl, hn, ht, HBK.out.lo (show w.heap.size ≤ w.heap.size + 2 by omega), HL2.out⟩
set_option maxRecDepth 100000 in
set_option maxHeartbeats 4000000 in
theorem DrawWithBeginning_any (zs : List UInt8) (v : Value) (hi : Nat) (w : World) (h : RdU w hi v zs) (hh : hi ≤ w.heap.size) :
    Calls Tryz.prog 36 #[v] w (DrewBT w) := by
  obtain ⟨A, c, rfl, hc, hm⟩ := Rd.form h
  have hR : Blk (w.alloc (.cells #[.slice Option.none 0 0] 41)) w.heap.size 41 [.slice Option.none 0 0] := Blk.new w _ _
  have hb0 : Below w.heap.size w (w.alloc (.cells #[.slice Option.none 0 0] 41)) := (Below.refl _ _).alloc (Nat.le_refl _) _
  have hsz : (w.alloc (.cells #[.slice Option.none 0 0] 41)).heap.size = w.heap.size + 1 := by simp
  have hu : RdU (w.alloc (.cells #[.slice Option.none 0 0] 41)) hi (.slice A zs.length c) zs := h.below hb0 hh
  clear h
  go_enter Tryz.func36, Tryz.ntmps36
  go_wp2_with fail
  generalize (w.alloc (.cells #[.slice Option.none 0 0] 41)) = wa at hR hb0 hsz hu ⊢
  have hcu := cur_new hu (by omega)
  have hR2 := hR.alloc (.cells #[.slice A zs.length c, .int .i64 0, .int .u64 0] 71)
  have hb1 : Below w.heap.size w (wa.alloc (.cells #[.slice A zs.length c, .int .i64 0, .int .u64 0] 71)) := hb0.alloc (by omega) _
  have hsz2 : (wa.alloc (.cells #[.slice A zs.length c, .int .i64 0, .int .u64 0] 71)).heap.size = w.heap.size + 2 := by simp; omega
  rw [hsz] at hcu
  generalize (wa.alloc (.cells #[.slice A zs.length c, .int .i64 0, .int .u64 0] 71)) = wb at hcu hR2 hb1 hsz2 ⊢
  try rw [hsz]
  have CB := Lib.hid (anyBook_any (w.heap.size + 1) 0 wb hcu (by omega))
  have hs2 : w.heap.size + 2 ≤ wb.heap.size := by omega
  clear hR hb0 hu hcu hsz hsz2
  refine CB.out.mono ?_
  rintro e w1 ⟨v1, n, rfl, hn, hr, hcur, hk⟩
  obtain ⟨A1, c1, rfl⟩ := hr.form
  have hs1 : w.heap.size + 2 ≤ w1.heap.size := by have := hk.size; omega
  have HR1 := Lib.hid (hR2.keepG hk (by omega))
  have HROW := Lib.hid (hr.lo (show w.heap.size + 2 ≤ wb.heap.size + 1 by omega))
  have HCUR := Lib.hid hcur
  have HBL := Lib.hid (keepG_bel hb1 hk (by omega))
  clear CB hR2 hb1 hr hcur hk hs2
  have hl0 := lstS_new w1 (w.heap.size + 1) #[.string ⟨#[]⟩, .string ⟨#[97]⟩, .string ⟨#[98, 111, 97, 116]⟩, .string ⟨#[115]⟩, .string ⟨#[115, 104, 105, 112]⟩, .string ⟨#[116, 111]⟩, .string ⟨#[97, 98, 99, 100, 101, 102, 103, 104, 105, 106, 107, 108]⟩, .string ⟨#[97, 98, 99, 100, 101, 102, 103, 104, 105, 106, 107, 108, 109]⟩, .string ⟨#[65]⟩] 9 (by omega) (by omega) (by omega) rfl (by
    repeat (refine str_mem ⟨_, rfl, by decide⟩ ?_)
    intro u hu
    cases hu)
  have c4 := Lib.hid (of_any 9 _ (w.heap.size + 1) _ _ (HCUR.out.alloc _) (by omega) hl0)
  clear hl0
  go_wp2_with fail
  refine c4.out.mono ?_
  rintro e w4 ⟨t, rfl, ht, _, hk4⟩
  have hkk : KeepG (w.heap.size + 1) (w.heap.size + 1 + 1) w1 w4 := ((KeepG.refl _ _ _).alloc _).trans hk4
  have hrb := HR1.out.keepG hkk (by omega)
  have hrc := hrb.cell 0
  have hrf := hrb.frozen 0
  have c10 := (hrb.set_ 0 (.slice A1 n c1)).cell 0
  have HBK := Lib.hid ((HROW.out.step hkk (by omega)).ownBox hrb (u := .slice A1 n c1))
  have HL2 := Lib.hid ((keepG_bel HBL.out hkk (by omega)).setCell (p := ⟨w.heap.size, 0, Option.none⟩) (Nat.le_refl _) (.slice A1 n c1))
  clear hk4 hkk hrb
  go_wp2_with fail
  refine bodyPost_ret (v := .tuple #[.agg #[.slice A1 n c1], .string t]) (by simp [results, Tryz.results36, go_sem, c10]) rfl ?_
  exact ⟨_, n, t, rfl, hn, ht, HBK.out.lo (show w.heap.size ≤ w.heap.size + 2 by omega), HL2.out⟩
end Go.Proofs.YtjnkdjokbamibaaGreatDoor
