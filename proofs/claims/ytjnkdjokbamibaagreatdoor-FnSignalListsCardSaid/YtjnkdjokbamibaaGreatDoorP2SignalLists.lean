/- Texts of one claim, joined: Y5, Y6, Y7, Y8, D1, D7, J1, J2, T1, J3, O, B4, J4, Z1, Z2. -/
import Derived.Lib.AtoiAllMem
import Derived.Lib.AtoiErrMem
import Derived.Lib.AtoiAllCases
import Derived.Lib.SplitLaws
import Derived.Test.YtjnkdjokbamibaaGreatDoorRows
import Derived.Stop.LaidErr
import Derived.Lib.LaidTab
import Derived.Shelf.Vars
import Derived.LaidMore
import Derived.OpenShut
import Derived.Stop.Joined
import Derived.SevenTiedAt
import Derived.Laws.OwnMore
import Derived.Laws.IdiomStrings
import Derived.Laws.BitsLemmas
import Derived.Laws.Bits64
import Derived.Deep.Slices
import Derived.Lib.SlBytesConst
import Derived.Test.YtjnkdjokbamibaaGreatDoorP1SignalLists
/- Contracts: a text cut at a byte, a number read, ReadSignals; of the reference. -/
namespace Go.Proofs.YtjnkdjokbamibaaGreatDoor
open Go.RowKit
abbrev strsT (xs : List (List UInt8)) : List Value := xs.map fun a => Value.string ⟨a.toArray⟩
/-- v is a row of texts that has been appended to since the world w. -/
def GrowS (w : World) (B : Nat) (wr : World) (v : Value) (xs : List (List UInt8)) : Prop := wr.ownsRow B 9 1 v xs.length (strsT xs) ∧ Below B w wr ∧ B ≤ wr.heap.size
theorem GrowS.start (w : World) : GrowS w w.heap.size w (.slice Option.none 0 0) [] := ⟨World.ownsRow_nil _ _ _ _, Below.refl _ _, Nat.le_refl _⟩
theorem GrowS.rd {w wr : World} {B : Nat} {v : Value} {xs : List (List UInt8)} (h : GrowS w B wr v xs) : Rd wr wr.heap.size 1 v xs.length (strsT xs) := rd_of_owns h.1 fun k hk => (h.1.lt k hk).2
theorem GrowS.app {w wr : World} {B : Nat} {v : Value} {xs : List (List UInt8)} {ops : Array Oper} {rest : List Oper} {o : Oper} {a : Act} {Q : Exit → Act → World → Prop} {y : ByteArray} (hgd : o.guard = Option.none) (s x : Operand)
    (ho : o.op = .call { callee := .builtin .append, args := #[s, x], argTypes := #[81, 81] }) (hG : GrowS w B wr v xs) (hlen : xs.length < 1099511627776)
    (hs : a.eval s = v) (hx : a.eval x = .slice (some ⟨wr.heap.size, 0, Option.none⟩) 1 1)
    (h : ∀ v' w', GrowS w B w' v' (xs ++ [y.data.toList]) → wpList Tryz.prog ops Q rest (a.put o.dst v') w') : wpList Tryz.prog ops Q (o :: rest) a (wr.alloc (.cells #[.string y] 9)) := by
  obtain ⟨i, hi, hz0, hz1, hz2⟩ := info_parts info_str
  refine wpList_append_own _ hgd s x 81 ho B 9 i (.string { data := #[] }) 1 16 Tryz.underlying81 hi hz0 hz1 hz2 rfl (by decide) v xs.length (strsT xs) hs (hG.1.alloc _) ⟨wr.heap.size, 0, Option.none⟩ 1 1 [.string y] hx rfl
    (one_cell _ _ _) (by intro u hu; simp at hu; subst hu; rfl) (by unfold maxLen; omega) (by omega) (by simp; have := hG.2.2; omega) ?_
  intro v' w' hown hgr _
  refine h v' w' ⟨?_, ?_, ?_⟩
  · simpa [strsT] using hown
  · exact (hG.2.1.alloc hG.2.2 _).grown hgr (by simp; have := hG.2.2; omega) (fun k hk => ((hG.1.alloc (.cells #[.string y] 9)).lt k hk).1)
  · have h1 := hgr.size; have h2 := hG.2.2; simp at h1; omega
def RetRdS (xs : List (List UInt8)) (w : World) (e : Ending) (w' : World) : Prop := ∃ v, e = .returned v ∧ Rd w' w'.heap.size 1 v xs.length (strsT xs) ∧ Below w.heap.size w w'
def RetGrS (xs : List (List UInt8)) (w : World) (e : Ending) (w' : World) : Prop := ∃ v, e = .returned v ∧ GrowS w w.heap.size w' v xs
theorem Rd.atS {w : World} {hi : Nat} {v : Value} {n : Nat} {xs : List (List UInt8)} (h : Rd w hi 1 v n (strsT xs)) {k : Nat} (hk : k < n) :
    ∃ b off c y, v = .slice (some ⟨b, off, Option.none⟩) n c ∧ b < hi ∧ xs[k]? = some y ∧ w.cell? ⟨b, off + k, Option.none⟩ = some (.string ⟨y.toArray⟩) := by
  obtain ⟨h0, A, c, h1, _, _, h4⟩ := h
  obtain ⟨b, off, rfl, hb, hc⟩ := h4 (by omega)
  have hl : xs.length = n := by simpa using h0
  have hx : xs[k]? = some (xs[k]'(by omega)) := List.getElem?_eq_getElem (by omega)
  exact ⟨b, off, c, _, h1, hb, hx, hc k _ (by rw [List.getElem?_map, hx]; rfl)⟩
theorem ext_mid (s : ByteArray) (m k : Nat) : (s.extract m k).data.toList = (s.data.toList.take k).drop m := by
  simp [ByteArray.data_extract, List.drop_take]
theorem split_hit {s : ByteArray} {c : UInt8} {k m : Nat} {o : List (List UInt8)} (hk : k < s.size) (h : splitC c (s.data.toList.take k) = o ++ [(s.data.toList.take k).drop m]) (hc : s[k].toNat = c.toNat) :
    splitC c (s.data.toList.take (k + 1)) = (o ++ [(s.extract m k).data.toList]) ++ [(s.data.toList.take (k + 1)).drop (k + 1)] := by
  have h1 := splitC_snoc (b := s[k]) h
  rw [if_pos (UInt8.toNat_inj.1 hc)] at h1
  have e : (s.data.toList.take (k + 1)).drop (k + 1) = [] := List.drop_eq_nil_of_le (by rw [List.length_take]; omega)
  rw [e, take_snoc s k hk, h1, ext_mid]
theorem split_miss {s : ByteArray} {c : UInt8} {k m : Nat} {o : List (List UInt8)} (hk : k < s.size) (hm : m ≤ k) (h : splitC c (s.data.toList.take k) = o ++ [(s.data.toList.take k).drop m]) (hc : ¬ s[k].toNat = c.toNat) :
    splitC c (s.data.toList.take (k + 1)) = o ++ [(s.data.toList.take (k + 1)).drop m] := by
  have h1 := splitC_snoc (b := s[k]) h
  rw [if_neg (fun e => hc (by rw [e]))] at h1
  have hl : k ≤ s.data.toList.length := by simp; omega
  rw [take_snoc s k hk, h1, List.drop_append_of_le_length (by rw [List.length_take]; omega)]
theorem split_end {s : ByteArray} {c : UInt8} {k m : Nat} {o : List (List UInt8)} (hk : ¬ k < s.size) (h : splitC c (s.data.toList.take k) = o ++ [(s.data.toList.take k).drop m]) :
    splitC c s.data.toList = o ++ [(s.extract m s.size).data.toList] := by
  rw [ext_mid, List.take_of_length_le (by simp)]
  rwa [List.take_of_length_le (by simp; omega)] at h
set_option maxRecDepth 100000 in
set_option maxHeartbeats 2000000 in
theorem l1Split_own (s : ByteArray) (c : UInt8) (hs : s.size ≤ 1099511627000) (w : World) : Calls Tryz.prog 98 #[.string s, .int .u8 (c.toNat : Int)] w (RetGrS (splitC c s.data.toList) w) := by
  go_enter Tryz.func98, Tryz.ntmps98
  go_wp2
  go_loopw [5, 6, 7] (fun q f i wr => ∃ (k m : Nat) (o : List (List UInt8)), k ≤ s.size ∧ m ≤ k ∧ f = .int .i64 (m : Int) ∧ i = .int .i64 (k : Int) ∧ o.length ≤ k ∧ Hid (splitC c (s.data.toList.take k) = o ++ [(s.data.toList.take k).drop m]) ∧ Hid (GrowS w w.heap.size wr q o)) (fun _ _ i _ => s.size - (intOf i).toNat)
  case atStart => exact ⟨0, 0, [], Nat.zero_le _, Nat.le_refl _, rfl, rfl, Nat.le_refl _, rfl, GrowS.start w⟩
  case round =>
    obtain ⟨k, m, o, hk, hm, rfl, rfl, ho, HS, HG⟩ := hrel
    by_cases hlt : k < s.size
    · by_cases hc : s[k].toNat = c.toNat
      · have hcz : ((s[k].toNat : Int) == (c.toNat : Int)) = true := by rw [hc]; exact beq_self_eq_true _
        have HC := Lib.hid hc
        clear hc
        go_wp2_with (at_builtin; refine GrowS.app rfl (.tmp 19) (.tmp 24) rfl HG.out (by omega) rfl rfl ?_; intro v' w1 hG'; have HG1 := Lib.hid hG'; clear hG')
        go_roundw
        case rel => exact ⟨k + 1, k + 1, _, by omega, Nat.le_refl _, by go_num, by go_num, by rw [List.length_append]; exact Nat.succ_le_succ ho, split_hit hlt HS.out HC.out, HG1.out⟩
        case measure => (simp [intOf]; try omega)
      · have hcz : ((s[k].toNat : Int) == (c.toNat : Int)) = false := by rw [beq_eq_false_iff_ne]; omega
        have HC := Lib.hid hc
        clear hc
        go_wp2_with fail
        go_roundw
        case rel => exact ⟨k + 1, m, o, by omega, by omega, rfl, by go_num, by omega, split_miss hlt hm HS.out HC.out, HG.out⟩
        case measure => (simp [intOf]; try omega)
    · have HE := Lib.hid (split_end hlt HS.out)
      go_wp2_with (at_builtin; refine GrowS.app rfl (.tmp 28) (.tmp 32) rfl HG.out (by omega) rfl rfl ?_; intro v' w1 hG'; have HG1 := Lib.hid hG'; clear hG')
      go_ret
      exact ⟨_, rfl, by rw [HE.out]; exact HG1.out⟩
theorem l1Split_any (s : ByteArray) (c : UInt8) (hs : s.size ≤ 1099511627000) (w : World) : Calls Tryz.prog 98 #[.string s, .int .u8 (c.toNat : Int)] w (RetRdS (splitC c s.data.toList) w) :=
  (l1Split_own s c hs w).mono fun _ _ ⟨v, h1, h2⟩ => ⟨v, h1, h2.rd, h2.2.1⟩
theorem readR_out {a : List UInt8} (h : ¬ (1 ≤ a.length ∧ a.length ≤ 6)) : readR a = -1 := by
  unfold readR
  rw [inB_false (by omega)]
  rfl
theorem readR_lead {a : List UInt8} (h : a.head? = some 48) (h1 : 1 < a.length) : readR a = -1 := by
  unfold readR
  rw [decide_eq_true h, decide_eq_true h1]
  simp
theorem readR_no {s : ByteArray} {k : Nat} (h : k < s.size) (h1 : ¬ (48 ≤ s[k].toNat ∧ s[k].toNat ≤ 57)) : readR s.data.toList = -1 := by
  have : s.data.toList.all isDig = false := by
    rw [List.all_eq_false]
    refine ⟨s[k], List.getElem_mem (l := s.data.toList) (by simpa using h), ?_⟩
    unfold isDig
    rw [Bool.and_eq_true, decide_eq_true_eq, decide_eq_true_eq]
    exact h1
  unfold readR
  rw [this]
  simp
theorem readR_yes {a : List UInt8} (h : 1 ≤ a.length ∧ a.length ≤ 6) (h0 : ¬ (a.head? = some 48 ∧ 1 < a.length)) (hd : a.all isDig = true) : readR a = decV a := by
  unfold readR
  rw [inB_iff.2 (by omega), hd]
  have : (decide (a.head? = some 48) && decide (1 < a.length)) = false := by
    rw [Bool.and_eq_false_iff, decide_eq_false_iff_not, decide_eq_false_iff_not]
    exact Decidable.not_and_iff_or_not.1 h0
  rw [this]
  rfl
theorem head_byte {s : ByteArray} (h : 0 < s.size) : s.data.toList.head? = some s[0] := by
  rw [List.head?_eq_getElem?, List.getElem?_eq_getElem (by simpa using h)]; rfl
set_option maxRecDepth 100000 in
set_option maxHeartbeats 2000000 in
theorem l1Read_any (s : ByteArray) (hs : s.size ≤ 1099511627000) (w : World) : Calls Tryz.prog 99 #[.string s] w fun e w' => e = .returned (.int .i64 (readR s.data.toList)) ∧ w = w' := by
  by_cases h1 : 1 ≤ s.size ∧ s.size ≤ 6
  · have cI := l1In_any (s.size : Int) 1 6 w
    rw [inB_iff.2 (by omega)] at cI
    have CI := Lib.hid cI
    clear cI
    by_cases h0 : s[0].toNat = 48 ∧ 1 < s.size
    · have HR : Hid (readR s.data.toList = -1) := readR_lead (by rw [head_byte (by omega)]; exact congrArg some (UInt8.toNat_inj.1 h0.1)) (by simpa using h0.2)
      have hz : ((s[0].toNat : Int) == 48) = true := by rw [h0.1]; rfl
      have hl : decide (1 < s.size) = true := decide_eq_true h0.2
      obtain ⟨h00, h01⟩ := h0
      obtain ⟨h10, h11⟩ := h1
      go_enter Tryz.func99, Tryz.ntmps99
      go_wp2_with (go_at_call 108; refine (CI.out).mono ?_; rintro e w' ⟨rfl, rfl⟩)
      go_ret
      exact ⟨ret_int HR.out.symm, rfl⟩
    · have HY : Hid (s.data.toList.all isDig = true → readR s.data.toList = decV s.data.toList) := fun hd => readR_yes (by simpa using h1) (by
        rw [head_byte (by omega)]
        rintro ⟨e1, e2⟩
        injection e1 with e1
        exact h0 ⟨by rw [e1]; rfl, by simpa using e2⟩) hd
      obtain ⟨h10, h11⟩ := h1
      go_enter Tryz.func99, Tryz.ntmps99
      go_wp2_with (go_at_call 108; refine (CI.out).mono ?_; rintro e w' ⟨rfl, rfl⟩)
      all_goals
        go_loop [3, 4] (fun n i => ∃ k : Nat, k ≤ s.size ∧ i = .int .i64 (k : Int) ∧ n = .int .i64 (decV (s.data.toList.take k)) ∧ Hid ((s.data.toList.take k).all isDig = true)) (fun _ i => s.size - (intOf i).toNat)
        case atStart => exact ⟨0, Nat.zero_le _, rfl, rfl, rfl⟩
        case round =>
          obtain ⟨k, hk, rfl, rfl, HD⟩ := hrel
          have hbd := decV_bd k (s.data.toList.take k) (by rw [List.length_take]; omega) HD.out
          have hle : (10 : Int) ^ (s.data.toList.take k).length ≤ 10 ^ 6 := by
            exact_mod_cast Nat.pow_le_pow_right (by omega) (by rw [List.length_take]; omega)
          obtain ⟨z, hz⟩ : ∃ z, z = decV (s.data.toList.take k) := ⟨_, rfl⟩
          rw [← hz] at hbd ⊢
          have HZ := Lib.hid hz
          have hz0 := hbd.1
          have hz1 : z < 1000000 := by omega
          clear hz hbd hle
          by_cases hlt : k < s.size
          · by_cases hd : 48 ≤ s[k].toNat ∧ s[k].toNat ≤ 57
            · have HS : Hid ((s.data.toList.take (k + 1)).all isDig = true ∧ 10 * z + ((s[k].toNat : Int) - 48) = decV (s.data.toList.take (k + 1))) := by
                constructor
                · rw [take_snoc s k hlt, List.all_append, HD.out]
                  simp [isDig, hd.1, hd.2]
                · rw [take_snoc s k hlt, decV_snoc, ← HZ.out]
              obtain ⟨hd0, hd1⟩ := hd
              have hw3 : IntKind.u8.wrap ((s[k].toNat : Int) - 48) = (s[k].toNat : Int) - 48 := by rw [IntKind.wrap_u8]; omega
              go_wp2_with fail
              go_round
              case rel => exact ⟨k + 1, by omega, by go_num, by rw [← HS.out.2], HS.out.1⟩
              case measure => (simp [intOf]; try omega)
            · have HN := Lib.hid (readR_no hlt hd)
              go_wp2_with fail
              all_goals first
                | (exfalso; omega)
                | (go_ret; exact ⟨ret_int HN.out.symm, rfl⟩)
          · have HE : Hid (readR s.data.toList = z) := by
              have h2 := HD.out
              have h3 := HZ.out
              rw [List.take_of_length_le (by simp; omega)] at h2 h3
              exact (HY.out h2).trans h3.symm
            go_wp2_with fail
            go_ret
            exact ⟨ret_int HE.out.symm, rfl⟩
  · have cI := l1In_any (s.size : Int) 1 6 w
    rw [inB_false (by omega)] at cI
    have CI := Lib.hid cI
    clear cI
    have HR : Hid (readR s.data.toList = -1) := readR_out (by simpa using h1)
    clear h1
    go_enter Tryz.func99, Tryz.ntmps99
    go_wp2_with (go_at_call 108; refine (CI.out).mono ?_; rintro e w' ⟨rfl, rfl⟩)
    go_ret
    exact ⟨ret_int HR.out.symm, rfl⟩
theorem refO_in {s : List UInt8} (h : s ≠ []) {q : List Int} (hq : q = (splitC 32 s).map readR) {g t : Bool} (hg : sigsB q = g) (ht : g = true → decide (numsT 32 q = s) = t) :
    refO s = if g && t then some q else Option.none := by
  unfold refO
  rw [if_neg h, ← hq, hg]
  cases g
  · rfl
  · rw [ht rfl]
theorem split_take {α β : Type} (f : α → β) {xs : List α} {k : Nat} {y : α} (h : xs[k]? = some y) : (xs.take (k + 1)).map f = (xs.take k).map f ++ [f y] := by rw [take_snocN h, List.map_append]; rfl
theorem dec_of_beq {a b : List UInt8} {t : Bool} (h : (a == b) = t) : decide (a = b) = t := by
  cases t
  · exact decide_eq_false (ne_of_beq_false h)
  · exact decide_eq_true (eq_of_beq h)
theorem splitC_le {c : UInt8} : ∀ {l : List UInt8} {a : List UInt8}, a ∈ splitC c l → a.length ≤ l.length := by
  intro l
  induction l with
  | nil => intro a h; simp [splitC] at h; subst h; exact Nat.le_refl _
  | cons b r ih =>
    intro a h
    unfold splitC at h
    split at h
    · rcases List.mem_cons.1 h with rfl | h
      · exact Nat.zero_le _
      · have := ih h; simp; omega
    · split at h
      · rename_i hs; exact absurd hs (splitC_ne c r)
      · rename_i x q hs
        rcases List.mem_cons.1 h with rfl | h
        · have := ih (a := x) (by rw [hs]; exact List.mem_cons_self)
          simp; omega
        · have := ih (a := a) (by rw [hs]; exact List.mem_cons_of_mem _ h)
          simp; omega
set_option maxRecDepth 100000 in
set_option maxHeartbeats 2000000 in
theorem sgParse_any (s : ByteArray) (hs : s.size ≤ 1048576) (w : World) : Calls Tryz.prog 66 #[.string s] w (RetOwT ((refO s.data.toList).getD []) (refO s.data.toList).isSome w) := by
  have hs1 : (splitC 32 s.data.toList).length ≤ s.data.toList.length + 1 := (splitC_len 32 _).2
  have hs2 : s.data.toList.length = s.size := by simp
  have hml : ∀ a ∈ splitC 32 s.data.toList, a.length ≤ s.data.toList.length := fun a h => splitC_le h
  have cS := l1Split_any s 32 (by omega) w
  obtain ⟨P, hP⟩ : ∃ P, P = splitC 32 s.data.toList := ⟨_, rfl⟩
  rw [← hP] at hs1 cS hml
  have HP := Lib.hid hP
  have HM := Lib.hid hml
  have CS : Hid (Calls Tryz.prog 98 #[.string s, .int .u8 32] w (RetRdS P w)) := cS
  clear hP hml cS
  cases hse : s.toList.isEmpty
  · have HN : Hid (s.data.toList ≠ []) := fun e => by rw [ByteArray.toList_eq, e] at hse; cases hse
    go_enter Tryz.func66, Tryz.ntmps66
    go_wp2_with fail
    refine CS.out.mono ?_
    rintro e w1 ⟨vp, rfl, hrd, hb1⟩
    obtain ⟨A, c, rfl, hc, hm⟩ := Rd.form hrd
    have HR := Lib.hid hrd
    have HB1 := Lib.hid hb1
    clear hrd hb1
    go_wp2_with fail
    go_loopw [4, 12] (fun q i wr => ∃ k : Nat, k ≤ P.length ∧ i = .int .i64 (k : Int) ∧ Hid (GrowI w1 w1.heap.size wr q ((P.take k).map readR))) (fun _ i _ => P.length - (intOf i).toNat)
    case atStart => exact ⟨0, Nat.zero_le _, rfl, GrowI.start w1⟩
    case round =>
      obtain ⟨k, hk, rfl, HG⟩ := hrel
      by_cases hlt : k < P.length
      · obtain ⟨b1, o1, c1, y, hv, _, hx, hcell1⟩ := Rd.atS (Rd.below HR.out HG.out.2.1 (Nat.le_refl _)) hlt
        injection hv with hv1 hv2 hv3; cases hv1; clear hv2 hv3
        have hy := HM.out y (List.mem_of_getElem? hx)
        have HS := Lib.hid (split_take readR hx)
        have cR : Calls Tryz.prog 99 #[.string ⟨y.toArray⟩] wr fun e w' => e = .returned (.int .i64 (readR y)) ∧ wr = w' := l1Read_any ⟨y.toArray⟩ (by show y.toArray.size ≤ _; simp; omega) wr
        have CR := Lib.hid cR
        have hln : ((P.take k).map readR).length ≤ P.length := by simp; omega
        clear hx cR
        go_wp2_with (first | (go_at_call 99; refine (CR.out).mono ?_; rintro e w' ⟨rfl, rfl⟩) | (at_builtin; refine GrowI.app rfl (.tmp 16) (.tmp 19) rfl HG.out (by omega) rfl rfl ?_; intro v' w2 hG'; have HG1 := Lib.hid hG'; clear hG'))
        go_roundw
        case rel => exact ⟨k + 1, by omega, by go_num, by rw [HS.out]; exact HG1.out⟩
        case measure => (simp [intOf]; try omega)
      · have hg := HG.out
        rw [List.take_of_length_le (by omega)] at hg
        obtain ⟨q, hq⟩ : ∃ q, q = P.map readR := ⟨_, rfl⟩
        rw [← hq] at hg
        have hql : q.length ≤ P.length := by rw [hq, List.length_map]; exact Nat.le_refl _
        rw [HP.out] at hq
        have HQ := Lib.hid hq
        have hrd := hg.own.rd
        have how := hg.own
        have hbw : Below w.heap.size w wr := HB1.out.trans (hg.2.1.mono HB1.out.size)
        have HBW := Lib.hid hbw
        have HOW := Lib.hid (how.mono HB1.out.size (Nat.le_refl _))
        obtain ⟨A2, c2, rfl, hc2, hm2⟩ := Rd.form hrd
        have HRD := Lib.hid hrd
        clear hg hq hrd how hbw HG
        have cL := sgList_any q _ _ _ HRD.out
        cases hg : sigsB q
        · rw [hg] at cL
          have HO := Lib.hid (refO_in HN.out HQ.out (t := true) hg (fun h => by cases h))
          have CL := Lib.hid cL
          clear cL hg
          go_wp2_with (go_at_call 52; refine (CL.out).mono ?_; rintro e w' ⟨rfl, rfl⟩)
          go_ret2
          rw [HO.out]
          exact retOwT _ (GrowI.nil HBW.out)
        · rw [hg] at cL
          have hsl := sigL_iff.1 hg
          have cN := sgLine_any q _ _ _ HRD.out (Nat.le_refl _) (by omega) hsl.2
          have CL := Lib.hid cL
          have CN := Lib.hid cN
          cases ht : (numsT 32 q == s.toList)
          all_goals
            have hd := ht
            rw [ByteArray.toList_eq] at hd
            have hd := dec_of_beq hd
            have HO := Lib.hid (refO_in HN.out HQ.out hg (fun _ => hd))
            clear hd cL cN hg hsl
            go_wp2_with (first | (go_at_call 52; refine (CL.out).mono ?_; rintro e w' ⟨rfl, rfl⟩) | (go_at_call 53; refine CN.out.mono ?_; rintro e w3 ⟨rfl, hb3⟩; have HB3 := Lib.hid hb3; clear hb3))
            go_ret2
            rw [HO.out]
            first
              | exact retOwT _ (GrowI.nil (HBW.out.trans (HB3.out.mono HBW.out.size)))
              | exact ⟨_, rfl, ((HOW.out.below HB3.out (Nat.le_refl _)).mono (Nat.le_refl _) HB3.out.size), HBW.out.trans (HB3.out.mono HBW.out.size)⟩
  · have HN : Hid (s.data.toList = []) := by
      have := List.isEmpty_iff.1 hse
      rwa [ByteArray.toList_eq] at this
    go_enter Tryz.func66, Tryz.ntmps66
    go_wp2_with fail
    go_ret2
    rw [HN.out]
    exact retOwT_nil w true
set_option maxRecDepth 100000 in
set_option maxHeartbeats 2000000 in
theorem sReadSignals_any (s : ByteArray) (hs : s.size ≤ 1048576) (w : World) : Calls Tryz.prog 20 #[.string s] w (RetOwT ((readO s.data.toList).getD []) (readO s.data.toList).isSome w) := by
  rw [← refO_eq]
  obtain ⟨xs, hxs⟩ : ∃ xs, xs = (refO s.data.toList).getD [] := ⟨_, rfl⟩
  obtain ⟨b, hb⟩ : ∃ b, b = (refO s.data.toList).isSome := ⟨_, rfl⟩
  have cP := sgParse_any s hs w
  rw [← hxs, ← hb] at cP ⊢
  have CP := Lib.hid cP
  clear cP hxs hb
  go_enter Tryz.func20, Tryz.ntmps20
  go_wp2_with fail
  refine CP.out.mono ?_
  rintro e w1 ⟨v, rfl, how, hbw⟩
  obtain ⟨A, c, rfl, hc⟩ := how.form
  have HOW := Lib.hid how
  clear how
  go_wp2_with fail
  go_ret2
  exact ⟨_, rfl, HOW.out, hbw⟩
end Go.Proofs.YtjnkdjokbamibaaGreatDoor
/- Contracts: a number read, numbers split, ReadSignals; of the program. -/
namespace Go.Proofs.YtjnkdjokbamibaaGreatDoor
open Go.RowKit
/-- What the library's variables hold, as far as the library's contracts ask. -/
def LW (w : World) : Prop := Lib.TabIs Tryz.prog w "internal/strconv.uint64pow10" .u64 Lib.pow10Tab ∧ (∃ m, w.cell? ⟨0, 0, Option.none⟩ = some (.int .i64 m)) ∧
  (∃ ev, w.cell? ⟨2, 0, Option.none⟩ = some ev ∧ (ev = .nilIface ∨ ∃ te pe, ev = .iface te pe)) ∧ (∃ ev, w.cell? ⟨3, 0, Option.none⟩ = some ev ∧ (ev = .nilIface ∨ ∃ te pe, ev = .iface te pe))
theorem lw_cell {w w' : World} (hb : Below w.heap.size w w') {a : Addr} {v : Value} (hc : w.cell? a = some v) : w'.cell? a = some v := (hb.cell (World.block_lt_of_cell? w a hc)).trans hc
theorem lw_tab {w w' : World} (h : Lib.TabIs Tryz.prog w "internal/strconv.uint64pow10" .u64 Lib.pow10Tab) (hb : Below w.heap.size w w') : Lib.TabIs Tryz.prog w' "internal/strconv.uint64pow10" .u64 Lib.pow10Tab := by
  obtain ⟨g, hg⟩ := Option.isSome_iff_exists.1 (show (Tryz.prog.globalNamed "internal/strconv.uint64pow10").isSome = true by kernel_rfl)
  unfold Lib.TabIs World.var? at h ⊢
  rw [hg] at h ⊢
  simp only [Option.bind_some] at h ⊢
  have hlt : g < w.heap.size := by
    rcases Nat.lt_or_ge g w.heap.size with h' | h'
    · exact h'
    · rw [Array.getElem?_eq_none h'] at h; cases h
  rw [hb.block g hlt]
  exact h
theorem LW.below {w w' : World} (h : LW w) (hb : Below w.heap.size w w') : LW w' := by
  obtain ⟨h1, ⟨m, h2⟩, ⟨e1, h3, h4⟩, ⟨e2, h5, h6⟩⟩ := h
  exact ⟨lw_tab h1 hb, ⟨m, lw_cell hb h2⟩, ⟨e1, lw_cell hb h3, h4⟩, ⟨e2, lw_cell hb h5, h6⟩⟩
theorem below_grownB (w : World) (q : Nat) (os : Array Obj) : Below w.heap.size w (Sort.grow (w.drewN q) os) := by
  refine ⟨rfl, rfl, rfl, by first | (simp [Sort.grow]; done) | (simp [Sort.grow]; omega), fun k hk => ?_⟩
  show ((w.drewN q).heap ++ os)[k]? = _
  rw [Array.getElem?_append_left (by show k < w.heap.size; omega)]
  rfl
theorem readN_ok {a : List UInt8} {v : Int} (h : Lib.atoiAll a = .ok v) : readN a = if 0 ≤ v ∧ Lib.itoa v = a then some v else Option.none := by unfold readN; rw [h]
theorem readN_not {a : List UInt8} (h : ∀ v, Lib.atoiAll a ≠ .ok v) : readN a = Option.none := by
  unfold readN
  split
  · rename_i v hv; exact absurd hv (h v)
  · rfl
set_option maxRecDepth 100000 in
set_option maxHeartbeats 4000000 in
theorem readNumber_any (s : ByteArray) (hs : s.size ≤ 1048576) (w : World) (hL : LW w) :
    Calls Tryz.prog 107 #[.string s] w fun e w' => e = .returned (.tuple #[.int .i64 ((readN s.data.toList).getD 0), .bool (readN s.data.toList).isSome]) ∧ Below w.heap.size w w' := by
  have HL := Lib.hid hL
  clear hL
  rcases hat : Lib.atoiAll s.data.toList with v | _ | _
  · obtain ⟨hv0, hv1⟩ := Lib.atoiAll_bounds hat
    have HN := Lib.hid (readN_ok hat)
    have CA := Lib.hid (Tryz.strconv_Atoi_ok s (by omega) v hat w)
    by_cases hneg : v < 0
    · have HR : Hid (readN s.data.toList = Option.none) := by
        show _ = _
        rw [HN.out, if_neg (by omega)]
      clear HN
      go_enter Tryz.func107, Tryz.ntmps107
      go_wp2_with fail
      refine CA.out.mono ?_
      rintro e w1 ⟨rfl, hw1⟩
      have HB : Hid (Below w.heap.size w w1) := by
        rcases hw1 with rfl | ⟨t, rfl⟩
        · exact Below.refl _ _
        · exact Lib.bytesWorld_below _ _ _
      clear hw1
      go_wp2_with fail
      go_ret2
      rw [HR.out]
      exact ⟨rfl, HB.out⟩
    · have hneg2 : decide (v < 0) = false := decide_eq_false hneg
      have CI := fun (w1 : World) (h : LW w1) => Tryz.strconv_Itoa v (by omega) (by omega) w1 h.1
      have HCI := Lib.hid CI
      clear CI
      have hil := Lib.itoa_length_le v (by omega) (by omega)
      cases heq : (Lib.itoa v == s.toList)
      · have HR : Hid (readN s.data.toList = Option.none) := by
          show _ = _
          have := ne_of_beq_false heq
          rw [ByteArray.toList_eq] at this
          rw [HN.out, if_neg (fun h => this h.2)]
        clear HN
        go_enter Tryz.func107, Tryz.ntmps107
        go_wp2_with fail
        refine CA.out.mono ?_
        rintro e w1 ⟨rfl, hw1⟩
        have HB : Hid (Below w.heap.size w w1) := by
          rcases hw1 with rfl | ⟨t, rfl⟩
          · exact Below.refl _ _
          · exact Lib.bytesWorld_below _ _ _
        clear hw1
        go_wp2_with fail
        refine (HCI.out w1 (HL.out.below HB.out)).mono ?_
        rintro e w2 ⟨rfl, hw2⟩
        have HB2 : Hid (Below w.heap.size w w2) := by
          obtain ⟨k, os, rfl⟩ := hw2
          exact HB.out.trans ((below_grownB w1 k os).mono HB.out.size)
        clear hw2
        go_wp2_with fail
        go_ret2
        rw [HR.out]
        exact ⟨rfl, HB2.out⟩
      · have HR : Hid (readN s.data.toList = some v) := by
          show _ = _
          have := eq_of_beq heq
          rw [ByteArray.toList_eq] at this
          rw [HN.out, if_pos ⟨by omega, this⟩]
        clear HN
        go_enter Tryz.func107, Tryz.ntmps107
        go_wp2_with fail
        refine CA.out.mono ?_
        rintro e w1 ⟨rfl, hw1⟩
        have HB : Hid (Below w.heap.size w w1) := by
          rcases hw1 with rfl | ⟨t, rfl⟩
          · exact Below.refl _ _
          · exact Lib.bytesWorld_below _ _ _
        clear hw1
        go_wp2_with fail
        refine (HCI.out w1 (HL.out.below HB.out)).mono ?_
        rintro e w2 ⟨rfl, hw2⟩
        have HB2 : Hid (Below w.heap.size w w2) := by
          obtain ⟨k, os, rfl⟩ := hw2
          exact HB.out.trans ((below_grownB w1 k os).mono HB.out.size)
        clear hw2
        go_wp2_with fail
        go_ret2
        rw [HR.out]
        exact ⟨rfl, HB2.out⟩
  · have HR := Lib.hid (readN_not (a := s.data.toList) (fun v h => by rw [hat] at h; cases h))
    obtain ⟨ev, hv, hev⟩ := HL.out.2.2.1
    have CA := Lib.hid (Tryz.strconv_Atoi_syntax s (by omega) hat ev w hv hev)
    clear hv hev
    go_enter Tryz.func107, Tryz.ntmps107
    go_wp2_with fail
    refine CA.out.mono ?_
    rintro e w1 ⟨N, rfl, hN, hc, hb1⟩
    have HB := Lib.hid hb1
    clear hN hc hb1
    go_wp2_with fail
    go_ret2
    rw [HR.out]
    exact ⟨rfl, HB.out⟩
  · have HR := Lib.hid (readN_not (a := s.data.toList) (fun v h => by rw [hat] at h; cases h))
    obtain ⟨ev, hv, hev⟩ := HL.out.2.2.2
    have CA := Lib.hid (Tryz.strconv_Atoi_range s (by omega) hat ev w hv hev)
    have hsat := Lib.atoiSat_bounds s.data.toList
    obtain ⟨sat, hst⟩ : ∃ sat, sat = Lib.atoiSat s.data.toList := ⟨_, rfl⟩
    rw [← hst] at CA hsat
    clear hv hev hst
    go_enter Tryz.func107, Tryz.ntmps107
    go_wp2_with fail
    refine CA.out.mono ?_
    rintro e w1 ⟨N, rfl, hN, hc, hb1⟩
    have HB := Lib.hid hb1
    clear hN hc hb1
    go_wp2_with fail
    go_ret2
    rw [HR.out]
    exact ⟨rfl, HB.out⟩
theorem split_txts (c : UInt8) (s : ByteArray) : (Lib.splitB ⟨#[c]⟩ 0 (Lib.countB s ⟨#[c]⟩) s).map Value.string = strsT (splitC c s.data.toList) := by
  have h := Lib.splitB_data ⟨#[c]⟩ 0 (Lib.countB s ⟨#[c]⟩) s
  have h2 : Lib.splitK (⟨#[c]⟩ : ByteArray).data.toList 0 (Lib.countB s ⟨#[c]⟩) s.data.toList = splitC c s.data.toList := splitK_C c s.data.toList
  rw [h2] at h
  unfold strsT
  rw [← h, List.map_map]
  exact List.map_congr_left fun a _ => by simp
theorem split_count (c : UInt8) (s : ByteArray) : Lib.countB s ⟨#[c]⟩ + 1 = (splitC c s.data.toList).length := by
  have h := congrArg List.length (split_txts c s)
  rw [List.length_map, Lib.splitB_all ⟨#[c]⟩ (Nat.le_refl 1) 0 _ s rfl] at h
  rw [h]; simp [strsT]
theorem rd_strs (w : World) (P : List (List UInt8)) (hl : P.length ≤ maxLen) : Rd (w.alloc (.cells (strsT P).toArray 9)) (w.heap.size + 1) 1 (.slice (some ⟨w.heap.size, 0, Option.none⟩) P.length P.length) P.length (strsT P) :=
  ⟨by simp [strsT], _, _, rfl, Nat.le_refl _, hl, fun _ => ⟨w.heap.size, 0, rfl, by omega, fun j u hu => by
    have h := (Blk.new w 9 (strsT P).toArray).cell j
    rw [Nat.zero_add, h]
    simpa using hu⟩⟩
set_option maxRecDepth 100000 in
set_option maxHeartbeats 4000000 in
theorem splitNumbers_any (s : ByteArray) (c : UInt8) (hs : s.size ≤ 1048576) (w : World) (hL : LW w) :
    Calls Tryz.prog 56 #[.string s, .string ⟨#[c]⟩] w (RetOwT ((numsO c s.data.toList).getD []) (numsO c s.data.toList).isSome w) := by
  have hs1 : (splitC c s.data.toList).length ≤ s.data.toList.length + 1 := (splitC_len c _).2
  have hs2 : s.data.toList.length = s.size := by simp
  have hml : ∀ a ∈ splitC c s.data.toList, a.length ≤ s.data.toList.length := fun a h => splitC_le h
  obtain ⟨m, hm⟩ := hL.2.1
  have cS := Tryz.strings_Split s ⟨#[c]⟩ m w (by omega) hm (Nat.le_refl 1)
  rw [split_txts, split_count] at cS
  have hN : numsO c s.data.toList = allN (splitC c s.data.toList) := rfl
  obtain ⟨P, hP⟩ : ∃ P, P = splitC c s.data.toList := ⟨_, rfl⟩
  rw [← hP] at hs1 cS hml hN
  have HN := Lib.hid hN
  have HM := Lib.hid hml
  have CS := Lib.hid cS
  have HR := Lib.hid (rd_strs w P (by unfold maxLen; omega))
  have hb1 : Below w.heap.size w (w.alloc (.cells (strsT P).toArray 9)) := (Below.refl _ _).alloc (Nat.le_refl _) _
  have hz1 : (w.alloc (.cells (strsT P).toArray 9)).heap.size = w.heap.size + 1 := by simp
  have HL := Lib.hid (hL.below hb1)
  have HB1 := Lib.hid hb1
  have hP1 : (P.length : Int) ≤ 1048577 := by omega
  clear hP hml cS hN hm hL hb1
  go_enter Tryz.func56, Tryz.ntmps56
  go_wp2_with fail
  refine CS.out.mono ?_
  rintro e w1 ⟨rfl, hw1⟩
  rw [← hw1] at HL HB1 HR hz1
  clear hw1
  go_wp2_with fail
  go_loopw [6, 15] (fun q i wr => ∃ (k : Nat) (ns : List Int), k ≤ P.length ∧ i = .int .i64 (k : Int) ∧ ns.length ≤ k ∧ Hid (allN (P.take k) = some ns) ∧ Hid (GrowI w1 w1.heap.size wr q ns)) (fun _ i _ => P.length - (intOf i).toNat)
  case atStart => exact ⟨0, [], Nat.zero_le _, rfl, Nat.le_refl _, rfl, GrowI.start w1⟩
  case round =>
    obtain ⟨k, ns, hk, rfl, hns, HA, HG⟩ := hrel
    by_cases hlt : k < P.length
    · obtain ⟨b1, o1, c1, y, hv, _, hx, hcell1⟩ := Rd.atS (Rd.below HR.out HG.out.2.1 (by omega)) hlt
      injection hv with hv1 hv2 hv3; cases hv1; clear hv2 hv3
      rw [Nat.zero_add] at hcell1
      have hy := HM.out y (List.mem_of_getElem? hx)
      have cR := readNumber_any ⟨y.toArray⟩ (by show y.toArray.size ≤ _; simp; omega) wr (HL.out.below HG.out.2.1)
      have e0 : (⟨y.toArray⟩ : ByteArray).data.toList = y := rfl
      rw [e0] at cR
      rcases hr : readN y with _ | n
      · rw [hr] at cR
        have HE := Lib.hid (HN.out.trans (allO_no hx hr))
        have CR := Lib.hid cR
        clear cR hx hr e0
        go_wp2_with fail
        refine CR.out.mono ?_
        rintro e w2 ⟨rfl, hb2⟩
        have HB2 := Lib.hid (HB1.out.trans ((HG.out.2.1.trans (hb2.mono HG.out.2.1.size)).mono HB1.out.size))
        clear hb2
        go_wp2_with fail
        go_ret2
        rw [HE.out]
        exact retOwT _ (GrowI.nil HB2.out)
      · rw [hr] at cR
        have CR : Hid (Calls Tryz.prog 107 #[.string ⟨y.toArray⟩] wr fun e w' => e = .returned (.tuple #[.int .i64 n, .bool true]) ∧ Below wr.heap.size wr w') := cR
        have HA2 : Hid (allN (P.take (k + 1)) = some (ns ++ [n])) := by
          show _ = _
          rw [take_snocN hx]; exact allO_snoc HA.out hr
        clear cR hx hr e0
        go_wp2_with fail
        refine CR.out.mono ?_
        rintro e w2 ⟨rfl, hb2⟩
        have HG2 := Lib.hid (HG.out.belowR hb2)
        clear hb2
        go_wp2_with (at_builtin; refine GrowI.app rfl (.tmp 26) (.tmp 28) rfl HG2.out (by omega) rfl rfl ?_; intro v' w3 hG'; have HG3 := Lib.hid hG'; clear hG')
        go_roundw
        case rel => exact ⟨k + 1, _, by omega, by go_num, by rw [List.length_append]; exact Nat.succ_le_succ hns, HA2.out, HG3.out⟩
        case measure => (simp [intOf]; try omega)
    · have ha := HA.out
      rw [List.take_of_length_le (by omega)] at ha
      have HE := Lib.hid (HN.out.trans ha)
      clear ha
      have HB2 := Lib.hid (HB1.out.trans (HG.out.2.1.mono HB1.out.size))
      have HO := Lib.hid (HG.out.own.mono HB1.out.size (Nat.le_refl _))
      go_wp2_with fail
      go_ret2
      rw [HE.out]
      exact ⟨_, rfl, HO.out, HB2.out⟩
theorem readO_some {s : List UInt8} (h : s ≠ []) {l : List Int} (ho : numsO 32 s = some l) : readO s = if sigsB l then some l else Option.none := by
  unfold readO
  rw [if_neg h, ho]
theorem readO_none {s : List UInt8} (h : s ≠ []) (ho : numsO 32 s = Option.none) : readO s = Option.none := by
  unfold readO
  rw [if_neg h, ho]
set_option maxRecDepth 100000 in
set_option maxHeartbeats 4000000 in
theorem ReadSignals_any (s : ByteArray) (hs : s.size ≤ 1048576) (w : World) (hL : LW w) : Calls Tryz.prog 11 #[.string s] w (RetOwT ((readO s.data.toList).getD []) (readO s.data.toList).isSome w) := by
  cases hse : s.toList.isEmpty
  · have hne : s.data.toList ≠ [] := fun e => by rw [ByteArray.toList_eq, e] at hse; cases hse
    have cS := splitNumbers_any s 32 hs w hL
    rcases ho : numsO 32 s.data.toList with _ | l
    · rw [ho] at cS
      have HO : Hid (readO s.data.toList = Option.none) := readO_none hne ho
      have CS : Hid (Calls Tryz.prog 56 #[.string s, .string ⟨#[32]⟩] w (RetOwT [] false w)) := cS
      clear cS ho hne
      go_enter Tryz.func11, Tryz.ntmps11
      go_wp2_with fail
      refine CS.out.mono ?_
      rintro e w1 ⟨v, rfl, how, hb1⟩
      obtain ⟨A, c, rfl, _⟩ := how.form
      have HB := Lib.hid hb1
      clear how hb1
      go_wp2_with fail
      go_ret2
      rw [HO.out]
      exact retOwT _ (GrowI.nil HB.out)
    · rw [ho] at cS
      have CS : Hid (Calls Tryz.prog 56 #[.string s, .string ⟨#[32]⟩] w (RetOwT l true w)) := cS
      have HO : Hid (readO s.data.toList = if sigsB l then some l else Option.none) := readO_some hne ho
      clear cS ho hne
      go_enter Tryz.func11, Tryz.ntmps11
      go_wp2_with fail
      refine CS.out.mono ?_
      rintro e w1 ⟨v, rfl, how, hb1⟩
      obtain ⟨A, c, rfl, hcl⟩ := how.form
      have HW := Lib.hid how
      have HB := Lib.hid hb1
      have cA := areSignals_any l _ _ _ how.rd
      clear how hb1
      cases hg : sigsB l
      all_goals
        rw [hg] at cA
        have CA := Lib.hid cA
        have HG := Lib.hid hg
        clear cA hg
        go_wp2_with (go_at_call 50; refine (CA.out).mono ?_; rintro e w' ⟨rfl, rfl⟩)
        go_ret2
        rw [HO.out, HG.out]
        first
          | exact retOwT _ (GrowI.nil HB.out)
          | exact ⟨_, rfl, HW.out, HB.out⟩
  · have HN : Hid (s.data.toList = []) := by
      have := List.isEmpty_iff.1 hse
      rwa [ByteArray.toList_eq] at this
    go_enter Tryz.func11, Tryz.ntmps11
    go_wp2_with fail
    go_ret2
    rw [HN.out]
    exact retOwT_nil w true
end Go.Proofs.YtjnkdjokbamibaaGreatDoor
/- What the library's variables hold in the worlds that the card of ReadSignals speaks of. -/
namespace Go.Proofs.YtjnkdjokbamibaaGreatDoor
open Go.RowKit
theorem starE : "*" ++ "errors.errorString" = "*errors.errorString" := by decide
theorem rowE (u : TypeId) (h : Tryz.prog.typeName? 3 u = some "*errors.errorString") : u = 166 :=
  typeName_ptr_named (nm := "errors.errorString") (by rw [starE]; kernel_rfl) (by kernel_rfl) (by decide) u (by rw [starE]; exact h)
theorem tabE : (Rows.laid_internal_strconv_uint64pow10 : DataW Unit) = Lib.tabData .u64 Lib.pow10Tab := by kernel_rfl
abbrev lwRow := Rows.fnBooksRow
theorem lw_of {W : World} (hsh : W.ShapedOpen Tryz.prog) (hL : laidMetH Tryz.prog lwRow.laid W) : LW W := by
  have h0 : laidMet Tryz.prog lwRow.laid W := by rwa [MakeChecks.laidMetH_plain _ _ _ (by kernel_rfl)] at hL
  have h2 : laidMet Tryz.prog (("internal/strconv.uint64pow10", Rows.laid_internal_strconv_uint64pow10) :: _) W := laidMet.tail (laidMet.tail h0)
  have h4 : laidMet Tryz.prog (("strconv.ErrRange", Rows.laid_strconv_ErrRange) :: _) W := laidMet.tail (laidMet.tail h2)
  have h5 : laidMet Tryz.prog (("strconv.ErrSyntax", Rows.laid_strconv_ErrSyntax) :: _) W := laidMet.tail h4
  rw [tabE] at h2
  have htab := Lib.tabIs_of_head (g := 1) (t := 151) (by kernel_rfl) (by kernel_rfl) Tryz.underlying151 Tryz.underlying69 (by kernel_rfl) (by kernel_rfl) h2
  obtain ⟨a1, s1, hv1, -, -, -⟩ := laid_sentinel (g := 3) (ti := 112) (tp := 166) h4 (by kernel_rfl) (by kernel_rfl) Tryz.underlying112 rowE Tryz.underlying166 Tryz.underlying168 rfl rfl Tryz.underlying9 (by kernel_rfl) (by kernel_rfl)
  obtain ⟨a2, s2, hv2, -, -, -⟩ := laid_sentinel (g := 2) (ti := 112) (tp := 166) h5 (by kernel_rfl) (by kernel_rfl) Tryz.underlying112 rowE Tryz.underlying166 Tryz.underlying168 rfl rfl Tryz.underlying9 (by kernel_rfl) (by kernel_rfl)
  obtain ⟨m, hm⟩ := cell_of_shapedOpen_int (P := Tryz.prog) (g := 0) (t := 3) (zero := #[.int .i64 0]) hsh (of_decide_eq_true (by kernel_rfl)) (by kernel_rfl) rfl (by kernel_rfl) (by kernel_rfl) Tryz.underlying3
  have c1 : W.cell? ⟨2, 0, Option.none⟩ = some (.iface 166 (.pointer (some a2))) := by
    have := World.var?_cell (g := 2) (by kernel_rfl) hv2 0
    simpa using this
  have c2 : W.cell? ⟨3, 0, Option.none⟩ = some (.iface 166 (.pointer (some a1))) := by
    have := World.var?_cell (g := 3) (by kernel_rfl) hv1 0
    simpa using this
  exact ⟨htab, ⟨m, hm⟩, ⟨_, c1, .inr ⟨_, _, rfl⟩⟩, ⟨_, c2, .inr ⟨_, _, rfl⟩⟩⟩
end Go.Proofs.YtjnkdjokbamibaaGreatDoor
/- The frame of a card whose walk wants the world's shape besides what the card lays. -/
namespace Go.Proofs.YtjnkdjokbamibaaGreatDoor
open Go.ChangeShapes Go.WideShapes Go.ChangeAt Go.RowKit
variable {H : Type} {enc : TypeId × Value → H}
theorem handed_shaped {a : Assume} {C : Checked} {os : Os} {f : FuncId} {fn : Func} {s : ChangeSpec} {conds : List PathCond} {apart fresh handsOn again : Bool} {X : World → Array Value → Prop}
    (hX : ∀ (w w' : World) (args : Array Value), w.heap = w'.heap → X w args → X w' args)
    (own : ownKnob C.prog.godebug = none) (started : os.Started) (noInit : C.prog.inits.idxOf? f = none) (hfn : C.prog.funcs[f]? = some fn)
    (witness : ∃ (w : World) (tape : Tape) (i : Input), w.os = os ∧ (w.forCall tape i).Shaped C.prog ∧ i.vars = [] ∧ Input.okWide C.prog (w.forCall tape i) .any w.heap.size f i ∧
      ((s.pre enc C.prog fn conds apart (w.forCall tape i).memory i.args ∧ X (w.forCall tape i).memory i.args) ∧ sizedMet enc C.prog fn (OpenSpec.ofChange s) apart (w.forCall tape i).memory i.args) ∧ a.holds C.prog (lone (Frame.enter C.prog f i.args .normal) [] (w.forCall tape i)))
    (contract : ∀ (W : World) (base : Nat) (args : Array Value) (ds gs : List (DataW H)) (before : List MemPlace),
      (∀ (j : Nat) t v, fn.params[j]? = some t → args[j]? = some v → Value.okWide C.prog W .any base t v) →
      DataW.Whole enc C.prog fn.params.toList s.vars apart W args.toList ds gs before →
      X W args → W.ShapedOpen C.prog →
      Calls C.prog f args W fun e W' => ∃ v, e = .returned v ∧ s.post enc C.prog fn apart fresh handsOn again W args v W') :
    ReturnsInHanded a C os f .any (fun w args => (s.pre enc C.prog fn conds apart w args ∧ X w args) ∧ sizedMet enc C.prog fn (OpenSpec.ofChange s) apart w args) (s.post enc C.prog fn apart fresh handsOn again) := by
  refine returnsInHanded_of_calls own started noInit witness ?_
  intro w tape i _ hsh _ hok hpre _
  obtain ⟨_, _, _, fn', hfn', _, _, _, _, hval⟩ := hok
  have e : fn' = fn := Option.some.inj (hfn'.symm.trans hfn)
  subst e
  obtain ⟨⟨⟨ds, gs, before, hw, _⟩, hx⟩, _⟩ := hpre
  have hw' := DataW.Whole.of_heap (w' := w.forCall tape i) (by rfl) hw
  refine (contract (w.forCall tape i) w.heap.size i.args ds gs before hval hw' (hX _ _ _ (by rfl) hx) hsh).mono fun e W' ⟨v, he, hp⟩ => ?_
  subst he
  exact ChangeSpec.post_blind hp
end Go.Proofs.YtjnkdjokbamibaaGreatDoor
/- Words on books in memory; the helpers of the laws on phrases and books. -/
namespace Go.Proofs.YtjnkdjokbamibaaGreatDoor
open Go.RowKit
/-- A phrase: its text and its signals. -/
abbrev Phr := ByteArray × List Int
/-- The cells of phrases: of each its text, then its slice. -/
def zipC : List ByteArray → List Value → List Value
  | t :: ts, u :: us => .string t :: u :: zipC ts us
  | _, _ => []
theorem zipC_at : ∀ (ts : List ByteArray) (us : List Value) (k : Nat) (t : ByteArray) (u : Value), ts[k]? = some t → us[k]? = some u → (zipC ts us)[k * 2]? = some (.string t) ∧ (zipC ts us)[k * 2 + 1]? = some u
  | [], _, k, t, u, h, _ => by simp at h
  | _ :: _, [], k, t, u, _, h => by simp at h
  | a :: ts, b :: us, 0, t, u, h, g => by simp at h g; subst h g; exact ⟨rfl, rfl⟩
  | a :: ts, b :: us, k + 1, t, u, h, g => by
    have := zipC_at ts us k t u (by simpa using h) (by simpa using g)
    simp only [zipC, show (k + 1) * 2 = k * 2 + 1 + 1 by omega, List.getElem?_cons_succ]
    exact this
def txts (ps : List Phr) : List ByteArray := ps.map (·.1)
def sigs (ps : List Phr) : List (List Int) := ps.map (·.2)
def TxtOk (ps : List Phr) : Prop := ∀ p ∈ ps, p.1.size ≤ 9223372036854775807
/-- The slice value v reads as phrases. -/
def RdPS (w : World) (hi : Nat) (v : Value) (ps : List Phr) : Prop := ∃ us, RowsR w hi us (sigs ps) ∧ Rd w hi 2 v ps.length (zipC (txts ps) us) ∧ TxtOk ps
theorem RdPS.form {w : World} {hi : Nat} {v : Value} {ps : List Phr} (h : RdPS w hi v ps) : ∃ A c, v = .slice A ps.length c ∧ ps.length ≤ c ∧ ps.length ≤ 9223372036854775807 := by
  obtain ⟨us, _, ⟨_, A, c, hv, h2, h3, _⟩, _⟩ := h
  exact ⟨A, c, hv, h2, by unfold maxLen at h3; omega⟩
theorem RdPS.at_ {w : World} {hi : Nat} {v : Value} {ps : List Phr} (h : RdPS w hi v ps) {k : Nat} (hk : k < ps.length) :
    ∃ b off c u t xs, v = .slice (some ⟨b, off, Option.none⟩) ps.length c ∧ b < hi ∧ ps[k]? = some (t, xs) ∧ w.cell? ⟨b, off + k * 2, Option.none⟩ = some (.string t) ∧ w.cell? ⟨b, off + k * 2 + 1, Option.none⟩ = some u ∧ RdI w hi u xs ∧ t.size ≤ 9223372036854775807 := by
  obtain ⟨us, h1, ⟨h0, A, c, hv, _, _, h4⟩, ht⟩ := h
  obtain ⟨b, off, rfl, hb, hc⟩ := h4 (by omega)
  have hl : us.length = ps.length := by have := h1.1; simpa [sigs] using this
  have hu : us[k]? = some us[k] := by simp [show k < us.length by omega]
  have hz := zipC_at (txts ps) us k ps[k].1 us[k] (by simp [txts, hk]) hu
  refine ⟨b, off, c, us[k], ps[k].1, ps[k].2, hv, hb, by simp [hk], hc _ _ hz.1, ?_, h1.2 k _ _ hu (by simp [sigs, hk]), ht _ (List.getElem_mem hk)⟩
  have := hc _ _ hz.2
  rwa [← Nat.add_assoc] at this
theorem RdPS.below {w w' : World} {hi : Nat} {v : Value} {ps : List Phr} (h : RdPS w hi v ps) {B : Nat} (hb : Below B w w') (hB : hi ≤ B) : RdPS w' hi v ps := by
  obtain ⟨us, h1, h2, h3⟩ := h; exact ⟨us, h1.below hb hB, h2.below hb hB, h3⟩
def RdP (w : World) (hi : Nat) (v : Value) (p : Phr) : Prop := ∃ u, v = .agg #[.string p.1, u] ∧ RdI w hi u p.2 ∧ p.1.size ≤ 9223372036854775807
def RdB (w : World) (hi : Nat) (v : Value) (ps : List Phr) : Prop := ∃ u, v = .agg #[u] ∧ RdPS w hi u ps
def OwP (w : World) (lo hi : Nat) (v : Value) (p : Phr) : Prop := ∃ u, v = .agg #[.string p.1, u] ∧ OwI w lo hi u p.2 ∧ p.1.size ≤ 9223372036854775807
def OwPS (w : World) (lo hi : Nat) (v : Value) (ps : List Phr) : Prop := ∃ us, RowsO w lo hi us (sigs ps) ∧ w.ownsRow lo 45 2 v ps.length (zipC (txts ps) us) ∧ TxtOk ps ∧ ∀ k, v.ownBlock = some k → k < hi
def OwB (w : World) (lo hi : Nat) (v : Value) (ps : List Phr) : Prop := ∃ u, v = .agg #[u] ∧ OwPS w lo hi u ps
theorem RdP.below {w w' : World} {hi : Nat} {v : Value} {p : Phr} (h : RdP w hi v p) {B : Nat} (hb : Below B w w') (hB : hi ≤ B) : RdP w' hi v p := by
  obtain ⟨u, h1, h2, h3⟩ := h; exact ⟨u, h1, h2.below hb hB, h3⟩
theorem RdB.below {w w' : World} {hi : Nat} {v : Value} {ps : List Phr} (h : RdB w hi v ps) {B : Nat} (hb : Below B w w') (hB : hi ≤ B) : RdB w' hi v ps := by
  obtain ⟨u, h1, h2⟩ := h; exact ⟨u, h1, h2.below hb hB⟩
theorem OwP.below {w w' : World} {lo hi : Nat} {v : Value} {p : Phr} (h : OwP w lo hi v p) {B : Nat} (hb : Below B w w') (hB : hi ≤ B) : OwP w' lo hi v p := by
  obtain ⟨u, h1, h2, h3⟩ := h; exact ⟨u, h1, h2.below hb hB, h3⟩
theorem OwPS.below {w w' : World} {lo hi : Nat} {v : Value} {ps : List Phr} (h : OwPS w lo hi v ps) {B : Nat} (hb : Below B w w') (hB : hi ≤ B) : OwPS w' lo hi v ps := by
  obtain ⟨us, h1, h2, h3, h4⟩ := h; exact ⟨us, h1.below hb hB, owns_below h2 h4 hb hB, h3, h4⟩
theorem OwB.below {w w' : World} {lo hi : Nat} {v : Value} {ps : List Phr} (h : OwB w lo hi v ps) {B : Nat} (hb : Below B w w') (hB : hi ≤ B) : OwB w' lo hi v ps := by
  obtain ⟨u, h1, h2⟩ := h; exact ⟨u, h1, h2.below hb hB⟩
theorem OwP.rd {w : World} {lo hi : Nat} {v : Value} {p : Phr} (h : OwP w lo hi v p) : RdP w hi v p := by
  obtain ⟨u, h1, h2, h3⟩ := h; exact ⟨u, h1, h2.rd, h3⟩
theorem OwPS.rd {w : World} {lo hi : Nat} {v : Value} {ps : List Phr} (h : OwPS w lo hi v ps) : RdPS w hi v ps := by
  obtain ⟨us, h1, h2, h3, h4⟩ := h; exact ⟨us, h1.rd, rd_of_owns h2 h4, h3⟩
theorem OwB.rd {w : World} {lo hi : Nat} {v : Value} {ps : List Phr} (h : OwB w lo hi v ps) : RdB w hi v ps := by
  obtain ⟨u, h1, h2⟩ := h; exact ⟨u, h1, h2.rd⟩
end Go.Proofs.YtjnkdjokbamibaaGreatDoor
/- Marks on books: each text and each signal of a book that the call has copied is overwritten. -/
namespace Go.Proofs.YtjnkdjokbamibaaGreatDoor
open Go.RowKit
theorem conv_one (z : Int) (h0 : 0 ≤ z) (h1 : z < 256) (wr : World) :
    (convert 22 9 (.slice (some ⟨wr.heap.size, 0, Option.none⟩) 1 1)).run Tryz.prog (wr.alloc (.cells #[.int .u8 z] 5)) = .ok (.string ⟨#[UInt8.ofNat z.toNat]⟩) (wr.alloc (.cells #[.int .u8 z] 5)) := by
  have hl : [UInt8.ofNat z.toNat].length = 1 := rfl
  have := run_convert_bytes_back (P := Tryz.prog) (wr.alloc (.cells #[.int .u8 z] 5)) 22 9 5 ⟨wr.heap.size, 0, Option.none⟩ 1 [UInt8.ofNat z.toNat] Tryz.underlying22 Tryz.underlying5 Tryz.underlying9 (fun j hj => by
    obtain rfl : j = 0 := by simp at hj; omega
    rw [one_cell wr (.int .u8 z) 5 0 _ rfl]
    simp
    omega)
  exact this
/-- Of what was there only blocks from lo to below hi may have turned. -/
structure KeepG (lo hi : Nat) (w w' : World) : Prop where
  os : w'.os = w.os
  tape : w'.tape = w.tape
  output : w'.output = w.output
  size : w.heap.size ≤ w'.heap.size
  block : ∀ k, k < w.heap.size → (k < lo ∨ hi ≤ k) → w'.heap[k]? = w.heap[k]?
theorem KeepG.refl (lo hi : Nat) (w : World) : KeepG lo hi w w := ⟨rfl, rfl, rfl, Nat.le_refl _, fun _ _ _ => rfl⟩
theorem KeepG.trans {lo hi : Nat} {a b c : World} (h : KeepG lo hi a b) (k : KeepG lo hi b c) : KeepG lo hi a c :=
  ⟨k.os.trans h.os, k.tape.trans h.tape, k.output.trans h.output, Nat.le_trans h.size k.size, fun i h1 h2 => (k.block i (Nat.lt_of_lt_of_le h1 h.size) h2).trans (h.block i h1 h2)⟩
theorem Keep.g {lo hi : Nat} {w w' : World} (h : Keep lo hi w w') : KeepG lo hi w w' := ⟨h.os, h.tape, h.output, Nat.le_of_eq h.size.symm, fun k _ h2 => h.block k h2⟩
theorem below_g {lo hi : Nat} {w w' : World} (h : Below w.heap.size w w') : KeepG lo hi w w' := ⟨h.os, h.tape, h.output, h.size, fun k h1 _ => h.block k h1⟩
/-- In two steps: first the blocks turn, then new ones come. -/
theorem KeepG.split {lo hi : Nat} {w w' : World} (h : KeepG lo hi w w') : ∃ m, Keep lo hi w m ∧ Below m.heap.size m w' := by
  refine ⟨{ w' with heap := w'.heap.extract 0 w.heap.size }, ⟨h.os, h.tape, h.output, ?_, fun k hk => ?_⟩, ⟨rfl, rfl, rfl, ?_, fun k hk => ?_⟩⟩
  · have := h.size; simp; omega
  · by_cases hlt : k < w.heap.size
    · rw [← h.block k hlt hk]
      show (w'.heap.extract 0 w.heap.size)[k]? = _
      rw [Array.getElem?_extract]
      have := h.size
      rw [if_pos (by omega), Nat.zero_add]
    · rw [Array.getElem?_eq_none (xs := w.heap) (by omega)]
      show (w'.heap.extract 0 w.heap.size)[k]? = _
      rw [Array.getElem?_eq_none (by simp; omega)]
  · show (w'.heap.extract 0 w.heap.size).size ≤ w'.heap.size
    simp; omega
  · show w'.heap[k]? = (w'.heap.extract 0 w.heap.size)[k]?
    have hk' : k < w.heap.size := by have h1 := h.size; simp at hk; omega
    have := h.size
    rw [Array.getElem?_extract, if_pos (by omega), Nat.zero_add]
end Go.Proofs.YtjnkdjokbamibaaGreatDoor
/- Contracts: what a cursor over bytes draws; its block alone turns, and new memory comes. -/
namespace Go.Proofs.YtjnkdjokbamibaaGreatDoor
open Go.RowKit
def bytesV (zs : List UInt8) : List Value := zs.map fun z => Value.int .u8 (z.toNat : Int)
def RdU (w : World) (hi : Nat) (v : Value) (zs : List UInt8) : Prop := Rd w hi 1 v zs.length (bytesV zs)
theorem RdU.at_ {w : World} {hi : Nat} {v : Value} {zs : List UInt8} (h : RdU w hi v zs) {k : Nat} (hk : k < zs.length) :
    ∃ (b off c : Nat) (z : Int), v = .slice (some ⟨b, off, Option.none⟩) zs.length c ∧ b < hi ∧ w.cell? ⟨b, off + k, Option.none⟩ = some (.int .u8 z) ∧ 0 ≤ z ∧ z ≤ 255 := by
  obtain ⟨_, A, c, hv, _, _, h4⟩ := h
  obtain ⟨b, off, rfl, hb, hc⟩ := h4 (by omega)
  refine ⟨b, off, c, ((zs[k]).toNat : Int), hv, hb, hc k _ (by simp [bytesV, hk]), by omega, ?_⟩
  have := UInt8.toNat_lt zs[k]
  omega
/-- C is the block of a cursor that has been asked at most m times. -/
def Cur (w : World) (C m : Nat) : Prop := ∃ (v : Value) (zs : List UInt8) (p : Nat) (s : Int), Blk w C 71 [v, .int .i64 (p : Int), .int .u64 s] ∧ RdU w C v zs ∧ p ≤ m
theorem KeepG.drawN {C D : Nat} (w : World) (n : Nat) : KeepG C D w (w.drewN n) := (keep_drewN C D w n).g
theorem KeepG.set_ {C D : Nat} {a w : World} (h : KeepG C D a w) {p : Addr} (h1 : C ≤ p.block) (h2 : p.block < D) (u : Value) : KeepG C D a (w.setCell p u) :=
  h.trans ((Keep.refl C D w).setCell h1 h2 u).g
theorem mask255 (y : Int) : 0 ≤ wrap64 (bits .and .u64 (IntKind.u64.wrap y / 1099511627776) 255) ∧ wrap64 (bits .and .u64 (IntKind.u64.wrap y / 1099511627776) 255) ≤ 255 := by
  have e := IntKind.wrap_u64 y
  obtain ⟨x, hx⟩ : ∃ x, x = IntKind.u64.wrap y / 1099511627776 := ⟨_, rfl⟩
  have hx0 : 0 ≤ x := by omega
  have hx1 : x < 18446744073709551616 := by omega
  rw [← hx]
  have h := bits_mask .u64 64 (by decide) (fun n h0 h1 => by rw [IntKind.wrap_u64]; omega) 8 (by decide) x hx0 (by omega)
  have h2 : bits .and .u64 x 255 = x % 256 := by simpa using h
  rw [h2]
  unfold wrap64
  omega
set_option maxRecDepth 100000 in
set_option maxHeartbeats 1600000 in
theorem next_any (C m : Nat) (w : World) (h : Cur w C m) (hm : m ≤ 1099511627776) :
    Calls Tryz.prog 110 #[.pointer (some ⟨C, 0, Option.none⟩)] w fun e w' => ∃ z : Int, e = .returned (.int .i64 z) ∧ 0 ≤ z ∧ z ≤ 255 ∧ Cur w' C (m + 1) ∧ KeepG C (C + 1) w w' := by
  obtain ⟨v, zs, p, s, hb, hr, hp⟩ := h
  obtain ⟨A, c, rfl, hc, hlm⟩ := Rd.form hr
  have h0 := hb.cell 0
  have h1 := hb.cell 1
  have h2 := hb.cell 2
  have hf := fun i => hb.frozen i
  by_cases hlt : p < zs.length
  · obtain ⟨b, off, c', z, hv, hbl, hcell, hz0, hz1⟩ := hr.at_ hlt
    cases hv
    have HB := Lib.hid hb
    have HR := Lib.hid hr
    clear hb hr
    go_enter Tryz.func110, Tryz.ntmps110
    go_wp2_with fail
    go_quiet (fail)
    go_wp2_with fail
    clear h0 h1 h2 hf
    have HB1 : Hid (Blk (w.drewN nq) C 71 [(.slice (some ⟨b, off, Option.none⟩) zs.length c), .int .i64 (p : Int), .int .u64 s]) := HB.out
    have h01 : (w.drewN nq).cell? ⟨C, 0, Option.none⟩ = some (.slice (some ⟨b, off, Option.none⟩) zs.length c) := HB1.out.cell 0
    have h11 : (w.drewN nq).cell? ⟨C, 1, Option.none⟩ = some (.int .i64 (p : Int)) := HB1.out.cell 1
    have h21 : (w.drewN nq).cell? ⟨C, 2, Option.none⟩ = some (.int .u64 s) := HB1.out.cell 2
    have hf1 : ∀ i, (w.drewN nq).frozen? ⟨C, i, Option.none⟩ = false := fun i => HB1.out.frozen i
    have hc1 : (w.drewN nq).cell? ⟨b, off + p, Option.none⟩ = some (.int .u8 z) := hcell
    have HR1 : Hid (RdU (w.drewN nq) C (.slice (some ⟨b, off, Option.none⟩) zs.length c) zs) := HR.out
    have HK1 : Hid (KeepG C (C + 1) w (w.drewN nq)) := KeepG.drawN _ _
    generalize (w.drewN nq) = w1 at HB1 h01 h11 h21 hf1 hc1 HR1 HK1 ⊢
    clear HB HR hcell
    go_wp2_with fail
    go_quiet (fail)
    have HB2 : Hid (Blk (w1.drewN nq) C 71 [(.slice (some ⟨b, off, Option.none⟩) zs.length c), .int .i64 (p : Int), .int .u64 s]) := HB1.out
    have h02 : (w1.drewN nq).cell? ⟨C, 0, Option.none⟩ = some (.slice (some ⟨b, off, Option.none⟩) zs.length c) := HB2.out.cell 0
    have h12 : (w1.drewN nq).cell? ⟨C, 1, Option.none⟩ = some (.int .i64 (p : Int)) := HB2.out.cell 1
    have h22 : (w1.drewN nq).cell? ⟨C, 2, Option.none⟩ = some (.int .u64 s) := HB2.out.cell 2
    have hf2 : ∀ i, (w1.drewN nq).frozen? ⟨C, i, Option.none⟩ = false := fun i => HB2.out.frozen i
    have HR2 : Hid (RdU (w1.drewN nq) C (.slice (some ⟨b, off, Option.none⟩) zs.length c) zs) := HR1.out
    have HK2 : Hid (KeepG C (C + 1) w (w1.drewN nq)) := HK1.out.trans (KeepG.drawN _ _)
    clear hc1 h01 h11 h21 hf1
    generalize (w1.drewN nq) = w2 at HB2 h02 h12 h22 hf2 HR2 HK2 ⊢
    have hp1 : (0 : Int) ≤ (p : Int) + 1 := by omega
    have hS1 : ∀ x, (w2.setCell ⟨C, 1, Option.none⟩ x).cell? ⟨C, 2, Option.none⟩ = some (.int .u64 s) := fun x => (HB2.out.set_ 1 x).cell 2
    have hS2 : ∀ x, (w2.setCell ⟨C, 1, Option.none⟩ x).frozen? ⟨C, 2, Option.none⟩ = false := fun x => (HB2.out.set_ 1 x).frozen 2
    have hB3 : ∀ e, Blk ((w2.setCell ⟨C, 1, Option.none⟩ (.int .i64 ((p : Int) + 1))).setCell ⟨C, 2, Option.none⟩ (.int .u64 e)) C 71 [(.slice (some ⟨b, off, Option.none⟩) zs.length c), .int .i64 ((p : Int) + 1), .int .u64 e] := fun e => (HB2.out.set_ 1 _).set_ 2 _
    have hT0 : ∀ e, ((w2.setCell ⟨C, 1, Option.none⟩ (.int .i64 ((p : Int) + 1))).setCell ⟨C, 2, Option.none⟩ (.int .u64 e)).cell? ⟨C, 0, Option.none⟩ = some (.slice (some ⟨b, off, Option.none⟩) zs.length c) := fun e => (hB3 e).cell 0
    have hT1 : ∀ e, ((w2.setCell ⟨C, 1, Option.none⟩ (.int .i64 ((p : Int) + 1))).setCell ⟨C, 2, Option.none⟩ (.int .u64 e)).cell? ⟨C, 1, Option.none⟩ = some (.int .i64 ((p : Int) + 1)) := fun e => (hB3 e).cell 1
    have hT2 : ∀ e, ((w2.setCell ⟨C, 1, Option.none⟩ (.int .i64 ((p : Int) + 1))).setCell ⟨C, 2, Option.none⟩ (.int .u64 e)).cell? ⟨C, 2, Option.none⟩ = some (.int .u64 e) := fun e => (hB3 e).cell 2
    have hR3 : ∀ e, RdU ((w2.setCell ⟨C, 1, Option.none⟩ (.int .i64 ((p : Int) + 1))).setCell ⟨C, 2, Option.none⟩ (.int .u64 e)) C (.slice (some ⟨b, off, Option.none⟩) zs.length c) zs := fun e => HR2.out.below (((Below.refl C w2).setCell (p := ⟨C, 1, Option.none⟩) (Nat.le_refl _) _).setCell (p := ⟨C, 2, Option.none⟩) (Nat.le_refl _) _) (Nat.le_refl _)
    have hK3 : ∀ e, KeepG C (C + 1) w ((w2.setCell ⟨C, 1, Option.none⟩ (.int .i64 ((p : Int) + 1))).setCell ⟨C, 2, Option.none⟩ (.int .u64 e)) := fun e => (HK2.out.set_ (Nat.le_refl _) (Nat.lt_succ_self _) _).set_ (Nat.le_refl _) (Nat.lt_succ_self _) _
    have HB3 := Lib.hid hB3
    have HR3 := Lib.hid hR3
    have HK3 := Lib.hid hK3
    clear hB3 hR3 hK3
    go_wp2_with fail
    go_quiet (fail)
    go_wp2_with fail
    go_ret
    exact ⟨_, rfl, hz0, hz1, ⟨_, zs, p + 1, _, HB3.out _, HR3.out _, by omega⟩, (HK3.out _).trans (KeepG.drawN _ _)⟩
  · have HB := Lib.hid hb
    have HR := Lib.hid hr
    clear hb hr
    go_enter Tryz.func110, Tryz.ntmps110
    go_wp2_with fail
    go_quiet (fail)
    go_wp2_with fail
    clear h0 h1 h2 hf
    have HB2 : Hid (Blk (w.drewN nq) C 71 [(.slice A zs.length c), .int .i64 (p : Int), .int .u64 s]) := HB.out
    have h02 : (w.drewN nq).cell? ⟨C, 0, Option.none⟩ = some (.slice A zs.length c) := HB2.out.cell 0
    have h12 : (w.drewN nq).cell? ⟨C, 1, Option.none⟩ = some (.int .i64 (p : Int)) := HB2.out.cell 1
    have h22 : (w.drewN nq).cell? ⟨C, 2, Option.none⟩ = some (.int .u64 s) := HB2.out.cell 2
    have hf2 : ∀ i, (w.drewN nq).frozen? ⟨C, i, Option.none⟩ = false := fun i => HB2.out.frozen i
    have HR2 : Hid (RdU (w.drewN nq) C (.slice A zs.length c) zs) := HR.out
    have HK2 : Hid (KeepG C (C + 1) w (w.drewN nq)) := KeepG.drawN _ _
    generalize (w.drewN nq) = w2 at HB2 h02 h12 h22 hf2 HR2 HK2 ⊢
    have hp1 : (0 : Int) ≤ (p : Int) + 1 := by omega
    have hS1 : ∀ x, (w2.setCell ⟨C, 1, Option.none⟩ x).cell? ⟨C, 2, Option.none⟩ = some (.int .u64 s) := fun x => (HB2.out.set_ 1 x).cell 2
    have hS2 : ∀ x, (w2.setCell ⟨C, 1, Option.none⟩ x).frozen? ⟨C, 2, Option.none⟩ = false := fun x => (HB2.out.set_ 1 x).frozen 2
    have hB3 : ∀ e, Blk ((w2.setCell ⟨C, 1, Option.none⟩ (.int .i64 ((p : Int) + 1))).setCell ⟨C, 2, Option.none⟩ (.int .u64 e)) C 71 [(.slice A zs.length c), .int .i64 ((p : Int) + 1), .int .u64 e] := fun e => (HB2.out.set_ 1 _).set_ 2 _
    have hT0 : ∀ e, ((w2.setCell ⟨C, 1, Option.none⟩ (.int .i64 ((p : Int) + 1))).setCell ⟨C, 2, Option.none⟩ (.int .u64 e)).cell? ⟨C, 0, Option.none⟩ = some (.slice A zs.length c) := fun e => (hB3 e).cell 0
    have hT1 : ∀ e, ((w2.setCell ⟨C, 1, Option.none⟩ (.int .i64 ((p : Int) + 1))).setCell ⟨C, 2, Option.none⟩ (.int .u64 e)).cell? ⟨C, 1, Option.none⟩ = some (.int .i64 ((p : Int) + 1)) := fun e => (hB3 e).cell 1
    have hT2 : ∀ e, ((w2.setCell ⟨C, 1, Option.none⟩ (.int .i64 ((p : Int) + 1))).setCell ⟨C, 2, Option.none⟩ (.int .u64 e)).cell? ⟨C, 2, Option.none⟩ = some (.int .u64 e) := fun e => (hB3 e).cell 2
    have hR3 : ∀ e, RdU ((w2.setCell ⟨C, 1, Option.none⟩ (.int .i64 ((p : Int) + 1))).setCell ⟨C, 2, Option.none⟩ (.int .u64 e)) C (.slice A zs.length c) zs := fun e => HR2.out.below (((Below.refl C w2).setCell (p := ⟨C, 1, Option.none⟩) (Nat.le_refl _) _).setCell (p := ⟨C, 2, Option.none⟩) (Nat.le_refl _) _) (Nat.le_refl _)
    have hK3 : ∀ e, KeepG C (C + 1) w ((w2.setCell ⟨C, 1, Option.none⟩ (.int .i64 ((p : Int) + 1))).setCell ⟨C, 2, Option.none⟩ (.int .u64 e)) := fun e => (HK2.out.set_ (Nat.le_refl _) (Nat.lt_succ_self _) _).set_ (Nat.le_refl _) (Nat.lt_succ_self _) _
    have HB3 := Lib.hid hB3
    have HR3 := Lib.hid hR3
    have HK3 := Lib.hid hK3
    clear hB3 hR3 hK3
    go_wp2_with fail
    go_quiet (fail)
    go_wp2_with fail
    go_ret
    exact ⟨_, rfl, (mask255 _).1, (mask255 _).2, ⟨_, zs, p + 1, _, HB3.out _, HR3.out _, by omega⟩, (HK3.out _).trans (KeepG.drawN _ _)⟩
theorem Cur.mono {w : World} {C m m' : Nat} (h : Cur w C m) (hm : m ≤ m') : Cur w C m' := by
  obtain ⟨v, zs, p, s, h1, h2, h3⟩ := h
  exact ⟨v, zs, p, s, h1, h2, by omega⟩
theorem Cur.lt {w : World} {C m : Nat} (h : Cur w C m) : C < w.heap.size := by
  obtain ⟨v, zs, p, s, h1, _, _⟩ := h
  exact h1.lt
theorem Cur.alloc {w : World} {C m : Nat} (h : Cur w C m) (o : Obj) : Cur (w.alloc o) C m := by
  obtain ⟨v, zs, p, s, h1, h2, h3⟩ := h
  exact ⟨v, zs, p, s, h1.alloc o, h2.below ((Below.refl _ _).alloc (by have := h1.lt; omega) _) (Nat.le_refl _), h3⟩
/-- What a call that draws leaves: a number in a range, the cursor a little further, all other blocks as they were. -/
def Drawn (C m : Nat) (w : World) (p : Int → Prop) (e : Ending) (w' : World) : Prop := ∃ z : Int, e = .returned (.int .i64 z) ∧ p z ∧ Cur w' C m ∧ KeepG C (C + 1) w w'
set_option maxHeartbeats 800000 in
theorem pick_any (n : Int) (C m : Nat) (w : World) (h : Cur w C m) (hm : m ≤ 1099511627000) (h1 : 1 ≤ n) (h2 : n ≤ 1048576) :
    Calls Tryz.prog 63 #[.pointer (some ⟨C, 0, Option.none⟩), .int .i64 n] w (Drawn C (m + 2) w (fun z => 0 ≤ z ∧ z < n)) := by
  by_cases hn : n ≤ 1
  · have H := Lib.hid h
    clear h
    go_enter Tryz.func63, Tryz.ntmps63
    go_wp2_with fail
    go_ret
    exact ⟨0, rfl, ⟨Int.le_refl _, by omega⟩, H.out.mono (by omega), KeepG.refl _ _ _⟩
  · have cN := next_any C m w h (by omega)
    have CN := Lib.hid cN
    clear cN h
    by_cases hb : 200 < n
    · go_enter Tryz.func63, Tryz.ntmps63
      go_wp2_with fail
      refine CN.out.mono ?_
      rintro e w1 ⟨z, rfl, hz0, hz1, hc1, hk1⟩
      have cM := next_any C (m + 1) w1 hc1 (by omega)
      have CM := Lib.hid cM
      have HK1 := Lib.hid hk1
      clear cM hc1 hk1
      go_wp2_with fail
      refine CM.out.mono ?_
      rintro e w2 ⟨y, rfl, hy0, hy1, hc2, hk2⟩
      have HC2 := Lib.hid hc2
      have HK2 := Lib.hid hk2
      clear hc2 hk2
      have hq0 : 0 ≤ (z * 256 + y) % n := Int.emod_nonneg _ (by omega)
      have hq1 : (z * 256 + y) % n < n := Int.emod_lt_of_pos _ (by omega)
      have hnn : n ≠ 0 := by omega
      go_wp2_with fail
      go_ret
      refine ⟨(z * 256 + y) % n, ?_, ⟨hq0, hq1⟩, HC2.out, HK1.out.trans HK2.out⟩
      simp
      try rw [Int.tmod_eq_emod_of_nonneg (by omega)]
    · go_enter Tryz.func63, Tryz.ntmps63
      go_wp2_with fail
      refine CN.out.mono ?_
      rintro e w1 ⟨z, rfl, hz0, hz1, hc1, hk1⟩
      have HC1 := Lib.hid hc1
      have HK1 := Lib.hid hk1
      clear hc1 hk1
      have hq0 : 0 ≤ z % n := Int.emod_nonneg _ (by omega)
      have hq1 : z % n < n := Int.emod_lt_of_pos _ (by omega)
      have hnn : n ≠ 0 := by omega
      go_wp2_with fail
      go_ret
      refine ⟨z % n, ?_, ⟨hq0, hq1⟩, HC1.out.mono (by omega), HK1.out⟩
      simp
      try rw [Int.tmod_eq_emod_of_nonneg (by omega)]
theorem one_any (n : Int) (C m : Nat) (w : World) (h : Cur w C m) (hm : m ≤ 1099511627000) (h1 : 1 ≤ n) (h2 : n ≤ 1048576) :
    Calls Tryz.prog 64 #[.pointer (some ⟨C, 0, Option.none⟩), .int .i64 n] w fun e w' => ∃ b : Bool, e = .returned (.bool b) ∧ Cur w' C (m + 2) ∧ KeepG C (C + 1) w w' := by
  have cN := pick_any n C m w h hm h1 h2
  have CN := Lib.hid cN
  clear cN h
  go_enter Tryz.func64, Tryz.ntmps64
  go_wp2_with fail
  refine CN.out.mono ?_
  rintro e w1 ⟨z, rfl, hz, hc1, hk1⟩
  have HC1 := Lib.hid hc1
  have HK1 := Lib.hid hk1
  clear hc1 hk1
  go_wp2_with fail
  go_ret
  exact ⟨_, rfl, HC1.out, HK1.out⟩
/-- The slice value v is not empty, lies outside block C, and reads as xs. -/
def Lst (w : World) (C : Nat) (v : Value) (xs : List Int) : Prop := 1 ≤ xs.length ∧ xs.length ≤ 1048576 ∧ ∃ b off c, v = .slice (some ⟨b, off, Option.none⟩) xs.length c ∧ b ≠ C ∧ b < w.heap.size ∧ ∀ j x, xs[j]? = some x → w.cell? ⟨b, off + j, Option.none⟩ = some (.int .i64 x)
theorem KeepG.cell {lo hi : Nat} {w w' : World} (h : KeepG lo hi w w') {b o : Nat} (hb : b < w.heap.size) (hne : b < lo ∨ hi ≤ b) : w'.cell? ⟨b, o, Option.none⟩ = w.cell? ⟨b, o, Option.none⟩ := by
  unfold World.cell?
  rw [h.block b hb hne]
theorem lst_new (w : World) (C : Nat) (xs : List Int) (hC : C < w.heap.size) (h1 : 1 ≤ xs.length) (h2 : xs.length ≤ 1048576) : Lst (w.alloc (.cells (ints xs).toArray 3)) C (.slice (some ⟨w.heap.size, 0, Option.none⟩) xs.length xs.length) xs := by
  refine ⟨h1, h2, w.heap.size, 0, _, rfl, by omega, by simp, fun j x hj => ?_⟩
  rw [show (0 : Nat) + j = j by omega, (Blk.new w 3 (ints xs).toArray).cell j]
  simp [ints, hj]
theorem among_any (xs : List Int) (v : Value) (C m : Nat) (w : World) (h : Cur w C m) (hm : m ≤ 1099511627000) (hl : Lst w C v xs) :
    Calls Tryz.prog 74 #[.pointer (some ⟨C, 0, Option.none⟩), v] w (Drawn C (m + 2) w (fun z => z ∈ xs)) := by
  obtain ⟨l1, l2, b, off, c, rfl, hbC, hbw, hcell⟩ := hl
  have cN := pick_any (xs.length : Int) C m w h hm (by omega) (by omega)
  have CN := Lib.hid cN
  have HCE := Lib.hid hcell
  clear cN h hcell
  go_enter Tryz.func74, Tryz.ntmps74
  go_wp2_with fail
  refine CN.out.mono ?_
  rintro e w1 ⟨z, rfl, ⟨hz0, hz1⟩, hc1, hk1⟩
  obtain ⟨k, rfl⟩ : ∃ k : Nat, z = (k : Int) := ⟨z.toNat, by omega⟩
  have hx : xs[k]? = some xs[k] := by simp [show k < xs.length by omega]
  have hc := (hk1.cell (o := off + k) hbw (by omega)).trans (HCE.out k _ hx)
  have HX := Lib.hid (List.mem_of_getElem? hx)
  have HC1 := Lib.hid hc1
  have HK1 := Lib.hid hk1
  clear hc1 hk1 hx
  go_wp2_with fail
  go_ret
  exact ⟨_, rfl, HX.out, HC1.out, HK1.out⟩
end Go.Proofs.YtjnkdjokbamibaaGreatDoor
/- Contracts: drawn signals, drawn texts of signals. -/
namespace Go.Proofs.YtjnkdjokbamibaaGreatDoor
open Go.RowKit
theorem keepG_box {w w' : World} {o : Obj} (h : KeepG w.heap.size (w.heap.size + 1) (w.alloc o) w') : Below w.heap.size w w' := by
  have h0 : Below w.heap.size w (w.alloc o) := (Below.refl _ _).alloc (Nat.le_refl _) _
  refine ⟨h.os.trans h0.os, h.tape.trans h0.tape, h.output.trans h0.output, Nat.le_trans h0.size h.size, fun k hk => ?_⟩
  rw [h.block k (by have := h0.size; omega) (.inl hk)]
  exact h0.block k hk
theorem cur_new {w : World} {hi : Nat} {v : Value} {zs : List UInt8} (h : RdU w hi v zs) (hh : hi ≤ w.heap.size) : Cur (w.alloc (.cells #[v, .int .i64 0, .int .u64 0] 71)) w.heap.size 0 :=
  ⟨v, zs, 0, 0, Blk.new _ _ _, (Rd.mono h hh).below ((Below.refl _ _).alloc (Nat.le_refl _) _) (Nat.le_refl _), Nat.le_refl _⟩
set_option maxHeartbeats 800000 in
theorem signal_any (C m : Nat) (w : World) (h : Cur w C m) (hm : m ≤ 1099511600000) :
    Calls Tryz.prog 57 #[.pointer (some ⟨C, 0, Option.none⟩)] w (Drawn C (m + 10) w (fun _ => True)) := by
  have c1 := Lib.hid (pick_any 64 C m w h (by omega) (by omega) (by omega))
  clear h
  go_enter Tryz.func57, Tryz.ntmps57
  go_wp2_with fail
  refine c1.out.mono ?_
  rintro e w1 ⟨z1, rfl, _, hc1, hk1⟩
  have c2 := Lib.hid (pick_any 64 C (m + 2) w1 hc1 (by omega) (by omega) (by omega))
  have HK1 := Lib.hid hk1
  clear hc1 hk1
  go_wp2_with fail
  refine c2.out.mono ?_
  rintro e w2 ⟨z2, rfl, _, hc2, hk2⟩
  have c3 := Lib.hid (pick_any 64 C (m + 4) w2 hc2 (by omega) (by omega) (by omega))
  have HK2 := Lib.hid (HK1.out.trans hk2)
  clear hc2 hk2
  go_wp2_with fail
  refine c3.out.mono ?_
  rintro e w3 ⟨z3, rfl, _, hc3, hk3⟩
  have hl4 : Lst (w3.alloc (.cells #[.int .i64 (-1), .int .i64 64] 3)) C (.slice (some ⟨w3.heap.size, 0, Option.none⟩) 2 2) [-1, 64] := lst_new w3 C [-1, 64] hc3.lt (by decide) (by decide)
  have c4 := Lib.hid (among_any [-1, 64] _ C (m + 6) _ (hc3.alloc _) (by omega) hl4)
  have HK3 := Lib.hid ((HK2.out.trans hk3).trans (below_g ((Below.refl _ w3).alloc (Nat.le_refl _) (.cells #[.int .i64 (-1), .int .i64 64] 3))))
  clear hc3 hk3 hl4
  go_wp2_with fail
  refine c4.out.mono ?_
  rintro e w4 ⟨z4, rfl, _, hc4, hk4⟩
  have hl5 : Lst (w4.alloc (.cells #[.int .i64 0, .int .i64 5, .int .i64 12, .int .i64 60, .int .i64 61, .int .i64 62, .int .i64 63, .int .i64 z1, .int .i64 z2, .int .i64 z3, .int .i64 z4] 3)) C (.slice (some ⟨w4.heap.size, 0, Option.none⟩) 11 11) [0, 5, 12, 60, 61, 62, 63, z1, z2, z3, z4] := lst_new w4 C [0, 5, 12, 60, 61, 62, 63, z1, z2, z3, z4] hc4.lt (by simp) (by simp)
  have c5 := Lib.hid (among_any _ _ C (m + 8) _ (hc4.alloc _) (by omega) hl5)
  have HK4 := Lib.hid ((HK3.out.trans hk4).trans (below_g ((Below.refl _ w4).alloc (Nat.le_refl _) (.cells #[.int .i64 0, .int .i64 5, .int .i64 12, .int .i64 60, .int .i64 61, .int .i64 62, .int .i64 63, .int .i64 z1, .int .i64 z2, .int .i64 z3, .int .i64 z4] 3))))
  clear hc4 hk4 hl5
  go_wp2_with fail
  refine c5.out.mono ?_
  rintro e w5 ⟨z5, rfl, _, hc5, hk5⟩
  have HC5 := Lib.hid hc5
  have HK5 := Lib.hid (HK4.out.trans hk5)
  clear hc5 hk5
  go_wp2_with fail
  go_ret
  exact ⟨z5, rfl, trivial, HC5.out, HK5.out⟩
end Go.Proofs.YtjnkdjokbamibaaGreatDoor
/- Contracts: drawn lists of numbers: weights, lengths; numbers of digits. -/
namespace Go.Proofs.YtjnkdjokbamibaaGreatDoor
open Go.RowKit
theorem KeepG.fresh {C D : Nat} {w0 w w' : World} (h : KeepG C D w0 w) (hb : Below w0.heap.size w w') : KeepG C D w0 w' :=
  ⟨hb.os.trans h.os, hb.tape.trans h.tape, hb.output.trans h.output, Nat.le_trans h.size hb.size, fun k hk hn => (hb.block k hk).trans (h.block k hk hn)⟩
theorem KeepG.alloc {C D : Nat} {w0 w : World} (h : KeepG C D w0 w) (o : Obj) : KeepG C D w0 (w.alloc o) := h.trans (below_g ((Below.refl _ w).alloc (Nat.le_refl _) o))
theorem Cur.fresh {w w' : World} {C m B : Nat} (h : Cur w C m) (hb : Below B w w') (hC : C < B) : Cur w' C m := by
  obtain ⟨v, zs, p, s, h1, h2, h3⟩ := h
  exact ⟨v, zs, p, s, h1.below hb hC, Rd.below h2 hb (by omega), h3⟩
theorem owns_keepG {w w' : World} {lo C size n : Nat} {e : TypeId} {v : Value} {xs : List Value} (h : w.ownsRow lo e size v n xs) (hk : KeepG C (C + 1) w w') (hC : C < lo) : w'.ownsRow lo e size v n xs := by
  refine ⟨h.1, ?_⟩
  rcases h.2 with hn | ⟨g, cap, cur, rfl, hl, hg, rest⟩
  · exact .inl hn
  · exact .inr ⟨g, cap, cur, rfl, hl, (hk.block g (Array.getElem?_eq_some_iff.1 hg).1 (by omega)).trans hg, rest⟩
/-- A row of numbers drawn since the world w0; the cursor at C. -/
def DrL (w0 : World) (C m : Nat) (wr : World) (v : Value) (xs : List Int) : Prop := wr.ownsRow w0.heap.size 3 1 v xs.length (ints xs) ∧ Cur wr C m ∧ KeepG C (C + 1) w0 wr
theorem DrL.start {w : World} {C m : Nat} (h : Cur w C m) : DrL w C m w (.slice Option.none 0 0) [] := ⟨World.ownsRow_nil _ _ _ _, h, KeepG.refl _ _ _⟩
theorem DrL.step {w0 wr w' : World} {C m m' : Nat} {v : Value} {xs : List Int} (h : DrL w0 C m wr v xs) (hC : C < w0.heap.size) (hc : Cur w' C m') (hk : KeepG C (C + 1) wr w') : DrL w0 C m' w' v xs :=
  ⟨owns_keepG h.1 hk hC, hc, h.2.2.trans hk⟩
theorem DrL.alloc {w0 wr : World} {C m : Nat} {v : Value} {xs : List Int} (h : DrL w0 C m wr v xs) (o : Obj) : DrL w0 C m (wr.alloc o) v xs :=
  ⟨h.1.alloc o, h.2.1.alloc o, h.2.2.trans (below_g ((Below.refl _ wr).alloc (Nat.le_refl _) o))⟩
theorem DrL.mono {w0 wr : World} {C m m' : Nat} {v : Value} {xs : List Int} (h : DrL w0 C m wr v xs) (hm : m ≤ m') : DrL w0 C m' wr v xs := ⟨h.1, h.2.1.mono hm, h.2.2⟩
theorem DrL.le {w0 wr : World} {C m : Nat} {v : Value} {xs : List Int} (h : DrL w0 C m wr v xs) : w0.heap.size ≤ wr.heap.size := h.2.2.size
theorem DrL.own {w0 wr : World} {C m : Nat} {v : Value} {xs : List Int} (h : DrL w0 C m wr v xs) : OwI wr w0.heap.size wr.heap.size v xs := ⟨h.1, fun k hk => (h.1.lt k hk).2⟩
theorem DrL.rd {w0 wr : World} {C m : Nat} {v : Value} {xs : List Int} (h : DrL w0 C m wr v xs) : RdI wr wr.heap.size v xs := h.own.rd
theorem DrL.form {w0 wr : World} {C m : Nat} {v : Value} {xs : List Int} (h : DrL w0 C m wr v xs) : ∃ A c, v = .slice A xs.length c := by
  obtain ⟨A, c, hv, _⟩ := Rd.form h.rd
  exact ⟨A, c, hv⟩
theorem DrL.grow {w0 wr w' : World} {C m : Nat} {v v' : Value} {xs ys : List Int} (h : DrL w0 C m wr v xs) (hC : C < w0.heap.size) (hG : GrowI wr w0.heap.size w' v' ys) : DrL w0 C m w' v' ys :=
  ⟨hG.1, h.2.1.fresh hG.2.1 hC, h.2.2.fresh hG.2.1⟩
theorem DrL.gr {w0 wr : World} {C m : Nat} {v : Value} {xs : List Int} (h : DrL w0 C m wr v xs) : GrowI wr w0.heap.size wr v xs := ⟨h.1, Below.refl _ _, h.le⟩
theorem DrL.pos {w0 wr : World} {C m : Nat} {v : Value} {xs : List Int} (h : DrL w0 C m wr v xs) (hp : 0 < xs.length) : ∃ g c, v = .slice (some ⟨g, 0, Option.none⟩) xs.length c ∧ w0.heap.size ≤ g := by
  rcases h.1.2 with ⟨_, e⟩ | ⟨g, cap, cur, hv, hl, _⟩
  · omega
  · exact ⟨g, cap, hv, hl⟩
theorem DrL.cell {w0 wr : World} {C m g c : Nat} {xs : List Int} (h : DrL w0 C m wr (.slice (some ⟨g, 0, Option.none⟩) xs.length c) xs) {j : Nat} (hj : j < xs.length) : wr.cell? ⟨g, j, Option.none⟩ = some (.int .i64 xs[j]) ∧ wr.frozen? ⟨g, j, Option.none⟩ = false := by
  refine ⟨?_, h.1.frozenAt j⟩
  rw [h.1.cellAt j (by omega)]
  simp [ints, hj]
theorem DrL.put {w0 wr : World} {C m g c : Nat} {xs : List Int} (h : DrL w0 C m wr (.slice (some ⟨g, 0, Option.none⟩) xs.length c) xs) (hC : C < w0.heap.size) (hg : w0.heap.size ≤ g) (j : Nat) (y : Int) :
    DrL w0 C m (wr.setCell ⟨g, j, Option.none⟩ (.int .i64 y)) (.slice (some ⟨g, 0, Option.none⟩) xs.length c) (xs.set j y) := by
  have h1 := (h.1.stored j (.int .i64 y)).1
  have hb : Below w0.heap.size wr (wr.setCell ⟨g, j, Option.none⟩ (.int .i64 y)) := (Below.refl _ _).setCell hg _
  refine ⟨?_, h.2.1.fresh hb hC, h.2.2.fresh hb⟩
  have h2 : ints (xs.set j y) = (ints xs).set j (.int .i64 y) := by unfold ints; rw [List.map_set]
  rw [h2, List.length_set]
  exact h1
/-- What a call that draws a list leaves. -/
def DrewL (C m N : Nat) (w : World) (e : Ending) (w' : World) : Prop := ∃ v xs, e = .returned v ∧ xs.length ≤ N ∧ DrL w C m w' v xs
theorem drL_box {w w' : World} {o : Obj} {C m : Nat} {v : Value} {xs : List Int} (hC : C = w.heap.size) (h : DrL (w.alloc o) C m w' v xs) : RdI w' w'.heap.size v xs ∧ Below w.heap.size w w' := by
  subst hC
  exact ⟨h.rd, keepG_box h.2.2⟩
end Go.Proofs.YtjnkdjokbamibaaGreatDoor
/- Contracts: a drawn text with edits. -/
namespace Go.Proofs.YtjnkdjokbamibaaGreatDoor
open Go.RowKit
set_option maxRecDepth 100000 in
set_option maxHeartbeats 4000000 in
theorem spoilt_any (t s : ByteArray) (C m : Nat) (w : World) (h : Cur w C m) (hm : m ≤ 1099511600000) (ht : t.size ≤ 1000000) (hs1 : 1 ≤ s.size) (hs2 : s.size ≤ 1000) :
    Calls Tryz.prog 65 #[.pointer (some ⟨C, 0, Option.none⟩), .string t, .string s] w fun e w' => ∃ t' : ByteArray, e = .returned (.string t') ∧ t'.size ≤ t.size + 2 ∧ Cur w' C (m + 20) ∧ KeepG C (C + 1) w w' := by
  have c1 := Lib.hid (pick_any 2 C m w h (by omega) (by omega) (by omega))
  clear h
  go_enter Tryz.func65, Tryz.ntmps65
  go_wp2_with fail
  refine c1.out.mono ?_
  rintro e w1 ⟨z1, rfl, ⟨hz0, hz1⟩, hc1, hk1⟩
  obtain ⟨k0, rfl⟩ : ∃ k : Nat, z1 = (k : Int) := ⟨z1.toNat, by omega⟩
  have HC1 := Lib.hid hc1
  have HK1 := Lib.hid hk1
  clear hc1 hk1
  go_wp2_with fail
  go_loopw [1, 7] (fun q i wr => ∃ (k : Nat) (t' : ByteArray), k ≤ 2 ∧ i = .int .i64 (k : Int) ∧ q = .string t' ∧ t'.size + k ≤ t.size + 2 ∧ Hid (Cur wr C (m + 2 + (2 - k) * 6)) ∧ Hid (KeepG C (C + 1) w wr)) (fun _ i _ => (intOf i).toNat)
  case atStart => exact ⟨1 + k0, t, by omega, by go_num, rfl, by omega, HC1.out.mono (by omega), HK1.out⟩
  case round =>
    obtain ⟨k, t', hk2, rfl, rfl, hts, hc, hk⟩ := hrel
    by_cases hk0 : 0 < k
    · by_cases ht0 : 0 < t'.size
      · have cI := Lib.hid (pick_any (t'.size : Int) C (m + 2 + (2 - k) * 6) wr hc.out (by omega) (by omega) (by omega))
        clear hc
        go_wp2_with fail
        refine cI.out.mono ?_
        rintro e w2 ⟨zi, rfl, ⟨hi0, hi1⟩, hc2, hk2'⟩
        obtain ⟨i, rfl⟩ : ∃ k : Nat, zi = (k : Int) := ⟨zi.toNat, by omega⟩
        have HK2 := Lib.hid (hk.out.trans hk2')
        have cJ := Lib.hid (pick_any (s.size : Int) C _ w2 hc2 (by omega) (by omega) (by omega))
        clear hc2 hk2' hk
        go_wp2_with fail
        refine cJ.out.mono ?_
        rintro e w3 ⟨zj, rfl, ⟨hj0, hj1⟩, hc3, hk3⟩
        obtain ⟨j, rfl⟩ : ∃ k : Nat, zj = (k : Int) := ⟨zj.toNat, by omega⟩
        have hjs : j < s.size := by omega
        obtain ⟨sw, hsw⟩ : ∃ sw : ByteArray, sw = ⟨#[UInt8.ofNat ((s[j].toNat : Int)).toNat]⟩ := ⟨_, rfl⟩
        have hcv := fun wr' => conv_one (s[j].toNat : Int) (by omega) (by have := UInt8.toNat_lt s[j]; omega) wr'
        rw [← hsw] at hcv
        have hsw1 : sw.size = 1 := by rw [hsw]; rfl
        have cL := Lib.hid (pick_any 3 C _ (w3.alloc (.cells #[.int .u8 (s[j].toNat : Int)] 5)) (hc3.alloc _) (by omega) (by omega) (by omega))
        have HK3 := Lib.hid ((HK2.out.trans hk3).trans (below_g ((Below.refl _ w3).alloc (Nat.le_refl _) (.cells #[.int .u8 (s[j].toNat : Int)] 5))))
        clear hc3 hk3 hsw
        go_wp2_with fail
        refine cL.out.mono ?_
        rintro e w5 ⟨zl, rfl, ⟨hl0, hl1⟩, hc5, hk5⟩
        have HC5 := Lib.hid hc5
        have HK5 := Lib.hid (HK3.out.trans hk5)
        clear hc5 hk5 hcv hz0 hz1 hi0
        have hil : i < t'.size := by omega
        have hl3 : zl = 0 ∨ zl = 1 ∨ zl = 2 := by omega
        clear hl0 hl1
        rcases hl3 with rfl | rfl | rfl
        · go_wp2_with fail
          go_quiet (fail)
          go_wp2_with fail
          have HCX := Lib.hid (HC5.out.mono (m' := m + 2 + (2 - (k - 1)) * 6) (by omega))
          have HKX := Lib.hid (HK5.out.trans (KeepG.drawN _ nq))
          go_roundw
          case rel => exact ⟨k - 1, _, by omega, by go_num, rfl, by (simp [ByteArray.size_append, ByteArray.size_extract]; omega), HCX.out, HKX.out⟩
          case measure => (simp [intOf]; try omega)
        · go_wp2_with fail
          go_quiet (fail)
          go_wp2_with fail
          have HCX := Lib.hid (HC5.out.mono (m' := m + 2 + (2 - (k - 1)) * 6) (by omega))
          have HKX := Lib.hid (HK5.out.trans (KeepG.drawN _ nq))
          go_roundw
          case rel => exact ⟨k - 1, _, by omega, by go_num, rfl, by (simp [ByteArray.size_append, ByteArray.size_extract]; omega), HCX.out, HKX.out⟩
          case measure => (simp [intOf]; try omega)
        · go_wp2_with fail
          go_quiet (fail)
          go_wp2_with fail
          have HCX := Lib.hid (HC5.out.mono (m' := m + 2 + (2 - (k - 1)) * 6) (by omega))
          have HKX := Lib.hid (HK5.out.trans (KeepG.drawN _ nq))
          go_roundw
          case rel => exact ⟨k - 1, _, by omega, by go_num, rfl, by (simp [ByteArray.size_append, ByteArray.size_extract]; omega), HCX.out, HKX.out⟩
          case measure => (simp [intOf]; try omega)
      · go_wp2_with fail
        go_ret
        exact ⟨_, rfl, by omega, hc.out.mono (by omega), hk.out⟩
    · go_wp2_with fail
      go_ret
      exact ⟨_, rfl, by omega, hc.out.mono (by omega), hk.out⟩
end Go.Proofs.YtjnkdjokbamibaaGreatDoor
/- What an argument that reads as data looks like in memory: slices of integers, slices of such slices. -/
namespace Go.Proofs.YtjnkdjokbamibaaGreatDoor
open Go.ChangeShapes Go.WideShapes Go.ChangeAt Go.RowKit Go.Deep
theorem cells_one {w : World} {base : Nat} {a : Addr} {cs : List Value} (h : w.cells? base a 1 = some cs) : ∃ v, cs = [v] ∧ w.cell? a = some v ∧ base ≤ a.block := by
  unfold World.cells? at h
  split at h
  · rename_i hb
    have hl := mapM_some_length h
    have hg := mapM_some_get h 0 0 rfl
    match cs, hl with
    | [v], _ => exact ⟨v, rfl, by simpa [Addr.add] using hg, hb⟩
  · cases h
theorem spot_of {w : World} {a : Addr} {v : Value} (h : w.cell? a = some v) : ∃ b off, a = ⟨b, off, Option.none⟩ ∧ b < w.heap.size := by
  obtain ⟨b, off, spot⟩ := a
  have hs : spot = Option.none := by simpa using World.cell?_spot h
  subst hs
  exact ⟨b, off, rfl, World.block_lt_of_cell? w ⟨b, off, Option.none⟩ h⟩
/-- A slice whose elements have one cell each reads as a row of values. -/
theorem open_row {H : Type} {enc : TypeId × Value → H} {P : Program} {w : World} {spare : Nat → Bool} {held : Bool} {fuel : Nat} {t e : TypeId} {v : Value} {x : DataW H × List MemPlace}
    (ht : P.underlying t = some (.slice e)) (he : P.cellsOf e = 1) (h : DataW.trod enc P w 0 spare held fuel t [v] = some x) :
    ∃ (n : Nat) (vs : List Value), Rd w w.heap.size 1 v n vs ∧ vs.length = n ∧ ∀ (i : Nat) (u : Value), vs[i]? = some u → ∃ f y, DataW.trod enc P w 0 spare held f e [u] = some y := by
  rcases open_slice ht h with ⟨hv, _⟩ | ⟨a, len, cap, m, n, D, Pl, hv, hb, hl, hm, hmm, hx, hcell⟩
  · simp only [List.cons.injEq, and_true] at hv
    subst hv
    exact ⟨0, [], ⟨rfl, Option.none, 0, rfl, Nat.le_refl _, Nat.zero_le _, fun h => absurd h (by omega)⟩, rfl, fun i u hu => by simp at hu⟩
  · simp only [List.cons.injEq, and_true] at hv
    subst hv
    have hlm : len ≤ m := by rw [hmm]; split <;> omega
    have hk : ∀ i, ∃ u, i < len → w.cell? (a.add i) = some u ∧ ∃ y, DataW.trod enc P w 0 spare held n e [u] = some y := by
      intro i
      by_cases hi : i < len
      · obtain ⟨cs', hc1, hc2⟩ := hcell i (by omega)
        rw [he, Nat.mul_one] at hc1
        obtain ⟨u, rfl, hu, _⟩ := cells_one hc1
        exact ⟨u, fun _ => ⟨hu, _, hc2⟩⟩
      · exact ⟨undef, fun h => absurd h hi⟩
    obtain ⟨V, hV⟩ : ∃ V : Nat → Value, ∀ i, i < len → w.cell? (a.add i) = some (V i) ∧ ∃ y, DataW.trod enc P w 0 spare held n e [V i] = some y := ⟨fun i => Classical.choose (hk i), fun i => Classical.choose_spec (hk i)⟩
    clear hk
    refine ⟨len, (List.range len).map V, ⟨by simp, some a, cap, rfl, hl, hm, fun hpos => ?_⟩, by simp, fun i u hu => ?_⟩
    · have h0 := (hV 0 hpos).1
      obtain ⟨b, off, ha, hlt⟩ := spot_of h0
      have ha' : a = ⟨b, off, Option.none⟩ := by simpa [Addr.add] using ha
      subst ha'
      refine ⟨b, off, rfl, hlt, fun j u hu => ?_⟩
      have hj : j < len := by
        rcases Nat.lt_or_ge j len with h | h
        · exact h
        · rw [List.getElem?_eq_none (by simp; exact h)] at hu; cases hu
      simp [hj] at hu
      have := (hV j hj).1
      rw [hu, add_plain] at this
      exact this
    · have hj : i < len := by
        rcases Nat.lt_or_ge i len with h | h
        · exact h
        · rw [List.getElem?_eq_none (by simp; exact h)] at hu; cases hu
      simp [hj] at hu
      obtain ⟨_, y, hy⟩ := hV i hj
      rw [hu] at hy
      exact ⟨n, y, hy⟩
theorem slice_cells {P : Program} {w : World} {r : Reach} {b : Nat} {t e : TypeId} {v : Value} (ht : P.underlying t = some (.slice e)) (h : Value.okWide P w r b t v) : v.cells.toList = [v] := by
  obtain ⟨a, n, c, rfl⟩ := okWide_slice ht h
  rfl
end Go.Proofs.YtjnkdjokbamibaaGreatDoor
/- Contracts of SignalText: the text of a signal. -/
namespace Go.Proofs.YtjnkdjokbamibaaGreatDoor
open Go.RowKit
open Go.WideShapes (add_plain)
/-- Block g is just the cells cs of element type t, with a frozen range. -/
def BlkF (w : World) (g : Nat) (t : TypeId) (cs : List Value) (fr : Nat × Nat) : Prop := w.heap[g]? = some (.cells cs.toArray t fr)
section
variable {w w' : World} {g : Nat} {t : TypeId} {cs : List Value} {fr : Nat × Nat}
theorem BlkF.lt (h : BlkF w g t cs fr) : g < w.heap.size := by
  rcases Nat.lt_or_ge g w.heap.size with hlt | hge
  · exact hlt
  · unfold BlkF at h; rw [Array.getElem?_eq_none hge] at h; cases h
theorem BlkF.cell (h : BlkF w g t cs fr) (i : Nat) : w.cell? ⟨g, i, Option.none⟩ = cs[i]? := by
  have := cell_of_row w g i cs.toArray t fr h
  rw [this]; simp
theorem BlkF.frozen (h : BlkF w g t cs fr) (i : Nat) (hi : i < fr.1) : w.frozen? ⟨g, i, Option.none⟩ = false := by
  unfold BlkF at h
  simp [World.frozen?, h]; omega
theorem BlkF.new (w : World) (t : TypeId) (cs : Array Value) (fr : Nat × Nat) : BlkF (w.alloc (.cells cs t fr)) w.heap.size t cs.toList fr := by
  show (w.heap.push (.cells cs t fr))[w.heap.size]? = _
  simp
theorem BlkF.set_ (h : BlkF w g t cs fr) (i : Nat) (u : Value) : BlkF (w.setCell ⟨g, i, Option.none⟩ u) g t (cs.set i u) fr := by
  unfold BlkF at h ⊢
  simp [World.setCell, Array.getElem?_modify, h]
theorem BlkF.below {B : Nat} (h : BlkF w g t cs fr) (hb : Below B w w') (hg : g < B) : BlkF w' g t cs fr := (hb.block g hg).trans h
end
end Go.Proofs.YtjnkdjokbamibaaGreatDoor
/- Contracts: comparison of lists of numbers in a law, the bound on a law's inputs; what a list of bytes is; plain laws of signals. -/
namespace Go.Proofs.YtjnkdjokbamibaaGreatDoor
open Go.RowKit Go.ChangeShapes Go.WideShapes Go.ChangeAt Go.Deep
theorem u8_of (vs : List Value) (h : ∀ (i : Nat) (u : Value), vs[i]? = some u → ∃ n, u = Value.int .u8 n ∧ 0 ≤ n ∧ n ≤ 255) : ∃ zs, vs = bytesV zs := by
  induction vs with
  | nil => exact ⟨[], rfl⟩
  | cons v r ih =>
    obtain ⟨n, hn, h0, h1⟩ := h 0 v rfl
    obtain ⟨zs, hzs⟩ := ih (fun i u hu => h (i + 1) u (by simpa using hu))
    refine ⟨UInt8.ofNat n.toNat :: zs, ?_⟩
    rw [hn, hzs]
    have : ((UInt8.ofNat n.toNat).toNat : Int) = n := by
      rw [UInt8.toNat_ofNat']
      omega
    simp [bytesV]
    omega
theorem trod_u8 {H : Type} {enc : TypeId × Value → H} {P : Program} {w : World} {base : Nat} {spare : Nat → Bool} {held : Bool} {fuel : Nat} {t : TypeId} {v : Value} {x : DataW H × List MemPlace}
    (ht : P.underlying t = some (.int .u8)) (h : DataW.trod enc P w base spare held fuel t [v] = some x) : ∃ n, v = .int .u8 n ∧ 0 ≤ n ∧ n ≤ 255 := by
  obtain ⟨n, e1, _, e3⟩ := DataW.trod_int ht h
  refine ⟨n, by simpa using e1, ?_⟩
  simp [Lit.wf] at e3
  have a0 : IntKind.u8.min = 0 := by decide
  have a1 : IntKind.u8.max = 255 := by decide
  omega
theorem open_byteS {H : Type} {enc : TypeId × Value → H} {w : World} {spare : Nat → Bool} {held : Bool} {fuel : Nat} {v : Value} {x : DataW H × List MemPlace}
    (h : DataW.trod enc Tryz.prog w 0 spare held fuel 22 [v] = some x) : ∃ zs, RdU w w.heap.size v zs := by
  obtain ⟨n, vs, hr, hl, hk⟩ := open_row Tryz.underlying22 (by kernel_rfl) h
  obtain ⟨zs, rfl⟩ := u8_of vs (fun i u hu => by
    obtain ⟨f, y, hy⟩ := hk i u hu
    exact trod_u8 Tryz.underlying5 hy)
  have : zs.length = n := by simpa [bytesV] using hl
  subst this
  exact ⟨zs, hr⟩
theorem RdU.below {w w' : World} {hi : Nat} {v : Value} {zs : List UInt8} (h : RdU w hi v zs) {B : Nat} (hb : Below B w w') (hB : hi ≤ B) : RdU w' hi v zs := Rd.below h hb hB
set_option maxHeartbeats 400000 in
theorem sameInts_same (xs : List Int) (v u : Value) (hi hj : Nat) (w : World) (h : RdI w hi v xs) (g : RdI w hj u xs) : Calls Tryz.prog 12 #[v, u] w fun e w' => e = .returned (.bool true) ∧ ∃ n, w' = w.drewN n := by
  obtain ⟨A, c, rfl, hc, hm⟩ := Rd.form h
  obtain ⟨A', c', rfl, hc', hm'⟩ := Rd.form g
  have H := Lib.hid h
  have G := Lib.hid g
  clear h g
  go_enter Tryz.func12, Tryz.ntmps12
  go_wp2
  go_loopw [13] (fun i wr => ∃ k : Nat, k ≤ xs.length ∧ i = .int .i64 k ∧ ∃ n, wr = w.drewN n) (fun i _ => xs.length - (intOf i).toNat)
  case atStart => exact ⟨0, Nat.zero_le _, rfl, 0, rfl⟩
  case round =>
    obtain ⟨k, hk, rfl, n, rfl⟩ := hrel
    by_cases hlt : k < xs.length
    · obtain ⟨b1, o1, c1, x, hv, _, hx, hcell1⟩ := Rd.at_ H.out hlt
      cases hv
      obtain ⟨b2, o2, c2, y, hv, _, hy, hcell2⟩ := Rd.at_ G.out hlt
      injection hv with hv1 hv2 hv3
      subst hv1
      rw [hx] at hy
      cases hy
      clear hx hv2 hv3
      go_wp2
      go_quiet (fail)
      go_wp2
      go_roundw
      case rel => exact ⟨k + 1, by omega, by go_num, _, rfl⟩
      case measure => simp [intOf]; omega
    · go_wp2
      go_ret
      exact ⟨rfl, _, rfl⟩
theorem big_any (a b : List UInt8) (v u : Value) (hi hj : Nat) (w : World) (h : RdU w hi v a) (g : RdU w hj u b) : Calls Tryz.prog 5 #[v, u] w fun e w' => e = .returned (.bool (decide (1048576 < a.length) || decide (1048576 - (a.length : Int) < b.length))) ∧ w = w' := by
  obtain ⟨A, c, rfl, hc, hm⟩ := Rd.form h
  obtain ⟨A', c', rfl, hc', hm'⟩ := Rd.form g
  clear h g
  by_cases h1 : 1048576 < a.length
  · go_enter Tryz.func5, Tryz.ntmps5
    go_wp2
    go_ret
    exact ⟨ret_bool (by simp), rfl⟩
  · by_cases h2 : 1048576 - (a.length : Int) < b.length
    · go_enter Tryz.func5, Tryz.ntmps5
      go_wp2
      go_ret
      exact ⟨ret_bool (by simp [h2]), rfl⟩
    · go_enter Tryz.func5, Tryz.ntmps5
      go_wp2
      go_ret
      exact ⟨ret_bool (by simp; omega), rfl⟩
theorem dist_sym : ∀ n, n < 64 → ∀ m, m < 64 → distM m n = distM n m := by decide +kernel
end Go.Proofs.YtjnkdjokbamibaaGreatDoor
/- Contracts: drawn lists of signals; drawn texts of lists. -/
namespace Go.Proofs.YtjnkdjokbamibaaGreatDoor
open Go.RowKit
theorem sameInts_eqB (xs : List Int) (v u : Value) (hi hj : Nat) (w : World) (h : RdI w hi v xs) (g : RdI w hj u xs) : Calls Tryz.prog 12 #[v, u] w fun e w' => e = .returned (.bool true) ∧ Below w.heap.size w w' :=
  (sameInts_same xs v u hi hj w h g).mono fun _ _ ⟨h1, n, h2⟩ => ⟨h1, by rw [h2]; exact bel_drewN _ _ _⟩
set_option maxHeartbeats 400000 in
theorem pIn_any (xs : List Int) (n : Int) (v : Value) (hi : Nat) (w : World) (h : RdI w hi v xs) : Calls Tryz.prog 18 #[v, .int .i64 n] w fun e w' => e = .returned (.bool (decide (n ∈ xs))) ∧ w = w' := by
  obtain ⟨A, c, rfl, hc, hm⟩ := Rd.form h
  have H := Lib.hid h
  clear h
  go_enter Tryz.func18, Tryz.ntmps18
  go_wp2_with fail
  go_loop [9] (fun i => ∃ k : Nat, k ≤ xs.length ∧ i = .int .i64 (k : Int) ∧ Hid (n ∉ xs.take k)) (fun i => xs.length - (intOf i).toNat)
  case atStart => exact ⟨0, Nat.zero_le _, rfl, by show _ ∉ _; simp⟩
  case round =>
    obtain ⟨k, hk, rfl, HN⟩ := hrel
    by_cases hlt : k < xs.length
    · obtain ⟨b1, o1, c1, x, hv, _, hx, hcell1⟩ := Rd.at_ H.out hlt
      cases hv
      have HX := Lib.hid hx
      cases he : (x == n)
      · have hne := ne_of_beq_false he
        have HNE := Lib.hid hne
        clear hne hx
        go_wp2_with fail
        go_round
        case rel => exact ⟨k + 1, by omega, by go_num, by
          show _ ∉ _
          rw [take_snocI HX.out, List.mem_append, List.mem_singleton]
          rintro (h | h)
          · exact HN.out h
          · exact HNE.out h.symm⟩
        case measure => (simp [intOf]; try omega)
      · have heq := eq_of_beq he
        have HT : Hid (decide (n ∈ xs) = true) := decide_eq_true (by rw [← heq]; exact List.mem_of_getElem? hx)
        clear heq hx
        go_wp2_with fail
        go_ret
        exact ⟨ret_bool HT.out.symm, rfl⟩
    · have HT : Hid (decide (n ∈ xs) = false) := decide_eq_false (by have h := HN.out; rwa [List.take_of_length_le (by omega)] at h)
      go_wp2_with fail
      go_ret
      exact ⟨ret_bool HT.out.symm, rfl⟩
set_option maxRecDepth 100000 in
set_option maxHeartbeats 8000000 in
theorem signals_any (C m : Nat) (w : World) (h : Cur w C m) (hm : m ≤ 1099511600000) :
    Calls Tryz.prog 58 #[.pointer (some ⟨C, 0, Option.none⟩)] w (DrewL C (m + 300) 101 w) := by
  have HC := Lib.hid h.lt
  have D0 := Lib.hid (DrL.start h)
  clear h
  go_enter Tryz.func58, Tryz.ntmps58
  have c1 := Lib.hid (pick_any 9 C _ w D0.out.2.1 (by omega) (by omega) (by omega))
  go_wp2_with fail
  refine c1.out.mono ?_
  rintro e w1 ⟨z1, rfl, ⟨hz1, hy1⟩, hc1, hk1⟩
  have D1 := Lib.hid (D0.out.step HC.out hc1 hk1)
  clear hc1 hk1 D0
  have c2 := Lib.hid (one_any 24 C _ w1 D1.out.2.1 (by omega) (by omega) (by omega))
  go_wp2_with fail
  refine c2.out.mono ?_
  rintro e w2 ⟨z2, rfl, hc2, hk2⟩
  have D2 := Lib.hid (D1.out.step HC.out hc2 hk2)
  clear hc2 hk2 D1
  rcases z2 with _ | _
  case' false =>
    obtain ⟨n0, rfl, hn1⟩ : ∃ n0 : Nat, z1 = (n0 : Int) ∧ n0 ≤ 101 := ⟨z1.toNat, by omega, by omega⟩
    have HD := Lib.hid (D2.out.mono (show _ ≤ m + 10 + 2 * 0 by omega))
    clear D2
  case' true =>
    have c3 := Lib.hid (pick_any 2 C _ w2 D2.out.2.1 (by omega) (by omega) (by omega))
    go_wp2_with fail
    refine c3.out.mono ?_
    rintro e w3 ⟨z3, rfl, ⟨hz3, hy3⟩, hc3, hk3⟩
    have HD0 := D2.out.step HC.out hc3 hk3
    obtain ⟨n0, hn0, hn1⟩ : ∃ n0 : Nat, 100 + z3 = (n0 : Int) ∧ n0 ≤ 101 := ⟨(100 + z3).toNat, by omega, by omega⟩
    have HD := Lib.hid (HD0.mono (show _ ≤ m + 10 + 2 * 0 by omega))
    clear hc3 hk3 HD0 D2
  all_goals
    go_wp2_with fail
    go_loopw [3, 4] (fun q i wr => ∃ (A : Option Addr) (c k : Nat) (xs : List Int), q = .slice A xs.length c ∧ i = .int .i64 (k : Int) ∧ xs.length + k ≤ n0 ∧ Hid (DrL w C (m + 10 + 2 * xs.length) wr (.slice A xs.length c) xs)) (fun _ i _ => (intOf i).toNat)
    case atStart => exact ⟨Option.none, 0, n0, [], rfl, by go_num, by simp, HD.out⟩
    case round =>
      obtain ⟨A, c, k, xs, rfl, rfl, hxn, DR⟩ := hrel
      clear HD
      by_cases hlt : 0 < k
      · have c21 := Lib.hid (pick_any 64 C _ wr DR.out.2.1 (by omega) (by omega) (by omega))
        go_wp2_with fail
        refine c21.out.mono ?_
        rintro e w21 ⟨z21, rfl, _, hc21, hk21⟩
        have D21 := Lib.hid (DR.out.step HC.out hc21 hk21)
        clear hc21 hk21 DR
        go_wp2_with (at_builtin; refine GrowI.app rfl (.tmp 16) (.tmp 19) rfl D21.out.gr (by omega) rfl rfl ?_; intro v' w' hG')
        have hG2 := D21.out.grow HC.out hG'
        obtain ⟨A', c', rfl⟩ := hG2.form
        have HGG := Lib.hid hG2
        have hlen : (xs ++ [z21]).length = xs.length + 1 := by simp
        clear hG' hG2
        rw [hlen] at HGG ⊢
        go_wp2_with fail
        go_roundw
        case rel => exact ⟨A', c', k - 1, xs ++ [z21], by rw [hlen], by go_num, by rw [hlen]; omega, by rw [hlen]; exact HGG.out.mono (by omega)⟩
        case measure => (simp [intOf]; try omega)
      · obtain rfl : k = 0 := by omega
        have hmx : m + 10 + 2 * xs.length ≤ 1099511626000 := by omega
        rcases Nat.eq_zero_or_pos xs.length with h0 | hpos
        · have hgz : decide (0 < xs.length) = false := decide_eq_false (by omega)
          go_wp2_with fail
          go_ret
          exact ⟨_, xs, rfl, by omega, DR.out.mono (by omega)⟩
        · have hgz : decide (0 < xs.length) = true := decide_eq_true hpos
          have c41 := Lib.hid (one_any 24 C _ wr DR.out.2.1 (by omega) (by omega) (by omega))
          go_wp2_with fail
          refine c41.out.mono ?_
          rintro e w41 ⟨z41, rfl, hc41, hk41⟩
          have D41 := Lib.hid (DR.out.step HC.out hc41 hk41)
          clear hc41 hk41 DR
          cases z41
          · go_wp2_with fail
            go_ret
            exact ⟨_, xs, rfl, by omega, D41.out.mono (by omega)⟩
          · have c61 := Lib.hid (pick_any (xs.length : Int) C _ w41 D41.out.2.1 (by omega) (by omega) (by omega))
            go_wp2_with fail
            refine c61.out.mono ?_
            rintro e w61 ⟨z61, rfl, ⟨hz61, hy61⟩, hc61, hk61⟩
            have D61 := Lib.hid (D41.out.step HC.out hc61 hk61)
            clear hc61 hk61 D41
            have hl62 : Lst (w61.alloc (.cells #[.int .i64 (-1), .int .i64 64] 3)) C (.slice (some ⟨w61.heap.size, 0, Option.none⟩) 2 2) [-1, 64] := lst_new w61 C [-1, 64] D61.out.2.1.lt (by simp) (by simp)
            have c62 := Lib.hid (among_any _ _ C _ _ (D61.out.2.1.alloc _) (by omega) hl62)
            clear hl62
            go_wp2_with fail
            refine c62.out.mono ?_
            rintro e w62 ⟨z62, rfl, _, hc62, hk62⟩
            have D62 := Lib.hid ((D61.out.alloc _).step HC.out hc62 hk62)
            clear hc62 hk62 D61
            obtain ⟨j, rfl⟩ : ∃ k : Nat, z61 = (k : Int) := ⟨z61.toNat, by omega⟩
            have hjx : j < xs.length := by omega
            obtain ⟨g, c2, hv, hg⟩ := D62.out.pos hpos
            cases hv
            have hce := D62.out.cell hjx
            obtain ⟨ow, how⟩ : ∃ ow, ow = xs[j] := ⟨_, rfl⟩
            rw [← how] at hce
            have hc1 := hce.1
            have hc2 := hce.2
            have HP := Lib.hid (D62.out.put HC.out hg j z62)
            have HLS : Hid ((xs.set j z62).length = xs.length) := by show _ = _; rw [List.length_set]
            clear hce how
            go_wp2_with fail
            go_ret
            exact ⟨_, xs.set j z62, rfl, by rw [HLS.out]; omega, HP.out.mono (by omega)⟩
/-- A drawn list. -/
def DrewLs (w : World) (e : Ending) (w' : World) : Prop := ∃ (v : Value) (xs : List Int), e = .returned v ∧ xs.length ≤ 101 ∧ RdI w' w'.heap.size v xs ∧ Below w.heap.size w w'
set_option maxHeartbeats 800000 in
theorem DrawMovementsOf_any (zs : List UInt8) (v : Value) (hi : Nat) (w : World) (h : RdU w hi v zs) (hh : hi ≤ w.heap.size) :
    Calls Tryz.prog 49 #[v] w (DrewLs w) := by
  obtain ⟨A, c, rfl, hc, hm⟩ := Rd.form h
  have cS := signals_any w.heap.size 0 _ (cur_new h hh) (by omega)
  have CS := Lib.hid cS
  clear cS h
  go_enter Tryz.func49, Tryz.ntmps49
  go_wp2_with fail
  refine CS.out.mono ?_
  rintro e w1 ⟨v1, xs, rfl, hn, hd⟩
  obtain ⟨A1, c1, rfl⟩ := hd.form
  have HD := Lib.hid (drL_box rfl hd)
  clear hd
  go_wp2_with fail
  go_ret
  exact ⟨_, xs, rfl, hn, HD.out.1, HD.out.2⟩
theorem DrawSignalsText_any (zs : List UInt8) (v : Value) (hi : Nat) (w : World) (h : RdU w hi v zs) (hh : hi ≤ w.heap.size) :
    Calls Tryz.prog 6 #[v] w (DrewLs w) := by
  have cS := DrawMovementsOf_any zs v hi w h hh
  obtain ⟨A, c, rfl, hc, hm⟩ := Rd.form h
  have CS := Lib.hid cS
  clear cS h
  go_enter Tryz.func6, Tryz.ntmps6
  go_wp2_with fail
  refine CS.out.mono ?_
  rintro e w1 ⟨v1, xs, rfl, hn, hd, hb⟩
  obtain ⟨A1, c1, rfl, _, _⟩ := Rd.form hd
  have HD := Lib.hid hd
  have HB := Lib.hid hb
  clear hd hb
  go_wp2_with fail
  go_ret
  exact ⟨_, xs, rfl, hn, HD.out, HB.out⟩
set_option maxHeartbeats 800000 in
theorem DrawNearestSignals_any (zs : List UInt8) (v : Value) (hi : Nat) (w : World) (h : RdU w hi v zs) (hh : hi ≤ w.heap.size) :
    Calls Tryz.prog 13 #[v] w fun e w' => ∃ (n : Int) (u : Value) (xs : List Int), e = .returned (.tuple #[.int .i64 n, u]) ∧ xs.length ≤ 101 ∧ RdI w' w'.heap.size u xs ∧ Below w.heap.size w w' := by
  obtain ⟨A, c, rfl, hc, hm⟩ := Rd.form h
  have HCU := Lib.hid (cur_new h hh)
  have HC : Hid (w.heap.size < (w.alloc (.cells #[.slice A zs.length c, .int .i64 0, .int .u64 0] 71)).heap.size) := by show _ < _; simp
  have HBX : Hid (∀ w', KeepG w.heap.size (w.heap.size + 1) (w.alloc (.cells #[.slice A zs.length c, .int .i64 0, .int .u64 0] 71)) w' → Below w.heap.size w w') := fun w' hk => keepG_box hk
  clear h
  go_enter Tryz.func13, Tryz.ntmps13
  have c1 := Lib.hid (signal_any w.heap.size 0 _ HCU.out (by omega))
  go_wp2_with fail
  refine c1.out.mono ?_
  rintro e w1 ⟨z1, rfl, _, hc1, hk1⟩
  have HK1 := Lib.hid hk1
  have c2 := Lib.hid (signals_any w.heap.size 10 w1 hc1 (by omega))
  clear hc1 hk1
  go_wp2_with fail
  refine c2.out.mono ?_
  rintro e w2 ⟨v2, xs, rfl, hn, hd⟩
  obtain ⟨A2, c2, rfl⟩ := hd.form
  have HD := Lib.hid hd
  clear hd
  go_wp2_with fail
  go_ret2
  exact ⟨z1, _, xs, ret_val rfl, hn, HD.out.rd, HBX.out _ (HK1.out.trans HD.out.2.2)⟩
theorem rdI_zeros (w : World) (n : Nat) (h : n ≤ 1000) : RdI (w.alloc (.cells (zeros n) 3)) (w.heap.size + 1) (.slice (some ⟨w.heap.size, 0, Option.none⟩) n n) (List.replicate n 0) := by
  refine ⟨by simp [ints], _, n, by simp, by simp, by simp [maxLen]; omega, fun _ => ⟨w.heap.size, 0, rfl, by omega, fun j u hj => ?_⟩⟩
  rw [show (0 : Nat) + j = j by omega, (Blk.new w 3 (zeros n)).cell j]
  simpa [zeros, ints] using hj
set_option maxRecDepth 100000 in
set_option maxHeartbeats 8000000 in
theorem DrawReadSignals_any (zs : List UInt8) (v : Value) (hi : Nat) (w : World) (h : RdU w hi v zs) (hh : hi ≤ w.heap.size) :
    Calls Tryz.prog 19 #[v] w fun e w' => ∃ t : ByteArray, e = .returned (.string t) ∧ t.size ≤ 1000 ∧ Below w.heap.size w w' := by
  obtain ⟨A, c, rfl, hc, hm⟩ := Rd.form h
  have HCU := Lib.hid (cur_new h hh)
  have HBX : Hid (∀ w', KeepG w.heap.size (w.heap.size + 1) (w.alloc (.cells #[.slice A zs.length c, .int .i64 0, .int .u64 0] 71)) w' → Below w.heap.size w w') := fun w' hk => keepG_box hk
  have hsz : (w.alloc (.cells #[.slice A zs.length c, .int .i64 0, .int .u64 0] 71)).heap.size = w.heap.size + 1 := by simp
  clear h
  go_enter Tryz.func19, Tryz.ntmps19
  go_wp2_with fail
  generalize (w.alloc (.cells #[.slice A zs.length c, .int .i64 0, .int .u64 0] 71)) = wb at HCU HBX hsz ⊢
  have HC : Hid (w.heap.size < wb.heap.size) := by show _ < _; omega
  have D0 := Lib.hid (DrL.start HCU.out)
  have c1 := Lib.hid (pick_any 7 w.heap.size _ wb D0.out.2.1 (by omega) (by omega) (by omega))
  clear HCU hsz
  refine c1.out.mono ?_
  rintro e w1 ⟨z1, rfl, ⟨hz1, hy1⟩, hc1, hk1⟩
  obtain ⟨n0, rfl, hn1⟩ : ∃ n0 : Nat, z1 = (n0 : Int) ∧ n0 ≤ 7 := ⟨z1.toNat, by omega, by omega⟩
  have D1 := Lib.hid ((D0.out.step HC.out hc1 hk1).mono (show _ ≤ 10 + 2 * 0 by omega))
  clear hc1 hk1 D0
  go_wp2_with fail
  go_loopw [4, 5] (fun q i wr => ∃ (A : Option Addr) (c k : Nat) (xs : List Int), q = .slice A xs.length c ∧ i = .int .i64 (k : Int) ∧ xs.length + k ≤ 7 ∧ Hid (∀ x ∈ xs, 0 ≤ x ∧ x ≤ 63) ∧ Hid (DrL wb w.heap.size (10 + 2 * xs.length) wr (.slice A xs.length c) xs)) (fun _ i _ => (intOf i).toNat)
  case atStart => exact ⟨Option.none, 0, n0, [], rfl, rfl, by simp; omega, by show ∀ x ∈ _, _; simp, D1.out⟩
  case round =>
    obtain ⟨A, c, k, xs, rfl, rfl, hxn, HX, DR⟩ := hrel
    clear D1
    by_cases hlt : 0 < k
    · have c21 := Lib.hid (pick_any 64 w.heap.size _ wr DR.out.2.1 (by omega) (by omega) (by omega))
      go_wp2_with fail
      refine c21.out.mono ?_
      rintro e w21 ⟨z21, rfl, ⟨hz21, hy21⟩, hc21, hk21⟩
      have D21 := Lib.hid (DR.out.step HC.out hc21 hk21)
      have HX2 : Hid (∀ x ∈ xs ++ [z21], 0 ≤ x ∧ x ≤ 63) := fun x hx => by
        rcases List.mem_append.1 hx with hx | hx
        · exact HX.out x hx
        · simp at hx; omega
      clear hc21 hk21 DR
      go_wp2_with (at_builtin; refine GrowI.app rfl (.tmp 16) (.tmp 19) rfl D21.out.gr (by omega) rfl rfl ?_; intro v' w' hG')
      have hG2 := D21.out.grow HC.out hG'
      obtain ⟨A', c', rfl⟩ := hG2.form
      have HGG := Lib.hid hG2
      have hlen : (xs ++ [z21]).length = xs.length + 1 := by simp
      clear hG' hG2
      rw [hlen] at HGG ⊢
      go_wp2_with fail
      go_roundw
      case rel => exact ⟨A', c', k - 1, xs ++ [z21], by rw [hlen], by go_num, by rw [hlen]; omega, HX2, by rw [hlen]; exact HGG.out.mono (by omega)⟩
      case measure => (simp [intOf]; try omega)
    · obtain rfl : k = 0 := by omega
      have c2 := Lib.hid (one_any 24 w.heap.size _ wr DR.out.2.1 (by omega) (by omega) (by omega))
      go_wp2_with fail
      refine c2.out.mono ?_
      rintro e w2 ⟨z2, rfl, hc2, hk2⟩
      have D2 := Lib.hid ((DR.out.step HC.out hc2 hk2).mono (show _ ≤ 40 by omega))
      clear hc2 hk2 DR
      cases z2
      case' false =>
        have hr : RdI w2 w2.heap.size (.slice A xs.length c) xs := D2.out.rd
        have cl := sgLine_any xs _ _ w2 hr (Nat.le_refl _) (by omega) HX.out
        have hln : (numsT 32 xs).length ≤ 303 := Nat.le_trans (numsT_len HX.out) (by omega)
        obtain ⟨st, hst⟩ : ∃ st : ByteArray, st = ⟨(numsT 32 xs).toArray⟩ := ⟨_, rfl⟩
        rw [← hst] at cl
        have hsl : st.size ≤ 303 := by rw [hst]; show (numsT 32 xs).toArray.size ≤ 303; simpa using hln
        have cL := Lib.hid cl
        have HCK : Hid (Cur w2 w.heap.size 50) := D2.out.2.1.mono (by omega)
        have HKK : Hid (KeepG w.heap.size (w.heap.size + 1) wb w2) := D2.out.2.2
        clear hr D2 cl hln hst
        go_wp2_with fail
      case' true =>
        have c3 := Lib.hid (pick_any 2 w.heap.size _ w2 D2.out.2.1 (by omega) (by omega) (by omega))
        go_wp2_with fail
        refine c3.out.mono ?_
        rintro e w3 ⟨z3, rfl, ⟨hz3, hy3⟩, hc3, hk3⟩
        obtain ⟨n3, hn3, hn3a, hn3b⟩ : ∃ n3 : Nat, 100 + z3 = (n3 : Int) ∧ n3 ≤ 101 ∧ 100 ≤ n3 := ⟨(100 + z3).toNat, by omega, by omega, by omega⟩
        have hmk := make_ints n3 (by omega) w3
        have hr := (rdI_zeros w3 n3 (by omega)).mono (show w3.heap.size + 1 ≤ (w3.alloc (.cells (zeros n3) 3)).heap.size by simp)
        have hx0 : ∀ x ∈ List.replicate n3 (0 : Int), 0 ≤ x ∧ x ≤ 63 := fun x hx => by have := List.eq_of_mem_replicate hx; omega
        have cl := sgLine_any (List.replicate n3 0) _ _ _ hr (Nat.le_refl _) (by simp; omega) hx0
        have hln : (numsT 32 (List.replicate n3 (0 : Int))).length ≤ 303 := Nat.le_trans (numsT_len hx0) (by simp; omega)
        obtain ⟨st, hst⟩ : ∃ st : ByteArray, st = ⟨(numsT 32 (List.replicate n3 (0 : Int))).toArray⟩ := ⟨_, rfl⟩
        rw [← hst] at cl
        have hsl : st.size ≤ 303 := by rw [hst]; show (numsT 32 _).toArray.size ≤ 303; simpa using hln
        have cL := Lib.hid cl
        have HCK : Hid (Cur (w3.alloc (.cells (zeros n3) 3)) w.heap.size 50) := (hc3.alloc _).mono (by omega)
        have HKK : Hid (KeepG w.heap.size (w.heap.size + 1) wb (w3.alloc (.cells (zeros n3) 3))) := (D2.out.2.2.trans hk3).alloc _
        clear hr hx0 D2 hc3 hk3 c3 cl hln hst
        go_wp2_with fail
      all_goals
        refine cL.out.mono ?_
        rintro e w5 ⟨rfl, hb5⟩
        have hc5 := HCK.out.fresh hb5 HCK.out.lt
        have HK5 := Lib.hid (HKK.out.trans (below_g hb5))
        have c5 := Lib.hid (one_any 3 w.heap.size _ w5 hc5 (by omega) (by omega) (by omega))
        clear hb5 hc5 HCK HKK cL
        go_wp2_with fail
        refine c5.out.mono ?_
        rintro e w6 ⟨z6, rfl, hc6, hk6⟩
        have HK6 := Lib.hid (HK5.out.trans hk6)
        cases z6
        · clear hc6 hk6
          go_wp2_with fail
          go_ret
          exact ⟨st, rfl, by omega, HBX.out _ HK6.out⟩
        · have c7 := Lib.hid (spoilt_any st ⟨#[48, 49, 54, 52, 32]⟩ w.heap.size _ w6 hc6 (by omega) (by omega) (by decide) (by decide))
          clear hc6 hk6
          go_wp2_with fail
          refine c7.out.mono ?_
          rintro e w7 ⟨t', rfl, hts, _, hk7⟩
          have HK7 := Lib.hid (HK6.out.trans hk7)
          clear hk7
          go_wp2_with fail
          go_ret
          exact ⟨t', rfl, by omega, HBX.out _ HK7.out⟩
end Go.Proofs.YtjnkdjokbamibaaGreatDoor
/- Plain laws on lists of signals: movements are even and the same backwards; the nearest signals. -/
namespace Go.Proofs.YtjnkdjokbamibaaGreatDoor
open Go.RowKit
theorem par_dist : ∀ n, n < 64 → ∀ m, m < 64 → (distM n m + distM 0 n + distM 0 m) % 2 = 0 := by decide +kernel
theorem moves_par : ∀ (l : List Int) (a : Int), 0 ≤ a ∧ a ≤ 63 → (∀ x ∈ l, 0 ≤ x ∧ x ≤ 63) → (movesM a (l ++ [0]) + distM 0 a.toNat) % 2 = 0
  | [], a, ha, _ => by
    have h := dist_sym a.toNat (by omega) 0 (by omega)
    simp only [List.nil_append, movesM]
    rw [show (0 : Int).toNat = 0 from rfl]
    omega
  | x :: r, a, ha, h => by
    have hx := h x (by simp)
    have ih := moves_par r x hx (fun y hy => h y (by simp [hy]))
    have hp := par_dist a.toNat (by omega) x.toNat (by omega)
    rw [List.cons_append, movesM]
    omega
theorem sigs_all {l : List Int} (h : sigsB l = true) : ∀ x ∈ l, 0 ≤ x ∧ x ≤ 63 := by
  have h := (sigsB_iff.1 h).2
  unfold allB at h
  rw [List.all_eq_true] at h
  exact fun x hx => inB_iff.1 (h x hx)
theorem moves_even {l : List Int} (h : sigsB l = true) : movesM 0 (l ++ [0]) % 2 = 0 := by
  have h1 := moves_par l 0 (by omega) (sigs_all h)
  have h2 : distM 0 (0 : Int).toNat = 0 := by decide
  omega
theorem moves_rev : ∀ (l : List Int) (a b : Int), (0 ≤ a ∧ a ≤ 63) → (0 ≤ b ∧ b ≤ 63) → (∀ x ∈ l, 0 ≤ x ∧ x ≤ 63) → movesM b (l.reverse ++ [a]) = movesM a (l ++ [b])
  | [], a, b, ha, hb, _ => by
    simp only [List.reverse_nil, List.nil_append, movesM]
    rw [dist_sym a.toNat (by omega) b.toNat (by omega)]
  | x :: r, a, b, ha, hb, h => by
    have hx := h x (by simp)
    have ih := moves_rev r x b hx hb (fun y hy => h y (by simp [hy]))
    have e : (r.reverse ++ [x]).getLastD b = x := by simp [List.getLastD_eq_getLast?]
    rw [List.reverse_cons, movesM_snoc, ih, List.cons_append, movesM, e, dist_sym x.toNat (by omega) a.toNat (by omega)]
    omega
theorem sigs_rev {l : List Int} (h : sigsB l = true) : sigsB l.reverse = true := by
  rw [sigsB_iff] at h ⊢
  unfold allB at h ⊢
  rw [List.all_eq_true] at h ⊢
  exact ⟨by rw [List.length_reverse]; exact h.1, fun x hx => h.2 x (by simpa using hx)⟩
theorem movesT_rev {l : List Int} (h : sigsB l = true) : movesT l.reverse = movesT l := by
  unfold movesT
  rw [h, sigs_rev h, moves_rev l 0 0 (by omega) (by omega) (sigs_all h)]
theorem nearI_mem {ds : List Nat} {c m : Nat} {z : Int} : z ∈ nearI ds c m ↔ ∃ k : Nat, z = (k : Int) ∧ k < m ∧ ds[k]? = some c := by
  unfold nearI
  simp only [List.mem_map, List.mem_filter, List.mem_range, beq_iff_eq]
  constructor
  · rintro ⟨k, ⟨h1, h2⟩, rfl⟩; exact ⟨k, rfl, h1, h2⟩
  · rintro ⟨k, rfl, h1, h2⟩; exact ⟨k, ⟨h1, h2⟩, rfl⟩
theorem leastD_in : ∀ (ds : List Nat) (m : Nat), leastD ds m ∈ m :: ds
  | [], m => by simp [leastD]
  | x :: r, m => by
    have h := leastD_in r (min m x)
    have e : leastD (x :: r) m = leastD r (min m x) := rfl
    rw [e]
    rcases List.mem_cons.1 h with h | h
    · rw [h]
      rcases Nat.le_total m x with h1 | h1
      · rw [Nat.min_eq_left h1]; simp
      · rw [Nat.min_eq_right h1]; simp
    · exact List.mem_cons_of_mem _ (List.mem_cons_of_mem _ h)
theorem leastD_at {ds : List Nat} (h : ∀ d ∈ ds, d ≤ 6) (hne : ds ≠ []) : ∃ k : Nat, k < ds.length ∧ ds[k]? = some (leastD ds 6) := by
  have hm : leastD ds 6 ∈ ds := by
    rcases List.mem_cons.1 (leastD_in ds 6) with h1 | h1
    · match ds, hne with
      | d :: r, _ =>
        have h2 := (leastD_le_mem (d :: r) 6).2 d (by simp)
        have h3 := h d (by simp)
        have : d = leastD (d :: r) 6 := by omega
        rw [← this]; simp
    · exact h1
  obtain ⟨k, hk, he⟩ := List.getElem_of_mem hm
  exact ⟨k, hk, by rw [List.getElem?_eq_getElem hk, he]⟩
/-- What the nearest signals are. -/
theorem near_told {n : Int} {us : List Int} (h : nearB n us = true) : ∃ (a D i0 : Nat) (x0 : Int), n = (a : Int) ∧ a ≤ 63 ∧ D ≤ 6 ∧ us.length ≤ 100 ∧ (∀ x ∈ us, 0 ≤ x ∧ x ≤ 63) ∧ i0 < us.length ∧ 0 < (nearL n us).length ∧ (nearL n us)[0]? = some (i0 : Int) ∧ us[i0]? = some x0 ∧ distM a x0.toNat = D ∧
    ∀ (k : Nat) (x : Int), us[k]? = some x → D ≤ distM a x.toNat ∧ decide ((k : Int) ∈ nearL n us) = decide (distM a x.toNat = D) := by
  unfold nearB at h
  have hc := h
  rw [Bool.and_eq_true, Bool.and_eq_true] at h
  obtain ⟨⟨h1, h2⟩, h3⟩ := h
  have h1 := inB_iff.1 h1
  have hne : us ≠ [] := by intro e; subst e; simp at h3
  obtain ⟨a, rfl⟩ := Int.eq_ofNat_of_zero_le h1.1
  have hL : nearL (a : Int) us = nearI (distL a us) (leastD (distL a us) 6) us.length := by unfold nearL; rw [hc, if_pos rfl, Int.toNat_natCast]
  have hdl : (distL a us).length = us.length := by simp [distL]
  have h6 : ∀ d ∈ distL a us, d ≤ 6 := fun d hd => by
    unfold distL at hd
    obtain ⟨x, _, rfl⟩ := List.mem_map.1 hd
    exact distM_le _ _
  have hat : ∀ (k : Nat) (x : Int), us[k]? = some x → (distL a us)[k]? = some (distM a x.toNat) := fun k x hx => by simp [distL, hx]
  obtain ⟨j, hj, hjd⟩ := leastD_at h6 (by intro e; exact hne (by rw [e] at hdl; exact List.eq_nil_of_length_eq_zero hdl.symm))
  have hjm : (j : Int) ∈ nearL (a : Int) us := by rw [hL]; exact nearI_mem.2 ⟨j, rfl, by omega, hjd⟩
  have hpos : 0 < (nearL (a : Int) us).length := List.length_pos_of_mem hjm
  have hz : (nearL (a : Int) us)[0] ∈ nearL (a : Int) us := List.getElem_mem _
  obtain ⟨z, hz0⟩ : ∃ z, z = (nearL (a : Int) us)[0] := ⟨_, rfl⟩
  rw [← hz0] at hz
  rw [hL] at hz
  obtain ⟨i0, rfl, hi0, hid⟩ := nearI_mem.1 hz
  have hx0 : us[i0]? = some us[i0] := List.getElem?_eq_getElem hi0
  refine ⟨a, leastD (distL a us) 6, i0, us[i0], rfl, by omega, (leastD_le_mem _ _).1, (sigsB_iff.1 h2).1, sigs_all h2, hi0, hpos, by rw [List.getElem?_eq_getElem hpos, hz0], hx0, ?_, fun k x hx => ⟨?_, ?_⟩⟩
  · have := hat i0 _ hx0
    rw [hid] at this
    exact (Option.some.inj this).symm
  · exact (leastD_le_mem (distL a us) 6).2 _ (List.mem_of_getElem? (hat k x hx))
  · have hk := (List.getElem?_eq_some_iff.1 hx).1
    have e : (k : Int) ∈ nearL (a : Int) us ↔ distM a x.toNat = leastD (distL a us) 6 := by
      rw [hL, nearI_mem]
      constructor
      · rintro ⟨k', he, _, hd⟩
        obtain rfl : k = k' := by omega
        rw [hat k x hx] at hd
        exact Option.some.inj hd
      · intro hd
        exact ⟨k, rfl, hk, by rw [hat k x hx, hd]⟩
    exact decide_eq_decide.2 e
theorem turn_take {l : List Int} {k : Nat} {y : Int} (hk : k < l.length) (h : l[l.length - 1 - k]? = some y) : l.reverse.take (k + 1) = l.reverse.take k ++ [y] := by
  rw [List.take_add_one]
  have : l.reverse[k]? = some y := by rw [List.getElem?_reverse hk]; exact h
  rw [this]; rfl
end Go.Proofs.YtjnkdjokbamibaaGreatDoor
