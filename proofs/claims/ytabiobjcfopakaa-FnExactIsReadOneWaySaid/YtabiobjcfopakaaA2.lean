/- Contracts of the functions on letters and on the texts of signals: each computes what the plain Lean function beside it says and leaves the world alone. -/
import Derived.Test.YtabiobjcfopakaaA1
import Derived.Lib.Hide
namespace Go.Proofs.Ytabiobjcfopakaa
open Go.RowKit
/-- Letters a to z alone. -/
def smallB (l : List UInt8) : Bool := l.all fun c => decide (97 ≤ c.toNat) && decide (c.toNat ≤ 122)
theorem take_snoc (s : ByteArray) (k : Nat) (h : k < s.size) : s.data.toList.take (k + 1) = s.data.toList.take k ++ [s[k]] := by
  rw [List.take_succ_eq_append_getElem (by simpa using h)]; rfl
theorem smallB_step (s : ByteArray) (k : Nat) (h : k < s.size) (ht : smallB (s.data.toList.take k) = true) (h1 : 97 ≤ s[k].toNat) (h2 : s[k].toNat ≤ 122) : smallB (s.data.toList.take (k + 1)) = true := by
  rw [take_snoc s k h]; unfold smallB at *; rw [List.all_append, ht]; simp [h1, h2]
theorem smallB_no (s : ByteArray) (k : Nat) (h : k < s.size) (h1 : ¬ (97 ≤ s[k].toNat ∧ s[k].toNat ≤ 122)) : smallB s.data.toList = false := by
  unfold smallB
  rw [List.all_eq_false]
  refine ⟨s[k], ?_, ?_⟩
  · exact List.getElem_mem (l := s.data.toList) (by simpa using h)
  · simpa using h1
theorem smallB_all (s : ByteArray) (k : Nat) (h : ¬ k < s.size) (ht : smallB (s.data.toList.take k) = true) : smallB s.data.toList = true := by
  rwa [List.take_of_length_le (by simp; omega)] at ht
theorem ret_bool {a b : Bool} (h : a = b) : Ending.returned (.bool a) = Ending.returned (.bool b) := by rw [h]
theorem ret_int {k : IntKind} {a b : Int} (h : a = b) : Ending.returned (.int k a) = .returned (.int k b) := by rw [h]
def phraseB (l : List UInt8) : Bool := decide (1 ≤ l.length) && decide (l.length ≤ 12) && smallB l
theorem phraseB_in (l : List UInt8) (h : 1 ≤ l.length) (h1 : l.length ≤ 12) : phraseB l = smallB l := by simp [phraseB, h, h1]
theorem phraseB_out (l : List UInt8) (h : ¬ (1 ≤ l.length ∧ l.length ≤ 12)) : phraseB l = false := by
  unfold phraseB
  by_cases h1 : 1 ≤ l.length
  · simp [show ¬ l.length ≤ 12 by omega]
  · simp [h1]
theorem phraseB_of (s : ByteArray) (b : Bool) (h : (smallB s.data.toList && decide (s.size ≤ 12)) = b) : phraseB s.data.toList = (b && !s.toList.isEmpty) := by
  subst h
  rw [ByteArray.toList_eq]
  unfold phraseB
  have e : s.data.toList.length = s.size := by simp
  rw [e]
  have e2 : (!s.data.toList.isEmpty) = decide (1 ≤ s.size) := by
    rw [← e]; cases s.data.toList <;> simp
  rw [e2]
  cases smallB s.data.toList <;> cases decide (s.size ≤ 12) <;> cases decide (1 ≤ s.size) <;> rfl
theorem ret_val {a b : Value} (h : a = b) : Ending.returned a = Ending.returned b := by rw [h]
theorem int_val {k : IntKind} {a b : Int} (h : a = b) : Value.int k a = Value.int k b := by rw [h]
theorem isSmall_any (s : ByteArray) (hs : s.size ≤ maxLen) (w : World) : Calls Try.prog 246 #[.string s] w fun e w' => e = .returned (.bool (smallB s.data.toList)) ∧ w = w' := by
  unfold maxLen at hs
  go_enter Try.func246, Try.ntmps246
  go_wp2
  go_loop [3] (fun i => ∃ k : Nat, k ≤ s.size ∧ i = .int .i64 k ∧ Hid (smallB (s.data.toList.take k) = true)) (fun i => s.size - (intOf i).toNat)
  case atStart => exact ⟨0, Nat.zero_le _, rfl, rfl⟩
  case round =>
    obtain ⟨k, hk, rfl, hsm⟩ := hrel
    by_cases hlt : k < s.size
    · go_wp2
      · go_ret
        exact ⟨ret_bool (smallB_no s k hlt (by omega)).symm, rfl⟩
      · go_round
        case rel => exact ⟨k + 1, by omega, by go_num, smallB_step s k hlt hsm.out (by omega) (by omega)⟩
        case measure => simp [intOf]; omega
      · go_ret
        exact ⟨ret_bool (smallB_no s k hlt (by omega)).symm, rfl⟩
    · go_wp2
      go_ret
      exact ⟨ret_bool (smallB_all s k hlt hsm.out).symm, rfl⟩
theorem IsPhraseText_any (s : ByteArray) (hs : s.size ≤ maxLen) (w : World) : Calls Try.prog 223 #[.string s] w fun e w' => e = .returned (.bool (phraseB s.data.toList)) ∧ w = w' := by
  unfold maxLen at hs
  go_enter Try.func223, Try.ntmps223
  go_wp2_with (go_at_call 246; refine (isSmall_any _ hs _).mono ?_; rintro e w' ⟨rfl, rfl⟩)
  all_goals go_ret
  all_goals refine ⟨ret_bool ?_, rfl⟩
  · rw [phraseB_in _ (by simp; omega) (by simp; omega)]
  · rw [phraseB_out _ (by simp; omega)]
  · rw [phraseB_out _ (by simp; omega)]
theorem bkLetters_any (s : ByteArray) (hs : s.size ≤ maxLen) (w : World) : Calls Try.prog 250 #[.string s] w fun e w' => e = .returned (.bool (smallB s.data.toList && decide (s.size ≤ 12))) ∧ w = w' := by
  unfold maxLen at hs
  go_enter Try.func250, Try.ntmps250
  go_wp2
  go_loop [3] (fun i => ∃ k : Nat, k ≤ s.size ∧ i = .int .i64 k ∧ Hid (smallB (s.data.toList.take k) = true)) (fun i => s.size - (intOf i).toNat)
  case atStart => exact ⟨0, Nat.zero_le _, rfl, rfl⟩
  case round =>
    obtain ⟨k, hk, rfl, hsm⟩ := hrel
    by_cases hlt : k < s.size
    · go_wp2
      · go_ret
        exact ⟨ret_bool (by rw [smallB_no s k hlt (by omega)]; rfl), rfl⟩
      · go_round
        case rel => exact ⟨k + 1, by omega, by go_num, smallB_step s k hlt hsm.out (by omega) (by omega)⟩
        case measure => simp [intOf]; omega
      · go_ret
        exact ⟨ret_bool (by rw [smallB_no s k hlt (by omega)]; rfl), rfl⟩
    · go_wp2
      go_ret
      exact ⟨ret_bool (by rw [smallB_all s k hlt hsm.out, Bool.true_and]; exact decide_eq_decide.2 (by omega)), rfl⟩
theorem bkPhraseText_any (s : ByteArray) (hs : s.size ≤ maxLen) (w : World) : Calls Try.prog 213 #[.string s] w fun e w' => e = .returned (.bool (phraseB s.data.toList)) ∧ w = w' := by
  cases hsm : (smallB s.data.toList && decide (s.size ≤ 12))
  · go_enter Try.func213, Try.ntmps213
    go_wp2_with (go_at_call 250; refine (bkLetters_any _ hs _).mono ?_; rintro e w' ⟨rfl, rfl⟩)
    go_ret
    exact ⟨ret_bool (phraseB_of s false hsm).symm, rfl⟩
  · go_enter Try.func213, Try.ntmps213
    go_wp2_with (go_at_call 250; refine (bkLetters_any _ hs _).mono ?_; rintro e w' ⟨rfl, rfl⟩)
    go_ret
    exact ⟨ret_bool (phraseB_of s true hsm).symm, rfl⟩
/-- Is shutter i closed? -/
def bitB (n i : Nat) : Bool := n / 2 ^ i % 2 == 1
/-- The first k signs of a signal's text. -/
def sgT (n : Nat) (k : Nat) : List UInt8 := (List.range k).map fun i => if bitB n i then 35 else 46
theorem sgT_len (n k : Nat) : (sgT n k).length = k := by simp [sgT]
theorem sgT_succ (n k : Nat) : sgT n (k + 1) = sgT n k ++ [if bitB n k then 35 else 46] := by simp [sgT, List.range_succ]
def okC (c : UInt8) : Bool := c == 35 || c == 46
def valM : List UInt8 → Nat
  | [] => 0
  | c :: r => (if c = 35 then 1 else 0) + 2 * valM r
def readM (l : List UInt8) : Option Nat := if l.length = 6 ∧ l.all okC = true then some (valM l) else Option.none
theorem valM_lt (l : List UInt8) : valM l < 2 ^ l.length := by
  induction l with
  | nil => decide
  | cons c r ih => simp only [valM, List.length_cons, Nat.pow_succ]; split <;> omega
theorem valM_snoc (l : List UInt8) (c : UInt8) : valM (l ++ [c]) = valM l + (if c = 35 then 1 else 0) * 2 ^ l.length := by
  induction l with
  | nil => simp [valM]
  | cons d r ih =>
    simp only [List.cons_append, valM, ih, List.length_cons, Nat.pow_succ, Nat.mul_add]
    rw [show 2 * ((if c = 35 then 1 else 0) * 2 ^ r.length) = (if c = 35 then 1 else 0) * (2 ^ r.length * 2) by rw [Nat.mul_comm (2 ^ r.length) 2, ← Nat.mul_assoc, ← Nat.mul_assoc, Nat.mul_comm 2]]
    omega
theorem valM_sgT (n : Nat) (h : n < 64) : valM (sgT n 6) = n ∧ (sgT n 6).all okC = true := by
  have : ∀ m : Fin 64, valM (sgT m.val 6) = m.val ∧ (sgT m.val 6).all okC = true := by decide +kernel
  exact this ⟨n, h⟩
theorem okC_iff (c : UInt8) : okC c = true ↔ c = 35 ∨ c = 46 := by simp [okC]
theorem sgT_valM (l : List UInt8) (hl : l.length = 6) (ho : l.all okC = true) : sgT (valM l) 6 = l := by
  match l, hl with
  | [a, b, c, d, e, f], _ =>
    simp only [List.all_cons, List.all_nil, Bool.and_true, Bool.and_eq_true, okC_iff] at ho
    obtain ⟨h1, h2, h3, h4, h5, h6⟩ := ho
    rcases h1 with rfl | rfl <;> rcases h2 with rfl | rfl <;> rcases h3 with rfl | rfl <;> rcases h4 with rfl | rfl <;> rcases h5 with rfl | rfl <;> rcases h6 with rfl | rfl <;> decide +kernel
theorem readM_sgT (n : Nat) (h : n < 64) : readM (sgT n 6) = some n := by
  unfold readM; rw [if_pos ⟨sgT_len _ _, (valM_sgT n h).2⟩, (valM_sgT n h).1]
theorem readM_some (l : List UInt8) (n : Nat) (h : readM l = some n) : n < 64 ∧ sgT n 6 = l := by
  unfold readM at h
  split at h
  · rename_i hc
    cases h
    exact ⟨by have := valM_lt l; rw [hc.1] at this; exact this, sgT_valM l hc.1 hc.2⟩
  · cases h
theorem i64_nat (a : Nat) (ha : a < 9223372036854775808) : (BitVec.ofInt 64 (a : Int)).toNat = a := by
  rw [BitVec.ofInt_natCast, BitVec.toNat_ofNat]; exact Nat.mod_eq_of_lt (by omega)
theorem i64_and (a b : Nat) (ha : a < 9223372036854775808) (hb : b < 9223372036854775808) : bits .and .i64 (a : Int) (b : Int) = ((a &&& b : Nat) : Int) := by
  have hx : a &&& b < 2 ^ 63 := Nat.and_lt_two_pow _ (by omega)
  show IntKind.i64.wrap ((BitVec.ofInt 64 (a : Int) &&& BitVec.ofInt 64 (b : Int)).toNat : Int) = _
  rw [BitVec.toNat_and, i64_nat a ha, i64_nat b hb, IntKind.wrap_i64]
  omega
theorem i64_or (a b : Nat) (ha : a < 9223372036854775808) (hb : b < 9223372036854775808) : bits .or .i64 (a : Int) (b : Int) = ((a ||| b : Nat) : Int) := by
  have hx : a ||| b < 2 ^ 63 := Nat.or_lt_two_pow (by omega) (by omega)
  show IntKind.i64.wrap ((BitVec.ofInt 64 (a : Int) ||| BitVec.ofInt 64 (b : Int)).toNat : Int) = _
  rw [BitVec.toNat_or, i64_nat a ha, i64_nat b hb, IntKind.wrap_i64]
  omega
theorem i64_xor (a b : Nat) (ha : a < 9223372036854775808) (hb : b < 9223372036854775808) : bits .xor .i64 (a : Int) (b : Int) = ((a ^^^ b : Nat) : Int) := by
  have hx : a ^^^ b < 2 ^ 63 := Nat.xor_lt_two_pow (by omega) (by omega)
  show IntKind.i64.wrap ((BitVec.ofInt 64 (a : Int) ^^^ BitVec.ofInt 64 (b : Int)).toNat : Int) = _
  rw [BitVec.toNat_xor, i64_nat a ha, i64_nat b hb, IntKind.wrap_i64]
  omega
theorem bit_and (n i : Nat) (h : n < 9223372036854775808) : (bits .and .i64 ((n : Int) / 2 ^ i) 1 == 1) = bitB n i := by
  have h1 : n / 2 ^ i ≤ n := Nat.div_le_self _ _
  have e := i64_and (n / 2 ^ i) 1 (by omega) (by omega)
  rw [Nat.and_one_is_mod] at e
  rw [show ((n / 2 ^ i : Nat) : Int) = (n : Int) / 2 ^ i by simp] at e
  rw [show ((1 : Nat) : Int) = 1 by rfl] at e
  rw [e, bitB]
  generalize n / 2 ^ i % 2 = m
  rw [Bool.eq_iff_iff]
  simp
  omega
theorem sgClosed_any (n i : Nat) (h1 : n ≤ 63) (h3 : i ≤ 5) (w : World) : Calls Try.prog 210 #[.int .i64 (n : Int), .int .i64 (i : Int)] w fun e w' => e = .returned (.bool (bitB n i)) ∧ w = w' := by
  go_enter Try.func210, Try.ntmps210
  go_wp2
  go_ret
  exact ⟨ret_bool (bit_and n i (by omega)), rfl⟩
theorem sgText_any (n : Nat) (h1 : n ≤ 63) (w : World) : Calls Try.prog 122 #[.int .i64 (n : Int)] w fun e w' => e = .returned (.string ⟨(sgT n 6).toArray⟩) ∧ w = w' := by
  go_enter Try.func122, Try.ntmps122
  go_wp2
  go_loop [3, 4] (fun s i => ∃ k : Nat, k ≤ 6 ∧ i = .int .i64 k ∧ s = .string ⟨(sgT n k).toArray⟩) (fun _ i => 6 - (intOf i).toNat)
  case atStart => exact ⟨0, by omega, rfl, rfl⟩
  case round =>
    obtain ⟨k, hk, rfl, rfl⟩ := hrel
    have hl : (sgT n k).length ≤ 6 := by rw [sgT_len]; exact hk
    by_cases hlt : k < 6
    · cases hb : bitB n k
      · have HB := Lib.hid hb
        go_wp2_with (go_at_call 210; refine (sgClosed_any _ _ h1 (by omega) _).mono ?_; rintro e w' ⟨rfl, rfl⟩)
        go_round
        case rel => exact ⟨k + 1, by omega, by go_num, by rw [sgT_succ, HB.out]; simp [ByteArray.ext_iff]⟩
        case measure => simp [intOf]; omega
      · have HB := Lib.hid hb
        go_wp2_with (go_at_call 210; refine (sgClosed_any _ _ h1 (by omega) _).mono ?_; rintro e w' ⟨rfl, rfl⟩)
        go_round
        case rel => exact ⟨k + 1, by omega, by go_num, by rw [sgT_succ, HB.out]; simp [ByteArray.ext_iff]⟩
        case measure => simp [intOf]; omega
    · obtain rfl : k = 6 := by omega
      go_wp2
      go_ret
      exact ⟨rfl, rfl⟩
end Go.Proofs.Ytabiobjcfopakaa
