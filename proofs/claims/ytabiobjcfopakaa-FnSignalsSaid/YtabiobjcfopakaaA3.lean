/- Contracts of ReadSignal, of the program and of the reference: both return the signal with a text. -/
import Derived.Test.YtabiobjcfopakaaA2
namespace Go.Proofs.Ytabiobjcfopakaa
open Go.RowKit
theorem str_eq {a : List UInt8} {b : ByteArray} (h : (a == b.toList) = true) : a = b.data.toList := by
  rw [ByteArray.toList_eq] at h; exact eq_of_beq h
theorem str_ne {a : List UInt8} {b : ByteArray} (h : (a == b.toList) = false) : a ≠ b.data.toList := by
  rw [ByteArray.toList_eq] at h; exact ne_of_beq_false h
def readT (l : List UInt8) : Value := .tuple #[.int .i64 (((readM l).getD 0 : Nat) : Int), .bool (readM l).isSome]
theorem readT_some {l : List UInt8} {n : Nat} (h : readM l = some n) : readT l = .tuple #[.int .i64 (n : Int), .bool true] := by simp [readT, h]
theorem readT_none {l : List UInt8} (h : readM l = Option.none) : readT l = .tuple #[.int .i64 0, .bool false] := by simp [readT, h]
theorem sReadSignal_any (s : ByteArray) (w : World) : Calls Try.prog 35 #[.string s] w fun e w' => e = .returned (readT s.data.toList) ∧ w = w' := by
  go_enter Try.func35, Try.ntmps35
  go_wp2
  go_loop [4] (fun i => ∃ k : Nat, k ≤ 64 ∧ i = .int .i64 k ∧ Hid (∀ j, j < k → sgT j 6 ≠ s.data.toList)) (fun i => 64 - (intOf i).toNat)
  case atStart => exact ⟨0, by omega, rfl, fun j hj => by omega⟩
  case round =>
    obtain ⟨k, hk, rfl, hno⟩ := hrel
    by_cases hlt : k < 64
    · cases hb : (sgT k 6 == s.toList)
      · have HB := Lib.hid (str_ne hb)
        go_wp2_with (go_at_call 122; refine (sgText_any _ (by omega) _).mono ?_; rintro e w' ⟨rfl, rfl⟩)
        go_round
        case rel => exact ⟨k + 1, by omega, by go_num, fun j hj => by
          by_cases e : j = k
          · subst e; exact HB.out
          · exact hno.out j (by omega)⟩
        case measure => simp [intOf]; omega
      · have HB := Lib.hid (str_eq hb)
        go_wp2_with (go_at_call 122; refine (sgText_any _ (by omega) _).mono ?_; rintro e w' ⟨rfl, rfl⟩)
        go_ret2
        refine ⟨ret_val (readT_some ?_).symm, rfl⟩
        rw [← HB.out]; exact readM_sgT k hlt
    · obtain rfl : k = 64 := by omega
      go_wp2
      go_ret2
      refine ⟨ret_val (readT_none ?_).symm, rfl⟩
      cases hr : readM s.data.toList with
      | none => rfl
      | some n => exact absurd (readM_some _ _ hr).2 (hno.out n (readM_some _ _ hr).1)
theorem or_step (v k : Nat) (hv : v < 2 ^ k) (hk : k < 6) : bits .or .i64 (v : Int) (wrap64 (2 ^ k)) = ((v + 2 ^ k : Nat) : Int) := by
  have h : ∀ (k : Fin 6) (v : Fin 64), v.val < 2 ^ k.val → bits .or .i64 (v.val : Int) (wrap64 (2 ^ k.val)) = ((v.val + 2 ^ k.val : Nat) : Int) := by decide +kernel
  exact h ⟨k, hk⟩ ⟨v, Nat.lt_of_lt_of_le hv (by have := Nat.pow_le_pow_right (n := 2) (by omega) (show k ≤ 6 by omega); simpa using this)⟩ hv
theorem readM_len {l : List UInt8} (h : l.length ≠ 6) : readM l = Option.none := by unfold readM; rw [if_neg (fun hc => h hc.1)]
theorem readM_bad (s : ByteArray) (k : Nat) (h : k < s.size) (hc : okC s[k] = false) : readM s.data.toList = Option.none := by
  unfold readM
  rw [if_neg]
  rintro ⟨_, ha⟩
  rw [List.all_eq_true] at ha
  have := ha s[k] (List.getElem_mem (l := s.data.toList) (by simpa using h))
  rw [hc] at this; cases this
theorem u8_eq {c : UInt8} {n : Nat} (h : ((c.toNat : Int) == (n : Int)) = true) : c = UInt8.ofNat n := by
  have : c.toNat = n := by have := eq_of_beq h; omega
  rw [← this, UInt8.ofNat_toNat]
theorem okC_no {c : UInt8} (h1 : ((c.toNat : Int) == 35) = false) (h2 : ((c.toNat : Int) == 46) = false) : okC c = false := by
  unfold okC
  rw [Bool.or_eq_false_iff]
  refine ⟨?_, ?_⟩
  · rw [beq_eq_false_iff_ne]; rintro rfl; exact absurd h1 (by decide)
  · rw [beq_eq_false_iff_ne]; rintro rfl; exact absurd h2 (by decide)
theorem or_take (s : ByteArray) (k : Nat) (h : k < s.size) (h6 : k < 6) (hc : s[k] = 35) : bits .or .i64 (valM (s.data.toList.take k) : Int) (wrap64 (2 ^ k)) = (valM (s.data.toList.take (k + 1)) : Int) := by
  have hl : (s.data.toList.take k).length = k := by simp; omega
  have := valM_lt (s.data.toList.take k)
  rw [hl] at this
  rw [or_step _ _ this h6, take_snoc s k h, valM_snoc, hl, hc]; simp
theorem dot_take (s : ByteArray) (k : Nat) (h : k < s.size) (hc : s[k] = 46) : (valM (s.data.toList.take k) : Int) = (valM (s.data.toList.take (k + 1)) : Int) := by
  rw [take_snoc s k h, valM_snoc, hc]; simp
theorem all_take (s : ByteArray) (k : Nat) (h : k < s.size) (ht : (s.data.toList.take k).all okC = true) (hc : okC s[k] = true) : (s.data.toList.take (k + 1)).all okC = true := by
  rw [take_snoc s k h, List.all_append, ht]; simp [hc]
theorem readM_good (s : ByteArray) (h : s.size = 6) (ht : (s.data.toList.take 6).all okC = true) : readM s.data.toList = some (valM (s.data.toList.take 6)) := by
  rw [List.take_of_length_le (by simp; omega)] at ht ⊢
  unfold readM; rw [if_pos ⟨by simpa using h, ht⟩]
theorem impl_ReadSignal_any (s : ByteArray) (w : World) : Calls Try.prog 28 #[.string s] w fun e w' => e = .returned (readT s.data.toList) ∧ w = w' := by
  by_cases h6 : s.size = 6
  · go_enter Try.func28, Try.ntmps28
    go_wp2
    go_loop [4, 9] (fun v i => ∃ k : Nat, k ≤ 6 ∧ i = .int .i64 k ∧ v = .int .i64 (valM (s.data.toList.take k) : Nat) ∧ Hid ((s.data.toList.take k).all okC = true)) (fun _ i => 6 - (intOf i).toNat)
    case atStart => exact ⟨0, by omega, rfl, rfl, rfl⟩
    case round =>
      obtain ⟨k, hk, rfl, rfl, hok⟩ := hrel
      by_cases hlt : k < 6
      · have hks : k < s.size := by omega
        go_wp2
        · have hc := u8_eq (show ((s[k].toNat : Int) == 35) = true by assumption)
          go_round
          case rel => exact ⟨k + 1, by omega, by go_num, int_val (or_take s k hks hlt hc), all_take s k hks hok.out (by rw [hc]; rfl)⟩
          case measure => simp [intOf]; omega
        · have hc := u8_eq (show ((s[k].toNat : Int) == 46) = true by assumption)
          go_round
          case rel => exact ⟨k + 1, by omega, by go_num, int_val (dot_take s k hks hc), all_take s k hks hok.out (by rw [hc]; rfl)⟩
          case measure => simp [intOf]; omega
        · have hc := okC_no (show ((s[k].toNat : Int) == 35) = false by assumption) (by assumption)
          go_ret2
          exact ⟨ret_val (readT_none (readM_bad s k hks hc)).symm, rfl⟩
      · obtain rfl : k = 6 := by omega
        have HF := Lib.hid (readM_good s h6 hok.out)
        go_wp2
        go_ret2
        exact ⟨ret_val (readT_some HF.out).symm, rfl⟩
  · go_enter Try.func28, Try.ntmps28
    go_wp2
    go_ret2
    exact ⟨ret_val (readT_none (readM_len (by simpa using h6))).symm, rfl⟩
end Go.Proofs.Ytabiobjcfopakaa
