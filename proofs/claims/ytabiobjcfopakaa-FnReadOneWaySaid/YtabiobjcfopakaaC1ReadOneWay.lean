/- Texts of one claim, joined: P, A1, A2, M1, M2, M3, O, M4, M5. -/
import Derived.Test.YtabiobjcfopakaaRows
import Derived.WalkKit
import Derived.ProofKit
import Derived.OpenShut
import Derived.Below
import Derived.ChangeSame
import Derived.WideKeyArgs
import Derived.WalkLawsBesides
import Derived.WalkSpells
import Derived.Lib.Hide
import Derived.Laws.AppendOwn
import Derived.OwnWalk
import Derived.Test.YtabiobjcfopakaaShelf
import Derived.Laws.MakeOwn
import Derived.Laws.Entries
import Derived.Deep.QuietTactic
import Derived.BigQuiet
import Derived.Deep.Slices
/- The step from a walk to a row: a law that returns true and leaves all old memory as it was meets its row's post. -/
namespace Go.Proofs.Ytabiobjcfopakaa
open Go.ChangeShapes Go.WideShapes Go.ChangeAt Go.RowKit Go.WideElems
theorem own : ownKnob Try.prog.godebug = Option.none := by kernel_rfl
theorem laidOut : laidOutB Try.prog = true := by kernel_rfl
theorem trodAll_stays {H : Type} {enc : TypeId × Value → H} {P : Program} (hl : laidOutB P = true) {W W' : World} {sp' : Nat → Bool} : ∀ (ts : List TypeId) (vs : List Value) (ds : List (DataW H)) (ps : List MemPlace),
    (ts.all fun t => P.readableRec t && decide (t < P.types.size)) = true → DataW.TrodAll enc P W 0 (fun _ => true) true ts vs ds ps → (∀ p ∈ ps, W.sameAt W' p) → (∀ p ∈ ps, sp' p.block = true) → DataW.TrodAll enc P W' 0 sp' true ts vs ds ps
  | [], vs, ds, ps, _, h, _, _ => by
    obtain ⟨rfl, rfl, rfl⟩ := trodAll_nil h
    exact trodAll_mk0
  | t :: ts, vs, ds, ps, hr, h, hs, hp => by
    obtain ⟨v, vs', d, ds', p, q, rfl, rfl, rfl, h0, h1⟩ := trodAll_cons h
    simp only [List.all_cons, Bool.and_eq_true, decide_eq_true_eq] at hr
    exact trodAll_cons_mk (Trod_stays hl hr.1.1 hr.1.2 h0 (fun x hx => hs x (List.mem_append_left _ hx)) (fun x hx => hp x (List.mem_append_left _ hx)))
      (trodAll_stays hl ts vs' ds' q hr.2 h1 (fun x hx => hs x (List.mem_append_right _ hx)) (fun x hx => hp x (List.mem_append_right _ hx)))
set_option maxRecDepth 100000 in
/-- The post of a law. -/
theorem law_post {H : Type} {enc : TypeId × Value → H} {f : Func} {s : ChangeSpec} {apart fresh handsOn again : Bool} {W W' : World} {args : Array Value} {ds gs : List (DataW H)} {before : List MemPlace}
    (hW : DataW.Whole enc Try.prog f.params.toList s.vars apart W args.toList ds gs before) (hvars : s.vars = []) (hrt : f.resultTypes = #[4])
    (hr : (f.params.toList.all fun t => Try.prog.readableRec t && decide (t < Try.prog.types.size)) = true)
    (hfn : (s.fn H (ds ++ gs)) = { results := [.lit (.bool true)], args := ds }) (hb : Below W.heap.size W W') :
    s.post enc Try.prog f apart fresh handsOn again W args (.bool true) W' := by
  have hlt : ∀ p ∈ before, p.block < W.heap.size := fun p hp => hW.lt p hp
  have hold : ∀ p ∈ before, (fun b => decide (b < W.heap.size)) p.block = true := fun p hp => by simpa using hlt p hp
  have hW0 := hW
  obtain ⟨p, q, hA, hV, rfl, hz, hn⟩ := hW
  rw [hvars] at hV
  obtain ⟨rfl, rfl⟩ := trodVars_none hV
  simp only [List.append_nil] at hlt hold hW0 hz hn
  have hres : ∀ (b : Nat) (sp : Nat → Bool) (hd : Bool), DataW.TrodAll enc Try.prog W' b sp hd f.resultTypes.toList ((Value.bool true).resultList f.resultTypes.size) (s.fn H (ds ++ [])).results [] := fun b sp hd => by
    rw [hfn, hrt]; exact trodAll_cons_mk (shut_bool Try.underlying4 _) trodAll_mk0
  have hargs : ∀ sp : Nat → Bool, (∀ x ∈ p, sp x.block = true) → DataW.TrodAll enc Try.prog W' 0 sp true f.params.toList args.toList (s.fn H (ds ++ [])).args p := fun sp hsp => by
    rw [hfn]; exact trodAll_stays laidOut _ _ _ _ hr hA (fun x hx => hb.same (hlt x hx)) hsp
  have hvs : ∀ sp : Nat → Bool, (∀ x ∈ p, sp x.block = true) → DataW.TrodVars enc Try.prog W' sp s.vars (s.fn H (ds ++ [])).vars [] := fun sp _ => by
    rw [hfn, hvars]; rfl
  refine ⟨ds, [], p, [], p, [], hW0, hres _ _ _, hargs _ hold, hvs _ hold, World.keptBut_mono (fun x hx => ⟨hx, ?_⟩) (hb.frame (· ∈ p)), fun _ => ?_⟩
  · exact Or.inr (by simpa using hx)
  · refine ⟨?_, _, _, ([] ++ p) ++ [], ⟨[] ++ p, [], trodAll_append (hargs _ (fun _ _ => rfl)) (hres _ _ _), hvs _ (fun _ _ => rfl), rfl, ?_, ?_⟩, ?_⟩
    · exact ok_one hrt rfl (okWide_bool_mk Try.underlying4 _)
    · intro b off hp
      have hin : MemPlace.cell b off ∈ p := by simpa using hp
      rw [hb.frozen (hlt _ hin)]
      exact hz b off hin
    · intro ha
      simpa using hn ha
    · intro x hx _
      simpa using hx
end Go.Proofs.Ytabiobjcfopakaa
/- Contracts of the small functions on signals: each computes what the plain Lean function beside it says and leaves the world alone. -/
namespace Go.Proofs.Ytabiobjcfopakaa
open Go.RowKit
def inB (n a b : Int) : Bool := decide (a ≤ n) && decide (n ≤ b)
theorem inB_iff {n a b : Int} : inB n a b = true ↔ a ≤ n ∧ n ≤ b := by simp [inB]
theorem inB_false {n a b : Int} (h : ¬ (a ≤ n ∧ n ≤ b)) : inB n a b = false := by
  rcases hb : inB n a b
  · rfl
  · exact absurd (inB_iff.1 hb) h
theorem within_any (n a b : Int) (w : World) : Calls Try.prog 125 #[.int .i64 n, .int .i64 a, .int .i64 b] w fun e w' => e = .returned (.bool (inB n a b)) ∧ w = w' := by
  go_enter Try.func125, Try.ntmps125
  go_wp2
  all_goals go_ret
  all_goals refine ⟨?_, rfl⟩
  all_goals simp [inB]; omega
theorem l1In_any (n a b : Int) (w : World) : Calls Try.prog 191 #[.int .i64 n, .int .i64 a, .int .i64 b] w fun e w' => e = .returned (.bool (inB n a b)) ∧ w = w' := by
  go_enter Try.func191, Try.ntmps191
  go_wp2
  all_goals go_ret
  all_goals refine ⟨?_, rfl⟩
  all_goals simp [inB]; omega
theorem isSignal_any (n : Int) (w : World) : Calls Try.prog 119 #[.int .i64 n] w fun e w' => e = .returned (.bool (inB n 0 63)) ∧ w = w' := by
  go_enter Try.func119, Try.ntmps119
  go_wp2_with (go_at_call 125; refine (within_any _ _ _ _).mono ?_; rintro e w' ⟨rfl, rfl⟩)
  go_ret
  exact ⟨rfl, rfl⟩
theorem sgGood_any (n : Int) (w : World) : Calls Try.prog 121 #[.int .i64 n] w fun e w' => e = .returned (.bool (inB n 0 63)) ∧ w = w' := by
  go_enter Try.func121, Try.ntmps121
  go_wp2_with (go_at_call 191; refine (l1In_any _ _ _ _).mono ?_; rintro e w' ⟨rfl, rfl⟩)
  go_ret
  exact ⟨rfl, rfl⟩
theorem IsContent_any (n : Int) (w : World) : Calls Try.prog 26 #[.int .i64 n] w fun e w' => e = .returned (.bool (inB n 1 60)) ∧ w = w' := by
  go_enter Try.func26, Try.ntmps26
  go_wp2_with (go_at_call 125; refine (within_any _ _ _ _).mono ?_; rintro e w' ⟨rfl, rfl⟩)
  go_ret
  exact ⟨rfl, rfl⟩
theorem sgContent_any (n : Int) (w : World) : Calls Try.prog 126 #[.int .i64 n] w fun e w' => e = .returned (.bool (inB n 1 60)) ∧ w = w' := by
  go_enter Try.func126, Try.ntmps126
  go_wp2_with (go_at_call 191; refine (l1In_any _ _ _ _).mono ?_; rintro e w' ⟨rfl, rfl⟩)
  go_ret
  exact ⟨rfl, rfl⟩
theorem sIsContent_any (n : Int) (w : World) : Calls Try.prog 27 #[.int .i64 n] w fun e w' => e = .returned (.bool (inB n 1 60)) ∧ w = w' := by
  go_enter Try.func27, Try.ntmps27
  go_wp2_with (go_at_call 126; refine (sgContent_any _ _).mono ?_; rintro e w' ⟨rfl, rfl⟩)
  go_ret
  exact ⟨rfl, rfl⟩
/-- The signal turned, or 0. -/
def turnM (n : Int) : Int := if inB n 0 63 then 63 - n else 0
def mirM (n : Int) : Int := if inB n 0 63 then n / 8 + n % 8 * 8 else 0
theorem turn_bits (n : Nat) (h : n < 64) : bits .xor .i64 63 (n : Int) = 63 - (n : Int) := by
  have : ∀ m : Fin 64, bits .xor .i64 63 (m.val : Int) = 63 - (m.val : Int) := by decide +kernel
  exact this ⟨n, h⟩
theorem mir_bits (n : Nat) (h : n < 64) : bits .or .i64 (wrap64 (bits .and .i64 (n : Int) 7 * 8)) ((n : Int) / 8) = (n : Int) / 8 + (n : Int) % 8 * 8 := by
  have : ∀ m : Fin 64, bits .or .i64 (wrap64 (bits .and .i64 (m.val : Int) 7 * 8)) ((m.val : Int) / 8) = (m.val : Int) / 8 + (m.val : Int) % 8 * 8 := by decide +kernel
  exact this ⟨n, h⟩
theorem Turn_any (n : Int) (w : World) : Calls Try.prog 21 #[.int .i64 n] w fun e w' => e = .returned (.tuple #[.int .i64 (turnM n), .bool (inB n 0 63)]) ∧ w = w' := by
  by_cases h : 0 ≤ n ∧ n ≤ 63
  · have hb : inB n 0 63 = true := inB_iff.2 h
    go_enter Try.func21, Try.ntmps21
    go_wp2_with (go_at_call 119; refine (isSignal_any _ _).mono ?_; rintro e w' ⟨rfl, rfl⟩)
    go_ret2
    refine ⟨?_, rfl⟩
    obtain ⟨m, rfl⟩ := Int.eq_ofNat_of_zero_le h.1
    simp only [turnM, hb, if_true, turn_bits m (by omega)]; rfl
  · have hb : inB n 0 63 = false := inB_false h
    go_enter Try.func21, Try.ntmps21
    go_wp2_with (go_at_call 119; refine (isSignal_any _ _).mono ?_; rintro e w' ⟨rfl, rfl⟩)
    go_ret2
    exact ⟨by simp [turnM, hb], rfl⟩
theorem sTurn_any (n : Int) (w : World) : Calls Try.prog 22 #[.int .i64 n] w fun e w' => e = .returned (.tuple #[.int .i64 (turnM n), .bool (inB n 0 63)]) ∧ w = w' := by
  by_cases h : 0 ≤ n ∧ n ≤ 63
  · have hb : inB n 0 63 = true := inB_iff.2 h
    obtain ⟨h0, h1⟩ := h
    go_enter Try.func22, Try.ntmps22
    go_wp2_with (go_at_call 121; refine (sgGood_any _ _).mono ?_; rintro e w' ⟨rfl, rfl⟩)
    go_ret2
    exact ⟨by simp [turnM, hb], rfl⟩
  · have hb : inB n 0 63 = false := inB_false h
    go_enter Try.func22, Try.ntmps22
    go_wp2_with (go_at_call 121; refine (sgGood_any _ _).mono ?_; rintro e w' ⟨rfl, rfl⟩)
    go_ret2
    exact ⟨by simp [turnM, hb], rfl⟩
theorem Mirror_any (n : Int) (w : World) : Calls Try.prog 19 #[.int .i64 n] w fun e w' => e = .returned (.tuple #[.int .i64 (mirM n), .bool (inB n 0 63)]) ∧ w = w' := by
  by_cases h : 0 ≤ n ∧ n ≤ 63
  · have hb : inB n 0 63 = true := inB_iff.2 h
    obtain ⟨h0, h1⟩ := h
    go_enter Try.func19, Try.ntmps19
    go_wp2_with (go_at_call 119; refine (isSignal_any _ _).mono ?_; rintro e w' ⟨rfl, rfl⟩)
    go_ret2
    refine ⟨?_, rfl⟩
    obtain ⟨m, rfl⟩ := Int.eq_ofNat_of_zero_le h0
    simp only [mirM, hb, if_true, ← mir_bits m (by omega)]; rfl
  · have hb : inB n 0 63 = false := inB_false h
    go_enter Try.func19, Try.ntmps19
    go_wp2_with (go_at_call 119; refine (isSignal_any _ _).mono ?_; rintro e w' ⟨rfl, rfl⟩)
    go_ret2
    exact ⟨by simp [mirM, hb], rfl⟩
theorem sgMirror_any (n : Int) (h0 : 0 ≤ n) (h1 : n ≤ 63) (w : World) : Calls Try.prog 123 #[.int .i64 n] w fun e w' => e = .returned (.int .i64 (n / 8 + n % 8 * 8)) ∧ w = w' := by
  go_enter Try.func123, Try.ntmps123
  go_wp2
  go_ret
  exact ⟨rfl, rfl⟩
theorem sMirror_any (n : Int) (w : World) : Calls Try.prog 20 #[.int .i64 n] w fun e w' => e = .returned (.tuple #[.int .i64 (mirM n), .bool (inB n 0 63)]) ∧ w = w' := by
  by_cases h : 0 ≤ n ∧ n ≤ 63
  · have hb : inB n 0 63 = true := inB_iff.2 h
    obtain ⟨h0, h1⟩ := h
    go_enter Try.func20, Try.ntmps20
    go_wp2_with (first | (go_at_call 121; refine (sgGood_any _ _).mono ?_; rintro e w' ⟨rfl, rfl⟩) | (go_at_call 123; refine (sgMirror_any _ h0 h1 _).mono ?_; rintro e w' ⟨rfl, rfl⟩))
    go_ret2
    exact ⟨by simp [mirM, hb], rfl⟩
  · have hb : inB n 0 63 = false := inB_false h
    go_enter Try.func20, Try.ntmps20
    go_wp2_with (go_at_call 121; refine (sgGood_any _ _).mono ?_; rintro e w' ⟨rfl, rfl⟩)
    go_ret2
    exact ⟨by simp [mirM, hb], rfl⟩
end Go.Proofs.Ytabiobjcfopakaa
/- Contracts of the functions on letters and on the texts of signals: each computes what the plain Lean function beside it says and leaves the world alone. -/
namespace Go.Proofs.Ytabiobjcfopakaa
open Go.RowKit
/-- Letters a to z alone. -/
def smallB (l : List UInt8) : Bool := l.all fun c => decide (97 ≤ c.toNat) && decide (c.toNat ≤ 122)
theorem take_snoc (s : ByteArray) (k : Nat) (h : k < s.size) : s.data.toList.take (k + 1) = s.data.toList.take k ++ [s[k]] := by
  rw [List.take_succ_eq_append_getElem (by simpa using h)]; rfl
theorem smallB_step (s : ByteArray) (k : Nat) (h : k < s.size) (ht : smallB (s.data.toList.take k) = true) (h1 : 97 ≤ s[k].toNat) (h2 : s[k].toNat ≤ 122) : smallB (s.data.toList.take (k + 1)) = true := by
  rw [take_snoc s k h]; unfold smallB at *; rw [List.all_append, ht]; simp [h1, h2]
theorem smallB_no (s : ByteArray) (k : Nat) (h : k < s.size) (h1 : ¬ (97 ≤ s[k].toNat ∧ s[k].toNat ≤ 122)) : smallB s.data.toList = false := by
  unfold smallB
  rw [List.all_eq_false]
  refine ⟨s[k], ?_, ?_⟩
  · exact List.getElem_mem (l := s.data.toList) (by simpa using h)
  · simpa using h1
theorem smallB_all (s : ByteArray) (k : Nat) (h : ¬ k < s.size) (ht : smallB (s.data.toList.take k) = true) : smallB s.data.toList = true := by
  rwa [List.take_of_length_le (by simp; omega)] at ht
theorem ret_bool {a b : Bool} (h : a = b) : Ending.returned (.bool a) = Ending.returned (.bool b) := by rw [h]
theorem ret_int {k : IntKind} {a b : Int} (h : a = b) : Ending.returned (.int k a) = .returned (.int k b) := by rw [h]
def phraseB (l : List UInt8) : Bool := decide (1 ≤ l.length) && decide (l.length ≤ 12) && smallB l
theorem phraseB_in (l : List UInt8) (h : 1 ≤ l.length) (h1 : l.length ≤ 12) : phraseB l = smallB l := by simp [phraseB, h, h1]
theorem phraseB_out (l : List UInt8) (h : ¬ (1 ≤ l.length ∧ l.length ≤ 12)) : phraseB l = false := by
  unfold phraseB
  by_cases h1 : 1 ≤ l.length
  · simp [show ¬ l.length ≤ 12 by omega]
  · simp [h1]
theorem phraseB_of (s : ByteArray) (b : Bool) (h : (smallB s.data.toList && decide (s.size ≤ 12)) = b) : phraseB s.data.toList = (b && !s.toList.isEmpty) := by
  subst h
  rw [ByteArray.toList_eq]
  unfold phraseB
  have e : s.data.toList.length = s.size := by simp
  rw [e]
  have e2 : (!s.data.toList.isEmpty) = decide (1 ≤ s.size) := by
    rw [← e]; cases s.data.toList <;> simp
  rw [e2]
  cases smallB s.data.toList <;> cases decide (s.size ≤ 12) <;> cases decide (1 ≤ s.size) <;> rfl
theorem ret_val {a b : Value} (h : a = b) : Ending.returned a = Ending.returned b := by rw [h]
theorem int_val {k : IntKind} {a b : Int} (h : a = b) : Value.int k a = Value.int k b := by rw [h]
theorem isSmall_any (s : ByteArray) (hs : s.size ≤ maxLen) (w : World) : Calls Try.prog 246 #[.string s] w fun e w' => e = .returned (.bool (smallB s.data.toList)) ∧ w = w' := by
  unfold maxLen at hs
  go_enter Try.func246, Try.ntmps246
  go_wp2
  go_loop [3] (fun i => ∃ k : Nat, k ≤ s.size ∧ i = .int .i64 k ∧ Hid (smallB (s.data.toList.take k) = true)) (fun i => s.size - (intOf i).toNat)
  case atStart => exact ⟨0, Nat.zero_le _, rfl, rfl⟩
  case round =>
    obtain ⟨k, hk, rfl, hsm⟩ := hrel
    by_cases hlt : k < s.size
    · go_wp2
      · go_ret
        exact ⟨ret_bool (smallB_no s k hlt (by omega)).symm, rfl⟩
      · go_round
        case rel => exact ⟨k + 1, by omega, by go_num, smallB_step s k hlt hsm.out (by omega) (by omega)⟩
        case measure => simp [intOf]; omega
      · go_ret
        exact ⟨ret_bool (smallB_no s k hlt (by omega)).symm, rfl⟩
    · go_wp2
      go_ret
      exact ⟨ret_bool (smallB_all s k hlt hsm.out).symm, rfl⟩
theorem IsPhraseText_any (s : ByteArray) (hs : s.size ≤ maxLen) (w : World) : Calls Try.prog 223 #[.string s] w fun e w' => e = .returned (.bool (phraseB s.data.toList)) ∧ w = w' := by
  unfold maxLen at hs
  go_enter Try.func223, Try.ntmps223
  go_wp2_with (go_at_call 246; refine (isSmall_any _ hs _).mono ?_; rintro e w' ⟨rfl, rfl⟩)
  all_goals go_ret
  all_goals refine ⟨ret_bool ?_, rfl⟩
  · rw [phraseB_in _ (by simp; omega) (by simp; omega)]
  · rw [phraseB_out _ (by simp; omega)]
  · rw [phraseB_out _ (by simp; omega)]
theorem bkLetters_any (s : ByteArray) (hs : s.size ≤ maxLen) (w : World) : Calls Try.prog 250 #[.string s] w fun e w' => e = .returned (.bool (smallB s.data.toList && decide (s.size ≤ 12))) ∧ w = w' := by
  unfold maxLen at hs
  go_enter Try.func250, Try.ntmps250
  go_wp2
  go_loop [3] (fun i => ∃ k : Nat, k ≤ s.size ∧ i = .int .i64 k ∧ Hid (smallB (s.data.toList.take k) = true)) (fun i => s.size - (intOf i).toNat)
  case atStart => exact ⟨0, Nat.zero_le _, rfl, rfl⟩
  case round =>
    obtain ⟨k, hk, rfl, hsm⟩ := hrel
    by_cases hlt : k < s.size
    · go_wp2
      · go_ret
        exact ⟨ret_bool (by rw [smallB_no s k hlt (by omega)]; rfl), rfl⟩
      · go_round
        case rel => exact ⟨k + 1, by omega, by go_num, smallB_step s k hlt hsm.out (by omega) (by omega)⟩
        case measure => simp [intOf]; omega
      · go_ret
        exact ⟨ret_bool (by rw [smallB_no s k hlt (by omega)]; rfl), rfl⟩
    · go_wp2
      go_ret
      exact ⟨ret_bool (by rw [smallB_all s k hlt hsm.out, Bool.true_and]; exact decide_eq_decide.2 (by omega)), rfl⟩
theorem bkPhraseText_any (s : ByteArray) (hs : s.size ≤ maxLen) (w : World) : Calls Try.prog 213 #[.string s] w fun e w' => e = .returned (.bool (phraseB s.data.toList)) ∧ w = w' := by
  cases hsm : (smallB s.data.toList && decide (s.size ≤ 12))
  · go_enter Try.func213, Try.ntmps213
    go_wp2_with (go_at_call 250; refine (bkLetters_any _ hs _).mono ?_; rintro e w' ⟨rfl, rfl⟩)
    go_ret
    exact ⟨ret_bool (phraseB_of s false hsm).symm, rfl⟩
  · go_enter Try.func213, Try.ntmps213
    go_wp2_with (go_at_call 250; refine (bkLetters_any _ hs _).mono ?_; rintro e w' ⟨rfl, rfl⟩)
    go_ret
    exact ⟨ret_bool (phraseB_of s true hsm).symm, rfl⟩
/-- Is shutter i closed? -/
def bitB (n i : Nat) : Bool := n / 2 ^ i % 2 == 1
/-- The first k signs of a signal's text. -/
def sgT (n : Nat) (k : Nat) : List UInt8 := (List.range k).map fun i => if bitB n i then 35 else 46
theorem sgT_len (n k : Nat) : (sgT n k).length = k := by simp [sgT]
theorem sgT_succ (n k : Nat) : sgT n (k + 1) = sgT n k ++ [if bitB n k then 35 else 46] := by simp [sgT, List.range_succ]
def okC (c : UInt8) : Bool := c == 35 || c == 46
def valM : List UInt8 → Nat
  | [] => 0
  | c :: r => (if c = 35 then 1 else 0) + 2 * valM r
def readM (l : List UInt8) : Option Nat := if l.length = 6 ∧ l.all okC = true then some (valM l) else Option.none
theorem valM_lt (l : List UInt8) : valM l < 2 ^ l.length := by
  induction l with
  | nil => decide
  | cons c r ih => simp only [valM, List.length_cons, Nat.pow_succ]; split <;> omega
theorem valM_snoc (l : List UInt8) (c : UInt8) : valM (l ++ [c]) = valM l + (if c = 35 then 1 else 0) * 2 ^ l.length := by
  induction l with
  | nil => simp [valM]
  | cons d r ih =>
    simp only [List.cons_append, valM, ih, List.length_cons, Nat.pow_succ, Nat.mul_add]
    rw [show 2 * ((if c = 35 then 1 else 0) * 2 ^ r.length) = (if c = 35 then 1 else 0) * (2 ^ r.length * 2) by rw [Nat.mul_comm (2 ^ r.length) 2, ← Nat.mul_assoc, ← Nat.mul_assoc, Nat.mul_comm 2]]
    omega
theorem valM_sgT (n : Nat) (h : n < 64) : valM (sgT n 6) = n ∧ (sgT n 6).all okC = true := by
  have : ∀ m : Fin 64, valM (sgT m.val 6) = m.val ∧ (sgT m.val 6).all okC = true := by decide +kernel
  exact this ⟨n, h⟩
theorem okC_iff (c : UInt8) : okC c = true ↔ c = 35 ∨ c = 46 := by simp [okC]
theorem sgT_valM (l : List UInt8) (hl : l.length = 6) (ho : l.all okC = true) : sgT (valM l) 6 = l := by
  match l, hl with
  | [a, b, c, d, e, f], _ =>
    simp only [List.all_cons, List.all_nil, Bool.and_true, Bool.and_eq_true, okC_iff] at ho
    obtain ⟨h1, h2, h3, h4, h5, h6⟩ := ho
    rcases h1 with rfl | rfl <;> rcases h2 with rfl | rfl <;> rcases h3 with rfl | rfl <;> rcases h4 with rfl | rfl <;> rcases h5 with rfl | rfl <;> rcases h6 with rfl | rfl <;> decide +kernel
theorem readM_sgT (n : Nat) (h : n < 64) : readM (sgT n 6) = some n := by
  unfold readM; rw [if_pos ⟨sgT_len _ _, (valM_sgT n h).2⟩, (valM_sgT n h).1]
theorem readM_some (l : List UInt8) (n : Nat) (h : readM l = some n) : n < 64 ∧ sgT n 6 = l := by
  unfold readM at h
  split at h
  · rename_i hc
    cases h
    exact ⟨by have := valM_lt l; rw [hc.1] at this; exact this, sgT_valM l hc.1 hc.2⟩
  · cases h
theorem i64_nat (a : Nat) (ha : a < 9223372036854775808) : (BitVec.ofInt 64 (a : Int)).toNat = a := by
  rw [BitVec.ofInt_natCast, BitVec.toNat_ofNat]; exact Nat.mod_eq_of_lt (by omega)
theorem i64_and (a b : Nat) (ha : a < 9223372036854775808) (hb : b < 9223372036854775808) : bits .and .i64 (a : Int) (b : Int) = ((a &&& b : Nat) : Int) := by
  have hx : a &&& b < 2 ^ 63 := Nat.and_lt_two_pow _ (by omega)
  show IntKind.i64.wrap ((BitVec.ofInt 64 (a : Int) &&& BitVec.ofInt 64 (b : Int)).toNat : Int) = _
  rw [BitVec.toNat_and, i64_nat a ha, i64_nat b hb, IntKind.wrap_i64]
  omega
theorem i64_or (a b : Nat) (ha : a < 9223372036854775808) (hb : b < 9223372036854775808) : bits .or .i64 (a : Int) (b : Int) = ((a ||| b : Nat) : Int) := by
  have hx : a ||| b < 2 ^ 63 := Nat.or_lt_two_pow (by omega) (by omega)
  show IntKind.i64.wrap ((BitVec.ofInt 64 (a : Int) ||| BitVec.ofInt 64 (b : Int)).toNat : Int) = _
  rw [BitVec.toNat_or, i64_nat a ha, i64_nat b hb, IntKind.wrap_i64]
  omega
theorem i64_xor (a b : Nat) (ha : a < 9223372036854775808) (hb : b < 9223372036854775808) : bits .xor .i64 (a : Int) (b : Int) = ((a ^^^ b : Nat) : Int) := by
  have hx : a ^^^ b < 2 ^ 63 := Nat.xor_lt_two_pow (by omega) (by omega)
  show IntKind.i64.wrap ((BitVec.ofInt 64 (a : Int) ^^^ BitVec.ofInt 64 (b : Int)).toNat : Int) = _
  rw [BitVec.toNat_xor, i64_nat a ha, i64_nat b hb, IntKind.wrap_i64]
  omega
theorem bit_and (n i : Nat) (h : n < 9223372036854775808) : (bits .and .i64 ((n : Int) / 2 ^ i) 1 == 1) = bitB n i := by
  have h1 : n / 2 ^ i ≤ n := Nat.div_le_self _ _
  have e := i64_and (n / 2 ^ i) 1 (by omega) (by omega)
  rw [Nat.and_one_is_mod] at e
  rw [show ((n / 2 ^ i : Nat) : Int) = (n : Int) / 2 ^ i by simp] at e
  rw [show ((1 : Nat) : Int) = 1 by rfl] at e
  rw [e, bitB]
  generalize n / 2 ^ i % 2 = m
  rw [Bool.eq_iff_iff]
  simp
  omega
theorem sgClosed_any (n i : Nat) (h1 : n ≤ 63) (h3 : i ≤ 5) (w : World) : Calls Try.prog 210 #[.int .i64 (n : Int), .int .i64 (i : Int)] w fun e w' => e = .returned (.bool (bitB n i)) ∧ w = w' := by
  go_enter Try.func210, Try.ntmps210
  go_wp2
  go_ret
  exact ⟨ret_bool (bit_and n i (by omega)), rfl⟩
theorem sgText_any (n : Nat) (h1 : n ≤ 63) (w : World) : Calls Try.prog 122 #[.int .i64 (n : Int)] w fun e w' => e = .returned (.string ⟨(sgT n 6).toArray⟩) ∧ w = w' := by
  go_enter Try.func122, Try.ntmps122
  go_wp2
  go_loop [3, 4] (fun s i => ∃ k : Nat, k ≤ 6 ∧ i = .int .i64 k ∧ s = .string ⟨(sgT n k).toArray⟩) (fun _ i => 6 - (intOf i).toNat)
  case atStart => exact ⟨0, by omega, rfl, rfl⟩
  case round =>
    obtain ⟨k, hk, rfl, rfl⟩ := hrel
    have hl : (sgT n k).length ≤ 6 := by rw [sgT_len]; exact hk
    by_cases hlt : k < 6
    · cases hb : bitB n k
      · have HB := Lib.hid hb
        go_wp2_with (go_at_call 210; refine (sgClosed_any _ _ h1 (by omega) _).mono ?_; rintro e w' ⟨rfl, rfl⟩)
        go_round
        case rel => exact ⟨k + 1, by omega, by go_num, by rw [sgT_succ, HB.out]; simp [ByteArray.ext_iff]⟩
        case measure => simp [intOf]; omega
      · have HB := Lib.hid hb
        go_wp2_with (go_at_call 210; refine (sgClosed_any _ _ h1 (by omega) _).mono ?_; rintro e w' ⟨rfl, rfl⟩)
        go_round
        case rel => exact ⟨k + 1, by omega, by go_num, by rw [sgT_succ, HB.out]; simp [ByteArray.ext_iff]⟩
        case measure => simp [intOf]; omega
    · obtain rfl : k = 6 := by omega
      go_wp2
      go_ret
      exact ⟨rfl, rfl⟩
end Go.Proofs.Ytabiobjcfopakaa
/- Words on slices of integers in memory: one that can be read, one that the call has made, one that it appends to. -/
namespace Go.Proofs.Ytabiobjcfopakaa
open Go.RowKit
/-- The slice value v of n elements, size cells each, reads as the cells xs; they lie in a block below number hi. -/
def Rd (w : World) (hi size : Nat) (v : Value) (n : Nat) (xs : List Value) : Prop :=
  xs.length = n * size ∧ ∃ A c, v = .slice A n c ∧ n ≤ c ∧ c ≤ maxLen ∧ (0 < n → ∃ b off, A = some ⟨b, off, Option.none⟩ ∧ b < hi ∧ ∀ j u, xs[j]? = some u → w.cell? ⟨b, off + j, Option.none⟩ = some u)
abbrev ints (xs : List Int) : List Value := xs.map (Value.int .i64)
def RdI (w : World) (hi : Nat) (v : Value) (xs : List Int) : Prop := Rd w hi 1 v xs.length (ints xs)
/-- v is a row of ints of the call's own, in a block from lo to below hi. -/
def OwI (w : World) (lo hi : Nat) (v : Value) (xs : List Int) : Prop := w.ownsRow lo 3 1 v xs.length (ints xs) ∧ ∀ k, v.ownBlock = some k → k < hi
/-- v is what has been appended since the world w; below block number B nothing has turned. -/
def GrowI (w : World) (B : Nat) (wr : World) (v : Value) (xs : List Int) : Prop := wr.ownsRow B 3 1 v xs.length (ints xs) ∧ Below B w wr ∧ B ≤ wr.heap.size
theorem Rd.below {w w' : World} {hi size n : Nat} {v : Value} {xs : List Value} (h : Rd w hi size v n xs) {B : Nat} (hb : Below B w w') (hB : hi ≤ B) : Rd w' hi size v n xs := by
  obtain ⟨h0, A, c, h1, h2, h3, h4⟩ := h
  refine ⟨h0, A, c, h1, h2, h3, fun hn => ?_⟩
  obtain ⟨b, off, hA, hbl, hc⟩ := h4 hn
  exact ⟨b, off, hA, hbl, fun j u hu => (hb.cell (p := ⟨b, off + j, Option.none⟩) (by show b < B; omega)).trans (hc j u hu)⟩
theorem Rd.mono {w : World} {hi hi' size n : Nat} {v : Value} {xs : List Value} (h : Rd w hi size v n xs) (hB : hi ≤ hi') : Rd w hi' size v n xs := by
  obtain ⟨h0, A, c, h1, h2, h3, h4⟩ := h
  refine ⟨h0, A, c, h1, h2, h3, fun hn => ?_⟩
  obtain ⟨b, off, hA, hbl, hc⟩ := h4 hn
  exact ⟨b, off, hA, by omega, hc⟩
theorem RdI.below {w w' : World} {hi : Nat} {v : Value} {xs : List Int} (h : RdI w hi v xs) {B : Nat} (hb : Below B w w') (hB : hi ≤ B) : RdI w' hi v xs := Rd.below h hb hB
theorem RdI.mono {w : World} {hi hi' : Nat} {v : Value} {xs : List Int} (h : RdI w hi v xs) (hB : hi ≤ hi') : RdI w hi' v xs := Rd.mono h hB
theorem rd_of_owns {w : World} {lo hi size n : Nat} {e : TypeId} {v : Value} {xs : List Value} (h : w.ownsRow lo e size v n xs) (hh : ∀ k, v.ownBlock = some k → k < hi) : Rd w hi size v n xs := by
  refine ⟨h.1, ?_⟩
  have hc := fun g => h.cells (g := g)
  rcases h.2 with ⟨rfl, rfl⟩ | ⟨g, cap, cur, rfl, hb, hg, hn, hm, hs, ht⟩
  · exact ⟨Option.none, 0, rfl, Nat.le_refl _, Nat.zero_le _, fun h => absurd h (by omega)⟩
  · refine ⟨some ⟨g, 0, Option.none⟩, cap, rfl, hn, hm, fun _ => ⟨g, 0, rfl, hh g rfl, fun j u hu => ?_⟩⟩
    have := hc g rfl j u hu
    have hadd : (⟨g, 0, Option.none⟩ : Addr).add j = ⟨g, 0 + j, Option.none⟩ := by unfold Addr.add; split <;> simp_all
    rwa [hadd] at this
theorem OwI.rd {w : World} {lo hi : Nat} {v : Value} {xs : List Int} (h : OwI w lo hi v xs) : RdI w hi v xs := rd_of_owns h.1 h.2
theorem OwI.below {w w' : World} {lo hi : Nat} {v : Value} {xs : List Int} (h : OwI w lo hi v xs) {B : Nat} (hb : Below B w w') (hB : hi ≤ B) : OwI w' lo hi v xs := by
  refine ⟨⟨h.1.1, ?_⟩, h.2⟩
  have h2 := h.2
  rcases h.1.2 with hn | ⟨g, cap, cur, rfl, hl, hg, rest⟩
  · exact .inl hn
  · exact .inr ⟨g, cap, cur, rfl, hl, (hb.block g (by have := h2 g rfl; omega)).trans hg, rest⟩
theorem GrowI.start (w : World) : GrowI w w.heap.size w (.slice Option.none 0 0) [] := ⟨World.ownsRow_nil _ _ _ _, Below.refl _ _, Nat.le_refl _⟩
theorem GrowI.own {w wr : World} {B : Nat} {v : Value} {xs : List Int} (h : GrowI w B wr v xs) : OwI wr B wr.heap.size v xs := ⟨h.1, fun k hk => (h.1.lt k hk).2⟩
theorem GrowI.bel {w wr : World} {B : Nat} {v : Value} {xs : List Int} (h : GrowI w B wr v xs) : Below B w wr := h.2.1
theorem info_int : (Try.prog.info? 3).map (fun i => (i.zero, i.size, i.bytes)) = some (some (.int .i64 0), 1, 8) := by kernel_rfl
theorem one_cell (w : World) (u : Value) (t : TypeId) (j : Nat) (x : Value) (h : [u][j]? = some x) : (w.alloc (.cells #[u] t)).cell? ((⟨w.heap.size, 0, Option.none⟩ : Addr).add j) = some x := by
  match j, h with
  | 0, h => simp at h; subst h; simp [Addr.add]
theorem GrowI.app {w wr : World} {B : Nat} {v : Value} {xs : List Int} {ops : Array Oper} {rest : List Oper} {o : Oper} {a : Act} {Q : Exit → Act → World → Prop} {y : Int} (hgd : o.guard = Option.none) (s x : Operand)
    (ho : o.op = .call { callee := .builtin .append, args := #[s, x], argTypes := #[29, 29] }) (hG : GrowI w B wr v xs) (hlen : xs.length < 1099511627776)
    (hs : a.eval s = v) (hx : a.eval x = .slice (some ⟨wr.heap.size, 0, Option.none⟩) 1 1)
    (h : ∀ v' w', GrowI w B w' v' (xs ++ [y]) → wpList Try.prog ops Q rest (a.put o.dst v') w') : wpList Try.prog ops Q (o :: rest) a (wr.alloc (.cells #[.int .i64 y] 3)) := by
  obtain ⟨i, hi, hz0, hz1, hz2⟩ := info_parts info_int
  refine wpList_append_own _ hgd s x 29 ho B 3 i (.int .i64 0) 1 8 Try.underlying29 hi hz0 hz1 hz2 rfl (by decide) v xs.length (ints xs) hs (hG.1.alloc _) ⟨wr.heap.size, 0, Option.none⟩ 1 1 [.int .i64 y] hx rfl
    (one_cell _ _ _) (by intro u hu; simp at hu; subst hu; rfl) (by unfold maxLen; omega) (by omega) (by simp; have := hG.2.2; omega) ?_
  intro v' w' hown hgr _
  refine h v' w' ⟨?_, ?_, ?_⟩
  · simpa [ints] using hown
  · exact (hG.2.1.alloc hG.2.2 _).grown hgr (by simp; have := hG.2.2; omega) (fun k hk => ((hG.1.alloc (.cells #[.int .i64 y] 3)).lt k hk).1)
  · have h1 := hgr.size; have h2 := hG.2.2; simp at h1; omega
end Go.Proofs.Ytabiobjcfopakaa
/- Contracts of the functions that gather the closed shutters of a signal, and of the distances. -/
namespace Go.Proofs.Ytabiobjcfopakaa
open Go.RowKit
/-- The closed ones of the first k shutters. -/
def shutM (n k : Nat) : List Int := ((List.range k).filter fun i => bitB n i).map fun i : Nat => (i : Int)
theorem shutM_len (n k : Nat) : (shutM n k).length ≤ k := by
  unfold shutM; rw [List.length_map]; have := List.length_filter_le (fun i => bitB n i) (List.range k); simpa using this
theorem shutM_yes {n k : Nat} (h : bitB n k = true) : shutM n (k + 1) = shutM n k ++ [(k : Int)] := by simp [shutM, List.range_succ, h]
theorem shutM_no {n k : Nat} (h : bitB n k = false) : shutM n (k + 1) = shutM n k := by simp [shutM, List.range_succ, h]
/-- A result that is a row of ints of the call's own. -/
def RetOwI (xs : List Int) (w : World) (e : Ending) (w' : World) : Prop := ∃ v, e = .returned v ∧ OwI w' w.heap.size w'.heap.size v xs ∧ Below w.heap.size w w'
theorem retOwI {w wr : World} {v : Value} {xs : List Int} (h : GrowI w w.heap.size wr v xs) : RetOwI xs w (.returned v) wr := ⟨v, rfl, h.own, h.bel⟩
set_option maxHeartbeats 400000 in
theorem sgShutters_any (n : Nat) (h1 : n ≤ 63) (w : World) : Calls Try.prog 124 #[.int .i64 (n : Int)] w (RetOwI (shutM n 6) w) := by
  go_enter Try.func124, Try.ntmps124
  go_wp2
  go_loopw [3, 4] (fun v i wr => ∃ k : Nat, k ≤ 6 ∧ i = .int .i64 k ∧ GrowI w w.heap.size wr v (shutM n k)) (fun _ i _ => 6 - (intOf i).toNat)
  case atStart => exact ⟨0, by omega, rfl, GrowI.start w⟩
  case round =>
    obtain ⟨k, hk, rfl, hG⟩ := hrel
    have hl := shutM_len n k
    by_cases hlt : k < 6
    · cases hb : bitB n k
      · have HB := Lib.hid hb
        go_wp2_with (go_at_call 210; refine (sgClosed_any _ _ h1 (by omega) _).mono ?_; rintro e w' ⟨rfl, rfl⟩)
        go_roundw
        case rel => exact ⟨k + 1, by omega, by go_num, by rw [shutM_no HB.out]; exact hG⟩
        case measure => simp [intOf]; omega
      · have HB := Lib.hid hb
        go_wp2_with (first | (go_at_call 210; refine (sgClosed_any _ _ h1 (by omega) _).mono ?_; rintro e w' ⟨rfl, rfl⟩) | (at_builtin; refine GrowI.app rfl (.tmp 12) (.tmp 14) rfl hG (by omega) rfl rfl ?_; intro v' w1 hG'))
        go_roundw
        case rel => exact ⟨k + 1, by omega, by go_num, by rw [shutM_yes HB.out]; exact hG'⟩
        case measure => simp [intOf]; omega
    · obtain rfl : k = 6 := by omega
      go_wp2
      go_ret
      exact retOwI hG
def distM (a b : Nat) : Nat := (shutM (a ^^^ b) 6).length
theorem xor_lt {a b : Nat} (ha : a ≤ 63) (hb : b ≤ 63) : a ^^^ b ≤ 63 := by
  have := Nat.xor_lt_two_pow (x := a) (y := b) (n := 6) (by omega) (by omega); omega
theorem distM_le (a b : Nat) : distM a b ≤ 6 := shutM_len _ 6
theorem ones_shut (m : Nat) (h : m ≤ 63) : Lib.onesCount m = (shutM m 6).length := by
  have : ∀ m : Fin 64, Lib.onesCount m.val = (shutM m.val 6).length := by decide +kernel
  exact this ⟨m, by omega⟩
theorem distanceOf_any (a b : Nat) (ha : a ≤ 63) (hb : b ≤ 63) (w : World) : Calls Try.prog 128 #[.int .i64 (a : Int), .int .i64 (b : Int)] w fun e w' => e = .returned (.int .i64 (distM a b : Nat)) ∧ w = w' := by
  have hx := i64_xor a b (by omega) (by omega)
  have hl := xor_lt ha hb
  go_enter Try.func128, Try.ntmps128
  go_wp2_with fail
  refine (Try.bits_OnesCount8 _ _ (by omega) (by omega)).mono ?_
  rintro e w' ⟨rfl, rfl⟩
  go_wp2
  go_ret
  refine ⟨ret_int ?_, rfl⟩
  rw [ones_shut _ hl]; rfl
theorem sgDistance_any (a b : Nat) (ha : a ≤ 63) (hb : b ≤ 63) (w : World) : Calls Try.prog 129 #[.int .i64 (a : Int), .int .i64 (b : Int)] w fun e w' => e = .returned (.int .i64 (distM a b : Nat)) ∧ Below w.heap.size w w' := by
  have hx := i64_xor a b (by omega) (by omega)
  have hl := xor_lt ha hb
  go_enter Try.func129, Try.ntmps129
  go_wp2_with fail
  refine (sgShutters_any _ hl _).mono ?_
  rintro e w' ⟨v, rfl, hown, hbel⟩
  obtain ⟨_, A, c, rfl, _⟩ := hown.rd
  go_wp2
  go_ret
  exact ⟨rfl, hbel⟩
def sigDT (a b : Int) : Value := if inB a 0 63 && inB b 0 63 then .tuple #[.int .i64 (distM a.toNat b.toNat : Nat), .bool true] else .tuple #[.int .i64 0, .bool false]
theorem SignalDistance_any (a b : Int) (w : World) : Calls Try.prog 30 #[.int .i64 a, .int .i64 b] w fun e w' => e = .returned (sigDT a b) ∧ w = w' := by
  cases ha : inB a 0 63
  · go_enter Try.func30, Try.ntmps30
    go_wp2_with (go_at_call 119; refine (isSignal_any _ _).mono ?_; rintro e w' ⟨rfl, rfl⟩)
    go_ret2
    exact ⟨ret_val (by simp [sigDT, ha]), rfl⟩
  · cases hb : inB b 0 63
    · go_enter Try.func30, Try.ntmps30
      go_wp2_with (go_at_call 119; refine (isSignal_any _ _).mono ?_; rintro e w' ⟨rfl, rfl⟩)
      go_ret2
      exact ⟨ret_val (by simp [sigDT, hb]), rfl⟩
    · obtain ⟨ha0, ha1⟩ := inB_iff.1 ha
      obtain ⟨hb0, hb1⟩ := inB_iff.1 hb
      obtain ⟨a, rfl⟩ := Int.eq_ofNat_of_zero_le ha0
      obtain ⟨b, rfl⟩ := Int.eq_ofNat_of_zero_le hb0
      go_enter Try.func30, Try.ntmps30
      go_wp2_with (first | (go_at_call 119; refine (isSignal_any _ _).mono ?_; rintro e w' ⟨rfl, rfl⟩) | (go_at_call 128; refine (distanceOf_any _ _ (by omega) (by omega) _).mono ?_; rintro e w' ⟨rfl, rfl⟩))
      go_ret2
      exact ⟨ret_val (by simp [sigDT, ha, hb]), rfl⟩
theorem sSignalDistance_any (a b : Int) (w : World) : Calls Try.prog 31 #[.int .i64 a, .int .i64 b] w fun e w' => e = .returned (sigDT a b) ∧ Below w.heap.size w w' := by
  cases ha : inB a 0 63
  · go_enter Try.func31, Try.ntmps31
    go_wp2_with (go_at_call 121; refine (sgGood_any _ _).mono ?_; rintro e w' ⟨rfl, rfl⟩)
    go_ret2
    exact ⟨ret_val (by simp [sigDT, ha]), Below.refl _ _⟩
  · cases hb : inB b 0 63
    · go_enter Try.func31, Try.ntmps31
      go_wp2_with (go_at_call 121; refine (sgGood_any _ _).mono ?_; rintro e w' ⟨rfl, rfl⟩)
      go_ret2
      exact ⟨ret_val (by simp [sigDT, hb]), Below.refl _ _⟩
    · obtain ⟨ha0, ha1⟩ := inB_iff.1 ha
      obtain ⟨hb0, hb1⟩ := inB_iff.1 hb
      obtain ⟨a, rfl⟩ := Int.eq_ofNat_of_zero_le ha0
      obtain ⟨b, rfl⟩ := Int.eq_ofNat_of_zero_le hb0
      go_enter Try.func31, Try.ntmps31
      go_wp2_with (first | (go_at_call 121; refine (sgGood_any _ _).mono ?_; rintro e w' ⟨rfl, rfl⟩) | (go_at_call 129; refine (sgDistance_any _ _ (by omega) (by omega) _).mono ?_; rintro e w1 ⟨rfl, hb1⟩))
      go_ret2
      exact ⟨ret_val (by simp [sigDT, ha, hb]), hb1⟩
end Go.Proofs.Ytabiobjcfopakaa
/- Contracts of the helpers of the laws on slices of integers: copies, comparisons, marks; and of the tests that all numbers of a list lie within bounds. -/
namespace Go.Proofs.Ytabiobjcfopakaa
open Go.RowKit
/-- Block g is just the cells cs of element type t. -/
def Blk (w : World) (g : Nat) (t : TypeId) (cs : List Value) : Prop := w.heap[g]? = some (.cells cs.toArray t (0, 0))
section
variable {w w' : World} {g : Nat} {t : TypeId} {cs : List Value}
theorem Blk.lt (h : Blk w g t cs) : g < w.heap.size := by
  rcases Nat.lt_or_ge g w.heap.size with hlt | hge
  · exact hlt
  · unfold Blk at h; rw [Array.getElem?_eq_none hge] at h; cases h
theorem Blk.cell (h : Blk w g t cs) (i : Nat) : w.cell? ⟨g, i, Option.none⟩ = cs[i]? := by
  have := cell_of_row w g i cs.toArray t (0, 0) h
  rw [this]; simp
theorem Blk.frozen (h : Blk w g t cs) (i : Nat) : w.frozen? ⟨g, i, Option.none⟩ = false := by
  unfold Blk at h
  simp [World.frozen?, h]
theorem Blk.new (w : World) (t : TypeId) (cs : Array Value) : Blk (w.alloc (.cells cs t)) w.heap.size t cs.toList := heap_alloc_new w _
theorem Blk.alloc (h : Blk w g t cs) (o : Obj) : Blk (w.alloc o) g t cs := (Below.heap_alloc w o g h.lt).trans h
theorem Blk.set_ (h : Blk w g t cs) (i : Nat) (u : Value) : Blk (w.setCell ⟨g, i, Option.none⟩ u) g t (cs.set i u) := by
  unfold Blk at h ⊢
  simp [World.setCell, Array.getElem?_modify, h]
theorem Blk.far (h : Blk w g t cs) {p : Addr} (hp : g ≠ p.block) (u : Value) : Blk (w.setCell p u) g t cs := (Below.heap_setCell w p u g hp).trans h
theorem Blk.below {B : Nat} (h : Blk w g t cs) (hb : Below B w w') (hg : g < B) : Blk w' g t cs := (hb.block g hg).trans h
end
theorem bel_drewN (B : Nat) (w : World) (n : Nat) : Below B w (w.drewN n) := ⟨rfl, rfl, rfl, Nat.le_refl _, fun _ _ => rfl⟩
theorem set_mid (A B : List Value) (u v : Value) : (A ++ u :: B).set A.length v = A ++ v :: B := by
  rw [List.set_append_right _ _ (Nat.le_refl _)]; simp
/-- Nothing outside the blocks from lo to below hi has turned, and none has come. -/
structure Keep (lo hi : Nat) (w w' : World) : Prop where
  os : w'.os = w.os
  tape : w'.tape = w.tape
  output : w'.output = w.output
  size : w'.heap.size = w.heap.size
  block : ∀ k, k < lo ∨ hi ≤ k → w'.heap[k]? = w.heap[k]?
theorem Keep.refl (lo hi : Nat) (w : World) : Keep lo hi w w := ⟨rfl, rfl, rfl, rfl, fun _ _ => rfl⟩
theorem Keep.trans {lo hi : Nat} {a b c : World} (h : Keep lo hi a b) (k : Keep lo hi b c) : Keep lo hi a c :=
  ⟨k.os.trans h.os, k.tape.trans h.tape, k.output.trans h.output, k.size.trans h.size, fun i hi => (k.block i hi).trans (h.block i hi)⟩
theorem keep_drewN (lo hi : Nat) (w : World) (n : Nat) : Keep lo hi w (w.drewN n) := ⟨rfl, rfl, rfl, rfl, fun _ _ => rfl⟩
theorem Keep.mono {lo hi lo' hi' : Nat} {w w' : World} (h : Keep lo hi w w') (h1 : lo' ≤ lo) (h2 : hi ≤ hi') : Keep lo' hi' w w' :=
  ⟨h.os, h.tape, h.output, h.size, fun k hk => h.block k (by omega)⟩
theorem Keep.setCell {lo hi : Nat} {a w : World} (h : Keep lo hi a w) {p : Addr} (h1 : lo ≤ p.block) (h2 : p.block < hi) (u : Value) : Keep lo hi a (w.setCell p u) :=
  h.trans ⟨rfl, rfl, rfl, by simp [World.setCell], fun k hk => Below.heap_setCell _ _ _ _ (by omega)⟩
theorem Keep.bel {lo hi : Nat} {w w' : World} (h : Keep lo hi w w') : Below lo w w' := ⟨h.os, h.tape, h.output, Nat.le_of_eq h.size.symm, fun k hk => h.block k (.inl hk)⟩
/-- Nothing but block b has turned, and none has come. -/
structure Only (b : Option Nat) (w w' : World) : Prop where
  os : w'.os = w.os
  tape : w'.tape = w.tape
  output : w'.output = w.output
  size : w'.heap.size = w.heap.size
  block : ∀ k, some k ≠ b → w'.heap[k]? = w.heap[k]?
theorem Only.refl (b : Option Nat) (w : World) : Only b w w := ⟨rfl, rfl, rfl, rfl, fun _ _ => rfl⟩
theorem Only.setCell {b : Nat} {a w : World} (h : Only (some b) a w) {p : Addr} (hp : p.block = b) (u : Value) : Only (some b) a (w.setCell p u) :=
  ⟨h.os, h.tape, h.output, by simpa [World.setCell] using h.size, fun k hk => (Below.heap_setCell _ _ _ _ (by rintro rfl; exact hk (by rw [hp]))).trans (h.block k hk)⟩
theorem Only.keep {b : Option Nat} {lo hi : Nat} {w w' : World} (h : Only b w w') (hb : ∀ g, b = some g → lo ≤ g ∧ g < hi) : Keep lo hi w w' :=
  ⟨h.os, h.tape, h.output, h.size, fun k hk => h.block k (fun e => by have := hb k e.symm; omega)⟩
theorem OwI.only {w w' : World} {lo hi : Nat} {b : Option Nat} {v : Value} {xs : List Int} (h : OwI w lo hi v xs) (hk : Only b w w') (hd : ∀ g, v.ownBlock = some g → b ≠ some g) : OwI w' lo hi v xs := by
  refine ⟨⟨h.1.1, ?_⟩, h.2⟩
  rcases h.1.2 with hn | ⟨g, cap, cur, rfl, hl, hg, rest⟩
  · exact .inl hn
  · exact .inr ⟨g, cap, cur, rfl, hl, (hk.block g (fun e => hd g rfl e.symm)).trans hg, rest⟩
theorem OwI.range {w : World} {lo hi : Nat} {v : Value} {xs : List Int} (h : OwI w lo hi v xs) : ∀ g, v.ownBlock = some g → lo ≤ g ∧ g < hi := fun g hg => ⟨(h.1.lt g hg).1, h.2 g hg⟩
theorem OwI.keep {w w' : World} {lo hi a b : Nat} {v : Value} {xs : List Int} (h : OwI w lo hi v xs) (hk : Keep a b w w') (hd : hi ≤ a ∨ b ≤ lo) : OwI w' lo hi v xs := by
  refine ⟨⟨h.1.1, ?_⟩, h.2⟩
  have h2 := h.2
  rcases h.1.2 with hn | ⟨g, cap, cur, rfl, hl, hg, rest⟩
  · exact .inl hn
  · exact .inr ⟨g, cap, cur, rfl, hl, (hk.block g (by have := h2 g rfl; omega)).trans hg, rest⟩
theorem own_of_blk {w : World} {lo hi g : Nat} {xs : List Int} (h : Blk w g 3 (ints xs)) (h1 : lo ≤ g) (h2 : g < hi) (hm : xs.length ≤ maxLen) : OwI w lo hi (.slice (some ⟨g, 0, Option.none⟩) xs.length xs.length) xs :=
  ⟨⟨by simp, .inr ⟨g, xs.length, (ints xs).toArray, rfl, h1, h, Nat.le_refl _, hm, by simp, by simp [ints, List.take_of_length_le]⟩⟩, fun k hk => by cases hk; exact h2⟩
theorem run_make_rowN {P : Program} (t e : TypeId) (i : TypeInfo) (z : Value) (ht : P.underlying t = some (.slice e)) (hi : P.info? e = some i) (hz : i.zero = some z)
    (kl kc : IntKind) (n c : Nat) (hnc : n ≤ c) (hbytes : i.bytes * c ≤ 281474976710656) (h63 : c ≤ 9223372036854775807) (w : World) :
    (Instr.makeSlice t (.int kl (n : Int)) (.int kc (c : Int))).run P w = .ok (.slice (some ⟨w.heap.size, 0, Option.none⟩) n c) (w.alloc (.cells (madeCells z.cells (c * i.size)) e)) := by
  have hb : (i.bytes : Int) * (c : Int) ≤ 281474976710656 := by
    have h : ((i.bytes * c : Nat) : Int) ≤ 281474976710656 := by omega
    rwa [Int.natCast_mul] at h
  have hr := run_make (P := P) w t e i z ht hi hz kl kc n c (by omega) (by omega) hb (by omega)
  simp only [Int.toNat_natCast] at hr
  exact hr
/-- Room for n integers, all 0, behind a name. -/
def zeros (n : Nat) : Array Value := (List.replicate n (Value.int .i64 0)).toArray
theorem make_ints (n : Nat) (hn : n ≤ 1099511627776) (w : World) :
    (Instr.makeSlice 29 (.int .i64 (n : Int)) (.int .i64 (n : Int))).run Try.prog w = .ok (.slice (some ⟨w.heap.size, 0, Option.none⟩) n n) (w.alloc (.cells (zeros n) 3)) := by
  obtain ⟨i, hi, hz0, hz1, hz2⟩ := info_parts info_int
  have h := run_make_rowN (P := Try.prog) 29 3 i (.int .i64 0) Try.underlying29 hi hz0 .i64 .i64 n n (Nat.le_refl _) (by rw [hz2]; omega) (by omega) w
  rw [h, hz1]
  have e : madeCells (Value.int .i64 0).cells (n * 1) = zeros n := by
    apply Array.ext
    · simp [madeCells, zeros]
    · intro j h1 h2
      simp [madeCells, zeros, Value.cells, Nat.mod_one]
  rw [e]
theorem Rd.at_ {w : World} {hi : Nat} {v : Value} {n : Nat} {xs : List Int} (h : Rd w hi 1 v n (ints xs)) {k : Nat} (hk : k < n) :
    ∃ b off c y, v = .slice (some ⟨b, off, Option.none⟩) n c ∧ b < hi ∧ xs[k]? = some y ∧ w.cell? ⟨b, off + k, Option.none⟩ = some (.int .i64 y) := by
  obtain ⟨h0, A, c, h1, _, _, h4⟩ := h
  obtain ⟨b, off, rfl, hb, hc⟩ := h4 (by omega)
  have hl : xs.length = n := by simpa using h0
  exact ⟨b, off, c, xs[k], h1, hb, by simp [hl, hk], hc k _ (by simp [hl, hk])⟩
theorem Rd.form {w : World} {hi size : Nat} {v : Value} {n : Nat} {xs : List Value} (h : Rd w hi size v n xs) : ∃ A c, v = .slice A n c ∧ n ≤ c ∧ n ≤ 9223372036854775807 := by
  obtain ⟨_, A, c, h1, h2, h3, _⟩ := h
  exact ⟨A, c, h1, h2, by unfold maxLen at h3; omega⟩
def allB (xs : List Int) (a b : Int) : Bool := xs.all fun x => inB x a b
theorem take_snocI {xs : List Int} {k : Nat} {y : Int} (h : xs[k]? = some y) : xs.take (k + 1) = xs.take k ++ [y] := by rw [List.take_add_one, h]; rfl
theorem allB_take {xs : List Int} {k : Nat} {y a b : Int} (h : xs[k]? = some y) (ht : allB (xs.take k) a b = true) (hy : inB y a b = true) : allB (xs.take (k + 1)) a b = true := by
  rw [take_snocI h]; unfold allB at *; rw [List.all_append, ht]; simp [hy]
theorem allB_no {xs : List Int} {k : Nat} {y a b : Int} (h : xs[k]? = some y) (hy : inB y a b = false) : allB xs a b = false := by
  unfold allB; rw [List.all_eq_false]
  exact ⟨y, List.mem_of_getElem? h, by simp [hy]⟩
theorem allB_full {xs : List Int} {k : Nat} {a b : Int} (h : ¬ k < xs.length) (ht : allB (xs.take k) a b = true) : allB xs a b = true := by rwa [List.take_of_length_le (by omega)] at ht
theorem allWithin_any (xs : List Int) (a b : Int) (v : Value) (hi : Nat) (w : World) (h : RdI w hi v xs) : Calls Try.prog 181 #[v, .int .i64 a, .int .i64 b] w fun e w' => e = .returned (.bool (allB xs a b)) ∧ w = w' := by
  obtain ⟨A, c, rfl, hc, hm⟩ := Rd.form h
  have H := Lib.hid h
  clear h
  go_enter Try.func181, Try.ntmps181
  go_wp2
  go_loop [11] (fun i => ∃ k : Nat, k ≤ xs.length ∧ i = .int .i64 k ∧ Hid (allB (xs.take k) a b = true)) (fun i => xs.length - (intOf i).toNat)
  case atStart => exact ⟨0, Nat.zero_le _, rfl, rfl⟩
  case round =>
    obtain ⟨k, hk, rfl, hall⟩ := hrel
    by_cases hlt : k < xs.length
    · obtain ⟨b', off, c', y, hv, _, hy, hcell⟩ := Rd.at_ H.out hlt
      cases hv
      have HY := Lib.hid hy
      clear hy
      cases hin : inB y a b
      · go_wp2_with (go_at_call 125; refine (within_any _ _ _ _).mono ?_; rintro e w' ⟨rfl, rfl⟩)
        go_ret
        exact ⟨ret_bool (allB_no HY.out hin).symm, rfl⟩
      · go_wp2_with (go_at_call 125; refine (within_any _ _ _ _).mono ?_; rintro e w' ⟨rfl, rfl⟩)
        go_round
        case rel => exact ⟨k + 1, by omega, by go_num, allB_take HY.out hall.out hin⟩
        case measure => simp [intOf]; omega
    · go_wp2
      go_ret
      exact ⟨ret_bool (allB_full hlt hall.out).symm, rfl⟩
theorem l1All_any (xs : List Int) (a b : Int) (v : Value) (hi : Nat) (w : World) (h : RdI w hi v xs) : Calls Try.prog 184 #[v, .int .i64 a, .int .i64 b] w fun e w' => e = .returned (.bool (allB xs a b)) ∧ w = w' := by
  obtain ⟨A, c, rfl, hc, hm⟩ := Rd.form h
  have H := Lib.hid h
  clear h
  go_enter Try.func184, Try.ntmps184
  go_wp2
  go_loop [11] (fun i => ∃ k : Nat, k ≤ xs.length ∧ i = .int .i64 k ∧ Hid (allB (xs.take k) a b = true)) (fun i => xs.length - (intOf i).toNat)
  case atStart => exact ⟨0, Nat.zero_le _, rfl, rfl⟩
  case round =>
    obtain ⟨k, hk, rfl, hall⟩ := hrel
    by_cases hlt : k < xs.length
    · obtain ⟨b', off, c', y, hv, _, hy, hcell⟩ := Rd.at_ H.out hlt
      cases hv
      have HY := Lib.hid hy
      clear hy
      cases hin : inB y a b
      · go_wp2_with (go_at_call 191; refine (l1In_any _ _ _ _).mono ?_; rintro e w' ⟨rfl, rfl⟩)
        go_ret
        exact ⟨ret_bool (allB_no HY.out hin).symm, rfl⟩
      · go_wp2_with (go_at_call 191; refine (l1In_any _ _ _ _).mono ?_; rintro e w' ⟨rfl, rfl⟩)
        go_round
        case rel => exact ⟨k + 1, by omega, by go_num, allB_take HY.out hall.out hin⟩
        case measure => simp [intOf]; omega
    · go_wp2
      go_ret
      exact ⟨ret_bool (allB_full hlt hall.out).symm, rfl⟩
theorem eq_take {xs ys : List Int} {k : Nat} {y : Int} (hx : xs[k]? = some y) (hy : ys[k]? = some y) (ht : xs.take k = ys.take k) : xs.take (k + 1) = ys.take (k + 1) := by rw [take_snocI hx, take_snocI hy, ht]
theorem eq_no {xs ys : List Int} {k : Nat} {x y : Int} (hx : xs[k]? = some x) (hy : ys[k]? = some y) (hne : x ≠ y) : decide (xs = ys) = false := by
  rw [decide_eq_false_iff_not]; rintro rfl; rw [hx] at hy; cases hy; exact hne rfl
theorem eq_full {xs ys : List Int} {k : Nat} (h : ¬ k < xs.length) (hl : xs.length = ys.length) (ht : xs.take k = ys.take k) : decide (xs = ys) = true := by
  rw [List.take_of_length_le (by omega), List.take_of_length_le (by omega)] at ht; simp [ht]
theorem eqIntS_any (xs ys : List Int) (v u : Value) (hi hj : Nat) (w : World) (h : RdI w hi v xs) (g : RdI w hj u ys) : Calls Try.prog 57 #[v, u] w fun e w' => e = .returned (.bool (decide (xs = ys))) ∧ ∃ n, w' = w.drewN n := by
  obtain ⟨A, c, rfl, hc, hm⟩ := Rd.form h
  obtain ⟨A', c', rfl, hc', hm'⟩ := Rd.form g
  have H := Lib.hid h
  have G := Lib.hid g
  clear h g
  by_cases hl : xs.length = ys.length
  · have HL := Lib.hid hl
    rw [← hl]
    rw [← hl] at hc' hm'
    clear hl
    go_enter Try.func57, Try.ntmps57
    go_wp2
    go_loopw [5] (fun i wr => ∃ k : Nat, k ≤ xs.length ∧ i = .int .i64 k ∧ Hid (xs.take k = ys.take k) ∧ ∃ n, wr = w.drewN n) (fun i _ => xs.length - (intOf i).toNat)
    case atStart => exact ⟨0, Nat.zero_le _, rfl, rfl, 0, rfl⟩
    case round =>
      obtain ⟨k, hk, rfl, heq, n, rfl⟩ := hrel
      by_cases hlt : k < xs.length
      · obtain ⟨b1, o1, c1, x, hv, _, hx, hcell1⟩ := Rd.at_ H.out hlt
        cases hv
        obtain ⟨b2, o2, c2, y, hv, _, hy, hcell2⟩ := Rd.at_ G.out (by rw [← HL.out]; exact hlt)
        have HX := Lib.hid hx
        have HY := Lib.hid hy
        injection hv with hv1 hv2 hv3
        subst hv1
        clear hx hy hv2 hv3
        by_cases hxy : x = y
        · subst hxy
          go_wp2
          go_quiet (fail)
          go_wp2
          go_roundw
          case rel => exact ⟨k + 1, by omega, by go_num, eq_take HX.out HY.out heq.out, _, rfl⟩
          case measure => simp [intOf]; omega
        · have hbe : (x == y) = false := by simpa using hxy
          have hbn : (x != y) = true := by simpa using hxy
          go_wp2
          go_quiet (fail)
          go_wp2
          go_ret
          exact ⟨ret_bool (eq_no HX.out HY.out hxy).symm, _, World.drewN_drewN _ _ _⟩
      · go_wp2
        go_ret
        exact ⟨ret_bool (eq_full hlt HL.out heq.out).symm, _, rfl⟩
  · have hne : (((xs.length : Nat) : Int) != ((ys.length : Nat) : Int)) = true := by rw [bne_iff_ne]; omega
    go_enter Try.func57, Try.ntmps57
    go_wp2
    go_ret
    refine ⟨ret_bool ?_, 0, rfl⟩
    symm; rw [decide_eq_false_iff_not]; rintro rfl; exact hl rfl
/-- The first k of the numbers, then zeros, in n cells. -/
def partI (xs : List Int) (k : Nat) : List Value := ints (xs.take k) ++ List.replicate (xs.length - k) (Value.int .i64 0)
theorem partI_zero (xs : List Int) : partI xs 0 = (zeros xs.length).toList := by simp [partI, zeros, ints]
theorem partI_full (xs : List Int) : partI xs xs.length = ints xs := by simp [partI, ints]
theorem partI_step {xs : List Int} {k : Nat} {y : Int} (h : xs[k]? = some y) : (partI xs k).set k (.int .i64 y) = partI xs (k + 1) := by
  have hk : k < xs.length := (List.getElem?_eq_some_iff.1 h).1
  have e : List.replicate (xs.length - k) (Value.int .i64 0) = Value.int .i64 0 :: List.replicate (xs.length - (k + 1)) (Value.int .i64 0) := by
    rw [show xs.length - k = (xs.length - (k + 1)) + 1 by omega]; rfl
  have hl : (ints (xs.take k)).length = k := by simp; omega
  unfold partI
  rw [e, take_snocI h]
  have := set_mid (ints (xs.take k)) (List.replicate (xs.length - (k + 1)) (Value.int .i64 0)) (Value.int .i64 0) (.int .i64 y)
  rw [hl] at this
  rw [this]; simp [ints]
theorem partI_at {xs : List Int} {k : Nat} (h : k < xs.length) : (partI xs k)[k]? = some (.int .i64 0) := by
  have hl : (ints (xs.take k)).length = k := by simp; omega
  unfold partI
  rw [List.getElem?_append_right (by omega), hl, Nat.sub_self, List.getElem?_replicate, if_pos (by omega)]
theorem toIntS_any (xs : List Int) (v : Value) (hi : Nat) (w : World) (h : RdI w hi v xs) (hlen : xs.length ≤ 1099511627776) (hhi : hi ≤ w.heap.size) : Calls Try.prog 54 #[v] w (RetOwI xs w) := by
  obtain ⟨A, c, rfl, hc, hm⟩ := Rd.form h
  have H := Lib.hid h
  clear h
  have hmk := make_ints xs.length hlen
  go_enter Try.func54, Try.ntmps54
  go_wp2
  go_loopw [4] (fun i wr => ∃ k : Nat, k ≤ xs.length ∧ i = .int .i64 k ∧ Blk wr w.heap.size 3 (partI xs k) ∧ Below w.heap.size w wr) (fun i _ => xs.length - (intOf i).toNat)
  case atStart => exact ⟨0, Nat.zero_le _, rfl, by rw [partI_zero]; exact Blk.new _ _ _, (Below.refl _ _).alloc (Nat.le_refl _) _⟩
  case round =>
    obtain ⟨k, hk, rfl, hblk, hbel⟩ := hrel
    by_cases hlt : k < xs.length
    · obtain ⟨b1, o1, c1, x, hv, hb1, hx, hcell1⟩ := Rd.at_ (Rd.below H.out hbel hhi) hlt
      cases hv
      have hcell2 := hblk.cell k
      rw [partI_at hlt] at hcell2
      have hfr := hblk.frozen k
      have HX := Lib.hid hx
      clear hx
      go_wp2
      go_roundw
      case rel => exact ⟨k + 1, by omega, by go_num, by rw [← partI_step HX.out]; exact hblk.set_ _ _, hbel.setCell (Nat.le_refl _) _⟩
      case measure => simp [intOf]; omega
    · obtain rfl : k = xs.length := by omega
      rw [partI_full] at hblk
      go_wp2
      go_ret
      exact ⟨_, rfl, own_of_blk hblk (Nat.le_refl _) hblk.lt (by unfold maxLen; omega), hbel⟩
/-- n numbers from k on. -/
def marks (k n : Nat) : List Int := (List.range n).map fun i : Nat => ((k + i : Nat) : Int)
theorem marks_len (k n : Nat) : (marks k n).length = n := by simp [marks]
theorem marks_succ (k n : Nat) : marks k (n + 1) = marks k n ++ [((k + n : Nat) : Int)] := by simp [marks, List.range_succ]
theorem marks_at {k n j : Nat} (h : j < n) : (marks k n)[j]? = some ((k + j : Nat) : Int) := by simp [marks, h]
/-- Behind j rounds: j marks, then what was there. -/
def mixI (k j : Nat) (xs : List Int) (rest : List Value) : List Value := ints (marks k j) ++ (ints (xs.drop j) ++ rest)
theorem mixI_step {k j : Nat} {xs : List Int} {rest : List Value} (h : j < xs.length) : (mixI k j xs rest).set j (.int .i64 ((k + j : Nat) : Int)) = mixI k (j + 1) xs rest := by
  have e : xs.drop j = xs[j] :: xs.drop (j + 1) := List.drop_eq_getElem_cons h
  have hl : (ints (marks k j)).length = j := by simp [marks_len]
  unfold mixI
  rw [e]
  have := set_mid (ints (marks k j)) (ints (xs.drop (j + 1)) ++ rest) (.int .i64 xs[j]) (.int .i64 ((k + j : Nat) : Int))
  rw [hl] at this
  simp only [ints, List.map_cons, List.cons_append] at this ⊢
  rw [this, marks_succ]; simp
theorem mixI_at {k j : Nat} {xs : List Int} {rest : List Value} (h : j < xs.length) : ∃ u, (mixI k j xs rest)[j]? = some (.int .i64 u) := by
  have hl : (ints (marks k j)).length = j := by simp [marks_len]
  unfold mixI
  rw [List.getElem?_append_right (by omega), hl, Nat.sub_self, List.drop_eq_getElem_cons h]
  exact ⟨xs[j], rfl⟩
set_option maxHeartbeats 400000 in
theorem markIntS_only (xs : List Int) (v : Value) (lo hi k : Nat) (w : World) (h : OwI w lo hi v xs) (hk : k ≤ 1099511627776) (hlen : xs.length ≤ 1099511627776) :
    Calls Try.prog 58 #[v, .int .i64 (k : Int)] w fun e w' => e = .returned (.int .i64 ((k + xs.length : Nat) : Int)) ∧ OwI w' lo hi v (marks k xs.length) ∧ Only v.ownBlock w w' := by
  rcases h.1.2 with ⟨rfl, hn⟩ | ⟨g, cap, cur, rfl, hg1, hg2, hcap, hm, hs, ht⟩
  · have : xs = [] := List.eq_nil_of_length_eq_zero hn
    subst this
    have H := Lib.hid h
    clear h hn
    go_enter Try.func58, Try.ntmps58
    go_wp2
    go_loop [1, 5] (fun q i => i = .int .i64 0 ∧ q = .int .i64 (k : Int)) (fun _ _ => 0)
    case atStart => exact ⟨rfl, rfl⟩
    case round =>
      obtain ⟨rfl, rfl⟩ := hrel
      go_wp2
      go_ret
      exact ⟨rfl, H.out, Only.refl _ _⟩
  · have hg3 := h.2 g rfl
    have hrest : ∃ rest, cur.toList = ints xs ++ rest ∧ rest.length = cap - xs.length := ⟨cur.toList.drop xs.length, by rw [← List.take_append_drop xs.length cur.toList]; congr 1 <;> simp_all, by simp; omega⟩
    obtain ⟨rest, hcur, hrl⟩ := hrest
    have hb0 : Blk w g 3 (mixI k 0 xs rest) := by
      unfold Blk; rw [hg2]; congr 2
      unfold mixI; simp [marks, ← hcur]
    have HL := Lib.hid hrl
    clear hg2 hs ht hcur hrl h
    unfold maxLen at hm
    go_enter Try.func58, Try.ntmps58
    go_wp2
    go_loopw [1, 5] (fun q i wr => ∃ j : Nat, j ≤ xs.length ∧ i = .int .i64 j ∧ q = .int .i64 ((k + j : Nat) : Int) ∧ Blk wr g 3 (mixI k j xs rest) ∧ Only (some g) w wr) (fun _ i _ => xs.length - (intOf i).toNat)
    case atStart => exact ⟨0, Nat.zero_le _, rfl, rfl, hb0, Only.refl _ _⟩
    case round =>
      obtain ⟨j, hj, rfl, rfl, hblk, hkeep⟩ := hrel
      by_cases hlt : j < xs.length
      · obtain ⟨u, hu⟩ := mixI_at (k := k) (rest := rest) hlt
        have hcell2 := hblk.cell j
        rw [hu] at hcell2
        have hfr := hblk.frozen j
        clear hu
        go_wp2
        go_roundw
        case rel => exact ⟨j + 1, by omega, by go_num, int_val (by omega), by rw [← mixI_step hlt]; exact hblk.set_ _ _, hkeep.setCell (p := ⟨g, j, Option.none⟩) rfl _⟩
        case measure => simp [intOf]; omega
      · obtain rfl : j = xs.length := by omega
        go_wp2
        go_ret
        refine ⟨rfl, ⟨⟨by simp [marks_len], .inr ⟨g, cap, (mixI k xs.length xs rest).toArray, by rw [marks_len], hg1, hblk, by rw [marks_len]; exact hcap, by unfold maxLen; omega, ?_, ?_⟩⟩, fun q hq => by cases hq; exact hg3⟩, hkeep⟩
        · have := HL.out; simp [mixI, marks_len]; omega
        · simp [mixI, marks_len, ints]
theorem markIntS_any (xs : List Int) (v : Value) (lo hi k : Nat) (w : World) (h : OwI w lo hi v xs) (hk : k ≤ 1099511627776) (hlen : xs.length ≤ 1099511627776) :
    Calls Try.prog 58 #[v, .int .i64 (k : Int)] w fun e w' => e = .returned (.int .i64 ((k + xs.length : Nat) : Int)) ∧ OwI w' lo hi v (marks k xs.length) ∧ Keep lo hi w w' :=
  (markIntS_only xs v lo hi k w h hk hlen).mono fun _ _ ⟨he, h1, h2⟩ => ⟨he, h1, h2.keep h.range⟩
theorem markIntS_ex (xs : List Int) (v : Value) (lo hi k : Nat) (w : World) (h : OwI w lo hi v xs) (hk : k ≤ 1099511627776) (hlen : xs.length ≤ 1099511627776) :
    Calls Try.prog 58 #[v, .int .i64 (k : Int)] w fun e w' => ∃ q : Nat, e = .returned (.int .i64 (q : Int)) ∧ q ≤ k + xs.length ∧ OwI w' lo hi v (marks k xs.length) ∧ Keep lo hi w w' :=
  (markIntS_any xs v lo hi k w h hk hlen).mono fun _ _ ⟨he, h1, h2⟩ => ⟨_, he, Nat.le_refl _, h1, h2⟩
theorem heldIntS_any (n : Nat) (v : Value) (hi k : Nat) (w : World) (h : RdI w hi v (marks k n)) (hk : k ≤ 1099511627776) (hlen : n ≤ 1099511627776) :
    Calls Try.prog 63 #[v, .int .i64 (k : Int)] w fun e w' => e = .returned (.int .i64 ((k + n : Nat) : Int)) ∧ w = w' := by
  unfold RdI at h
  rw [marks_len] at h
  obtain ⟨A, c, rfl, hc, hm⟩ := Rd.form h
  have H := Lib.hid h
  clear h
  go_enter Try.func63, Try.ntmps63
  go_wp2
  go_loop [1, 5] (fun q i => ∃ j : Nat, j ≤ n ∧ i = .int .i64 j ∧ q = .int .i64 ((k + j : Nat) : Int)) (fun _ i => n - (intOf i).toNat)
  case atStart => exact ⟨0, Nat.zero_le _, rfl, rfl⟩
  case round =>
    obtain ⟨j, hj, rfl, rfl⟩ := hrel
    by_cases hlt : j < n
    · obtain ⟨b1, o1, c1, x, hv, _, hx, hcell1⟩ := Rd.at_ H.out hlt
      cases hv
      rw [marks_at hlt] at hx
      cases hx
      go_wp2
      go_round
      case rel => exact ⟨j + 1, by omega, by go_num, int_val (by omega)⟩
      case measure => simp [intOf]; omega
    · obtain rfl : j = n := by omega
      go_wp2
      go_ret
      exact ⟨rfl, rfl⟩
/-- Two results: a row of ints of the call's own, and a bool. -/
def RetOwT (xs : List Int) (b : Bool) (w : World) (e : Ending) (w' : World) : Prop := ∃ v, e = .returned (.tuple #[v, .bool b]) ∧ OwI w' w.heap.size w'.heap.size v xs ∧ Below w.heap.size w w'
theorem owI_nil (w : World) (lo hi : Nat) : OwI w lo hi (.slice Option.none 0 0) [] := ⟨World.ownsRow_nil _ _ _ _, fun k hk => by cases hk⟩
theorem retOwT_nil (w : World) (b : Bool) : RetOwT [] b w (.returned (.tuple #[.slice Option.none 0 0, .bool b])) w := ⟨_, rfl, owI_nil _ _ _, Below.refl _ _⟩
theorem OwI.form {w : World} {lo hi : Nat} {v : Value} {xs : List Int} (h : OwI w lo hi v xs) : ∃ A c, v = .slice A xs.length c ∧ xs.length ≤ 9223372036854775807 := by
  obtain ⟨A, c, h1, _, h2⟩ := Rd.form h.rd
  exact ⟨A, c, h1, h2⟩
theorem eqIntS_same (xs : List Int) (v u : Value) (hi hj : Nat) (w : World) (h : RdI w hi v xs) (g : RdI w hj u xs) : Calls Try.prog 57 #[v, u] w fun e w' => e = .returned (.bool true) ∧ ∃ n, w' = w.drewN n :=
  (eqIntS_any xs xs v u hi hj w h g).mono fun _ _ ⟨he, hw⟩ => ⟨by rw [he]; simp, hw⟩
theorem eqIntS_sameB (xs : List Int) (v u : Value) (hi hj : Nat) (w : World) (h : RdI w hi v xs) (g : RdI w hj u xs) : Calls Try.prog 57 #[v, u] w fun e w' => e = .returned (.bool true) ∧ Below w.heap.size w w' :=
  (eqIntS_same xs v u hi hj w h g).mono fun _ _ ⟨he, _, hw⟩ => ⟨he, by rw [hw]; exact bel_drewN _ _ _⟩
end Go.Proofs.Ytabiobjcfopakaa
/- What an argument that reads as data looks like in memory: slices of integers, slices of such slices. -/
namespace Go.Proofs.Ytabiobjcfopakaa
open Go.ChangeShapes Go.WideShapes Go.ChangeAt Go.RowKit Go.Deep
theorem cells_one {w : World} {base : Nat} {a : Addr} {cs : List Value} (h : w.cells? base a 1 = some cs) : ∃ v, cs = [v] ∧ w.cell? a = some v ∧ base ≤ a.block := by
  unfold World.cells? at h
  split at h
  · rename_i hb
    have hl := mapM_some_length h
    have hg := mapM_some_get h 0 0 rfl
    match cs, hl with
    | [v], _ => exact ⟨v, rfl, by simpa [Addr.add] using hg, hb⟩
  · cases h
theorem spot_of {w : World} {a : Addr} {v : Value} (h : w.cell? a = some v) : ∃ b off, a = ⟨b, off, Option.none⟩ ∧ b < w.heap.size := by
  obtain ⟨b, off, spot⟩ := a
  have hs : spot = Option.none := by simpa using World.cell?_spot h
  subst hs
  exact ⟨b, off, rfl, World.block_lt_of_cell? w ⟨b, off, Option.none⟩ h⟩
theorem trod_int1 {H : Type} {enc : TypeId × Value → H} {P : Program} {w : World} {base : Nat} {spare : Nat → Bool} {held : Bool} {fuel : Nat} {t : TypeId} {v : Value} {x : DataW H × List MemPlace} {k : IntKind}
    (ht : P.underlying t = some (.int k)) (h : DataW.trod enc P w base spare held fuel t [v] = some x) : ∃ n, v = .int k n := by
  obtain ⟨n, e1, _⟩ := DataW.trod_int ht h
  exact ⟨n, by simpa using e1⟩
theorem list_of (n : Nat) (f : Nat → Int) : ((List.range n).map f).length = n := by simp
/-- A slice whose elements have one cell each reads as a row of values. -/
theorem open_row {H : Type} {enc : TypeId × Value → H} {P : Program} {w : World} {spare : Nat → Bool} {held : Bool} {fuel : Nat} {t e : TypeId} {v : Value} {x : DataW H × List MemPlace}
    (ht : P.underlying t = some (.slice e)) (he : P.cellsOf e = 1) (h : DataW.trod enc P w 0 spare held fuel t [v] = some x) :
    ∃ (n : Nat) (vs : List Value), Rd w w.heap.size 1 v n vs ∧ vs.length = n ∧ ∀ (i : Nat) (u : Value), vs[i]? = some u → ∃ f y, DataW.trod enc P w 0 spare held f e [u] = some y := by
  rcases open_slice ht h with ⟨hv, _⟩ | ⟨a, len, cap, m, n, D, Pl, hv, hb, hl, hm, hmm, hx, hcell⟩
  · simp only [List.cons.injEq, and_true] at hv
    subst hv
    exact ⟨0, [], ⟨rfl, Option.none, 0, rfl, Nat.le_refl _, Nat.zero_le _, fun h => absurd h (by omega)⟩, rfl, fun i u hu => by simp at hu⟩
  · simp only [List.cons.injEq, and_true] at hv
    subst hv
    have hlm : len ≤ m := by rw [hmm]; split <;> omega
    have hk : ∀ i, ∃ u, i < len → w.cell? (a.add i) = some u ∧ ∃ y, DataW.trod enc P w 0 spare held n e [u] = some y := by
      intro i
      by_cases hi : i < len
      · obtain ⟨cs', hc1, hc2⟩ := hcell i (by omega)
        rw [he, Nat.mul_one] at hc1
        obtain ⟨u, rfl, hu, _⟩ := cells_one hc1
        exact ⟨u, fun _ => ⟨hu, _, hc2⟩⟩
      · exact ⟨undef, fun h => absurd h hi⟩
    obtain ⟨V, hV⟩ : ∃ V : Nat → Value, ∀ i, i < len → w.cell? (a.add i) = some (V i) ∧ ∃ y, DataW.trod enc P w 0 spare held n e [V i] = some y := ⟨fun i => Classical.choose (hk i), fun i => Classical.choose_spec (hk i)⟩
    clear hk
    refine ⟨len, (List.range len).map V, ⟨by simp, some a, cap, rfl, hl, hm, fun hpos => ?_⟩, by simp, fun i u hu => ?_⟩
    · have h0 := (hV 0 hpos).1
      obtain ⟨b, off, ha, hlt⟩ := spot_of h0
      have ha' : a = ⟨b, off, Option.none⟩ := by simpa [Addr.add] using ha
      subst ha'
      refine ⟨b, off, rfl, hlt, fun j u hu => ?_⟩
      have hj : j < len := by
        rcases Nat.lt_or_ge j len with h | h
        · exact h
        · rw [List.getElem?_eq_none (by simp; exact h)] at hu; cases hu
      simp [hj] at hu
      have := (hV j hj).1
      rw [hu, add_plain] at this
      exact this
    · have hj : i < len := by
        rcases Nat.lt_or_ge i len with h | h
        · exact h
        · rw [List.getElem?_eq_none (by simp; exact h)] at hu; cases hu
      simp [hj] at hu
      obtain ⟨_, y, hy⟩ := hV i hj
      rw [hu] at hy
      exact ⟨n, y, hy⟩
theorem ints_of (vs : List Value) (h : ∀ (i : Nat) (u : Value), vs[i]? = some u → ∃ n, u = Value.int .i64 n) : ∃ xs, vs = ints xs := by
  induction vs with
  | nil => exact ⟨[], rfl⟩
  | cons v r ih =>
    obtain ⟨n, hn⟩ := h 0 v rfl
    obtain ⟨xs, hxs⟩ := ih (fun i u hu => h (i + 1) u (by simpa using hu))
    exact ⟨n :: xs, by rw [hn, hxs]; rfl⟩
theorem open_intS {H : Type} {enc : TypeId × Value → H} {w : World} {spare : Nat → Bool} {held : Bool} {fuel : Nat} {v : Value} {x : DataW H × List MemPlace}
    (h : DataW.trod enc Try.prog w 0 spare held fuel 29 [v] = some x) : ∃ xs, RdI w w.heap.size v xs := by
  obtain ⟨n, vs, hr, hl, hk⟩ := open_row Try.underlying29 (by kernel_rfl) h
  obtain ⟨xs, rfl⟩ := ints_of vs (fun i u hu => by
    obtain ⟨f, y, hy⟩ := hk i u hu
    exact trod_int1 Try.underlying3 hy)
  have : xs.length = n := by simpa using hl
  subst this
  exact ⟨xs, hr⟩
theorem slice_cells {P : Program} {w : World} {r : Reach} {b : Nat} {t e : TypeId} {v : Value} (ht : P.underlying t = some (.slice e)) (h : Value.okWide P w r b t v) : v.cells.toList = [v] := by
  obtain ⟨a, n, c, rfl⟩ := okWide_slice ht h
  rfl
end Go.Proofs.Ytabiobjcfopakaa
/- Appending a slice of integers, whatever it is, to a row of the call's own; a copy of a slice. -/
namespace Go.Proofs.Ytabiobjcfopakaa
open Go.RowKit
theorem run_append_nil {P : Program} {w : World} (base : Nat) (t ty e : TypeId) (i : TypeInfo) (size : Nat) (ht : P.underlying t = some (.slice e)) (hi : P.info? e = some i)
    (v : Value) (n : Nat) (xs : List Value) (hown : w.ownsRow base e size v n xs) (c : Nat) : (Builtin.append_ #[t, t] ty #[v, .slice Option.none 0 c]).run P w = .ok v w := by
  rcases hown.2 with ⟨rfl, rfl⟩ | ⟨g, cap, cur, rfl, _, _, hnc, _⟩
  · simp [Builtin.append_, run_underlying ht, sizeOf, typeInfo, hi, Builtin.lenOf, Builtin.firstCells]
  · simp [Builtin.append_, run_underlying ht, sizeOf, typeInfo, hi, Builtin.lenOf, Builtin.firstCells, hnc, storeCells]
theorem wp_append_nil {P : Program} {w : World} {ops : Array Oper} {rest : List Oper} {o : Oper} {a : Act} {Q : Exit → Act → World → Prop} (hgd : o.guard = Option.none) (s x : Operand) (t : TypeId)
    (ho : o.op = .call { callee := .builtin .append, args := #[s, x], argTypes := #[t, t] })
    (base : Nat) (e : TypeId) (i : TypeInfo) (size : Nat) (ht : P.underlying t = some (.slice e)) (hi : P.info? e = some i)
    (v : Value) (n : Nat) (xs : List Value) (hs : a.eval s = v) (hown : w.ownsRow base e size v n xs) (c : Nat) (hx : a.eval x = .slice Option.none 0 c)
    (h : wpList P ops Q rest (a.put o.dst v) w) : wpList P ops Q (o :: rest) a w := by
  refine wpList_plain hgd fun K hK => ?_
  have hr := run_append_nil (P := P) base t o.type e i size ht hi v n xs hown c
  unfold Oper.wp execOp
  simp only [ho, resolve, invoke, builtin, Sem.run_bind, Sem.run_pure, Result.andThen_ok, List.map_toArray, List.map_cons, List.map_nil, hs, hx, hr]
  exact hK _ _ h
/-- A row of cells of element type e, appended to since the world w. -/
def GrowV (w : World) (B : Nat) (wr : World) (e : TypeId) (size : Nat) (v : Value) (n : Nat) (xs : List Value) : Prop := wr.ownsRow B e size v n xs ∧ Below B w wr ∧ B ≤ wr.heap.size
theorem GrowI.appI {w wr : World} {B : Nat} {v u : Value} {xs ys : List Int} {hi : Nat} {ops : Array Oper} {rest : List Oper} {o : Oper} {a : Act} {Q : Exit → Act → World → Prop} (hgd : o.guard = Option.none) (s x : Operand)
    (ho : o.op = .call { callee := .builtin .append, args := #[s, x], argTypes := #[29, 29] }) (hG : GrowI w B wr v xs) (hR : RdI wr hi u ys) (hlen : xs.length + ys.length ≤ 1099511627776)
    (hs : a.eval s = v) (hx : a.eval x = u)
    (h : ∀ v' w', GrowI w B w' v' (xs ++ ys) → wpList Try.prog ops Q rest (a.put o.dst v') w') : wpList Try.prog ops Q (o :: rest) a wr := by
  obtain ⟨i, hi0, hz0, hz1, hz2⟩ := info_parts info_int
  obtain ⟨hl, A, c, rfl, hc1, hc2, hcell⟩ := hR
  rcases Nat.eq_zero_or_pos ys.length with h0 | hpos
  · have : ys = [] := List.eq_nil_of_length_eq_zero h0
    subst this
    rcases A with _ | ad
    · refine wp_append_nil hgd s x 29 ho B 3 i 1 Try.underlying29 hi0 v xs.length (ints xs) hs hG.1 c hx ?_
      have := h v wr (by simpa using hG)
      exact this
    · refine wpList_append_own _ hgd s x 29 ho B 3 i (.int .i64 0) 1 8 Try.underlying29 hi0 hz0 hz1 hz2 rfl (by decide) v xs.length (ints xs) hs hG.1 ad 0 c [] hx rfl
        (fun j u hj => by simp at hj) (by intro u hu; simp at hu) (by unfold maxLen; omega) (by omega) hG.2.2 ?_
      intro v' w' hown hgr _
      refine h v' w' ⟨by simpa using hown, hG.2.1.grown hgr hG.2.2 (fun k hk => (hG.1.lt k hk).1), ?_⟩
      have h1 := hgr.size; have h2 := hG.2.2; omega
  · obtain ⟨b, off, rfl, hb, hcc⟩ := hcell hpos
    refine wpList_append_own _ hgd s x 29 ho B 3 i (.int .i64 0) 1 8 Try.underlying29 hi0 hz0 hz1 hz2 rfl (by decide) v xs.length (ints xs) hs hG.1 ⟨b, off, Option.none⟩ ys.length c (ints ys) hx (by simp)
      (fun j u hj => by rw [Go.WideShapes.add_plain]; exact hcc j u hj) (by intro u hu; simp at hu; obtain ⟨z, _, rfl⟩ := hu; rfl) (by unfold maxLen; omega) (by omega) hG.2.2 ?_
    intro v' w' hown hgr _
    refine h v' w' ⟨by simpa [ints] using hown, hG.2.1.grown hgr hG.2.2 (fun k hk => (hG.1.lt k hk).1), ?_⟩
    have h1 := hgr.size; have h2 := hG.2.2; omega
/-- An empty row that the call has made. -/
theorem GrowI.made (w : World) : GrowI w w.heap.size (w.alloc (.cells #[] 3)) (.slice (some ⟨w.heap.size, 0, Option.none⟩) 0 0) [] := by
  refine ⟨?_, (Below.refl _ _).alloc (Nat.le_refl _) _, by simp⟩
  have := World.ownsRow_made (w := w) (base := w.heap.size) (e := 3) (size := 1) #[] 0 (Nat.le_refl _) (Nat.zero_le _) rfl
  exact this
theorem l1Own_any (xs : List Int) (v : Value) (hi : Nat) (w : World) (h : RdI w hi v xs) (hhi : hi ≤ w.heap.size) (hlen : xs.length ≤ 1099511627776) : Calls Try.prog 222 #[v] w (RetOwI xs w) := by
  obtain ⟨A, c, rfl, hc, hm⟩ := Rd.form h
  have h1 : RdI (w.alloc (.cells #[] 3)) hi (.slice A xs.length c) xs := Rd.below h ((Below.refl _ _).alloc (Nat.le_refl _) _) hhi
  have H := Lib.hid h1
  clear h h1
  go_enter Try.func222, Try.ntmps222
  go_wp2_with (at_builtin; refine GrowI.appI rfl (.tmp 3) (.tmp 4) rfl (GrowI.made w) H.out (by simpa using hlen) rfl rfl ?_; intro v' w1 hG')
  go_ret
  exact retOwI hG'
theorem GrowI.belowR {w wr wr' : World} {B : Nat} {v : Value} {xs : List Int} (h : GrowI w B wr v xs) (hb : Below wr.heap.size wr wr') : GrowI w B wr' v xs :=
  ⟨(h.own.below hb (Nat.le_refl _)).1, h.2.1.trans (hb.mono h.2.2), Nat.le_trans h.2.2 hb.size⟩
theorem GrowI.nil {w wr : World} (hb : Below w.heap.size w wr) : GrowI w w.heap.size wr (.slice Option.none 0 0) [] := ⟨World.ownsRow_nil _ _ _ _, hb, hb.size⟩
theorem retOwT {w wr : World} {v : Value} {xs : List Int} (b : Bool) (h : GrowI w w.heap.size wr v xs) : RetOwT xs b w (.returned (.tuple #[v, .bool b])) wr := ⟨v, rfl, h.own, h.bel⟩
theorem retOwT_eq {w w' : World} {e : Ending} {xs ys : List Int} {b : Bool} (h : RetOwT xs b w e w') (hx : xs = ys) : RetOwT ys b w e w' := by rw [← hx]; exact h
end Go.Proofs.Ytabiobjcfopakaa
/- Words on lists of rows of integers in memory, and the helpers of the laws on slices of slices of integers. -/
namespace Go.Proofs.Ytabiobjcfopakaa
open Go.RowKit
/-- The slice values us read as the lists xss. -/
def RowsR (w : World) (hi : Nat) (us : List Value) (xss : List (List Int)) : Prop := us.length = xss.length ∧ ∀ (i : Nat) (u : Value) (xs : List Int), us[i]? = some u → xss[i]? = some xs → RdI w hi u xs
/-- The slice values us are rows of the call's own, no two of them one. -/
def RowsO (w : World) (lo hi : Nat) (us : List Value) (xss : List (List Int)) : Prop :=
  us.length = xss.length ∧ (∀ (i : Nat) (u : Value) (xs : List Int), us[i]? = some u → xss[i]? = some xs → OwI w lo hi u xs) ∧
  ∀ (i j : Nat) (u u' : Value), i < j → us[i]? = some u → us[j]? = some u' → ∀ g, u.ownBlock = some g → u'.ownBlock ≠ some g
theorem RowsR.below {w w' : World} {hi B : Nat} {us : List Value} {xss : List (List Int)} (h : RowsR w hi us xss) (hb : Below B w w') (hB : hi ≤ B) : RowsR w' hi us xss :=
  ⟨h.1, fun i u xs hu hx => (h.2 i u xs hu hx).below hb hB⟩
theorem RowsR.mono {w : World} {hi hi' : Nat} {us : List Value} {xss : List (List Int)} (h : RowsR w hi us xss) (hB : hi ≤ hi') : RowsR w hi' us xss :=
  ⟨h.1, fun i u xs hu hx => (h.2 i u xs hu hx).mono hB⟩
theorem RowsO.rd {w : World} {lo hi : Nat} {us : List Value} {xss : List (List Int)} (h : RowsO w lo hi us xss) : RowsR w hi us xss := ⟨h.1, fun i u xs hu hx => (h.2.1 i u xs hu hx).rd⟩
theorem RowsO.below {w w' : World} {lo hi B : Nat} {us : List Value} {xss : List (List Int)} (h : RowsO w lo hi us xss) (hb : Below B w w') (hB : hi ≤ B) : RowsO w' lo hi us xss :=
  ⟨h.1, fun i u xs hu hx => (h.2.1 i u xs hu hx).below hb hB, h.2.2⟩
theorem RowsO.keep {w w' : World} {lo hi a b : Nat} {us : List Value} {xss : List (List Int)} (h : RowsO w lo hi us xss) (hk : Keep a b w w') (hd : hi ≤ a ∨ b ≤ lo) : RowsO w' lo hi us xss :=
  ⟨h.1, fun i u xs hu hx => (h.2.1 i u xs hu hx).keep hk hd, h.2.2⟩
theorem OwI.mono {w : World} {lo hi lo' hi' : Nat} {v : Value} {xs : List Int} (h : OwI w lo hi v xs) (h1 : lo' ≤ lo) (h2 : hi ≤ hi') : OwI w lo' hi' v xs := by
  refine ⟨⟨h.1.1, ?_⟩, fun k hk => by have := h.2 k hk; omega⟩
  rcases h.1.2 with hn | ⟨g, cap, cur, rfl, hl, hg, rest⟩
  · exact .inl hn
  · exact .inr ⟨g, cap, cur, rfl, by omega, hg, rest⟩
theorem RowsO.nil (w : World) (lo hi : Nat) : RowsO w lo hi [] [] := ⟨rfl, fun i u xs hu _ => by simp at hu, fun i j u u' _ hu _ => by simp at hu⟩
theorem RowsO.mono {w : World} {lo hi lo' hi' : Nat} {us : List Value} {xss : List (List Int)} (h : RowsO w lo hi us xss) (h1 : lo' ≤ lo) (h2 : hi ≤ hi') : RowsO w lo' hi' us xss :=
  ⟨h.1, fun i u xs hu hx => (h.2.1 i u xs hu hx).mono h1 h2, h.2.2⟩
/-- One row more, made since. -/
theorem RowsO.snoc {w : World} {lo mid hi : Nat} {us : List Value} {xss : List (List Int)} {u : Value} {xs : List Int} (h : RowsO w lo mid us xss) (hu : OwI w mid hi u xs) (h1 : lo ≤ mid) (h2 : mid ≤ hi) : RowsO w lo hi (us ++ [u]) (xss ++ [xs]) := by
  have hl := h.1
  refine ⟨by simp [hl], fun i a b ha hb => ?_, fun i j a b hij ha hb g hg => ?_⟩
  · rcases Nat.lt_or_ge i us.length with hi | hi
    · rw [List.getElem?_append_left hi] at ha
      rw [List.getElem?_append_left (by omega)] at hb
      exact (h.2.1 i a b ha hb).mono (Nat.le_refl _) h2
    · rw [List.getElem?_append_right hi] at ha
      rw [List.getElem?_append_right (by omega)] at hb
      obtain ⟨hz, rfl⟩ : i - us.length = 0 ∧ u = a := by
        rcases Nat.eq_zero_or_pos (i - us.length) with e | e
        · rw [e] at ha; simp at ha; exact ⟨e, ha⟩
        · rw [List.getElem?_eq_none (by simp; omega)] at ha; cases ha
      rw [show i - xss.length = 0 by omega] at hb
      simp at hb
      subst hb
      exact hu.mono h1 (Nat.le_refl _)
  · rcases Nat.lt_or_ge i us.length with hi | hi
    · rw [List.getElem?_append_left hi] at ha
      rcases Nat.lt_or_ge j us.length with hj | hj
      · rw [List.getElem?_append_left hj] at hb
        exact h.2.2 i j a b hij ha hb g hg
      · rw [List.getElem?_append_right hj] at hb
        have hbu : u = b := by
          rcases Nat.eq_zero_or_pos (j - us.length) with e | e
          · rw [e] at hb; simpa using hb
          · rw [List.getElem?_eq_none (by simp; omega)] at hb; cases hb
        subst hbu
        intro hg2
        have h3 := (hu.range g hg2).1
        obtain ⟨xs', hxs⟩ : ∃ xs', xss[i]? = some xs' := ⟨xss[i], by simp [show i < xss.length by omega]⟩
        have h4 := ((h.2.1 i a xs' ha hxs).range g hg).2
        omega
    · rw [List.getElem?_append_right hi] at ha
      rw [List.getElem?_append_right (by omega)] at hb
      rw [List.getElem?_eq_none (by simp; omega)] at hb
      cases hb
/-- One row is marked: it reads anew, the others as they did. -/
theorem RowsO.only {w w' : World} {lo hi j : Nat} {us : List Value} {xss : List (List Int)} {u : Value} {ys : List Int} (h : RowsO w lo hi us xss) (hu : us[j]? = some u) (hk : Only u.ownBlock w w') (hy : OwI w' lo hi u ys) : RowsO w' lo hi us (xss.set j ys) := by
  refine ⟨by simp [h.1], fun i a b ha hb => ?_, h.2.2⟩
  by_cases e : i = j
  · subst e
    rw [hu] at ha; cases ha
    have hil : i < xss.length := by have := (List.getElem?_eq_some_iff.1 hu).1; have := h.1; omega
    rw [List.getElem?_set_self hil] at hb; cases hb
    exact hy
  · rw [List.getElem?_set_ne (fun e2 => e e2.symm)] at hb
    refine (h.2.1 i a b ha hb).only hk (fun g hg hg2 => ?_)
    rcases Nat.lt_or_gt_of_ne e with hlt | hlt
    · exact h.2.2 i j a u hlt ha hu g hg hg2
    · exact h.2.2 j i u a hlt hu ha g hg2 hg
def RdII (w : World) (hi : Nat) (v : Value) (xss : List (List Int)) : Prop := ∃ us, RowsR w hi us xss ∧ Rd w hi 1 v xss.length us
def OwII (w : World) (lo hi : Nat) (v : Value) (xss : List (List Int)) : Prop := ∃ us, RowsO w lo hi us xss ∧ w.ownsRow lo 29 1 v xss.length us ∧ ∀ k, v.ownBlock = some k → k < hi
theorem RdII.below {w w' : World} {hi : Nat} {v : Value} {xss : List (List Int)} (h : RdII w hi v xss) {B : Nat} (hb : Below B w w') (hB : hi ≤ B) : RdII w' hi v xss := by
  obtain ⟨us, h1, h2⟩ := h; exact ⟨us, h1.below hb hB, h2.below hb hB⟩
theorem owns_below {w w' : World} {lo hi size n : Nat} {e : TypeId} {v : Value} {xs : List Value} (h : w.ownsRow lo e size v n xs) (h2 : ∀ k, v.ownBlock = some k → k < hi) {B : Nat} (hb : Below B w w') (hB : hi ≤ B) : w'.ownsRow lo e size v n xs := by
  refine ⟨h.1, ?_⟩
  rcases h.2 with hn | ⟨g, cap, cur, rfl, hl, hg, rest⟩
  · exact .inl hn
  · exact .inr ⟨g, cap, cur, rfl, hl, (hb.block g (by have := h2 g rfl; omega)).trans hg, rest⟩
theorem owns_keep {w w' : World} {lo hi a b size n : Nat} {e : TypeId} {v : Value} {xs : List Value} (h : w.ownsRow lo e size v n xs) (h2 : ∀ k, v.ownBlock = some k → k < hi) (hk : Keep a b w w') (hd : hi ≤ a ∨ b ≤ lo) : w'.ownsRow lo e size v n xs := by
  refine ⟨h.1, ?_⟩
  rcases h.2 with hn | ⟨g, cap, cur, rfl, hl, hg, rest⟩
  · exact .inl hn
  · exact .inr ⟨g, cap, cur, rfl, hl, (hk.block g (by have := h2 g rfl; omega)).trans hg, rest⟩
theorem OwII.below {w w' : World} {lo hi : Nat} {v : Value} {xss : List (List Int)} (h : OwII w lo hi v xss) {B : Nat} (hb : Below B w w') (hB : hi ≤ B) : OwII w' lo hi v xss := by
  obtain ⟨us, h1, h2, h3⟩ := h; exact ⟨us, h1.below hb hB, owns_below h2 h3 hb hB, h3⟩
theorem OwII.keep {w w' : World} {lo hi a b : Nat} {v : Value} {xss : List (List Int)} (h : OwII w lo hi v xss) (hk : Keep a b w w') (hd : hi ≤ a ∨ b ≤ lo) : OwII w' lo hi v xss := by
  obtain ⟨us, h1, h2, h3⟩ := h; exact ⟨us, h1.keep hk hd, owns_keep h2 h3 hk hd, h3⟩
theorem OwII.rd {w : World} {lo hi : Nat} {v : Value} {xss : List (List Int)} (h : OwII w lo hi v xss) : RdII w hi v xss := by
  obtain ⟨us, h1, h2, h3⟩ := h; exact ⟨us, h1.rd, rd_of_owns h2 h3⟩
/-- The element at k: a cell with a slice value that reads as the k-th list. -/
theorem RdII.at_ {w : World} {hi : Nat} {v : Value} {xss : List (List Int)} (h : RdII w hi v xss) {k : Nat} (hk : k < xss.length) :
    ∃ b off c u xs, v = .slice (some ⟨b, off, Option.none⟩) xss.length c ∧ b < hi ∧ xss[k]? = some xs ∧ w.cell? ⟨b, off + k, Option.none⟩ = some u ∧ RdI w hi u xs := by
  obtain ⟨us, h1, h0, A, c, hv, _, _, h4⟩ := h
  obtain ⟨b, off, rfl, hb, hc⟩ := h4 (by omega)
  have hl := h1.1
  have hu : us[k]? = some us[k] := by simp [show k < us.length by omega]
  exact ⟨b, off, c, us[k], xss[k], hv, hb, by simp [hk], hc k _ hu, h1.2 k _ _ hu (by simp [hk])⟩
theorem RdII.form {w : World} {hi : Nat} {v : Value} {xss : List (List Int)} (h : RdII w hi v xss) : ∃ A c, v = .slice A xss.length c ∧ xss.length ≤ 9223372036854775807 := by
  obtain ⟨us, _, _, A, c, hv, h2, h3, _⟩ := h
  exact ⟨A, c, hv, by unfold maxLen at h3; omega⟩
theorem take_snocN {α : Type} {xs : List α} {k : Nat} {y : α} (h : xs[k]? = some y) : xs.take (k + 1) = xs.take k ++ [y] := by rw [List.take_add_one, h]; rfl
/-- All lists together. -/
def sizeII : List (List Int) → Nat
  | [] => 0
  | xs :: r => xs.length + sizeII r
/-- What is left of a number of cells behind all rows. -/
def szRest : Int → List (List Int) → Int
  | l, [] => l
  | l, xs :: r => if l - xs.length < 0 then -1 else szRest (l - xs.length) r
def szIntSSM (xss : List (List Int)) (left : Int) : Int := if left - xss.length < 0 then -1 else szRest (left - xss.length) xss
theorem szRest_bd (l : Int) (xss : List (List Int)) (h : ¬ szRest l xss < 0) : (sizeII xss : Int) ≤ l := by
  induction xss generalizing l with
  | nil => simp only [szRest] at h; simp only [sizeII]; omega
  | cons xs r ih =>
    simp only [szRest] at h
    split at h
    · omega
    · have := ih _ h
      simp only [sizeII]
      omega
theorem szIntSS_bd {xss : List (List Int)} {left z : Int} (h : z = szIntSSM xss left) (hz : ¬ z < 0) (hl : left ≤ 1048576 := by omega) : xss.length + sizeII xss ≤ 1048576 := by
  subst h
  unfold szIntSSM at hz
  split at hz
  · omega
  · have := szRest_bd _ _ hz
    omega
theorem sizeII_at {xss : List (List Int)} {k : Nat} {xs : List Int} (h : xss[k]? = some xs) : sizeII (xss.take (k + 1)) = sizeII (xss.take k) + xs.length ∧ sizeII (xss.take (k + 1)) ≤ sizeII xss := by
  induction xss generalizing k with
  | nil => simp at h
  | cons y r ih =>
    cases k with
    | zero => simp at h; subst h; simp [sizeII]
    | succ k =>
      have := ih (k := k) (by simpa using h)
      simp only [List.take_succ_cons, sizeII]
      omega
theorem sizeII_full (xss : List (List Int)) : sizeII (xss.take xss.length) = sizeII xss := by rw [List.take_of_length_le (Nat.le_refl _)]
def marksII : Nat → List (List Int) → List (List Int)
  | _, [] => []
  | k, xs :: r => marks k xs.length :: marksII (k + xs.length) r
theorem marksII_len (k : Nat) (xss : List (List Int)) : (marksII k xss).length = xss.length := by
  induction xss generalizing k with
  | nil => rfl
  | cons y r ih => simp [marksII, ih]
theorem marksII_at {k j : Nat} {xss : List (List Int)} {xs : List Int} (h : xss[j]? = some xs) : (marksII k xss)[j]? = some (marks (k + sizeII (xss.take j)) xs.length) := by
  induction xss generalizing k j with
  | nil => simp at h
  | cons y r ih =>
    cases j with
    | zero => simp at h; subst h; simp [marksII, sizeII]
    | succ j =>
      have := ih (k := k + y.length) (j := j) (by simpa using h)
      simp only [marksII, List.getElem?_cons_succ, List.take_succ_cons, sizeII]
      rw [this, Nat.add_assoc]
/-- Behind j rows: those are marked, the others are as they were. -/
def mixII (k j : Nat) (xss : List (List Int)) : List (List Int) := (marksII k xss).take j ++ xss.drop j
theorem mixII_at {k j : Nat} {xss : List (List Int)} {xs : List Int} (h : xss[j]? = some xs) : (mixII k j xss)[j]? = some xs := by
  have hl := (List.getElem?_eq_some_iff.1 h).1
  unfold mixII
  rw [List.getElem?_append_right (by rw [List.length_take, marksII_len]; omega), List.length_take, marksII_len, List.getElem?_drop]
  rw [show j + (j - min j xss.length) = j by omega]; exact h
theorem mixII_step {k j : Nat} {xss : List (List Int)} {xs : List Int} (h : xss[j]? = some xs) : (mixII k j xss).set j (marks (k + sizeII (xss.take j)) xs.length) = mixII k (j + 1) xss := by
  have hl := (List.getElem?_eq_some_iff.1 h).1
  have e : xss.drop j = xss[j] :: xss.drop (j + 1) := List.drop_eq_getElem_cons hl
  unfold mixII
  rw [e]
  have hlt : ((marksII k xss).take j).length = j := by rw [List.length_take, marksII_len]; omega
  have hs : ((marksII k xss).take j ++ xss[j] :: xss.drop (j + 1)).set j (marks (k + sizeII (xss.take j)) xs.length) = (marksII k xss).take j ++ marks (k + sizeII (xss.take j)) xs.length :: xss.drop (j + 1) := by
    rw [List.set_append_right _ _ (by omega), hlt, Nat.sub_self]; rfl
  rw [hs, List.take_add_one, marksII_at h]; simp
theorem szIntS_any (xs : List Int) (v : Value) (left : Int) (hi : Nat) (w : World) (h : RdI w hi v xs) (h0 : 0 ≤ left) (h1 : left ≤ 1048576) :
    Calls Try.prog 168 #[v, .int .i64 left] w fun e w' => e = .returned (.int .i64 (if left - xs.length < 0 then -1 else left - xs.length)) ∧ w = w' := by
  obtain ⟨A, c, rfl, hc, hm⟩ := Rd.form h
  clear h
  by_cases hlt : left - xs.length < 0
  · rw [if_pos hlt]
    go_enter Try.func168, Try.ntmps168
    go_wp2
    go_ret
    exact ⟨rfl, rfl⟩
  · rw [if_neg hlt]
    go_enter Try.func168, Try.ntmps168
    go_wp2
    go_ret
    exact ⟨rfl, rfl⟩
set_option maxHeartbeats 400000 in
theorem eqIntSS_sameB (xss : List (List Int)) (v u : Value) (hi hj : Nat) (w : World) (h : RdII w hi v xss) (g : RdII w hj u xss) (hh : hi ≤ w.heap.size := by omega) (hg : hj ≤ w.heap.size := by omega) :
    Calls Try.prog 56 #[v, u] w fun e w' => e = .returned (.bool true) ∧ Below w.heap.size w w' := by
  obtain ⟨A, c, rfl, hm⟩ := h.form
  obtain ⟨A', c', rfl, hm'⟩ := g.form
  have H := Lib.hid h
  have G := Lib.hid g
  clear h g
  go_enter Try.func56, Try.ntmps56
  go_wp2
  go_loopw [5] (fun i wr => ∃ k : Nat, k ≤ xss.length ∧ i = .int .i64 k ∧ Below w.heap.size w wr) (fun i _ => xss.length - (intOf i).toNat)
  case atStart => exact ⟨0, Nat.zero_le _, rfl, Below.refl _ _⟩
  case round =>
    obtain ⟨k, hk, rfl, hbr⟩ := hrel
    by_cases hlt : k < xss.length
    · obtain ⟨b1, o1, c1, a, xs, hv, _, hx, hcell1, hra⟩ := (H.out.below hbr hh).at_ hlt
      cases hv
      obtain ⟨b2, o2, c2, b, xs', hv, _, hx', hcell2, hrb⟩ := (G.out.below hbr hg).at_ hlt
      cases hv
      rw [hx] at hx'
      cases hx'
      have HA := Lib.hid hra
      have HB := Lib.hid hrb
      clear hx hra hrb
      have hs := hbr.size
      go_wp2
      go_quiet ((go_at_call 57; exact Calls.quiet_of (eqIntS_same xs _ _ hi hj _ (by exact HA.out) (by exact HB.out))))
      go_wp2
      go_roundw
      case rel => exact ⟨k + 1, by omega, by go_num, hbr.trans (bel_drewN _ wr _)⟩
      case measure => simp [intOf]; omega
    · go_wp2
      go_ret
      exact ⟨rfl, hbr⟩
theorem sizeII_len {xss : List (List Int)} {k : Nat} {xs : List Int} (h : xss[k]? = some xs) : xs.length ≤ sizeII xss := by
  have := sizeII_at h; omega
/-- A slice of rows of the call's own. -/
def RetOwII (xss : List (List Int)) (w : World) (e : Ending) (w' : World) : Prop := ∃ v, e = .returned v ∧ OwII w' w.heap.size w'.heap.size v xss ∧ Below w.heap.size w w'
/-- Room for n slices, all nil, behind a name. -/
def nils (n : Nat) : Array Value := (List.replicate n (Value.slice Option.none 0 0)).toArray
theorem info_ints : (Try.prog.info? 29).map (fun i => (i.zero, i.size, i.bytes)) = some (some (.slice Option.none 0 0), 1, 24) := by kernel_rfl
theorem make_rows (n : Nat) (hn : n ≤ 1048576) (w : World) :
    (Instr.makeSlice 61 (.int .i64 (n : Int)) (.int .i64 (n : Int))).run Try.prog w = .ok (.slice (some ⟨w.heap.size, 0, Option.none⟩) n n) (w.alloc (.cells (nils n) 29)) := by
  obtain ⟨i, hi, hz0, hz1, hz2⟩ := info_parts info_ints
  have h := run_make_rowN (P := Try.prog) 61 29 i (.slice Option.none 0 0) Try.underlying61 hi hz0 .i64 .i64 n n (Nat.le_refl _) (by rw [hz2]; omega) (by omega) w
  rw [h, hz1]
  have e : madeCells (Value.slice Option.none 0 0).cells (n * 1) = nils n := by
    apply Array.ext
    · simp [madeCells, nils]
    · intro j h1 h2
      simp [madeCells, nils, Value.cells, Nat.mod_one]
  rw [e]
theorem rows_set {us : List Value} {m : Nat} {u : Value} (h : 0 < m) : (us ++ List.replicate m (Value.slice Option.none 0 0)).set us.length u = (us ++ [u]) ++ List.replicate (m - 1) (Value.slice Option.none 0 0) := by
  obtain ⟨q, rfl⟩ : ∃ q, m = q + 1 := ⟨m - 1, by omega⟩
  rw [List.replicate_succ]
  have := set_mid us (List.replicate q (Value.slice Option.none 0 0)) (Value.slice Option.none 0 0) u
  rw [this]; simp
/-- The outer row is not the row of an int slice. -/
theorem outer_only {w w' : World} {lo n : Nat} {v u : Value} {us : List Value} {xs : List Int} {lo' hi' : Nat} (h : w.ownsRow lo 29 1 v n us) (hu : OwI w lo' hi' u xs) (hk : Only u.ownBlock w w') : w'.ownsRow lo 29 1 v n us := by
  refine ⟨h.1, ?_⟩
  rcases h.2 with hn | ⟨g, cap, cur, rfl, hl, hg, rest⟩
  · exact .inl hn
  · refine .inr ⟨g, cap, cur, rfl, hl, (hk.block g (fun e => ?_)).trans hg, rest⟩
    rcases hu.1.2 with ⟨rfl, _⟩ | ⟨g2, cap2, cur2, rfl, _, hg2, _⟩
    · cases e
    · cases e
      rw [hg] at hg2
      simp at hg2
theorem own_range {w : World} {lo hi n : Nat} {e : TypeId} {size : Nat} {v : Value} {us : List Value} (h : w.ownsRow lo e size v n us) (h2 : ∀ k, v.ownBlock = some k → k < hi) : ∀ g, v.ownBlock = some g → lo ≤ g ∧ g < hi := fun g hg => ⟨(h.lt g hg).1, h2 g hg⟩
theorem Only.keepI {w w' : World} {lo hi : Nat} {u : Value} {xs : List Int} (h : Only u.ownBlock w w') (hu : OwI w lo hi u xs) : Keep lo hi w w' := h.keep hu.range
set_option maxHeartbeats 400000 in
theorem markIntSS_any (xss : List (List Int)) (v : Value) (lo hi k : Nat) (w : World) (h : OwII w lo hi v xss) (hk : k ≤ 4194304) (hsz : sizeII xss ≤ 4194304) :
    Calls Try.prog 59 #[v, .int .i64 (k : Int)] w fun e w' => e = .returned (.int .i64 ((k + sizeII xss : Nat) : Int)) ∧ OwII w' lo hi v (marksII k xss) ∧ Keep lo hi w w' := by
  obtain ⟨A, c, hv, hm⟩ := h.rd.form
  subst hv
  obtain ⟨us, hrows, hown, hbl⟩ := h
  have HR0 := Lib.hid hrows
  have HO0 := Lib.hid hown
  clear hrows hown
  go_enter Try.func59, Try.ntmps59
  go_wp2
  go_loopw [1, 5] (fun q i wr => ∃ (j : Nat), j ≤ xss.length ∧ i = .int .i64 j ∧ q = .int .i64 ((k + sizeII (xss.take j) : Nat) : Int) ∧ RowsO wr lo hi us (mixII k j xss) ∧ wr.ownsRow lo 29 1 (.slice A xss.length c) xss.length us ∧ Keep lo hi w wr) (fun _ i _ => xss.length - (intOf i).toNat)
  case atStart => exact ⟨0, Nat.zero_le _, rfl, rfl, by simpa [mixII] using HR0.out, HO0.out, Keep.refl _ _ _⟩
  case round =>
    obtain ⟨j, hj, rfl, rfl, hrows, hown, hkp⟩ := hrel
    by_cases hlt : j < xss.length
    · have hx : xss[j]? = some xss[j] := by simp [hlt]
      obtain ⟨xs, hxs⟩ : ∃ xs, xs = xss[j] := ⟨_, rfl⟩
      rw [← hxs] at hx
      have hrd := rd_of_owns hown hbl
      obtain ⟨_, A2, c2, hv2, _, _, h4⟩ := hrd
      cases hv2
      obtain ⟨b, off, rfl, hb, hcell⟩ := h4 (by omega)
      have hu : us[j]? = some us[j] := by simp [show j < us.length by have := HR0.out.1; omega]
      have hcell1 := hcell j _ hu
      obtain ⟨u, huu⟩ : ∃ u, u = us[j]'(by have := HR0.out.1; omega) := ⟨_, rfl⟩
      rw [← huu] at hu hcell1
      have hru := hrows.2.1 j u xs hu (mixII_at hx)
      have hsj := sizeII_at hx
      have HX := Lib.hid hx
      have HU := Lib.hid hu
      have HRU := Lib.hid hru
      have HRW := Lib.hid hrows
      have HOW := Lib.hid hown
      have HKP := Lib.hid hkp
      have hs1 := hsj.1
      have hs2 := hsj.2
      have hlx := sizeII_len hx
      have HS := Lib.hid hs1
      have hs3 : k + sizeII (xss.take j) ≤ 8388608 := by omega
      clear hx hu hru hcell hxs huu hsj hs1 hs2 hrows hown hkp h4
      go_wp2_with fail
      refine (markIntS_only xs u lo hi (k + sizeII (xss.take j)) _ HRU.out (by omega) (by omega)).mono ?_
      rintro e w2 ⟨rfl, hm2, hk2⟩
      have h1 := HRW.out.only HU.out hk2 hm2
      rw [mixII_step HX.out] at h1
      have h2 := outer_only HOW.out HRU.out hk2
      have h3 := HKP.out.trans (hk2.keepI HRU.out)
      have H1 := Lib.hid h1
      have H2 := Lib.hid h2
      have H3 := Lib.hid h3
      clear h1 h2 h3 hk2 hm2 hcell1
      go_wp2
      go_roundw
      case rel => exact ⟨j + 1, by omega, by go_num, int_val (by have := HS.out; omega), H1.out, H2.out, H3.out⟩
      case measure => simp [intOf]; omega
    · obtain rfl : j = xss.length := by omega
      go_wp2
      go_ret
      refine ⟨ret_int (by rw [sizeII_full]), ⟨us, ?_, ?_, hbl⟩, hkp⟩
      · have e : mixII k xss.length xss = marksII k xss := by unfold mixII; rw [List.drop_length, List.append_nil, List.take_of_length_le (by rw [marksII_len]; exact Nat.le_refl _)]
        rwa [e] at hrows
      · rw [marksII_len]; exact hown
theorem markIntSS_ex (xss : List (List Int)) (v : Value) (lo hi k : Nat) (w : World) (h : OwII w lo hi v xss) (hk : k ≤ 4194304) (hsz : sizeII xss ≤ 4194304) :
    Calls Try.prog 59 #[v, .int .i64 (k : Int)] w fun e w' => ∃ q : Nat, e = .returned (.int .i64 (q : Int)) ∧ q ≤ k + sizeII xss ∧ OwII w' lo hi v (marksII k xss) ∧ Keep lo hi w w' :=
  (markIntSS_any xss v lo hi k w h hk hsz).mono fun _ _ ⟨he, h1, h2⟩ => ⟨_, he, Nat.le_refl _, h1, h2⟩
theorem heldIntSS_any (xss : List (List Int)) (v : Value) (hi k : Nat) (w : World) (h : RdII w hi v (marksII k xss)) (hk : k ≤ 4194304) (hsz : sizeII xss ≤ 4194304) :
    Calls Try.prog 60 #[v, .int .i64 (k : Int)] w fun e w' => e = .returned (.int .i64 ((k + sizeII xss : Nat) : Int)) ∧ w = w' := by
  obtain ⟨A, c, hv, hm⟩ := h.form
  rw [marksII_len] at hv hm
  subst hv
  have H := Lib.hid h
  clear h
  go_enter Try.func60, Try.ntmps60
  go_wp2
  go_loop [1, 5] (fun q i => ∃ (j : Nat), j ≤ xss.length ∧ i = .int .i64 j ∧ q = .int .i64 ((k + sizeII (xss.take j) : Nat) : Int)) (fun _ i => xss.length - (intOf i).toNat)
  case atStart => exact ⟨0, Nat.zero_le _, rfl, rfl⟩
  case round =>
    obtain ⟨j, hj, rfl, rfl⟩ := hrel
    by_cases hlt : j < xss.length
    · have hx : xss[j]? = some xss[j] := by simp [hlt]
      obtain ⟨xs, hxs⟩ : ∃ xs, xs = xss[j] := ⟨_, rfl⟩
      rw [← hxs] at hx
      obtain ⟨b1, o1, c1, a, ys, hv, _, hy, hcell1, hra⟩ := H.out.at_ (k := j) (by rw [marksII_len]; exact hlt)
      rw [marksII_len] at hv
      cases hv
      rw [marksII_at hx] at hy
      cases hy
      have hsj := sizeII_at hx
      have hs1 := hsj.1
      have hs2 := hsj.2
      have hlx := sizeII_len hx
      have HS := Lib.hid hs1
      have HRA := Lib.hid hra
      have hs3 : k + sizeII (xss.take j) ≤ 8388608 := by omega
      clear hx hxs hra hsj hs1 hs2
      go_wp2_with fail
      refine (heldIntS_any xs.length a hi (k + sizeII (xss.take j)) _ HRA.out (by omega) (by omega)).mono ?_
      rintro e w2 ⟨rfl, rfl⟩
      go_wp2
      go_round
      case rel => exact ⟨j + 1, by omega, by go_num, int_val (by have := HS.out; omega)⟩
      case measure => simp [intOf]; omega
    · obtain rfl : j = xss.length := by omega
      go_wp2
      go_ret
      exact ⟨ret_int (by first | rw [sizeII_full] | rfl), rfl⟩
end Go.Proofs.Ytabiobjcfopakaa
