/- Contracts: a drawn text with edits. -/
import Derived.Test.YtabiobjcfopakaaJ2
namespace Go.Proofs.Ytabiobjcfopakaa
open Go.RowKit
set_option maxRecDepth 100000 in
set_option maxHeartbeats 4000000 in
theorem spoilt_any (t s : ByteArray) (C m : Nat) (w : World) (h : Cur w C m) (hm : m ≤ 1099511600000) (ht : t.size ≤ 1000000) (hs1 : 1 ≤ s.size) (hs2 : s.size ≤ 1000) :
    Calls Try.prog 132 #[.pointer (some ⟨C, 0, Option.none⟩), .string t, .string s] w fun e w' => ∃ t' : ByteArray, e = .returned (.string t') ∧ t'.size ≤ t.size + 2 ∧ Cur w' C (m + 20) ∧ KeepG C (C + 1) w w' := by
  have c1 := Lib.hid (pick_any 2 C m w h (by omega) (by omega) (by omega))
  clear h
  go_enter Try.func132, Try.ntmps132
  go_wp2_with fail
  refine c1.out.mono ?_
  rintro e w1 ⟨z1, rfl, ⟨hz0, hz1⟩, hc1, hk1⟩
  obtain ⟨k0, rfl⟩ : ∃ k : Nat, z1 = (k : Int) := ⟨z1.toNat, by omega⟩
  have HC1 := Lib.hid hc1
  have HK1 := Lib.hid hk1
  clear hc1 hk1
  go_wp2_with fail
  go_loopw [1, 7] (fun q i wr => ∃ (k : Nat) (t' : ByteArray), k ≤ 2 ∧ i = .int .i64 (k : Int) ∧ q = .string t' ∧ t'.size + k ≤ t.size + 2 ∧ Hid (Cur wr C (m + 2 + (2 - k) * 6)) ∧ Hid (KeepG C (C + 1) w wr)) (fun _ i _ => (intOf i).toNat)
  case atStart => exact ⟨1 + k0, t, by omega, by go_num, rfl, by omega, HC1.out.mono (by omega), HK1.out⟩
  case round =>
    obtain ⟨k, t', hk2, rfl, rfl, hts, hc, hk⟩ := hrel
    by_cases hk0 : 0 < k
    · by_cases ht0 : 0 < t'.size
      · have cI := Lib.hid (pick_any (t'.size : Int) C (m + 2 + (2 - k) * 6) wr hc.out (by omega) (by omega) (by omega))
        clear hc
        go_wp2_with fail
        refine cI.out.mono ?_
        rintro e w2 ⟨zi, rfl, ⟨hi0, hi1⟩, hc2, hk2'⟩
        obtain ⟨i, rfl⟩ : ∃ k : Nat, zi = (k : Int) := ⟨zi.toNat, by omega⟩
        have HK2 := Lib.hid (hk.out.trans hk2')
        have cJ := Lib.hid (pick_any (s.size : Int) C _ w2 hc2 (by omega) (by omega) (by omega))
        clear hc2 hk2' hk
        go_wp2_with fail
        refine cJ.out.mono ?_
        rintro e w3 ⟨zj, rfl, ⟨hj0, hj1⟩, hc3, hk3⟩
        obtain ⟨j, rfl⟩ : ∃ k : Nat, zj = (k : Int) := ⟨zj.toNat, by omega⟩
        have hjs : j < s.size := by omega
        obtain ⟨sw, hsw⟩ : ∃ sw : ByteArray, sw = ⟨#[UInt8.ofNat ((s[j].toNat : Int)).toNat]⟩ := ⟨_, rfl⟩
        have hcv := fun wr' => conv_one (s[j].toNat : Int) (by omega) (by have := UInt8.toNat_lt s[j]; omega) wr'
        rw [← hsw] at hcv
        have hsw1 : sw.size = 1 := by rw [hsw]; rfl
        have cL := Lib.hid (pick_any 3 C _ (w3.alloc (.cells #[.int .u8 (s[j].toNat : Int)] 5)) (hc3.alloc _) (by omega) (by omega) (by omega))
        have HK3 := Lib.hid ((HK2.out.trans hk3).trans (below_g ((Below.refl _ w3).alloc (Nat.le_refl _) (.cells #[.int .u8 (s[j].toNat : Int)] 5))))
        clear hc3 hk3 hsw
        go_wp2_with fail
        refine cL.out.mono ?_
        rintro e w5 ⟨zl, rfl, ⟨hl0, hl1⟩, hc5, hk5⟩
        have HC5 := Lib.hid hc5
        have HK5 := Lib.hid (HK3.out.trans hk5)
        clear hc5 hk5 hcv hz0 hz1 hi0
        have hil : i < t'.size := by omega
        have hl3 : zl = 0 ∨ zl = 1 ∨ zl = 2 := by omega
        clear hl0 hl1
        rcases hl3 with rfl | rfl | rfl
        · go_wp2_with fail
          go_quiet (fail)
          go_wp2_with fail
          have HCX := Lib.hid (HC5.out.mono (m' := m + 2 + (2 - (k - 1)) * 6) (by omega))
          have HKX := Lib.hid (HK5.out.trans (KeepG.drawN _ nq))
          go_roundw
          case rel => exact ⟨k - 1, _, by omega, by go_num, rfl, by (simp [ByteArray.size_append, ByteArray.size_extract]; omega), HCX.out, HKX.out⟩
          case measure => (simp [intOf]; try omega)
        · go_wp2_with fail
          go_quiet (fail)
          go_wp2_with fail
          have HCX := Lib.hid (HC5.out.mono (m' := m + 2 + (2 - (k - 1)) * 6) (by omega))
          have HKX := Lib.hid (HK5.out.trans (KeepG.drawN _ nq))
          go_roundw
          case rel => exact ⟨k - 1, _, by omega, by go_num, rfl, by (simp [ByteArray.size_append, ByteArray.size_extract]; omega), HCX.out, HKX.out⟩
          case measure => (simp [intOf]; try omega)
        · go_wp2_with fail
          go_quiet (fail)
          go_wp2_with fail
          have HCX := Lib.hid (HC5.out.mono (m' := m + 2 + (2 - (k - 1)) * 6) (by omega))
          have HKX := Lib.hid (HK5.out.trans (KeepG.drawN _ nq))
          go_roundw
          case rel => exact ⟨k - 1, _, by omega, by go_num, rfl, by (simp [ByteArray.size_append, ByteArray.size_extract]; omega), HCX.out, HKX.out⟩
          case measure => (simp [intOf]; try omega)
      · go_wp2_with fail
        go_ret
        exact ⟨_, rfl, by omega, hc.out.mono (by omega), hk.out⟩
    · go_wp2_with fail
      go_ret
      exact ⟨_, rfl, by omega, hc.out.mono (by omega), hk.out⟩
theorem DrawReadSignal_any (zs : List UInt8) (v : Value) (hi : Nat) (w : World) (h : RdU w hi v zs) (hh : hi ≤ w.heap.size) :
    Calls Try.prog 34 #[v] w fun e w' => ∃ t : ByteArray, e = .returned (.string t) ∧ t.size ≤ 1000 ∧ Below w.heap.size w w' := by
  obtain ⟨A, c, rfl, hc, hm⟩ := Rd.form h
  have c1 := Lib.hid (pick_any 64 w.heap.size 0 _ (cur_new h hh) (by omega) (by omega) (by omega))
  clear h
  go_enter Try.func34, Try.ntmps34
  go_wp2_with fail
  refine c1.out.mono ?_
  rintro e w1 ⟨z, rfl, ⟨hz0, hz1⟩, hc1, hk1⟩
  obtain ⟨n, rfl⟩ : ∃ k : Nat, z = (k : Int) := ⟨z.toNat, by omega⟩
  have c2 := Lib.hid (sgText_any n (by omega) w1)
  have c3 := Lib.hid (one_any 3 w.heap.size 2 w1 hc1 (by omega) (by omega) (by omega))
  have HK1 := Lib.hid hk1
  have hsz : (⟨(sgT n 6).toArray⟩ : ByteArray).size = 6 := by simp [sgT, ByteArray.size]
  obtain ⟨st, hst⟩ : ∃ st : ByteArray, st = ⟨(sgT n 6).toArray⟩ := ⟨_, rfl⟩
  rw [← hst] at c2 hsz
  clear hc1 hk1 hst
  go_wp2_with fail
  refine c2.out.mono ?_
  rintro e w1' ⟨rfl, rfl⟩
  go_wp2_with fail
  refine c3.out.mono ?_
  rintro e w2 ⟨b, rfl, hc2, hk2⟩
  have HK2 := Lib.hid (HK1.out.trans hk2)
  cases b
  · clear hc2 hk2
    go_wp2_with fail
    go_ret
    exact ⟨_, rfl, by omega, keepG_box HK2.out⟩
  · have c4 := Lib.hid (spoilt_any st ⟨#[35, 46, 120]⟩ w.heap.size 4 w2 hc2 (by omega) (by omega) (by decide) (by decide))
    clear hc2 hk2
    go_wp2_with fail
    refine c4.out.mono ?_
    rintro e w3 ⟨t', rfl, hts, _, hk3⟩
    have HK3 := Lib.hid (HK2.out.trans hk3)
    clear hk3
    go_wp2_with fail
    go_ret
    exact ⟨t', rfl, by omega, keepG_box HK3.out⟩
end Go.Proofs.Ytabiobjcfopakaa
