/- The library's strings.Builder at this dump: its contracts, laid by hand (the numbers of functions and types put in their places). -/
import Derived.Test.YtfiipjdlleihhaaShelf
import Derived.Shelf.Strings.BuilderK
namespace Go.Proofs.Ytfiipjdlleihhaa
open Go Go.RowKit
def builderRen : Go.Shelf.Ren := ⟨fun | 166 => 99 | 240 => 102 | 276 => 103 | n => n,
  fun | 70 => 87 | 9 => 9 | 0 => 0 | 72 => 90 | 37 => 88 | 3 => 3 | 4 => 4 | 5 => 5 | 20 => 20 | 75 => 92 | 80 => 95 | 164 => 98 | n => n, fun | n => n⟩
theorem laysBuilder : Go.Proofs.Lays.n166 Try.prog builderRen := {
  mixed := by kernel_rfl
  f166 := Try.func99.trans (congrArg some (by kernel_rfl))
  f240 := Try.func102.trans (congrArg some (by kernel_rfl))
  f276 := Try.func103.trans (congrArg some (by kernel_rfl))
  t0 := Try.underlying0
  a0 := Try.isAgg0
  z0 := Try.sizeOf0
  v0 := Try.zeroValue0
  t3 := Try.underlying3
  a3 := Try.isAgg3
  z3 := Try.sizeOf3
  v3 := Try.zeroValue3
  t4 := Try.underlying4
  a4 := Try.isAgg4
  z4 := Try.sizeOf4
  v4 := Try.zeroValue4
  t9 := Try.underlying9
  a9 := Try.isAgg9
  z9 := Try.sizeOf9
  v9 := Try.zeroValue9
  t20 := Try.underlying20
  a20 := Try.isAgg20
  z20 := Try.sizeOf20
  v20 := Try.zeroValue20
  t37 := Try.underlying88
  a37 := Try.isAgg88
  z37 := Try.sizeOf88
  v37 := Try.zeroValue88
  t70 := Try.underlying87
  a70 := Try.isAgg87
  z70 := Try.sizeOf87
  v70 := Try.zeroValue87
  t72 := Try.underlying90
  a72 := Try.isAgg90
  z72 := Try.sizeOf90
  v72 := Try.zeroValue90
  t75 := Try.underlying92
  a75 := Try.isAgg92
  z75 := Try.sizeOf92
  v75 := Try.zeroValue92
  t164 := Try.underlying98
  a164 := Try.isAgg98
  z164 := Try.sizeOf98
  v164 := Try.zeroValue98 }
theorem builderExtra : Builder.Extra Try.prog builderRen := {
  sizeBuilder := by kernel_rfl
  liesBuilder := by kernel_rfl
  t5 := Try.underlying5
  a5 := Try.isAgg5
  z5 := Try.sizeOf5
  v5 := Try.zeroValue5
  infoByte := by kernel_rfl
  cellsByte := by kernel_rfl
  sizeByte := by kernel_rfl
  neB5 := by decide }
/-- A builder of the call's own that holds the bytes l. -/
def Bld (B b : Nat) (l : List UInt8) (w : World) : Prop := Lib.IsBuilder 90 5 B b (Lib.byteCells l) w
theorem writeString_any (B b : Nat) (l : List UInt8) (s : ByteArray) (w : World) (h : Bld B b l w) (hlen : l.length + s.size ≤ 140737488355328) (hBw : B ≤ w.heap.size) :
    Calls Try.prog 99 #[.pointer (some ⟨b, 0, Option.none⟩), .string s] w fun e w' => e = .returned (.tuple #[.int .i64 s.size, .nilIface]) ∧ Bld B b (l ++ s.data.toList) w' ∧ Below B w w' :=
  (Any.Builder_WriteString laysBuilder builderExtra B b (Lib.byteCells l) s w h (by simpa [Lib.byteCells] using hlen) hBw).mono fun _ _ ⟨he, h1, h2⟩ => ⟨he, by
    unfold Bld
    have e : Lib.byteCells (l ++ s.data.toList) = Lib.byteCells l ++ Lib.strCells s := by simp [Lib.byteCells, Lib.strCells]
    rw [e]; exact .inr h1, h2⟩
end Go.Proofs.Ytfiipjdlleihhaa
