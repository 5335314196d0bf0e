/-
  No cell of these rows narrows 'for every input' (looked for: loops, veiled, ifaces, maps, wideKeys, modest, calm, conditions, laid).
  DERIVED. THE GIVEN ROWS OF THIS SEAT. 12 by the template 'for every input the law returns true; each argument reads behind the call as it read before'; 0 by the template 'total and deterministic' (their statements: YtfkgfioghfmmnaaTotals.lean).
  GIVEN WITH THE SEED: the statements are not yours to turn. If you find one false, say at which input.
  Laid BY PROGRAM, IN A SANDBOX (cutbox-rows.mjs): the forced cells as the released guide's own fill.sh prints them over the translation 864da212000b4653… (all of the seat's roots in one cut). By AI agents, Wed Nov 11 2026. No macro, syntax, notation, axiom, sorry.
-/
import Derived.Test.YtfkgfioghfmmnaaChecked
import GoSem.Claim
import GoSem.ClaimJoined
import GoSem.ClaimMapViews
import Derived.JoinedTies
import Derived.KernelRfl
namespace Go.Proofs.Ytfkgfioghfmmnaa
/- THE CELL 'sum', in the pinned program and in every row, IS THE sha256 OF THE DUMP (.gsa) THAT YtfkgfioghfmmnaaProg.lean LOADS. Nothing in Lean hashes anything: it is a label: what it is worth is what the hold of that sum in a sandbox is worth. -/
noncomputable def Try.pinned : Pinned := { name := "ytfkgfioghfmmnaa", sum := "864da212000b465306bcaa7d9d013d6b830b32d896f893b330190e827431f2c1", checked := Try.checked }
namespace Rows
def none {H : Type} : Left H := { results := [], args := [] }

/-- 'laws.FnExactFlatLength': WHATEVER THE INPUT: true; the input reads as it did. -/
def fnExactFlatLengthSpec : ChangeSpec := { name := "fnExactFlatLength", fn := fun _ => fun
  | [d1, d2] => { results := [.lit (.bool true)], args := [d1, d2] }
  | _ => none }
def fnExactFlatLengthRow : OpenClaim := { program := "ytfkgfioghfmmnaa", sum := "864da212000b465306bcaa7d9d013d6b830b32d896f893b330190e827431f2c1", func := "loop.example/g00940/laws.FnExactFlatLength", spec := "fnExactFlatLength", apart := false }
def FnExactFlatLengthSaid : Prop := fnExactFlatLengthRow.holds Try.pinned (OpenSpec.ofChange fnExactFlatLengthSpec)

/-- ITS FALSE NEIGHBOUR: 'it returns false'. Refute it at one input. -/
def fnExactFlatLengthWrong : ChangeSpec := { name := "fnExactFlatLength", fn := fun _ => fun
  | [d1, d2] => { results := [.lit (.bool false)], args := [d1, d2] }
  | _ => none }
def FnExactFlatLengthWrongFalsely : Prop := fnExactFlatLengthRow.holds Try.pinned (OpenSpec.ofChange fnExactFlatLengthWrong)

/-- 'laws.FnExactSignalText': WHATEVER THE INPUT: true; the input reads as it did. -/
def fnExactSignalTextSpec : ChangeSpec := { name := "fnExactSignalText", fn := fun _ => fun
  | [d] => { results := [.lit (.bool true)], args := [d] }
  | _ => none }
def fnExactSignalTextRow : OpenClaim := { program := "ytfkgfioghfmmnaa", sum := "864da212000b465306bcaa7d9d013d6b830b32d896f893b330190e827431f2c1", func := "loop.example/g00940/laws.FnExactSignalText", spec := "fnExactSignalText", apart := false }
def FnExactSignalTextSaid : Prop := fnExactSignalTextRow.holds Try.pinned (OpenSpec.ofChange fnExactSignalTextSpec)

/-- ITS FALSE NEIGHBOUR: 'it returns false'. Refute it at one input. -/
def fnExactSignalTextWrong : ChangeSpec := { name := "fnExactSignalText", fn := fun _ => fun
  | [d] => { results := [.lit (.bool false)], args := [d] }
  | _ => none }
def FnExactSignalTextWrongFalsely : Prop := fnExactSignalTextRow.holds Try.pinned (OpenSpec.ofChange fnExactSignalTextWrong)

/-- 'laws.FnExactChangedShutters': WHATEVER THE INPUT: true; the input reads as it did. -/
def fnExactChangedShuttersSpec : ChangeSpec := { name := "fnExactChangedShutters", fn := fun _ => fun
  | [d1, d2] => { results := [.lit (.bool true)], args := [d1, d2] }
  | _ => none }
def fnExactChangedShuttersRow : OpenClaim := { program := "ytfkgfioghfmmnaa", sum := "864da212000b465306bcaa7d9d013d6b830b32d896f893b330190e827431f2c1", func := "loop.example/g00940/laws.FnExactChangedShutters", spec := "fnExactChangedShutters", apart := false }
def FnExactChangedShuttersSaid : Prop := fnExactChangedShuttersRow.holds Try.pinned (OpenSpec.ofChange fnExactChangedShuttersSpec)

/-- ITS FALSE NEIGHBOUR: 'it returns false'. Refute it at one input. -/
def fnExactChangedShuttersWrong : ChangeSpec := { name := "fnExactChangedShutters", fn := fun _ => fun
  | [d1, d2] => { results := [.lit (.bool false)], args := [d1, d2] }
  | _ => none }
def FnExactChangedShuttersWrongFalsely : Prop := fnExactChangedShuttersRow.holds Try.pinned (OpenSpec.ofChange fnExactChangedShuttersWrong)

/-- 'laws.FnExactClosedShutters': WHATEVER THE INPUT: true; the input reads as it did. -/
def fnExactClosedShuttersSpec : ChangeSpec := { name := "fnExactClosedShutters", fn := fun _ => fun
  | [d] => { results := [.lit (.bool true)], args := [d] }
  | _ => none }
def fnExactClosedShuttersRow : OpenClaim := { program := "ytfkgfioghfmmnaa", sum := "864da212000b465306bcaa7d9d013d6b830b32d896f893b330190e827431f2c1", func := "loop.example/g00940/laws.FnExactClosedShutters", spec := "fnExactClosedShutters", apart := false }
def FnExactClosedShuttersSaid : Prop := fnExactClosedShuttersRow.holds Try.pinned (OpenSpec.ofChange fnExactClosedShuttersSpec)

/-- ITS FALSE NEIGHBOUR: 'it returns false'. Refute it at one input. -/
def fnExactClosedShuttersWrong : ChangeSpec := { name := "fnExactClosedShutters", fn := fun _ => fun
  | [d] => { results := [.lit (.bool false)], args := [d] }
  | _ => none }
def FnExactClosedShuttersWrongFalsely : Prop := fnExactClosedShuttersRow.holds Try.pinned (OpenSpec.ofChange fnExactClosedShuttersWrong)

/-- 'laws.FnExactSumHolds': WHATEVER THE INPUT: true; the input reads as it did. -/
def fnExactSumHoldsSpec : ChangeSpec := { name := "fnExactSumHolds", fn := fun _ => fun
  | [d] => { results := [.lit (.bool true)], args := [d] }
  | _ => none }
def fnExactSumHoldsRow : OpenClaim := { program := "ytfkgfioghfmmnaa", sum := "864da212000b465306bcaa7d9d013d6b830b32d896f893b330190e827431f2c1", func := "loop.example/g00940/laws.FnExactSumHolds", spec := "fnExactSumHolds", apart := false }
def FnExactSumHoldsSaid : Prop := fnExactSumHoldsRow.holds Try.pinned (OpenSpec.ofChange fnExactSumHoldsSpec)

/-- ITS FALSE NEIGHBOUR: 'it returns false'. Refute it at one input. -/
def fnExactSumHoldsWrong : ChangeSpec := { name := "fnExactSumHolds", fn := fun _ => fun
  | [d] => { results := [.lit (.bool false)], args := [d] }
  | _ => none }
def FnExactSumHoldsWrongFalsely : Prop := fnExactSumHoldsRow.holds Try.pinned (OpenSpec.ofChange fnExactSumHoldsWrong)

/-- 'laws.FnExactSyndromesOf': WHATEVER THE INPUT: true; the input reads as it did. -/
def fnExactSyndromesOfSpec : ChangeSpec := { name := "fnExactSyndromesOf", fn := fun _ => fun
  | [d] => { results := [.lit (.bool true)], args := [d] }
  | _ => none }
def fnExactSyndromesOfRow : OpenClaim := { program := "ytfkgfioghfmmnaa", sum := "864da212000b465306bcaa7d9d013d6b830b32d896f893b330190e827431f2c1", func := "loop.example/g00940/laws.FnExactSyndromesOf", spec := "fnExactSyndromesOf", apart := false }
def FnExactSyndromesOfSaid : Prop := fnExactSyndromesOfRow.holds Try.pinned (OpenSpec.ofChange fnExactSyndromesOfSpec)

/-- ITS FALSE NEIGHBOUR: 'it returns false'. Refute it at one input. -/
def fnExactSyndromesOfWrong : ChangeSpec := { name := "fnExactSyndromesOf", fn := fun _ => fun
  | [d] => { results := [.lit (.bool false)], args := [d] }
  | _ => none }
def FnExactSyndromesOfWrongFalsely : Prop := fnExactSyndromesOfRow.holds Try.pinned (OpenSpec.ofChange fnExactSyndromesOfWrong)

/-- 'laws.FnExactCostOf': WHATEVER THE INPUT: true; the input reads as it did. -/
def fnExactCostOfSpec : ChangeSpec := { name := "fnExactCostOf", fn := fun _ => fun
  | [d1, d2] => { results := [.lit (.bool true)], args := [d1, d2] }
  | _ => none }
def fnExactCostOfRow : OpenClaim := { program := "ytfkgfioghfmmnaa", sum := "864da212000b465306bcaa7d9d013d6b830b32d896f893b330190e827431f2c1", func := "loop.example/g00940/laws.FnExactCostOf", spec := "fnExactCostOf", apart := false }
def FnExactCostOfSaid : Prop := fnExactCostOfRow.holds Try.pinned (OpenSpec.ofChange fnExactCostOfSpec)

/-- ITS FALSE NEIGHBOUR: 'it returns false'. Refute it at one input. -/
def fnExactCostOfWrong : ChangeSpec := { name := "fnExactCostOf", fn := fun _ => fun
  | [d1, d2] => { results := [.lit (.bool false)], args := [d1, d2] }
  | _ => none }
def FnExactCostOfWrongFalsely : Prop := fnExactCostOfRow.holds Try.pinned (OpenSpec.ofChange fnExactCostOfWrong)

/-- 'laws.FnExactMovementsOf': WHATEVER THE INPUT: true; the input reads as it did. -/
def fnExactMovementsOfSpec : ChangeSpec := { name := "fnExactMovementsOf", fn := fun _ => fun
  | [d] => { results := [.lit (.bool true)], args := [d] }
  | _ => none }
def fnExactMovementsOfRow : OpenClaim := { program := "ytfkgfioghfmmnaa", sum := "864da212000b465306bcaa7d9d013d6b830b32d896f893b330190e827431f2c1", func := "loop.example/g00940/laws.FnExactMovementsOf", spec := "fnExactMovementsOf", apart := false }
def FnExactMovementsOfSaid : Prop := fnExactMovementsOfRow.holds Try.pinned (OpenSpec.ofChange fnExactMovementsOfSpec)

/-- ITS FALSE NEIGHBOUR: 'it returns false'. Refute it at one input. -/
def fnExactMovementsOfWrong : ChangeSpec := { name := "fnExactMovementsOf", fn := fun _ => fun
  | [d] => { results := [.lit (.bool false)], args := [d] }
  | _ => none }
def FnExactMovementsOfWrongFalsely : Prop := fnExactMovementsOfRow.holds Try.pinned (OpenSpec.ofChange fnExactMovementsOfWrong)

/-- 'laws.FnExactKraftSum': WHATEVER THE INPUT: true; the input reads as it did. -/
def fnExactKraftSumSpec : ChangeSpec := { name := "fnExactKraftSum", fn := fun _ => fun
  | [d1, d2] => { results := [.lit (.bool true)], args := [d1, d2] }
  | _ => none }
def fnExactKraftSumRow : OpenClaim := { program := "ytfkgfioghfmmnaa", sum := "864da212000b465306bcaa7d9d013d6b830b32d896f893b330190e827431f2c1", func := "loop.example/g00940/laws.FnExactKraftSum", spec := "fnExactKraftSum", apart := false }
def FnExactKraftSumSaid : Prop := fnExactKraftSumRow.holds Try.pinned (OpenSpec.ofChange fnExactKraftSumSpec)

/-- ITS FALSE NEIGHBOUR: 'it returns false'. Refute it at one input. -/
def fnExactKraftSumWrong : ChangeSpec := { name := "fnExactKraftSum", fn := fun _ => fun
  | [d1, d2] => { results := [.lit (.bool false)], args := [d1, d2] }
  | _ => none }
def FnExactKraftSumWrongFalsely : Prop := fnExactKraftSumRow.holds Try.pinned (OpenSpec.ofChange fnExactKraftSumWrong)

/-- 'laws.FnExactHasCode': WHATEVER THE INPUT: true; the input reads as it did. -/
def fnExactHasCodeSpec : ChangeSpec := { name := "fnExactHasCode", fn := fun _ => fun
  | [d1, d2] => { results := [.lit (.bool true)], args := [d1, d2] }
  | _ => none }
def fnExactHasCodeRow : OpenClaim := { program := "ytfkgfioghfmmnaa", sum := "864da212000b465306bcaa7d9d013d6b830b32d896f893b330190e827431f2c1", func := "loop.example/g00940/laws.FnExactHasCode", spec := "fnExactHasCode", apart := false }
def FnExactHasCodeSaid : Prop := fnExactHasCodeRow.holds Try.pinned (OpenSpec.ofChange fnExactHasCodeSpec)

/-- ITS FALSE NEIGHBOUR: 'it returns false'. Refute it at one input. -/
def fnExactHasCodeWrong : ChangeSpec := { name := "fnExactHasCode", fn := fun _ => fun
  | [d1, d2] => { results := [.lit (.bool false)], args := [d1, d2] }
  | _ => none }
def FnExactHasCodeWrongFalsely : Prop := fnExactHasCodeRow.holds Try.pinned (OpenSpec.ofChange fnExactHasCodeWrong)

/-- 'laws.FnExactNearestSignals': WHATEVER THE INPUT: true; the input reads as it did. -/
def fnExactNearestSignalsSpec : ChangeSpec := { name := "fnExactNearestSignals", fn := fun _ => fun
  | [d1, d2] => { results := [.lit (.bool true)], args := [d1, d2] }
  | _ => none }
def fnExactNearestSignalsRow : OpenClaim := { program := "ytfkgfioghfmmnaa", sum := "864da212000b465306bcaa7d9d013d6b830b32d896f893b330190e827431f2c1", func := "loop.example/g00940/laws.FnExactNearestSignals", spec := "fnExactNearestSignals", apart := false }
def FnExactNearestSignalsSaid : Prop := fnExactNearestSignalsRow.holds Try.pinned (OpenSpec.ofChange fnExactNearestSignalsSpec)

/-- ITS FALSE NEIGHBOUR: 'it returns false'. Refute it at one input. -/
def fnExactNearestSignalsWrong : ChangeSpec := { name := "fnExactNearestSignals", fn := fun _ => fun
  | [d1, d2] => { results := [.lit (.bool false)], args := [d1, d2] }
  | _ => none }
def FnExactNearestSignalsWrongFalsely : Prop := fnExactNearestSignalsRow.holds Try.pinned (OpenSpec.ofChange fnExactNearestSignalsWrong)

/-- 'laws.FnExactWriteWords': WHATEVER THE INPUT: true; the input reads as it did. -/
def fnExactWriteWordsSpec : ChangeSpec := { name := "fnExactWriteWords", fn := fun _ => fun
  | [d1, d2] => { results := [.lit (.bool true)], args := [d1, d2] }
  | _ => none }
def fnExactWriteWordsRow : OpenClaim := { program := "ytfkgfioghfmmnaa", sum := "864da212000b465306bcaa7d9d013d6b830b32d896f893b330190e827431f2c1", func := "loop.example/g00940/laws.FnExactWriteWords", spec := "fnExactWriteWords", apart := false }
def FnExactWriteWordsSaid : Prop := fnExactWriteWordsRow.holds Try.pinned (OpenSpec.ofChange fnExactWriteWordsSpec)

/-- ITS FALSE NEIGHBOUR: 'it returns false'. Refute it at one input. -/
def fnExactWriteWordsWrong : ChangeSpec := { name := "fnExactWriteWords", fn := fun _ => fun
  | [d1, d2] => { results := [.lit (.bool false)], args := [d1, d2] }
  | _ => none }
def FnExactWriteWordsWrongFalsely : Prop := fnExactWriteWordsRow.holds Try.pinned (OpenSpec.ofChange fnExactWriteWordsWrong)

/- THE SECOND FORM. 'bulk': how many values and letters a reading holds, each counted each time it is reached (what is shared counts as often as it is met; a slice's spare places count too). A statement '..UptoSaid' is the law's where the arguments, and the package variables that the reading takes, are together of bulk at most 1048576: NARROWER than '..Said'. Prove '..Said' where nothing that the law and all that it calls make is longer than what came in: it says more and counts as full. Else prove '..UptoSaid'. A law counts once. -/
mutual
def uptoBulk {H : Type} : DataW H → Nat
  | .lit (.string bytes) => bytes.length + 1
  | .lit _ => 1
  | .nil => 1
  | .ptr d => uptoBulk d + 1
  | .slice elems spare => uptoBulkAll elems + uptoBulkAll spare + 1
  | .agg parts => uptoBulkAll parts + 1
  | .iface _ d => uptoBulk d + 1
  | .map entries => uptoBulkEntries entries + 1
  | .held _ => 1
def uptoBulkAll {H : Type} : List (DataW H) → Nat
  | [] => 0
  | d :: r => uptoBulk d + uptoBulkAll r
def uptoBulkEntries {H : Type} : List (Lit × DataW H) → Nat
  | [] => 0
  | x :: r => uptoBulkEntry x + uptoBulkEntries r
def uptoBulkEntry {H : Type} : Lit × DataW H → Nat
  | (.string bytes, d) => bytes.length + uptoBulk d + 1
  | (_, d) => uptoBulk d + 1
 end
def uptoSmall : (H : Type) → List (DataW H) → Bool := fun _ ds => decide (uptoBulkAll ds ≤ 1048576)
def OpenSpec.upto (s : _root_.Go.ChangeSpec) : _root_.Go.OpenSpec := { _root_.Go.OpenSpec.ofChange s with cond := some uptoSmall }

/-- 'laws.FnExactFlatLength', WHERE WHAT IT READS IS OF BULK AT MOST 1048576: true; the input reads as it did. -/
def fnExactFlatLengthUptoRow : OpenClaim := { program := "ytfkgfioghfmmnaa", sum := "864da212000b465306bcaa7d9d013d6b830b32d896f893b330190e827431f2c1", func := "loop.example/g00940/laws.FnExactFlatLength", spec := "fnExactFlatLength", apart := false, narrowed := true }
def FnExactFlatLengthUptoSaid : Prop := fnExactFlatLengthUptoRow.holds Try.pinned (OpenSpec.upto fnExactFlatLengthSpec)

/-- 'laws.FnExactSignalText', WHERE WHAT IT READS IS OF BULK AT MOST 1048576: true; the input reads as it did. -/
def fnExactSignalTextUptoRow : OpenClaim := { program := "ytfkgfioghfmmnaa", sum := "864da212000b465306bcaa7d9d013d6b830b32d896f893b330190e827431f2c1", func := "loop.example/g00940/laws.FnExactSignalText", spec := "fnExactSignalText", apart := false, narrowed := true }
def FnExactSignalTextUptoSaid : Prop := fnExactSignalTextUptoRow.holds Try.pinned (OpenSpec.upto fnExactSignalTextSpec)

/-- 'laws.FnExactChangedShutters', WHERE WHAT IT READS IS OF BULK AT MOST 1048576: true; the input reads as it did. -/
def fnExactChangedShuttersUptoRow : OpenClaim := { program := "ytfkgfioghfmmnaa", sum := "864da212000b465306bcaa7d9d013d6b830b32d896f893b330190e827431f2c1", func := "loop.example/g00940/laws.FnExactChangedShutters", spec := "fnExactChangedShutters", apart := false, narrowed := true }
def FnExactChangedShuttersUptoSaid : Prop := fnExactChangedShuttersUptoRow.holds Try.pinned (OpenSpec.upto fnExactChangedShuttersSpec)

/-- 'laws.FnExactClosedShutters', WHERE WHAT IT READS IS OF BULK AT MOST 1048576: true; the input reads as it did. -/
def fnExactClosedShuttersUptoRow : OpenClaim := { program := "ytfkgfioghfmmnaa", sum := "864da212000b465306bcaa7d9d013d6b830b32d896f893b330190e827431f2c1", func := "loop.example/g00940/laws.FnExactClosedShutters", spec := "fnExactClosedShutters", apart := false, narrowed := true }
def FnExactClosedShuttersUptoSaid : Prop := fnExactClosedShuttersUptoRow.holds Try.pinned (OpenSpec.upto fnExactClosedShuttersSpec)

/-- 'laws.FnExactSumHolds', WHERE WHAT IT READS IS OF BULK AT MOST 1048576: true; the input reads as it did. -/
def fnExactSumHoldsUptoRow : OpenClaim := { program := "ytfkgfioghfmmnaa", sum := "864da212000b465306bcaa7d9d013d6b830b32d896f893b330190e827431f2c1", func := "loop.example/g00940/laws.FnExactSumHolds", spec := "fnExactSumHolds", apart := false, narrowed := true }
def FnExactSumHoldsUptoSaid : Prop := fnExactSumHoldsUptoRow.holds Try.pinned (OpenSpec.upto fnExactSumHoldsSpec)

/-- 'laws.FnExactSyndromesOf', WHERE WHAT IT READS IS OF BULK AT MOST 1048576: true; the input reads as it did. -/
def fnExactSyndromesOfUptoRow : OpenClaim := { program := "ytfkgfioghfmmnaa", sum := "864da212000b465306bcaa7d9d013d6b830b32d896f893b330190e827431f2c1", func := "loop.example/g00940/laws.FnExactSyndromesOf", spec := "fnExactSyndromesOf", apart := false, narrowed := true }
def FnExactSyndromesOfUptoSaid : Prop := fnExactSyndromesOfUptoRow.holds Try.pinned (OpenSpec.upto fnExactSyndromesOfSpec)

/-- 'laws.FnExactCostOf', WHERE WHAT IT READS IS OF BULK AT MOST 1048576: true; the input reads as it did. -/
def fnExactCostOfUptoRow : OpenClaim := { program := "ytfkgfioghfmmnaa", sum := "864da212000b465306bcaa7d9d013d6b830b32d896f893b330190e827431f2c1", func := "loop.example/g00940/laws.FnExactCostOf", spec := "fnExactCostOf", apart := false, narrowed := true }
def FnExactCostOfUptoSaid : Prop := fnExactCostOfUptoRow.holds Try.pinned (OpenSpec.upto fnExactCostOfSpec)

/-- 'laws.FnExactMovementsOf', WHERE WHAT IT READS IS OF BULK AT MOST 1048576: true; the input reads as it did. -/
def fnExactMovementsOfUptoRow : OpenClaim := { program := "ytfkgfioghfmmnaa", sum := "864da212000b465306bcaa7d9d013d6b830b32d896f893b330190e827431f2c1", func := "loop.example/g00940/laws.FnExactMovementsOf", spec := "fnExactMovementsOf", apart := false, narrowed := true }
def FnExactMovementsOfUptoSaid : Prop := fnExactMovementsOfUptoRow.holds Try.pinned (OpenSpec.upto fnExactMovementsOfSpec)

/-- 'laws.FnExactKraftSum', WHERE WHAT IT READS IS OF BULK AT MOST 1048576: true; the input reads as it did. -/
def fnExactKraftSumUptoRow : OpenClaim := { program := "ytfkgfioghfmmnaa", sum := "864da212000b465306bcaa7d9d013d6b830b32d896f893b330190e827431f2c1", func := "loop.example/g00940/laws.FnExactKraftSum", spec := "fnExactKraftSum", apart := false, narrowed := true }
def FnExactKraftSumUptoSaid : Prop := fnExactKraftSumUptoRow.holds Try.pinned (OpenSpec.upto fnExactKraftSumSpec)

/-- 'laws.FnExactHasCode', WHERE WHAT IT READS IS OF BULK AT MOST 1048576: true; the input reads as it did. -/
def fnExactHasCodeUptoRow : OpenClaim := { program := "ytfkgfioghfmmnaa", sum := "864da212000b465306bcaa7d9d013d6b830b32d896f893b330190e827431f2c1", func := "loop.example/g00940/laws.FnExactHasCode", spec := "fnExactHasCode", apart := false, narrowed := true }
def FnExactHasCodeUptoSaid : Prop := fnExactHasCodeUptoRow.holds Try.pinned (OpenSpec.upto fnExactHasCodeSpec)

/-- 'laws.FnExactNearestSignals', WHERE WHAT IT READS IS OF BULK AT MOST 1048576: true; the input reads as it did. -/
def fnExactNearestSignalsUptoRow : OpenClaim := { program := "ytfkgfioghfmmnaa", sum := "864da212000b465306bcaa7d9d013d6b830b32d896f893b330190e827431f2c1", func := "loop.example/g00940/laws.FnExactNearestSignals", spec := "fnExactNearestSignals", apart := false, narrowed := true }
def FnExactNearestSignalsUptoSaid : Prop := fnExactNearestSignalsUptoRow.holds Try.pinned (OpenSpec.upto fnExactNearestSignalsSpec)

/-- 'laws.FnExactWriteWords', WHERE WHAT IT READS IS OF BULK AT MOST 1048576: true; the input reads as it did. -/
def fnExactWriteWordsUptoRow : OpenClaim := { program := "ytfkgfioghfmmnaa", sum := "864da212000b465306bcaa7d9d013d6b830b32d896f893b330190e827431f2c1", func := "loop.example/g00940/laws.FnExactWriteWords", spec := "fnExactWriteWords", apart := false, narrowed := true }
def FnExactWriteWordsUptoSaid : Prop := fnExactWriteWordsUptoRow.holds Try.pinned (OpenSpec.upto fnExactWriteWordsSpec)

end Rows
end Go.Proofs.Ytfkgfioghfmmnaa
