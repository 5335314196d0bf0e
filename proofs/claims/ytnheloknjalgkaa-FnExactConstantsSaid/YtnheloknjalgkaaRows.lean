/-
  No cell of these rows narrows 'for every input' (looked for: loops, veiled, ifaces, maps, wideKeys, modest, calm, conditions, laid).
  DERIVED. THE GIVEN ROWS OF THIS SEAT. 7 by the template 'for every input the law returns true; each argument reads behind the call as it read before'; 0 by the template 'total and deterministic' (their statements: YtnheloknjalgkaaTotals.lean).
  GIVEN WITH THE SEED: the statements are not yours to turn. If you find one false, say at which input.
  Laid BY PROGRAM, IN A SANDBOX (cutbox-rows.mjs): the forced cells as the released guide's own fill.sh prints them over the translation 8dae5bde44cda170… (all of the seat's roots in one cut). By AI agents, Wed Nov 11 2026. No macro, syntax, notation, axiom, sorry.
-/
import Derived.Test.YtnheloknjalgkaaChecked
import GoSem.Claim
import GoSem.ClaimJoined
import GoSem.ClaimMapViews
import Derived.JoinedTies
import Derived.KernelRfl
namespace Go.Proofs.Ytnheloknjalgkaa
/- THE CELL 'sum', in the pinned program and in every row, IS THE sha256 OF THE DUMP (.gsa) THAT YtnheloknjalgkaaProg.lean LOADS. Nothing in Lean hashes anything: it is a label: what it is worth is what the hold of that sum in a sandbox is worth. -/
noncomputable def Try.pinned : Pinned := { name := "ytnheloknjalgkaa", sum := "8dae5bde44cda170ee432cc2cc18e4b523f2b944d5e80a33603f7840a2671153", checked := Try.checked }
namespace Rows
def none {H : Type} : Left H := { results := [], args := [] }

/-- 'laws.FnExactConstants': WHATEVER THE INPUT: true; the input reads as it did. -/
def fnExactConstantsSpec : ChangeSpec := { name := "fnExactConstants", fn := fun _ => fun
  | [] => { results := [.lit (.bool true)], args := [] }
  | _ => none }
def fnExactConstantsRow : OpenClaim := { program := "ytnheloknjalgkaa", sum := "8dae5bde44cda170ee432cc2cc18e4b523f2b944d5e80a33603f7840a2671153", func := "loop.example/g00940/laws.FnExactConstants", spec := "fnExactConstants", apart := false }
def FnExactConstantsSaid : Prop := fnExactConstantsRow.holds Try.pinned (OpenSpec.ofChange fnExactConstantsSpec)

/-- ITS FALSE NEIGHBOUR: 'it returns false'. Refute it at one input. -/
def fnExactConstantsWrong : ChangeSpec := { name := "fnExactConstants", fn := fun _ => fun
  | [] => { results := [.lit (.bool false)], args := [] }
  | _ => none }
def FnExactConstantsWrongFalsely : Prop := fnExactConstantsRow.holds Try.pinned (OpenSpec.ofChange fnExactConstantsWrong)

/-- 'laws.FnExactIsContent': WHATEVER THE INPUT: true; the input reads as it did. -/
def fnExactIsContentSpec : ChangeSpec := { name := "fnExactIsContent", fn := fun _ => fun
  | [d] => { results := [.lit (.bool true)], args := [d] }
  | _ => none }
def fnExactIsContentRow : OpenClaim := { program := "ytnheloknjalgkaa", sum := "8dae5bde44cda170ee432cc2cc18e4b523f2b944d5e80a33603f7840a2671153", func := "loop.example/g00940/laws.FnExactIsContent", spec := "fnExactIsContent", apart := false }
def FnExactIsContentSaid : Prop := fnExactIsContentRow.holds Try.pinned (OpenSpec.ofChange fnExactIsContentSpec)

/-- ITS FALSE NEIGHBOUR: 'it returns false'. Refute it at one input. -/
def fnExactIsContentWrong : ChangeSpec := { name := "fnExactIsContent", fn := fun _ => fun
  | [d] => { results := [.lit (.bool false)], args := [d] }
  | _ => none }
def FnExactIsContentWrongFalsely : Prop := fnExactIsContentRow.holds Try.pinned (OpenSpec.ofChange fnExactIsContentWrong)

/-- 'laws.FnExactTurnSignal': WHATEVER THE INPUT: true; the input reads as it did. -/
def fnExactTurnSignalSpec : ChangeSpec := { name := "fnExactTurnSignal", fn := fun _ => fun
  | [d] => { results := [.lit (.bool true)], args := [d] }
  | _ => none }
def fnExactTurnSignalRow : OpenClaim := { program := "ytnheloknjalgkaa", sum := "8dae5bde44cda170ee432cc2cc18e4b523f2b944d5e80a33603f7840a2671153", func := "loop.example/g00940/laws.FnExactTurnSignal", spec := "fnExactTurnSignal", apart := false }
def FnExactTurnSignalSaid : Prop := fnExactTurnSignalRow.holds Try.pinned (OpenSpec.ofChange fnExactTurnSignalSpec)

/-- ITS FALSE NEIGHBOUR: 'it returns false'. Refute it at one input. -/
def fnExactTurnSignalWrong : ChangeSpec := { name := "fnExactTurnSignal", fn := fun _ => fun
  | [d] => { results := [.lit (.bool false)], args := [d] }
  | _ => none }
def FnExactTurnSignalWrongFalsely : Prop := fnExactTurnSignalRow.holds Try.pinned (OpenSpec.ofChange fnExactTurnSignalWrong)

/-- 'laws.FnExactMirrorSignal': WHATEVER THE INPUT: true; the input reads as it did. -/
def fnExactMirrorSignalSpec : ChangeSpec := { name := "fnExactMirrorSignal", fn := fun _ => fun
  | [d] => { results := [.lit (.bool true)], args := [d] }
  | _ => none }
def fnExactMirrorSignalRow : OpenClaim := { program := "ytnheloknjalgkaa", sum := "8dae5bde44cda170ee432cc2cc18e4b523f2b944d5e80a33603f7840a2671153", func := "loop.example/g00940/laws.FnExactMirrorSignal", spec := "fnExactMirrorSignal", apart := false }
def FnExactMirrorSignalSaid : Prop := fnExactMirrorSignalRow.holds Try.pinned (OpenSpec.ofChange fnExactMirrorSignalSpec)

/-- ITS FALSE NEIGHBOUR: 'it returns false'. Refute it at one input. -/
def fnExactMirrorSignalWrong : ChangeSpec := { name := "fnExactMirrorSignal", fn := fun _ => fun
  | [d] => { results := [.lit (.bool false)], args := [d] }
  | _ => none }
def FnExactMirrorSignalWrongFalsely : Prop := fnExactMirrorSignalRow.holds Try.pinned (OpenSpec.ofChange fnExactMirrorSignalWrong)

/-- 'laws.FnExactIsPhraseText': WHATEVER THE INPUT: true; the input reads as it did. -/
def fnExactIsPhraseTextSpec : ChangeSpec := { name := "fnExactIsPhraseText", fn := fun _ => fun
  | [d] => { results := [.lit (.bool true)], args := [d] }
  | _ => none }
def fnExactIsPhraseTextRow : OpenClaim := { program := "ytnheloknjalgkaa", sum := "8dae5bde44cda170ee432cc2cc18e4b523f2b944d5e80a33603f7840a2671153", func := "loop.example/g00940/laws.FnExactIsPhraseText", spec := "fnExactIsPhraseText", apart := false }
def FnExactIsPhraseTextSaid : Prop := fnExactIsPhraseTextRow.holds Try.pinned (OpenSpec.ofChange fnExactIsPhraseTextSpec)

/-- ITS FALSE NEIGHBOUR: 'it returns false'. Refute it at one input. -/
def fnExactIsPhraseTextWrong : ChangeSpec := { name := "fnExactIsPhraseText", fn := fun _ => fun
  | [d] => { results := [.lit (.bool false)], args := [d] }
  | _ => none }
def FnExactIsPhraseTextWrongFalsely : Prop := fnExactIsPhraseTextRow.holds Try.pinned (OpenSpec.ofChange fnExactIsPhraseTextWrong)

/-- 'laws.FnExactSignalDistance': WHATEVER THE INPUT: true; the input reads as it did. -/
def fnExactSignalDistanceSpec : ChangeSpec := { name := "fnExactSignalDistance", fn := fun _ => fun
  | [d1, d2] => { results := [.lit (.bool true)], args := [d1, d2] }
  | _ => none }
def fnExactSignalDistanceRow : OpenClaim := { program := "ytnheloknjalgkaa", sum := "8dae5bde44cda170ee432cc2cc18e4b523f2b944d5e80a33603f7840a2671153", func := "loop.example/g00940/laws.FnExactSignalDistance", spec := "fnExactSignalDistance", apart := false }
def FnExactSignalDistanceSaid : Prop := fnExactSignalDistanceRow.holds Try.pinned (OpenSpec.ofChange fnExactSignalDistanceSpec)

/-- ITS FALSE NEIGHBOUR: 'it returns false'. Refute it at one input. -/
def fnExactSignalDistanceWrong : ChangeSpec := { name := "fnExactSignalDistance", fn := fun _ => fun
  | [d1, d2] => { results := [.lit (.bool false)], args := [d1, d2] }
  | _ => none }
def FnExactSignalDistanceWrongFalsely : Prop := fnExactSignalDistanceRow.holds Try.pinned (OpenSpec.ofChange fnExactSignalDistanceWrong)

/-- 'laws.FnExactReadSignal': WHATEVER THE INPUT: true; the input reads as it did. -/
def fnExactReadSignalSpec : ChangeSpec := { name := "fnExactReadSignal", fn := fun _ => fun
  | [d] => { results := [.lit (.bool true)], args := [d] }
  | _ => none }
def fnExactReadSignalRow : OpenClaim := { program := "ytnheloknjalgkaa", sum := "8dae5bde44cda170ee432cc2cc18e4b523f2b944d5e80a33603f7840a2671153", func := "loop.example/g00940/laws.FnExactReadSignal", spec := "fnExactReadSignal", apart := false }
def FnExactReadSignalSaid : Prop := fnExactReadSignalRow.holds Try.pinned (OpenSpec.ofChange fnExactReadSignalSpec)

/-- ITS FALSE NEIGHBOUR: 'it returns false'. Refute it at one input. -/
def fnExactReadSignalWrong : ChangeSpec := { name := "fnExactReadSignal", fn := fun _ => fun
  | [d] => { results := [.lit (.bool false)], args := [d] }
  | _ => none }
def FnExactReadSignalWrongFalsely : Prop := fnExactReadSignalRow.holds Try.pinned (OpenSpec.ofChange fnExactReadSignalWrong)

/- THE SECOND FORM. 'bulk': how many values and letters a reading holds, each counted each time it is reached (what is shared counts as often as it is met; a slice's spare places count too). A statement '..UptoSaid' is the law's where the arguments, and the package variables that the reading takes, are together of bulk at most 1048576: NARROWER than '..Said'. Prove '..Said' where nothing that the law and all that it calls make is longer than what came in: it says more and counts as full. Else prove '..UptoSaid'. A law counts once. -/
mutual
def uptoBulk {H : Type} : DataW H → Nat
  | .lit (.string bytes) => bytes.length + 1
  | .lit _ => 1
  | .nil => 1
  | .ptr d => uptoBulk d + 1
  | .slice elems spare => uptoBulkAll elems + uptoBulkAll spare + 1
  | .agg parts => uptoBulkAll parts + 1
  | .iface _ d => uptoBulk d + 1
  | .map entries => uptoBulkEntries entries + 1
  | .held _ => 1
def uptoBulkAll {H : Type} : List (DataW H) → Nat
  | [] => 0
  | d :: r => uptoBulk d + uptoBulkAll r
def uptoBulkEntries {H : Type} : List (Lit × DataW H) → Nat
  | [] => 0
  | x :: r => uptoBulkEntry x + uptoBulkEntries r
def uptoBulkEntry {H : Type} : Lit × DataW H → Nat
  | (.string bytes, d) => bytes.length + uptoBulk d + 1
  | (_, d) => uptoBulk d + 1
 end
def uptoSmall : (H : Type) → List (DataW H) → Bool := fun _ ds => decide (uptoBulkAll ds ≤ 1048576)
def OpenSpec.upto (s : _root_.Go.ChangeSpec) : _root_.Go.OpenSpec := { _root_.Go.OpenSpec.ofChange s with cond := some uptoSmall }

/-- 'laws.FnExactConstants', WHERE WHAT IT READS IS OF BULK AT MOST 1048576: true; the input reads as it did. -/
def fnExactConstantsUptoRow : OpenClaim := { program := "ytnheloknjalgkaa", sum := "8dae5bde44cda170ee432cc2cc18e4b523f2b944d5e80a33603f7840a2671153", func := "loop.example/g00940/laws.FnExactConstants", spec := "fnExactConstants", apart := false, narrowed := true }
def FnExactConstantsUptoSaid : Prop := fnExactConstantsUptoRow.holds Try.pinned (OpenSpec.upto fnExactConstantsSpec)

/-- 'laws.FnExactIsContent', WHERE WHAT IT READS IS OF BULK AT MOST 1048576: true; the input reads as it did. -/
def fnExactIsContentUptoRow : OpenClaim := { program := "ytnheloknjalgkaa", sum := "8dae5bde44cda170ee432cc2cc18e4b523f2b944d5e80a33603f7840a2671153", func := "loop.example/g00940/laws.FnExactIsContent", spec := "fnExactIsContent", apart := false, narrowed := true }
def FnExactIsContentUptoSaid : Prop := fnExactIsContentUptoRow.holds Try.pinned (OpenSpec.upto fnExactIsContentSpec)

/-- 'laws.FnExactTurnSignal', WHERE WHAT IT READS IS OF BULK AT MOST 1048576: true; the input reads as it did. -/
def fnExactTurnSignalUptoRow : OpenClaim := { program := "ytnheloknjalgkaa", sum := "8dae5bde44cda170ee432cc2cc18e4b523f2b944d5e80a33603f7840a2671153", func := "loop.example/g00940/laws.FnExactTurnSignal", spec := "fnExactTurnSignal", apart := false, narrowed := true }
def FnExactTurnSignalUptoSaid : Prop := fnExactTurnSignalUptoRow.holds Try.pinned (OpenSpec.upto fnExactTurnSignalSpec)

/-- 'laws.FnExactMirrorSignal', WHERE WHAT IT READS IS OF BULK AT MOST 1048576: true; the input reads as it did. -/
def fnExactMirrorSignalUptoRow : OpenClaim := { program := "ytnheloknjalgkaa", sum := "8dae5bde44cda170ee432cc2cc18e4b523f2b944d5e80a33603f7840a2671153", func := "loop.example/g00940/laws.FnExactMirrorSignal", spec := "fnExactMirrorSignal", apart := false, narrowed := true }
def FnExactMirrorSignalUptoSaid : Prop := fnExactMirrorSignalUptoRow.holds Try.pinned (OpenSpec.upto fnExactMirrorSignalSpec)

/-- 'laws.FnExactIsPhraseText', WHERE WHAT IT READS IS OF BULK AT MOST 1048576: true; the input reads as it did. -/
def fnExactIsPhraseTextUptoRow : OpenClaim := { program := "ytnheloknjalgkaa", sum := "8dae5bde44cda170ee432cc2cc18e4b523f2b944d5e80a33603f7840a2671153", func := "loop.example/g00940/laws.FnExactIsPhraseText", spec := "fnExactIsPhraseText", apart := false, narrowed := true }
def FnExactIsPhraseTextUptoSaid : Prop := fnExactIsPhraseTextUptoRow.holds Try.pinned (OpenSpec.upto fnExactIsPhraseTextSpec)

/-- 'laws.FnExactSignalDistance', WHERE WHAT IT READS IS OF BULK AT MOST 1048576: true; the input reads as it did. -/
def fnExactSignalDistanceUptoRow : OpenClaim := { program := "ytnheloknjalgkaa", sum := "8dae5bde44cda170ee432cc2cc18e4b523f2b944d5e80a33603f7840a2671153", func := "loop.example/g00940/laws.FnExactSignalDistance", spec := "fnExactSignalDistance", apart := false, narrowed := true }
def FnExactSignalDistanceUptoSaid : Prop := fnExactSignalDistanceUptoRow.holds Try.pinned (OpenSpec.upto fnExactSignalDistanceSpec)

/-- 'laws.FnExactReadSignal', WHERE WHAT IT READS IS OF BULK AT MOST 1048576: true; the input reads as it did. -/
def fnExactReadSignalUptoRow : OpenClaim := { program := "ytnheloknjalgkaa", sum := "8dae5bde44cda170ee432cc2cc18e4b523f2b944d5e80a33603f7840a2671153", func := "loop.example/g00940/laws.FnExactReadSignal", spec := "fnExactReadSignal", apart := false, narrowed := true }
def FnExactReadSignalUptoSaid : Prop := fnExactReadSignalUptoRow.holds Try.pinned (OpenSpec.upto fnExactReadSignalSpec)

end Rows
end Go.Proofs.Ytnheloknjalgkaa
