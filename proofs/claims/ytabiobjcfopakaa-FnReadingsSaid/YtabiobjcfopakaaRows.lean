/-
  No cell of these rows narrows 'for every input' (looked for: loops, veiled, ifaces, maps, wideKeys, modest, calm, conditions, laid).
  DERIVED. THE GIVEN ROWS OF THIS SEAT. 12 by the template 'for every input the law returns true; each argument reads behind the call as it read before'; 0 by the template 'total and deterministic' (their statements: YtabiobjcfopakaaTotals.lean).
  GIVEN WITH THE SEED: the statements are not yours to turn. If you find one false, say at which input.
  Laid BY PROGRAM, IN A SANDBOX (cutbox-rows.mjs): the forced cells as the released guide's own fill.sh prints them over the translation d3724458ab227676… (all of the seat's roots in one cut). By AI agents, Wed Nov 11 2026. No macro, syntax, notation, axiom, sorry.
-/
import Derived.Test.YtabiobjcfopakaaChecked
import GoSem.Claim
import GoSem.ClaimJoined
import GoSem.ClaimMapViews
import Derived.JoinedTies
import Derived.KernelRfl
namespace Go.Proofs.Ytabiobjcfopakaa
/- THE CELL 'sum', in the pinned program and in every row, IS THE sha256 OF THE DUMP (.gsa) THAT YtabiobjcfopakaaProg.lean LOADS. Nothing in Lean hashes anything: it is a label: what it is worth is what the hold of that sum in a sandbox is worth. -/
noncomputable def Try.pinned : Pinned := { name := "ytabiobjcfopakaa", sum := "d3724458ab227676b6f90eea9df8a0ad97dc0f3d71cf2c7b6e726df65ff0cbe2", checked := Try.checked }
namespace Rows
def none {H : Type} : Left H := { results := [], args := [] }

/-- 'laws.FnSignals': WHATEVER THE INPUT: true; the input reads as it did. -/
def fnSignalsSpec : ChangeSpec := { name := "fnSignals", fn := fun _ => fun
  | [d1, d2] => { results := [.lit (.bool true)], args := [d1, d2] }
  | _ => none }
def fnSignalsRow : OpenClaim := { program := "ytabiobjcfopakaa", sum := "d3724458ab227676b6f90eea9df8a0ad97dc0f3d71cf2c7b6e726df65ff0cbe2", func := "loop.example/g00940/laws.FnSignals", spec := "fnSignals", apart := false }
def FnSignalsSaid : Prop := fnSignalsRow.holds Try.pinned (OpenSpec.ofChange fnSignalsSpec)

/-- ITS FALSE NEIGHBOUR: 'it returns false'. Refute it at one input. -/
def fnSignalsWrong : ChangeSpec := { name := "fnSignals", fn := fun _ => fun
  | [d1, d2] => { results := [.lit (.bool false)], args := [d1, d2] }
  | _ => none }
def FnSignalsWrongFalsely : Prop := fnSignalsRow.holds Try.pinned (OpenSpec.ofChange fnSignalsWrong)

/-- 'laws.FnExactIsReadOneWay': WHATEVER THE INPUT: true; the input reads as it did. -/
def fnExactIsReadOneWaySpec : ChangeSpec := { name := "fnExactIsReadOneWay", fn := fun _ => fun
  | [d] => { results := [.lit (.bool true)], args := [d] }
  | _ => none }
def fnExactIsReadOneWayRow : OpenClaim := { program := "ytabiobjcfopakaa", sum := "d3724458ab227676b6f90eea9df8a0ad97dc0f3d71cf2c7b6e726df65ff0cbe2", func := "loop.example/g00940/laws.FnExactIsReadOneWay", spec := "fnExactIsReadOneWay", unfollowed := true, recurses := true, apart := false }
def FnExactIsReadOneWaySaid : Prop := fnExactIsReadOneWayRow.holds Try.pinned (OpenSpec.ofChange fnExactIsReadOneWaySpec)

/-- ITS FALSE NEIGHBOUR: 'it returns false'. Refute it at one input. -/
def fnExactIsReadOneWayWrong : ChangeSpec := { name := "fnExactIsReadOneWay", fn := fun _ => fun
  | [d] => { results := [.lit (.bool false)], args := [d] }
  | _ => none }
def FnExactIsReadOneWayWrongFalsely : Prop := fnExactIsReadOneWayRow.holds Try.pinned (OpenSpec.ofChange fnExactIsReadOneWayWrong)

/-- 'laws.FnExactDropPhrase': WHATEVER THE INPUT: true; the input reads as it did. -/
def fnExactDropPhraseSpec : ChangeSpec := { name := "fnExactDropPhrase", fn := fun _ => fun
  | [d1, d2] => { results := [.lit (.bool true)], args := [d1, d2] }
  | _ => none }
def fnExactDropPhraseRow : OpenClaim := { program := "ytabiobjcfopakaa", sum := "d3724458ab227676b6f90eea9df8a0ad97dc0f3d71cf2c7b6e726df65ff0cbe2", func := "loop.example/g00940/laws.FnExactDropPhrase", spec := "fnExactDropPhrase", unfollowed := true, recurses := true, apart := false }
def FnExactDropPhraseSaid : Prop := fnExactDropPhraseRow.holds Try.pinned (OpenSpec.ofChange fnExactDropPhraseSpec)

/-- ITS FALSE NEIGHBOUR: 'it returns false'. Refute it at one input. -/
def fnExactDropPhraseWrong : ChangeSpec := { name := "fnExactDropPhrase", fn := fun _ => fun
  | [d1, d2] => { results := [.lit (.bool false)], args := [d1, d2] }
  | _ => none }
def FnExactDropPhraseWrongFalsely : Prop := fnExactDropPhraseRow.holds Try.pinned (OpenSpec.ofChange fnExactDropPhraseWrong)

/-- 'laws.FnReadOneWay': WHATEVER THE INPUT: true; the input reads as it did. -/
def fnReadOneWaySpec : ChangeSpec := { name := "fnReadOneWay", fn := fun _ => fun
  | [d1, d2] => { results := [.lit (.bool true)], args := [d1, d2] }
  | _ => none }
def fnReadOneWayRow : OpenClaim := { program := "ytabiobjcfopakaa", sum := "d3724458ab227676b6f90eea9df8a0ad97dc0f3d71cf2c7b6e726df65ff0cbe2", func := "loop.example/g00940/laws.FnReadOneWay", spec := "fnReadOneWay", unfollowed := true, recurses := true, apart := false }
def FnReadOneWaySaid : Prop := fnReadOneWayRow.holds Try.pinned (OpenSpec.ofChange fnReadOneWaySpec)

/-- ITS FALSE NEIGHBOUR: 'it returns false'. Refute it at one input. -/
def fnReadOneWayWrong : ChangeSpec := { name := "fnReadOneWay", fn := fun _ => fun
  | [d1, d2] => { results := [.lit (.bool false)], args := [d1, d2] }
  | _ => none }
def FnReadOneWayWrongFalsely : Prop := fnReadOneWayRow.holds Try.pinned (OpenSpec.ofChange fnReadOneWayWrong)

/-- 'laws.FnExactCanonicalCode': WHATEVER THE INPUT: true; the input reads as it did. -/
def fnExactCanonicalCodeSpec : ChangeSpec := { name := "fnExactCanonicalCode", fn := fun _ => fun
  | [d1, d2] => { results := [.lit (.bool true)], args := [d1, d2] }
  | _ => none }
def fnExactCanonicalCodeRow : OpenClaim := { program := "ytabiobjcfopakaa", sum := "d3724458ab227676b6f90eea9df8a0ad97dc0f3d71cf2c7b6e726df65ff0cbe2", func := "loop.example/g00940/laws.FnExactCanonicalCode", spec := "fnExactCanonicalCode", unfollowed := true, recurses := true, apart := false }
def FnExactCanonicalCodeSaid : Prop := fnExactCanonicalCodeRow.holds Try.pinned (OpenSpec.ofChange fnExactCanonicalCodeSpec)

/-- ITS FALSE NEIGHBOUR: 'it returns false'. Refute it at one input. -/
def fnExactCanonicalCodeWrong : ChangeSpec := { name := "fnExactCanonicalCode", fn := fun _ => fun
  | [d1, d2] => { results := [.lit (.bool false)], args := [d1, d2] }
  | _ => none }
def FnExactCanonicalCodeWrongFalsely : Prop := fnExactCanonicalCodeRow.holds Try.pinned (OpenSpec.ofChange fnExactCanonicalCodeWrong)

/-- 'laws.FnExactLeastLengths': WHATEVER THE INPUT: true; the input reads as it did. -/
def fnExactLeastLengthsSpec : ChangeSpec := { name := "fnExactLeastLengths", fn := fun _ => fun
  | [d1, d2, d3] => { results := [.lit (.bool true)], args := [d1, d2, d3] }
  | _ => none }
def fnExactLeastLengthsRow : OpenClaim := { program := "ytabiobjcfopakaa", sum := "d3724458ab227676b6f90eea9df8a0ad97dc0f3d71cf2c7b6e726df65ff0cbe2", func := "loop.example/g00940/laws.FnExactLeastLengths", spec := "fnExactLeastLengths", unfollowed := true, recurses := true, apart := false }
def FnExactLeastLengthsSaid : Prop := fnExactLeastLengthsRow.holds Try.pinned (OpenSpec.ofChange fnExactLeastLengthsSpec)

/-- ITS FALSE NEIGHBOUR: 'it returns false'. Refute it at one input. -/
def fnExactLeastLengthsWrong : ChangeSpec := { name := "fnExactLeastLengths", fn := fun _ => fun
  | [d1, d2, d3] => { results := [.lit (.bool false)], args := [d1, d2, d3] }
  | _ => none }
def FnExactLeastLengthsWrongFalsely : Prop := fnExactLeastLengthsRow.holds Try.pinned (OpenSpec.ofChange fnExactLeastLengthsWrong)

/-- 'laws.FnExactLeastCost': WHATEVER THE INPUT: true; the input reads as it did. -/
def fnExactLeastCostSpec : ChangeSpec := { name := "fnExactLeastCost", fn := fun _ => fun
  | [d1, d2, d3] => { results := [.lit (.bool true)], args := [d1, d2, d3] }
  | _ => none }
def fnExactLeastCostRow : OpenClaim := { program := "ytabiobjcfopakaa", sum := "d3724458ab227676b6f90eea9df8a0ad97dc0f3d71cf2c7b6e726df65ff0cbe2", func := "loop.example/g00940/laws.FnExactLeastCost", spec := "fnExactLeastCost", unfollowed := true, recurses := true, apart := false }
def FnExactLeastCostSaid : Prop := fnExactLeastCostRow.holds Try.pinned (OpenSpec.ofChange fnExactLeastCostSpec)

/-- ITS FALSE NEIGHBOUR: 'it returns false'. Refute it at one input. -/
def fnExactLeastCostWrong : ChangeSpec := { name := "fnExactLeastCost", fn := fun _ => fun
  | [d1, d2, d3] => { results := [.lit (.bool false)], args := [d1, d2, d3] }
  | _ => none }
def FnExactLeastCostWrongFalsely : Prop := fnExactLeastCostRow.holds Try.pinned (OpenSpec.ofChange fnExactLeastCostWrong)

/-- 'laws.FnExactAddPhrase': WHATEVER THE INPUT: true; the input reads as it did. -/
def fnExactAddPhraseSpec : ChangeSpec := { name := "fnExactAddPhrase", fn := fun _ => fun
  | [d1, d2] => { results := [.lit (.bool true)], args := [d1, d2] }
  | _ => none }
def fnExactAddPhraseRow : OpenClaim := { program := "ytabiobjcfopakaa", sum := "d3724458ab227676b6f90eea9df8a0ad97dc0f3d71cf2c7b6e726df65ff0cbe2", func := "loop.example/g00940/laws.FnExactAddPhrase", spec := "fnExactAddPhrase", inPlace := ["slices.overlaps[loop.example/g00940/impl.Phrase]"], unfollowed := true, recurses := true, apart := false }
def FnExactAddPhraseSaid : Prop := fnExactAddPhraseRow.holds Try.pinned (OpenSpec.ofChange fnExactAddPhraseSpec)

/-- ITS FALSE NEIGHBOUR: 'it returns false'. Refute it at one input. -/
def fnExactAddPhraseWrong : ChangeSpec := { name := "fnExactAddPhrase", fn := fun _ => fun
  | [d1, d2] => { results := [.lit (.bool false)], args := [d1, d2] }
  | _ => none }
def FnExactAddPhraseWrongFalsely : Prop := fnExactAddPhraseRow.holds Try.pinned (OpenSpec.ofChange fnExactAddPhraseWrong)

/-- 'laws.FnReadings': WHATEVER THE INPUT: true; the input reads as it did. -/
def fnReadingsSpec : ChangeSpec := { name := "fnReadings", fn := fun _ => fun
  | [d1, d2] => { results := [.lit (.bool true)], args := [d1, d2] }
  | _ => none }
def fnReadingsRow : OpenClaim := { program := "ytabiobjcfopakaa", sum := "d3724458ab227676b6f90eea9df8a0ad97dc0f3d71cf2c7b6e726df65ff0cbe2", func := "loop.example/g00940/laws.FnReadings", spec := "fnReadings", inPlace := ["internal/abi.NoEscape"], unfollowed := true, recurses := true, apart := false }
def FnReadingsSaid : Prop := fnReadingsRow.holds Try.pinned (OpenSpec.ofChange fnReadingsSpec)

/-- ITS FALSE NEIGHBOUR: 'it returns false'. Refute it at one input. -/
def fnReadingsWrong : ChangeSpec := { name := "fnReadings", fn := fun _ => fun
  | [d1, d2] => { results := [.lit (.bool false)], args := [d1, d2] }
  | _ => none }
def FnReadingsWrongFalsely : Prop := fnReadingsRow.holds Try.pinned (OpenSpec.ofChange fnReadingsWrong)

/-- 'laws.FnLeastCodes': WHATEVER THE INPUT: true; the input reads as it did. -/
def fnLeastCodesSpec : ChangeSpec := { name := "fnLeastCodes", fn := fun _ => fun
  | [d1, d2] => { results := [.lit (.bool true)], args := [d1, d2] }
  | _ => none }
def fnLeastCodesRow : OpenClaim := { program := "ytabiobjcfopakaa", sum := "d3724458ab227676b6f90eea9df8a0ad97dc0f3d71cf2c7b6e726df65ff0cbe2", func := "loop.example/g00940/laws.FnLeastCodes", spec := "fnLeastCodes", unfollowed := true, recurses := true, apart := false }
def FnLeastCodesSaid : Prop := fnLeastCodesRow.holds Try.pinned (OpenSpec.ofChange fnLeastCodesSpec)

/-- ITS FALSE NEIGHBOUR: 'it returns false'. Refute it at one input. -/
def fnLeastCodesWrong : ChangeSpec := { name := "fnLeastCodes", fn := fun _ => fun
  | [d1, d2] => { results := [.lit (.bool false)], args := [d1, d2] }
  | _ => none }
def FnLeastCodesWrongFalsely : Prop := fnLeastCodesRow.holds Try.pinned (OpenSpec.ofChange fnLeastCodesWrong)

/-- 'laws.FnSpelling': WHATEVER THE INPUT: true; the input reads as it did. -/
def fnSpellingSpec : ChangeSpec := { name := "fnSpelling", fn := fun _ => fun
  | [d1, d2] => { results := [.lit (.bool true)], args := [d1, d2] }
  | _ => none }
def fnSpellingRow : OpenClaim := { program := "ytabiobjcfopakaa", sum := "d3724458ab227676b6f90eea9df8a0ad97dc0f3d71cf2c7b6e726df65ff0cbe2", func := "loop.example/g00940/laws.FnSpelling", spec := "fnSpelling", inPlace := ["internal/abi.NoEscape"], unfollowed := true, recurses := true, apart := false }
def FnSpellingSaid : Prop := fnSpellingRow.holds Try.pinned (OpenSpec.ofChange fnSpellingSpec)

/-- ITS FALSE NEIGHBOUR: 'it returns false'. Refute it at one input. -/
def fnSpellingWrong : ChangeSpec := { name := "fnSpelling", fn := fun _ => fun
  | [d1, d2] => { results := [.lit (.bool false)], args := [d1, d2] }
  | _ => none }
def FnSpellingWrongFalsely : Prop := fnSpellingRow.holds Try.pinned (OpenSpec.ofChange fnSpellingWrong)

/-- 'laws.FnCodeWords': WHATEVER THE INPUT: true; the input reads as it did. -/
def fnCodeWordsSpec : ChangeSpec := { name := "fnCodeWords", fn := fun _ => fun
  | [d1, d2] => { results := [.lit (.bool true)], args := [d1, d2] }
  | _ => none }
def fnCodeWordsRow : OpenClaim := { program := "ytabiobjcfopakaa", sum := "d3724458ab227676b6f90eea9df8a0ad97dc0f3d71cf2c7b6e726df65ff0cbe2", func := "loop.example/g00940/laws.FnCodeWords", spec := "fnCodeWords", unfollowed := true, recurses := true, apart := false }
def FnCodeWordsSaid : Prop := fnCodeWordsRow.holds Try.pinned (OpenSpec.ofChange fnCodeWordsSpec)

/-- ITS FALSE NEIGHBOUR: 'it returns false'. Refute it at one input. -/
def fnCodeWordsWrong : ChangeSpec := { name := "fnCodeWords", fn := fun _ => fun
  | [d1, d2] => { results := [.lit (.bool false)], args := [d1, d2] }
  | _ => none }
def FnCodeWordsWrongFalsely : Prop := fnCodeWordsRow.holds Try.pinned (OpenSpec.ofChange fnCodeWordsWrong)

/- THE SECOND FORM. 'bulk': how many values and letters a reading holds, each counted each time it is reached (what is shared counts as often as it is met; a slice's spare places count too). A statement '..UptoSaid' is the law's where the arguments, and the package variables that the reading takes, are together of bulk at most 1048576: NARROWER than '..Said'. Prove '..Said' where nothing that the law and all that it calls make is longer than what came in: it says more and counts as full. Else prove '..UptoSaid'. A law counts once. -/
mutual
def uptoBulk {H : Type} : DataW H → Nat
  | .lit (.string bytes) => bytes.length + 1
  | .lit _ => 1
  | .nil => 1
  | .ptr d => uptoBulk d + 1
  | .slice elems spare => uptoBulkAll elems + uptoBulkAll spare + 1
  | .agg parts => uptoBulkAll parts + 1
  | .iface _ d => uptoBulk d + 1
  | .map entries => uptoBulkEntries entries + 1
  | .held _ => 1
def uptoBulkAll {H : Type} : List (DataW H) → Nat
  | [] => 0
  | d :: r => uptoBulk d + uptoBulkAll r
def uptoBulkEntries {H : Type} : List (Lit × DataW H) → Nat
  | [] => 0
  | x :: r => uptoBulkEntry x + uptoBulkEntries r
def uptoBulkEntry {H : Type} : Lit × DataW H → Nat
  | (.string bytes, d) => bytes.length + uptoBulk d + 1
  | (_, d) => uptoBulk d + 1
 end
def uptoSmall : (H : Type) → List (DataW H) → Bool := fun _ ds => decide (uptoBulkAll ds ≤ 1048576)
def OpenSpec.upto (s : _root_.Go.ChangeSpec) : _root_.Go.OpenSpec := { _root_.Go.OpenSpec.ofChange s with cond := some uptoSmall }

/-- 'laws.FnSignals', WHERE WHAT IT READS IS OF BULK AT MOST 1048576: true; the input reads as it did. -/
def fnSignalsUptoRow : OpenClaim := { program := "ytabiobjcfopakaa", sum := "d3724458ab227676b6f90eea9df8a0ad97dc0f3d71cf2c7b6e726df65ff0cbe2", func := "loop.example/g00940/laws.FnSignals", spec := "fnSignals", apart := false, narrowed := true }
def FnSignalsUptoSaid : Prop := fnSignalsUptoRow.holds Try.pinned (OpenSpec.upto fnSignalsSpec)

/-- 'laws.FnExactIsReadOneWay', WHERE WHAT IT READS IS OF BULK AT MOST 1048576: true; the input reads as it did. -/
def fnExactIsReadOneWayUptoRow : OpenClaim := { program := "ytabiobjcfopakaa", sum := "d3724458ab227676b6f90eea9df8a0ad97dc0f3d71cf2c7b6e726df65ff0cbe2", func := "loop.example/g00940/laws.FnExactIsReadOneWay", spec := "fnExactIsReadOneWay", unfollowed := true, recurses := true, apart := false, narrowed := true }
def FnExactIsReadOneWayUptoSaid : Prop := fnExactIsReadOneWayUptoRow.holds Try.pinned (OpenSpec.upto fnExactIsReadOneWaySpec)

/-- 'laws.FnExactDropPhrase', WHERE WHAT IT READS IS OF BULK AT MOST 1048576: true; the input reads as it did. -/
def fnExactDropPhraseUptoRow : OpenClaim := { program := "ytabiobjcfopakaa", sum := "d3724458ab227676b6f90eea9df8a0ad97dc0f3d71cf2c7b6e726df65ff0cbe2", func := "loop.example/g00940/laws.FnExactDropPhrase", spec := "fnExactDropPhrase", unfollowed := true, recurses := true, apart := false, narrowed := true }
def FnExactDropPhraseUptoSaid : Prop := fnExactDropPhraseUptoRow.holds Try.pinned (OpenSpec.upto fnExactDropPhraseSpec)

/-- 'laws.FnReadOneWay', WHERE WHAT IT READS IS OF BULK AT MOST 1048576: true; the input reads as it did. -/
def fnReadOneWayUptoRow : OpenClaim := { program := "ytabiobjcfopakaa", sum := "d3724458ab227676b6f90eea9df8a0ad97dc0f3d71cf2c7b6e726df65ff0cbe2", func := "loop.example/g00940/laws.FnReadOneWay", spec := "fnReadOneWay", unfollowed := true, recurses := true, apart := false, narrowed := true }
def FnReadOneWayUptoSaid : Prop := fnReadOneWayUptoRow.holds Try.pinned (OpenSpec.upto fnReadOneWaySpec)

/-- 'laws.FnExactCanonicalCode', WHERE WHAT IT READS IS OF BULK AT MOST 1048576: true; the input reads as it did. -/
def fnExactCanonicalCodeUptoRow : OpenClaim := { program := "ytabiobjcfopakaa", sum := "d3724458ab227676b6f90eea9df8a0ad97dc0f3d71cf2c7b6e726df65ff0cbe2", func := "loop.example/g00940/laws.FnExactCanonicalCode", spec := "fnExactCanonicalCode", unfollowed := true, recurses := true, apart := false, narrowed := true }
def FnExactCanonicalCodeUptoSaid : Prop := fnExactCanonicalCodeUptoRow.holds Try.pinned (OpenSpec.upto fnExactCanonicalCodeSpec)

/-- 'laws.FnExactLeastLengths', WHERE WHAT IT READS IS OF BULK AT MOST 1048576: true; the input reads as it did. -/
def fnExactLeastLengthsUptoRow : OpenClaim := { program := "ytabiobjcfopakaa", sum := "d3724458ab227676b6f90eea9df8a0ad97dc0f3d71cf2c7b6e726df65ff0cbe2", func := "loop.example/g00940/laws.FnExactLeastLengths", spec := "fnExactLeastLengths", unfollowed := true, recurses := true, apart := false, narrowed := true }
def FnExactLeastLengthsUptoSaid : Prop := fnExactLeastLengthsUptoRow.holds Try.pinned (OpenSpec.upto fnExactLeastLengthsSpec)

/-- 'laws.FnExactLeastCost', WHERE WHAT IT READS IS OF BULK AT MOST 1048576: true; the input reads as it did. -/
def fnExactLeastCostUptoRow : OpenClaim := { program := "ytabiobjcfopakaa", sum := "d3724458ab227676b6f90eea9df8a0ad97dc0f3d71cf2c7b6e726df65ff0cbe2", func := "loop.example/g00940/laws.FnExactLeastCost", spec := "fnExactLeastCost", unfollowed := true, recurses := true, apart := false, narrowed := true }
def FnExactLeastCostUptoSaid : Prop := fnExactLeastCostUptoRow.holds Try.pinned (OpenSpec.upto fnExactLeastCostSpec)

/-- 'laws.FnExactAddPhrase', WHERE WHAT IT READS IS OF BULK AT MOST 1048576: true; the input reads as it did. -/
def fnExactAddPhraseUptoRow : OpenClaim := { program := "ytabiobjcfopakaa", sum := "d3724458ab227676b6f90eea9df8a0ad97dc0f3d71cf2c7b6e726df65ff0cbe2", func := "loop.example/g00940/laws.FnExactAddPhrase", spec := "fnExactAddPhrase", inPlace := ["slices.overlaps[loop.example/g00940/impl.Phrase]"], unfollowed := true, recurses := true, apart := false, narrowed := true }
def FnExactAddPhraseUptoSaid : Prop := fnExactAddPhraseUptoRow.holds Try.pinned (OpenSpec.upto fnExactAddPhraseSpec)

/-- 'laws.FnReadings', WHERE WHAT IT READS IS OF BULK AT MOST 1048576: true; the input reads as it did. -/
def fnReadingsUptoRow : OpenClaim := { program := "ytabiobjcfopakaa", sum := "d3724458ab227676b6f90eea9df8a0ad97dc0f3d71cf2c7b6e726df65ff0cbe2", func := "loop.example/g00940/laws.FnReadings", spec := "fnReadings", inPlace := ["internal/abi.NoEscape"], unfollowed := true, recurses := true, apart := false, narrowed := true }
def FnReadingsUptoSaid : Prop := fnReadingsUptoRow.holds Try.pinned (OpenSpec.upto fnReadingsSpec)

/-- 'laws.FnLeastCodes', WHERE WHAT IT READS IS OF BULK AT MOST 1048576: true; the input reads as it did. -/
def fnLeastCodesUptoRow : OpenClaim := { program := "ytabiobjcfopakaa", sum := "d3724458ab227676b6f90eea9df8a0ad97dc0f3d71cf2c7b6e726df65ff0cbe2", func := "loop.example/g00940/laws.FnLeastCodes", spec := "fnLeastCodes", unfollowed := true, recurses := true, apart := false, narrowed := true }
def FnLeastCodesUptoSaid : Prop := fnLeastCodesUptoRow.holds Try.pinned (OpenSpec.upto fnLeastCodesSpec)

/-- 'laws.FnSpelling', WHERE WHAT IT READS IS OF BULK AT MOST 1048576: true; the input reads as it did. -/
def fnSpellingUptoRow : OpenClaim := { program := "ytabiobjcfopakaa", sum := "d3724458ab227676b6f90eea9df8a0ad97dc0f3d71cf2c7b6e726df65ff0cbe2", func := "loop.example/g00940/laws.FnSpelling", spec := "fnSpelling", inPlace := ["internal/abi.NoEscape"], unfollowed := true, recurses := true, apart := false, narrowed := true }
def FnSpellingUptoSaid : Prop := fnSpellingUptoRow.holds Try.pinned (OpenSpec.upto fnSpellingSpec)

/-- 'laws.FnCodeWords', WHERE WHAT IT READS IS OF BULK AT MOST 1048576: true; the input reads as it did. -/
def fnCodeWordsUptoRow : OpenClaim := { program := "ytabiobjcfopakaa", sum := "d3724458ab227676b6f90eea9df8a0ad97dc0f3d71cf2c7b6e726df65ff0cbe2", func := "loop.example/g00940/laws.FnCodeWords", spec := "fnCodeWords", unfollowed := true, recurses := true, apart := false, narrowed := true }
def FnCodeWordsUptoSaid : Prop := fnCodeWordsUptoRow.holds Try.pinned (OpenSpec.upto fnCodeWordsSpec)

end Rows
end Go.Proofs.Ytabiobjcfopakaa
