/-
  No cell of these rows narrows 'for every input' (looked for: loops, veiled, ifaces, maps, wideKeys, modest, calm, conditions, laid).
  DERIVED. THE GIVEN ROWS OF THIS SEAT. 10 by the template 'for every input the law returns true; each argument reads behind the call as it read before'; 0 by the template 'total and deterministic' (their statements: YtabhnbooboceeaaTotals.lean).
  GIVEN WITH THE SEED: the statements are not yours to turn. If you find one false, say at which input.
  Laid BY PROGRAM, IN A SANDBOX (cutbox-rows.mjs): the forced cells as the released guide's own fill.sh prints them over the translation c06dafb1f29e855c… (all of the seat's roots in one cut). By AI agents, Wed Nov 11 2026. No macro, syntax, notation, axiom, sorry.
-/
import Derived.Test.YtabhnbooboceeaaChecked
import GoSem.Claim
import GoSem.ClaimJoined
import GoSem.ClaimMapViews
import Derived.JoinedTies
import Derived.KernelRfl
namespace Go.Proofs.Ytabhnbooboceeaa
/- THE CELL 'sum', in the pinned program and in every row, IS THE sha256 OF THE DUMP (.gsa) THAT YtabhnbooboceeaaProg.lean LOADS. Nothing in Lean hashes anything: it is a label: what it is worth is what the hold of that sum in a sandbox is worth. -/
noncomputable def Try.pinned : Pinned := { name := "ytabhnbooboceeaa", sum := "c06dafb1f29e855cdd18cca841e068d269ccf98715c96949e2d620397017325b", checked := Try.checked }
namespace Rows
def none {H : Type} : Left H := { results := [], args := [] }

/-- 'laws.FnExactIsReadOneWay': WHATEVER THE INPUT: true; the input reads as it did. -/
def fnExactIsReadOneWaySpec : ChangeSpec := { name := "fnExactIsReadOneWay", fn := fun _ => fun
  | [d] => { results := [.lit (.bool true)], args := [d] }
  | _ => none }
def fnExactIsReadOneWayRow : OpenClaim := { program := "ytabhnbooboceeaa", sum := "c06dafb1f29e855cdd18cca841e068d269ccf98715c96949e2d620397017325b", func := "loop.example/g00940/laws.FnExactIsReadOneWay", spec := "fnExactIsReadOneWay", unfollowed := true, recurses := true, apart := false }
def FnExactIsReadOneWaySaid : Prop := fnExactIsReadOneWayRow.holds Try.pinned (OpenSpec.ofChange fnExactIsReadOneWaySpec)

/-- ITS FALSE NEIGHBOUR: 'it returns false'. Refute it at one input. -/
def fnExactIsReadOneWayWrong : ChangeSpec := { name := "fnExactIsReadOneWay", fn := fun _ => fun
  | [d] => { results := [.lit (.bool false)], args := [d] }
  | _ => none }
def FnExactIsReadOneWayWrongFalsely : Prop := fnExactIsReadOneWayRow.holds Try.pinned (OpenSpec.ofChange fnExactIsReadOneWayWrong)

/-- 'laws.FnExactLeastSignals': WHATEVER THE INPUT: true; the input reads as it did. -/
def fnExactLeastSignalsSpec : ChangeSpec := { name := "fnExactLeastSignals", fn := fun _ => fun
  | [d1, d2] => { results := [.lit (.bool true)], args := [d1, d2] }
  | _ => none }
def fnExactLeastSignalsRow : OpenClaim := { program := "ytabhnbooboceeaa", sum := "c06dafb1f29e855cdd18cca841e068d269ccf98715c96949e2d620397017325b", func := "loop.example/g00940/laws.FnExactLeastSignals", spec := "fnExactLeastSignals", unfollowed := true, recurses := true, apart := false }
def FnExactLeastSignalsSaid : Prop := fnExactLeastSignalsRow.holds Try.pinned (OpenSpec.ofChange fnExactLeastSignalsSpec)

/-- ITS FALSE NEIGHBOUR: 'it returns false'. Refute it at one input. -/
def fnExactLeastSignalsWrong : ChangeSpec := { name := "fnExactLeastSignals", fn := fun _ => fun
  | [d1, d2] => { results := [.lit (.bool false)], args := [d1, d2] }
  | _ => none }
def FnExactLeastSignalsWrongFalsely : Prop := fnExactLeastSignalsRow.holds Try.pinned (OpenSpec.ofChange fnExactLeastSignalsWrong)

/-- 'laws.FnExactFirstReading': WHATEVER THE INPUT: true; the input reads as it did. -/
def fnExactFirstReadingSpec : ChangeSpec := { name := "fnExactFirstReading", fn := fun _ => fun
  | [d1, d2] => { results := [.lit (.bool true)], args := [d1, d2] }
  | _ => none }
def fnExactFirstReadingRow : OpenClaim := { program := "ytabhnbooboceeaa", sum := "c06dafb1f29e855cdd18cca841e068d269ccf98715c96949e2d620397017325b", func := "loop.example/g00940/laws.FnExactFirstReading", spec := "fnExactFirstReading", unfollowed := true, recurses := true, apart := false }
def FnExactFirstReadingSaid : Prop := fnExactFirstReadingRow.holds Try.pinned (OpenSpec.ofChange fnExactFirstReadingSpec)

/-- ITS FALSE NEIGHBOUR: 'it returns false'. Refute it at one input. -/
def fnExactFirstReadingWrong : ChangeSpec := { name := "fnExactFirstReading", fn := fun _ => fun
  | [d1, d2] => { results := [.lit (.bool false)], args := [d1, d2] }
  | _ => none }
def FnExactFirstReadingWrongFalsely : Prop := fnExactFirstReadingRow.holds Try.pinned (OpenSpec.ofChange fnExactFirstReadingWrong)

/-- 'laws.FnExactReadMessage': WHATEVER THE INPUT: true; the input reads as it did. -/
def fnExactReadMessageSpec : ChangeSpec := { name := "fnExactReadMessage", fn := fun _ => fun
  | [d1, d2] => { results := [.lit (.bool true)], args := [d1, d2] }
  | _ => none }
def fnExactReadMessageRow : OpenClaim := { program := "ytabhnbooboceeaa", sum := "c06dafb1f29e855cdd18cca841e068d269ccf98715c96949e2d620397017325b", func := "loop.example/g00940/laws.FnExactReadMessage", spec := "fnExactReadMessage", inPlace := ["internal/abi.NoEscape"], unfollowed := true, recurses := true, apart := false }
def FnExactReadMessageSaid : Prop := fnExactReadMessageRow.holds Try.pinned (OpenSpec.ofChange fnExactReadMessageSpec)

/-- ITS FALSE NEIGHBOUR: 'it returns false'. Refute it at one input. -/
def fnExactReadMessageWrong : ChangeSpec := { name := "fnExactReadMessage", fn := fun _ => fun
  | [d1, d2] => { results := [.lit (.bool false)], args := [d1, d2] }
  | _ => none }
def FnExactReadMessageWrongFalsely : Prop := fnExactReadMessageRow.holds Try.pinned (OpenSpec.ofChange fnExactReadMessageWrong)

/-- 'laws.FnExactSavedSignals': WHATEVER THE INPUT: true; the input reads as it did. -/
def fnExactSavedSignalsSpec : ChangeSpec := { name := "fnExactSavedSignals", fn := fun _ => fun
  | [d1, d2] => { results := [.lit (.bool true)], args := [d1, d2] }
  | _ => none }
def fnExactSavedSignalsRow : OpenClaim := { program := "ytabhnbooboceeaa", sum := "c06dafb1f29e855cdd18cca841e068d269ccf98715c96949e2d620397017325b", func := "loop.example/g00940/laws.FnExactSavedSignals", spec := "fnExactSavedSignals", unfollowed := true, recurses := true, apart := false }
def FnExactSavedSignalsSaid : Prop := fnExactSavedSignalsRow.holds Try.pinned (OpenSpec.ofChange fnExactSavedSignalsSpec)

/-- ITS FALSE NEIGHBOUR: 'it returns false'. Refute it at one input. -/
def fnExactSavedSignalsWrong : ChangeSpec := { name := "fnExactSavedSignals", fn := fun _ => fun
  | [d1, d2] => { results := [.lit (.bool false)], args := [d1, d2] }
  | _ => none }
def FnExactSavedSignalsWrongFalsely : Prop := fnExactSavedSignalsRow.holds Try.pinned (OpenSpec.ofChange fnExactSavedSignalsWrong)

/-- 'laws.FnExactSpellMessage': WHATEVER THE INPUT: true; the input reads as it did. -/
def fnExactSpellMessageSpec : ChangeSpec := { name := "fnExactSpellMessage", fn := fun _ => fun
  | [d1, d2] => { results := [.lit (.bool true)], args := [d1, d2] }
  | _ => none }
def fnExactSpellMessageRow : OpenClaim := { program := "ytabhnbooboceeaa", sum := "c06dafb1f29e855cdd18cca841e068d269ccf98715c96949e2d620397017325b", func := "loop.example/g00940/laws.FnExactSpellMessage", spec := "fnExactSpellMessage", unfollowed := true, recurses := true, apart := false }
def FnExactSpellMessageSaid : Prop := fnExactSpellMessageRow.holds Try.pinned (OpenSpec.ofChange fnExactSpellMessageSpec)

/-- ITS FALSE NEIGHBOUR: 'it returns false'. Refute it at one input. -/
def fnExactSpellMessageWrong : ChangeSpec := { name := "fnExactSpellMessage", fn := fun _ => fun
  | [d1, d2] => { results := [.lit (.bool false)], args := [d1, d2] }
  | _ => none }
def FnExactSpellMessageWrongFalsely : Prop := fnExactSpellMessageRow.holds Try.pinned (OpenSpec.ofChange fnExactSpellMessageWrong)

/-- 'laws.FnExactDropPhrase': WHATEVER THE INPUT: true; the input reads as it did. -/
def fnExactDropPhraseSpec : ChangeSpec := { name := "fnExactDropPhrase", fn := fun _ => fun
  | [d1, d2] => { results := [.lit (.bool true)], args := [d1, d2] }
  | _ => none }
def fnExactDropPhraseRow : OpenClaim := { program := "ytabhnbooboceeaa", sum := "c06dafb1f29e855cdd18cca841e068d269ccf98715c96949e2d620397017325b", func := "loop.example/g00940/laws.FnExactDropPhrase", spec := "fnExactDropPhrase", unfollowed := true, recurses := true, apart := false }
def FnExactDropPhraseSaid : Prop := fnExactDropPhraseRow.holds Try.pinned (OpenSpec.ofChange fnExactDropPhraseSpec)

/-- ITS FALSE NEIGHBOUR: 'it returns false'. Refute it at one input. -/
def fnExactDropPhraseWrong : ChangeSpec := { name := "fnExactDropPhrase", fn := fun _ => fun
  | [d1, d2] => { results := [.lit (.bool false)], args := [d1, d2] }
  | _ => none }
def FnExactDropPhraseWrongFalsely : Prop := fnExactDropPhraseRow.holds Try.pinned (OpenSpec.ofChange fnExactDropPhraseWrong)

/-- 'laws.FnExactEncodeMessage': WHATEVER THE INPUT: true; the input reads as it did. -/
def fnExactEncodeMessageSpec : ChangeSpec := { name := "fnExactEncodeMessage", fn := fun _ => fun
  | [d1, d2] => { results := [.lit (.bool true)], args := [d1, d2] }
  | _ => none }
def fnExactEncodeMessageRow : OpenClaim := { program := "ytabhnbooboceeaa", sum := "c06dafb1f29e855cdd18cca841e068d269ccf98715c96949e2d620397017325b", func := "loop.example/g00940/laws.FnExactEncodeMessage", spec := "fnExactEncodeMessage", unfollowed := true, recurses := true, apart := false }
def FnExactEncodeMessageSaid : Prop := fnExactEncodeMessageRow.holds Try.pinned (OpenSpec.ofChange fnExactEncodeMessageSpec)

/-- ITS FALSE NEIGHBOUR: 'it returns false'. Refute it at one input. -/
def fnExactEncodeMessageWrong : ChangeSpec := { name := "fnExactEncodeMessage", fn := fun _ => fun
  | [d1, d2] => { results := [.lit (.bool false)], args := [d1, d2] }
  | _ => none }
def FnExactEncodeMessageWrongFalsely : Prop := fnExactEncodeMessageRow.holds Try.pinned (OpenSpec.ofChange fnExactEncodeMessageWrong)

/-- 'laws.FnExactAddPhrase': WHATEVER THE INPUT: true; the input reads as it did. -/
def fnExactAddPhraseSpec : ChangeSpec := { name := "fnExactAddPhrase", fn := fun _ => fun
  | [d1, d2] => { results := [.lit (.bool true)], args := [d1, d2] }
  | _ => none }
def fnExactAddPhraseRow : OpenClaim := { program := "ytabhnbooboceeaa", sum := "c06dafb1f29e855cdd18cca841e068d269ccf98715c96949e2d620397017325b", func := "loop.example/g00940/laws.FnExactAddPhrase", spec := "fnExactAddPhrase", inPlace := ["slices.overlaps[loop.example/g00940/impl.Phrase]"], unfollowed := true, recurses := true, apart := false }
def FnExactAddPhraseSaid : Prop := fnExactAddPhraseRow.holds Try.pinned (OpenSpec.ofChange fnExactAddPhraseSpec)

/-- ITS FALSE NEIGHBOUR: 'it returns false'. Refute it at one input. -/
def fnExactAddPhraseWrong : ChangeSpec := { name := "fnExactAddPhrase", fn := fun _ => fun
  | [d1, d2] => { results := [.lit (.bool false)], args := [d1, d2] }
  | _ => none }
def FnExactAddPhraseWrongFalsely : Prop := fnExactAddPhraseRow.holds Try.pinned (OpenSpec.ofChange fnExactAddPhraseWrong)

/-- 'laws.FnReadOneWay': WHATEVER THE INPUT: true; the input reads as it did. -/
def fnReadOneWaySpec : ChangeSpec := { name := "fnReadOneWay", fn := fun _ => fun
  | [d1, d2] => { results := [.lit (.bool true)], args := [d1, d2] }
  | _ => none }
def fnReadOneWayRow : OpenClaim := { program := "ytabhnbooboceeaa", sum := "c06dafb1f29e855cdd18cca841e068d269ccf98715c96949e2d620397017325b", func := "loop.example/g00940/laws.FnReadOneWay", spec := "fnReadOneWay", unfollowed := true, recurses := true, apart := false }
def FnReadOneWaySaid : Prop := fnReadOneWayRow.holds Try.pinned (OpenSpec.ofChange fnReadOneWaySpec)

/-- ITS FALSE NEIGHBOUR: 'it returns false'. Refute it at one input. -/
def fnReadOneWayWrong : ChangeSpec := { name := "fnReadOneWay", fn := fun _ => fun
  | [d1, d2] => { results := [.lit (.bool false)], args := [d1, d2] }
  | _ => none }
def FnReadOneWayWrongFalsely : Prop := fnReadOneWayRow.holds Try.pinned (OpenSpec.ofChange fnReadOneWayWrong)

/- THE SECOND FORM. 'bulk': how many values and letters a reading holds, each counted each time it is reached (what is shared counts as often as it is met; a slice's spare places count too). A statement '..UptoSaid' is the law's where the arguments, and the package variables that the reading takes, are together of bulk at most 1048576: NARROWER than '..Said'. Prove '..Said' where nothing that the law and all that it calls make is longer than what came in: it says more and counts as full. Else prove '..UptoSaid'. A law counts once. -/
mutual
def uptoBulk {H : Type} : DataW H → Nat
  | .lit (.string bytes) => bytes.length + 1
  | .lit _ => 1
  | .nil => 1
  | .ptr d => uptoBulk d + 1
  | .slice elems spare => uptoBulkAll elems + uptoBulkAll spare + 1
  | .agg parts => uptoBulkAll parts + 1
  | .iface _ d => uptoBulk d + 1
  | .map entries => uptoBulkEntries entries + 1
  | .held _ => 1
def uptoBulkAll {H : Type} : List (DataW H) → Nat
  | [] => 0
  | d :: r => uptoBulk d + uptoBulkAll r
def uptoBulkEntries {H : Type} : List (Lit × DataW H) → Nat
  | [] => 0
  | x :: r => uptoBulkEntry x + uptoBulkEntries r
def uptoBulkEntry {H : Type} : Lit × DataW H → Nat
  | (.string bytes, d) => bytes.length + uptoBulk d + 1
  | (_, d) => uptoBulk d + 1
 end
def uptoSmall : (H : Type) → List (DataW H) → Bool := fun _ ds => decide (uptoBulkAll ds ≤ 1048576)
def OpenSpec.upto (s : _root_.Go.ChangeSpec) : _root_.Go.OpenSpec := { _root_.Go.OpenSpec.ofChange s with cond := some uptoSmall }

/-- 'laws.FnExactIsReadOneWay', WHERE WHAT IT READS IS OF BULK AT MOST 1048576: true; the input reads as it did. -/
def fnExactIsReadOneWayUptoRow : OpenClaim := { program := "ytabhnbooboceeaa", sum := "c06dafb1f29e855cdd18cca841e068d269ccf98715c96949e2d620397017325b", func := "loop.example/g00940/laws.FnExactIsReadOneWay", spec := "fnExactIsReadOneWay", unfollowed := true, recurses := true, apart := false, narrowed := true }
def FnExactIsReadOneWayUptoSaid : Prop := fnExactIsReadOneWayUptoRow.holds Try.pinned (OpenSpec.upto fnExactIsReadOneWaySpec)

/-- 'laws.FnExactLeastSignals', WHERE WHAT IT READS IS OF BULK AT MOST 1048576: true; the input reads as it did. -/
def fnExactLeastSignalsUptoRow : OpenClaim := { program := "ytabhnbooboceeaa", sum := "c06dafb1f29e855cdd18cca841e068d269ccf98715c96949e2d620397017325b", func := "loop.example/g00940/laws.FnExactLeastSignals", spec := "fnExactLeastSignals", unfollowed := true, recurses := true, apart := false, narrowed := true }
def FnExactLeastSignalsUptoSaid : Prop := fnExactLeastSignalsUptoRow.holds Try.pinned (OpenSpec.upto fnExactLeastSignalsSpec)

/-- 'laws.FnExactFirstReading', WHERE WHAT IT READS IS OF BULK AT MOST 1048576: true; the input reads as it did. -/
def fnExactFirstReadingUptoRow : OpenClaim := { program := "ytabhnbooboceeaa", sum := "c06dafb1f29e855cdd18cca841e068d269ccf98715c96949e2d620397017325b", func := "loop.example/g00940/laws.FnExactFirstReading", spec := "fnExactFirstReading", unfollowed := true, recurses := true, apart := false, narrowed := true }
def FnExactFirstReadingUptoSaid : Prop := fnExactFirstReadingUptoRow.holds Try.pinned (OpenSpec.upto fnExactFirstReadingSpec)

/-- 'laws.FnExactReadMessage', WHERE WHAT IT READS IS OF BULK AT MOST 1048576: true; the input reads as it did. -/
def fnExactReadMessageUptoRow : OpenClaim := { program := "ytabhnbooboceeaa", sum := "c06dafb1f29e855cdd18cca841e068d269ccf98715c96949e2d620397017325b", func := "loop.example/g00940/laws.FnExactReadMessage", spec := "fnExactReadMessage", inPlace := ["internal/abi.NoEscape"], unfollowed := true, recurses := true, apart := false, narrowed := true }
def FnExactReadMessageUptoSaid : Prop := fnExactReadMessageUptoRow.holds Try.pinned (OpenSpec.upto fnExactReadMessageSpec)

/-- 'laws.FnExactSavedSignals', WHERE WHAT IT READS IS OF BULK AT MOST 1048576: true; the input reads as it did. -/
def fnExactSavedSignalsUptoRow : OpenClaim := { program := "ytabhnbooboceeaa", sum := "c06dafb1f29e855cdd18cca841e068d269ccf98715c96949e2d620397017325b", func := "loop.example/g00940/laws.FnExactSavedSignals", spec := "fnExactSavedSignals", unfollowed := true, recurses := true, apart := false, narrowed := true }
def FnExactSavedSignalsUptoSaid : Prop := fnExactSavedSignalsUptoRow.holds Try.pinned (OpenSpec.upto fnExactSavedSignalsSpec)

/-- 'laws.FnExactSpellMessage', WHERE WHAT IT READS IS OF BULK AT MOST 1048576: true; the input reads as it did. -/
def fnExactSpellMessageUptoRow : OpenClaim := { program := "ytabhnbooboceeaa", sum := "c06dafb1f29e855cdd18cca841e068d269ccf98715c96949e2d620397017325b", func := "loop.example/g00940/laws.FnExactSpellMessage", spec := "fnExactSpellMessage", unfollowed := true, recurses := true, apart := false, narrowed := true }
def FnExactSpellMessageUptoSaid : Prop := fnExactSpellMessageUptoRow.holds Try.pinned (OpenSpec.upto fnExactSpellMessageSpec)

/-- 'laws.FnExactDropPhrase', WHERE WHAT IT READS IS OF BULK AT MOST 1048576: true; the input reads as it did. -/
def fnExactDropPhraseUptoRow : OpenClaim := { program := "ytabhnbooboceeaa", sum := "c06dafb1f29e855cdd18cca841e068d269ccf98715c96949e2d620397017325b", func := "loop.example/g00940/laws.FnExactDropPhrase", spec := "fnExactDropPhrase", unfollowed := true, recurses := true, apart := false, narrowed := true }
def FnExactDropPhraseUptoSaid : Prop := fnExactDropPhraseUptoRow.holds Try.pinned (OpenSpec.upto fnExactDropPhraseSpec)

/-- 'laws.FnExactEncodeMessage', WHERE WHAT IT READS IS OF BULK AT MOST 1048576: true; the input reads as it did. -/
def fnExactEncodeMessageUptoRow : OpenClaim := { program := "ytabhnbooboceeaa", sum := "c06dafb1f29e855cdd18cca841e068d269ccf98715c96949e2d620397017325b", func := "loop.example/g00940/laws.FnExactEncodeMessage", spec := "fnExactEncodeMessage", unfollowed := true, recurses := true, apart := false, narrowed := true }
def FnExactEncodeMessageUptoSaid : Prop := fnExactEncodeMessageUptoRow.holds Try.pinned (OpenSpec.upto fnExactEncodeMessageSpec)

/-- 'laws.FnExactAddPhrase', WHERE WHAT IT READS IS OF BULK AT MOST 1048576: true; the input reads as it did. -/
def fnExactAddPhraseUptoRow : OpenClaim := { program := "ytabhnbooboceeaa", sum := "c06dafb1f29e855cdd18cca841e068d269ccf98715c96949e2d620397017325b", func := "loop.example/g00940/laws.FnExactAddPhrase", spec := "fnExactAddPhrase", inPlace := ["slices.overlaps[loop.example/g00940/impl.Phrase]"], unfollowed := true, recurses := true, apart := false, narrowed := true }
def FnExactAddPhraseUptoSaid : Prop := fnExactAddPhraseUptoRow.holds Try.pinned (OpenSpec.upto fnExactAddPhraseSpec)

/-- 'laws.FnReadOneWay', WHERE WHAT IT READS IS OF BULK AT MOST 1048576: true; the input reads as it did. -/
def fnReadOneWayUptoRow : OpenClaim := { program := "ytabhnbooboceeaa", sum := "c06dafb1f29e855cdd18cca841e068d269ccf98715c96949e2d620397017325b", func := "loop.example/g00940/laws.FnReadOneWay", spec := "fnReadOneWay", unfollowed := true, recurses := true, apart := false, narrowed := true }
def FnReadOneWayUptoSaid : Prop := fnReadOneWayUptoRow.holds Try.pinned (OpenSpec.upto fnReadOneWaySpec)

end Rows
end Go.Proofs.Ytabhnbooboceeaa
