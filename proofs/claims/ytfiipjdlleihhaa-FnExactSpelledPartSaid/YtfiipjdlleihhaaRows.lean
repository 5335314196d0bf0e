/-
  No cell of these rows narrows 'for every input' (looked for: loops, veiled, ifaces, maps, wideKeys, modest, calm, conditions, laid).
  DERIVED. THE GIVEN ROWS OF THIS SEAT. 12 by the template 'for every input the law returns true; each argument reads behind the call as it read before'; 0 by the template 'total and deterministic' (their statements: YtfiipjdlleihhaaTotals.lean).
  GIVEN WITH THE SEED: the statements are not yours to turn. If you find one false, say at which input.
  Laid BY PROGRAM, IN A SANDBOX (cutbox-rows.mjs): the forced cells as the released guide's own fill.sh prints them over the translation 3fe0be0cfe152419… (all of the seat's roots in one cut). By AI agents, Wed Nov 11 2026. No macro, syntax, notation, axiom, sorry.
-/
import Derived.Test.YtfiipjdlleihhaaChecked
import GoSem.Claim
import GoSem.ClaimJoined
import GoSem.ClaimMapViews
import Derived.JoinedTies
import Derived.KernelRfl
namespace Go.Proofs.Ytfiipjdlleihhaa
/- THE CELL 'sum', in the pinned program and in every row, IS THE sha256 OF THE DUMP (.gsa) THAT YtfiipjdlleihhaaProg.lean LOADS. Nothing in Lean hashes anything: it is a label: what it is worth is what the hold of that sum in a sandbox is worth. -/
noncomputable def Try.pinned : Pinned := { name := "ytfiipjdlleihhaa", sum := "3fe0be0cfe1524199f2cab43187f89ecfb27c70e3cea1ec1a6c742f9ec9abc98", checked := Try.checked }
namespace Rows
def none {H : Type} : Left H := { results := [], args := [] }

/-- 'laws.FnExactReadWords': WHATEVER THE INPUT: true; the input reads as it did. -/
def fnExactReadWordsSpec : ChangeSpec := { name := "fnExactReadWords", fn := fun _ => fun
  | [d1, d2] => { results := [.lit (.bool true)], args := [d1, d2] }
  | _ => none }
def fnExactReadWordsRow : OpenClaim := { program := "ytfiipjdlleihhaa", sum := "3fe0be0cfe1524199f2cab43187f89ecfb27c70e3cea1ec1a6c742f9ec9abc98", func := "loop.example/g00940/laws.FnExactReadWords", spec := "fnExactReadWords", unfollowed := true, recurses := true, apart := false }
def FnExactReadWordsSaid : Prop := fnExactReadWordsRow.holds Try.pinned (OpenSpec.ofChange fnExactReadWordsSpec)

/-- ITS FALSE NEIGHBOUR: 'it returns false'. Refute it at one input. -/
def fnExactReadWordsWrong : ChangeSpec := { name := "fnExactReadWords", fn := fun _ => fun
  | [d1, d2] => { results := [.lit (.bool false)], args := [d1, d2] }
  | _ => none }
def FnExactReadWordsWrongFalsely : Prop := fnExactReadWordsRow.holds Try.pinned (OpenSpec.ofChange fnExactReadWordsWrong)

/-- 'laws.FnExactIsBook': WHATEVER THE INPUT: true; the input reads as it did. -/
def fnExactIsBookSpec : ChangeSpec := { name := "fnExactIsBook", fn := fun _ => fun
  | [d] => { results := [.lit (.bool true)], args := [d] }
  | _ => none }
def fnExactIsBookRow : OpenClaim := { program := "ytfiipjdlleihhaa", sum := "3fe0be0cfe1524199f2cab43187f89ecfb27c70e3cea1ec1a6c742f9ec9abc98", func := "loop.example/g00940/laws.FnExactIsBook", spec := "fnExactIsBook", unfollowed := true, recurses := true, apart := false }
def FnExactIsBookSaid : Prop := fnExactIsBookRow.holds Try.pinned (OpenSpec.ofChange fnExactIsBookSpec)

/-- ITS FALSE NEIGHBOUR: 'it returns false'. Refute it at one input. -/
def fnExactIsBookWrong : ChangeSpec := { name := "fnExactIsBook", fn := fun _ => fun
  | [d] => { results := [.lit (.bool false)], args := [d] }
  | _ => none }
def FnExactIsBookWrongFalsely : Prop := fnExactIsBookRow.holds Try.pinned (OpenSpec.ofChange fnExactIsBookWrong)

/-- 'laws.FnExactPhraseOf': WHATEVER THE INPUT: true; the input reads as it did. -/
def fnExactPhraseOfSpec : ChangeSpec := { name := "fnExactPhraseOf", fn := fun _ => fun
  | [d1, d2] => { results := [.lit (.bool true)], args := [d1, d2] }
  | _ => none }
def fnExactPhraseOfRow : OpenClaim := { program := "ytfiipjdlleihhaa", sum := "3fe0be0cfe1524199f2cab43187f89ecfb27c70e3cea1ec1a6c742f9ec9abc98", func := "loop.example/g00940/laws.FnExactPhraseOf", spec := "fnExactPhraseOf", unfollowed := true, recurses := true, apart := false }
def FnExactPhraseOfSaid : Prop := fnExactPhraseOfRow.holds Try.pinned (OpenSpec.ofChange fnExactPhraseOfSpec)

/-- ITS FALSE NEIGHBOUR: 'it returns false'. Refute it at one input. -/
def fnExactPhraseOfWrong : ChangeSpec := { name := "fnExactPhraseOf", fn := fun _ => fun
  | [d1, d2] => { results := [.lit (.bool false)], args := [d1, d2] }
  | _ => none }
def FnExactPhraseOfWrongFalsely : Prop := fnExactPhraseOfRow.holds Try.pinned (OpenSpec.ofChange fnExactPhraseOfWrong)

/-- 'laws.FnExactLoneLetters': WHATEVER THE INPUT: true; the input reads as it did. -/
def fnExactLoneLettersSpec : ChangeSpec := { name := "fnExactLoneLetters", fn := fun _ => fun
  | [d] => { results := [.lit (.bool true)], args := [d] }
  | _ => none }
def fnExactLoneLettersRow : OpenClaim := { program := "ytfiipjdlleihhaa", sum := "3fe0be0cfe1524199f2cab43187f89ecfb27c70e3cea1ec1a6c742f9ec9abc98", func := "loop.example/g00940/laws.FnExactLoneLetters", spec := "fnExactLoneLetters", unfollowed := true, recurses := true, apart := false }
def FnExactLoneLettersSaid : Prop := fnExactLoneLettersRow.holds Try.pinned (OpenSpec.ofChange fnExactLoneLettersSpec)

/-- ITS FALSE NEIGHBOUR: 'it returns false'. Refute it at one input. -/
def fnExactLoneLettersWrong : ChangeSpec := { name := "fnExactLoneLetters", fn := fun _ => fun
  | [d] => { results := [.lit (.bool false)], args := [d] }
  | _ => none }
def FnExactLoneLettersWrongFalsely : Prop := fnExactLoneLettersRow.holds Try.pinned (OpenSpec.ofChange fnExactLoneLettersWrong)

/-- 'laws.FnExactFindPhrase': WHATEVER THE INPUT: true; the input reads as it did. -/
def fnExactFindPhraseSpec : ChangeSpec := { name := "fnExactFindPhrase", fn := fun _ => fun
  | [d1, d2] => { results := [.lit (.bool true)], args := [d1, d2] }
  | _ => none }
def fnExactFindPhraseRow : OpenClaim := { program := "ytfiipjdlleihhaa", sum := "3fe0be0cfe1524199f2cab43187f89ecfb27c70e3cea1ec1a6c742f9ec9abc98", func := "loop.example/g00940/laws.FnExactFindPhrase", spec := "fnExactFindPhrase", unfollowed := true, recurses := true, apart := false }
def FnExactFindPhraseSaid : Prop := fnExactFindPhraseRow.holds Try.pinned (OpenSpec.ofChange fnExactFindPhraseSpec)

/-- ITS FALSE NEIGHBOUR: 'it returns false'. Refute it at one input. -/
def fnExactFindPhraseWrong : ChangeSpec := { name := "fnExactFindPhrase", fn := fun _ => fun
  | [d1, d2] => { results := [.lit (.bool false)], args := [d1, d2] }
  | _ => none }
def FnExactFindPhraseWrongFalsely : Prop := fnExactFindPhraseRow.holds Try.pinned (OpenSpec.ofChange fnExactFindPhraseWrong)

/-- 'laws.FnExactIsPrefixFree': WHATEVER THE INPUT: true; the input reads as it did. -/
def fnExactIsPrefixFreeSpec : ChangeSpec := { name := "fnExactIsPrefixFree", fn := fun _ => fun
  | [d] => { results := [.lit (.bool true)], args := [d] }
  | _ => none }
def fnExactIsPrefixFreeRow : OpenClaim := { program := "ytfiipjdlleihhaa", sum := "3fe0be0cfe1524199f2cab43187f89ecfb27c70e3cea1ec1a6c742f9ec9abc98", func := "loop.example/g00940/laws.FnExactIsPrefixFree", spec := "fnExactIsPrefixFree", unfollowed := true, recurses := true, apart := false }
def FnExactIsPrefixFreeSaid : Prop := fnExactIsPrefixFreeRow.holds Try.pinned (OpenSpec.ofChange fnExactIsPrefixFreeSpec)

/-- ITS FALSE NEIGHBOUR: 'it returns false'. Refute it at one input. -/
def fnExactIsPrefixFreeWrong : ChangeSpec := { name := "fnExactIsPrefixFree", fn := fun _ => fun
  | [d] => { results := [.lit (.bool false)], args := [d] }
  | _ => none }
def FnExactIsPrefixFreeWrongFalsely : Prop := fnExactIsPrefixFreeRow.holds Try.pinned (OpenSpec.ofChange fnExactIsPrefixFreeWrong)

/-- 'laws.FnExactFirstPrefix': WHATEVER THE INPUT: true; the input reads as it did. -/
def fnExactFirstPrefixSpec : ChangeSpec := { name := "fnExactFirstPrefix", fn := fun _ => fun
  | [d] => { results := [.lit (.bool true)], args := [d] }
  | _ => none }
def fnExactFirstPrefixRow : OpenClaim := { program := "ytfiipjdlleihhaa", sum := "3fe0be0cfe1524199f2cab43187f89ecfb27c70e3cea1ec1a6c742f9ec9abc98", func := "loop.example/g00940/laws.FnExactFirstPrefix", spec := "fnExactFirstPrefix", unfollowed := true, recurses := true, apart := false }
def FnExactFirstPrefixSaid : Prop := fnExactFirstPrefixRow.holds Try.pinned (OpenSpec.ofChange fnExactFirstPrefixSpec)

/-- ITS FALSE NEIGHBOUR: 'it returns false'. Refute it at one input. -/
def fnExactFirstPrefixWrong : ChangeSpec := { name := "fnExactFirstPrefix", fn := fun _ => fun
  | [d] => { results := [.lit (.bool false)], args := [d] }
  | _ => none }
def FnExactFirstPrefixWrongFalsely : Prop := fnExactFirstPrefixRow.holds Try.pinned (OpenSpec.ofChange fnExactFirstPrefixWrong)

/-- 'laws.FnExactCountReadings': WHATEVER THE INPUT: true; the input reads as it did. -/
def fnExactCountReadingsSpec : ChangeSpec := { name := "fnExactCountReadings", fn := fun _ => fun
  | [d1, d2] => { results := [.lit (.bool true)], args := [d1, d2] }
  | _ => none }
def fnExactCountReadingsRow : OpenClaim := { program := "ytfiipjdlleihhaa", sum := "3fe0be0cfe1524199f2cab43187f89ecfb27c70e3cea1ec1a6c742f9ec9abc98", func := "loop.example/g00940/laws.FnExactCountReadings", spec := "fnExactCountReadings", unfollowed := true, recurses := true, apart := false }
def FnExactCountReadingsSaid : Prop := fnExactCountReadingsRow.holds Try.pinned (OpenSpec.ofChange fnExactCountReadingsSpec)

/-- ITS FALSE NEIGHBOUR: 'it returns false'. Refute it at one input. -/
def fnExactCountReadingsWrong : ChangeSpec := { name := "fnExactCountReadings", fn := fun _ => fun
  | [d1, d2] => { results := [.lit (.bool false)], args := [d1, d2] }
  | _ => none }
def FnExactCountReadingsWrongFalsely : Prop := fnExactCountReadingsRow.holds Try.pinned (OpenSpec.ofChange fnExactCountReadingsWrong)

/-- 'laws.FnExactCountSpellings': WHATEVER THE INPUT: true; the input reads as it did. -/
def fnExactCountSpellingsSpec : ChangeSpec := { name := "fnExactCountSpellings", fn := fun _ => fun
  | [d1, d2] => { results := [.lit (.bool true)], args := [d1, d2] }
  | _ => none }
def fnExactCountSpellingsRow : OpenClaim := { program := "ytfiipjdlleihhaa", sum := "3fe0be0cfe1524199f2cab43187f89ecfb27c70e3cea1ec1a6c742f9ec9abc98", func := "loop.example/g00940/laws.FnExactCountSpellings", spec := "fnExactCountSpellings", unfollowed := true, recurses := true, apart := false }
def FnExactCountSpellingsSaid : Prop := fnExactCountSpellingsRow.holds Try.pinned (OpenSpec.ofChange fnExactCountSpellingsSpec)

/-- ITS FALSE NEIGHBOUR: 'it returns false'. Refute it at one input. -/
def fnExactCountSpellingsWrong : ChangeSpec := { name := "fnExactCountSpellings", fn := fun _ => fun
  | [d1, d2] => { results := [.lit (.bool false)], args := [d1, d2] }
  | _ => none }
def FnExactCountSpellingsWrongFalsely : Prop := fnExactCountSpellingsRow.holds Try.pinned (OpenSpec.ofChange fnExactCountSpellingsWrong)

/-- 'laws.FnExactTextOfPhrases': WHATEVER THE INPUT: true; the input reads as it did. -/
def fnExactTextOfPhrasesSpec : ChangeSpec := { name := "fnExactTextOfPhrases", fn := fun _ => fun
  | [d1, d2] => { results := [.lit (.bool true)], args := [d1, d2] }
  | _ => none }
def fnExactTextOfPhrasesRow : OpenClaim := { program := "ytfiipjdlleihhaa", sum := "3fe0be0cfe1524199f2cab43187f89ecfb27c70e3cea1ec1a6c742f9ec9abc98", func := "loop.example/g00940/laws.FnExactTextOfPhrases", spec := "fnExactTextOfPhrases", inPlace := ["internal/abi.NoEscape"], unfollowed := true, recurses := true, apart := false }
def FnExactTextOfPhrasesSaid : Prop := fnExactTextOfPhrasesRow.holds Try.pinned (OpenSpec.ofChange fnExactTextOfPhrasesSpec)

/-- ITS FALSE NEIGHBOUR: 'it returns false'. Refute it at one input. -/
def fnExactTextOfPhrasesWrong : ChangeSpec := { name := "fnExactTextOfPhrases", fn := fun _ => fun
  | [d1, d2] => { results := [.lit (.bool false)], args := [d1, d2] }
  | _ => none }
def FnExactTextOfPhrasesWrongFalsely : Prop := fnExactTextOfPhrasesRow.holds Try.pinned (OpenSpec.ofChange fnExactTextOfPhrasesWrong)

/-- 'laws.FnExactSpelledPart': WHATEVER THE INPUT: true; the input reads as it did. -/
def fnExactSpelledPartSpec : ChangeSpec := { name := "fnExactSpelledPart", fn := fun _ => fun
  | [d1, d2] => { results := [.lit (.bool true)], args := [d1, d2] }
  | _ => none }
def fnExactSpelledPartRow : OpenClaim := { program := "ytfiipjdlleihhaa", sum := "3fe0be0cfe1524199f2cab43187f89ecfb27c70e3cea1ec1a6c742f9ec9abc98", func := "loop.example/g00940/laws.FnExactSpelledPart", spec := "fnExactSpelledPart", unfollowed := true, recurses := true, apart := false }
def FnExactSpelledPartSaid : Prop := fnExactSpelledPartRow.holds Try.pinned (OpenSpec.ofChange fnExactSpelledPartSpec)

/-- ITS FALSE NEIGHBOUR: 'it returns false'. Refute it at one input. -/
def fnExactSpelledPartWrong : ChangeSpec := { name := "fnExactSpelledPart", fn := fun _ => fun
  | [d1, d2] => { results := [.lit (.bool false)], args := [d1, d2] }
  | _ => none }
def FnExactSpelledPartWrongFalsely : Prop := fnExactSpelledPartRow.holds Try.pinned (OpenSpec.ofChange fnExactSpelledPartWrong)

/-- 'laws.FnExactWithBeginning': WHATEVER THE INPUT: true; the input reads as it did. -/
def fnExactWithBeginningSpec : ChangeSpec := { name := "fnExactWithBeginning", fn := fun _ => fun
  | [d1, d2] => { results := [.lit (.bool true)], args := [d1, d2] }
  | _ => none }
def fnExactWithBeginningRow : OpenClaim := { program := "ytfiipjdlleihhaa", sum := "3fe0be0cfe1524199f2cab43187f89ecfb27c70e3cea1ec1a6c742f9ec9abc98", func := "loop.example/g00940/laws.FnExactWithBeginning", spec := "fnExactWithBeginning", unfollowed := true, recurses := true, apart := false }
def FnExactWithBeginningSaid : Prop := fnExactWithBeginningRow.holds Try.pinned (OpenSpec.ofChange fnExactWithBeginningSpec)

/-- ITS FALSE NEIGHBOUR: 'it returns false'. Refute it at one input. -/
def fnExactWithBeginningWrong : ChangeSpec := { name := "fnExactWithBeginning", fn := fun _ => fun
  | [d1, d2] => { results := [.lit (.bool false)], args := [d1, d2] }
  | _ => none }
def FnExactWithBeginningWrongFalsely : Prop := fnExactWithBeginningRow.holds Try.pinned (OpenSpec.ofChange fnExactWithBeginningWrong)

/- THE SECOND FORM. 'bulk': how many values and letters a reading holds, each counted each time it is reached (what is shared counts as often as it is met; a slice's spare places count too). A statement '..UptoSaid' is the law's where the arguments, and the package variables that the reading takes, are together of bulk at most 1048576: NARROWER than '..Said'. Prove '..Said' where nothing that the law and all that it calls make is longer than what came in: it says more and counts as full. Else prove '..UptoSaid'. A law counts once. -/
mutual
def uptoBulk {H : Type} : DataW H → Nat
  | .lit (.string bytes) => bytes.length + 1
  | .lit _ => 1
  | .nil => 1
  | .ptr d => uptoBulk d + 1
  | .slice elems spare => uptoBulkAll elems + uptoBulkAll spare + 1
  | .agg parts => uptoBulkAll parts + 1
  | .iface _ d => uptoBulk d + 1
  | .map entries => uptoBulkEntries entries + 1
  | .held _ => 1
def uptoBulkAll {H : Type} : List (DataW H) → Nat
  | [] => 0
  | d :: r => uptoBulk d + uptoBulkAll r
def uptoBulkEntries {H : Type} : List (Lit × DataW H) → Nat
  | [] => 0
  | x :: r => uptoBulkEntry x + uptoBulkEntries r
def uptoBulkEntry {H : Type} : Lit × DataW H → Nat
  | (.string bytes, d) => bytes.length + uptoBulk d + 1
  | (_, d) => uptoBulk d + 1
 end
def uptoSmall : (H : Type) → List (DataW H) → Bool := fun _ ds => decide (uptoBulkAll ds ≤ 1048576)
def OpenSpec.upto (s : _root_.Go.ChangeSpec) : _root_.Go.OpenSpec := { _root_.Go.OpenSpec.ofChange s with cond := some uptoSmall }

/-- 'laws.FnExactReadWords', WHERE WHAT IT READS IS OF BULK AT MOST 1048576: true; the input reads as it did. -/
def fnExactReadWordsUptoRow : OpenClaim := { program := "ytfiipjdlleihhaa", sum := "3fe0be0cfe1524199f2cab43187f89ecfb27c70e3cea1ec1a6c742f9ec9abc98", func := "loop.example/g00940/laws.FnExactReadWords", spec := "fnExactReadWords", unfollowed := true, recurses := true, apart := false, narrowed := true }
def FnExactReadWordsUptoSaid : Prop := fnExactReadWordsUptoRow.holds Try.pinned (OpenSpec.upto fnExactReadWordsSpec)

/-- 'laws.FnExactIsBook', WHERE WHAT IT READS IS OF BULK AT MOST 1048576: true; the input reads as it did. -/
def fnExactIsBookUptoRow : OpenClaim := { program := "ytfiipjdlleihhaa", sum := "3fe0be0cfe1524199f2cab43187f89ecfb27c70e3cea1ec1a6c742f9ec9abc98", func := "loop.example/g00940/laws.FnExactIsBook", spec := "fnExactIsBook", unfollowed := true, recurses := true, apart := false, narrowed := true }
def FnExactIsBookUptoSaid : Prop := fnExactIsBookUptoRow.holds Try.pinned (OpenSpec.upto fnExactIsBookSpec)

/-- 'laws.FnExactPhraseOf', WHERE WHAT IT READS IS OF BULK AT MOST 1048576: true; the input reads as it did. -/
def fnExactPhraseOfUptoRow : OpenClaim := { program := "ytfiipjdlleihhaa", sum := "3fe0be0cfe1524199f2cab43187f89ecfb27c70e3cea1ec1a6c742f9ec9abc98", func := "loop.example/g00940/laws.FnExactPhraseOf", spec := "fnExactPhraseOf", unfollowed := true, recurses := true, apart := false, narrowed := true }
def FnExactPhraseOfUptoSaid : Prop := fnExactPhraseOfUptoRow.holds Try.pinned (OpenSpec.upto fnExactPhraseOfSpec)

/-- 'laws.FnExactLoneLetters', WHERE WHAT IT READS IS OF BULK AT MOST 1048576: true; the input reads as it did. -/
def fnExactLoneLettersUptoRow : OpenClaim := { program := "ytfiipjdlleihhaa", sum := "3fe0be0cfe1524199f2cab43187f89ecfb27c70e3cea1ec1a6c742f9ec9abc98", func := "loop.example/g00940/laws.FnExactLoneLetters", spec := "fnExactLoneLetters", unfollowed := true, recurses := true, apart := false, narrowed := true }
def FnExactLoneLettersUptoSaid : Prop := fnExactLoneLettersUptoRow.holds Try.pinned (OpenSpec.upto fnExactLoneLettersSpec)

/-- 'laws.FnExactFindPhrase', WHERE WHAT IT READS IS OF BULK AT MOST 1048576: true; the input reads as it did. -/
def fnExactFindPhraseUptoRow : OpenClaim := { program := "ytfiipjdlleihhaa", sum := "3fe0be0cfe1524199f2cab43187f89ecfb27c70e3cea1ec1a6c742f9ec9abc98", func := "loop.example/g00940/laws.FnExactFindPhrase", spec := "fnExactFindPhrase", unfollowed := true, recurses := true, apart := false, narrowed := true }
def FnExactFindPhraseUptoSaid : Prop := fnExactFindPhraseUptoRow.holds Try.pinned (OpenSpec.upto fnExactFindPhraseSpec)

/-- 'laws.FnExactIsPrefixFree', WHERE WHAT IT READS IS OF BULK AT MOST 1048576: true; the input reads as it did. -/
def fnExactIsPrefixFreeUptoRow : OpenClaim := { program := "ytfiipjdlleihhaa", sum := "3fe0be0cfe1524199f2cab43187f89ecfb27c70e3cea1ec1a6c742f9ec9abc98", func := "loop.example/g00940/laws.FnExactIsPrefixFree", spec := "fnExactIsPrefixFree", unfollowed := true, recurses := true, apart := false, narrowed := true }
def FnExactIsPrefixFreeUptoSaid : Prop := fnExactIsPrefixFreeUptoRow.holds Try.pinned (OpenSpec.upto fnExactIsPrefixFreeSpec)

/-- 'laws.FnExactFirstPrefix', WHERE WHAT IT READS IS OF BULK AT MOST 1048576: true; the input reads as it did. -/
def fnExactFirstPrefixUptoRow : OpenClaim := { program := "ytfiipjdlleihhaa", sum := "3fe0be0cfe1524199f2cab43187f89ecfb27c70e3cea1ec1a6c742f9ec9abc98", func := "loop.example/g00940/laws.FnExactFirstPrefix", spec := "fnExactFirstPrefix", unfollowed := true, recurses := true, apart := false, narrowed := true }
def FnExactFirstPrefixUptoSaid : Prop := fnExactFirstPrefixUptoRow.holds Try.pinned (OpenSpec.upto fnExactFirstPrefixSpec)

/-- 'laws.FnExactCountReadings', WHERE WHAT IT READS IS OF BULK AT MOST 1048576: true; the input reads as it did. -/
def fnExactCountReadingsUptoRow : OpenClaim := { program := "ytfiipjdlleihhaa", sum := "3fe0be0cfe1524199f2cab43187f89ecfb27c70e3cea1ec1a6c742f9ec9abc98", func := "loop.example/g00940/laws.FnExactCountReadings", spec := "fnExactCountReadings", unfollowed := true, recurses := true, apart := false, narrowed := true }
def FnExactCountReadingsUptoSaid : Prop := fnExactCountReadingsUptoRow.holds Try.pinned (OpenSpec.upto fnExactCountReadingsSpec)

/-- 'laws.FnExactCountSpellings', WHERE WHAT IT READS IS OF BULK AT MOST 1048576: true; the input reads as it did. -/
def fnExactCountSpellingsUptoRow : OpenClaim := { program := "ytfiipjdlleihhaa", sum := "3fe0be0cfe1524199f2cab43187f89ecfb27c70e3cea1ec1a6c742f9ec9abc98", func := "loop.example/g00940/laws.FnExactCountSpellings", spec := "fnExactCountSpellings", unfollowed := true, recurses := true, apart := false, narrowed := true }
def FnExactCountSpellingsUptoSaid : Prop := fnExactCountSpellingsUptoRow.holds Try.pinned (OpenSpec.upto fnExactCountSpellingsSpec)

/-- 'laws.FnExactTextOfPhrases', WHERE WHAT IT READS IS OF BULK AT MOST 1048576: true; the input reads as it did. -/
def fnExactTextOfPhrasesUptoRow : OpenClaim := { program := "ytfiipjdlleihhaa", sum := "3fe0be0cfe1524199f2cab43187f89ecfb27c70e3cea1ec1a6c742f9ec9abc98", func := "loop.example/g00940/laws.FnExactTextOfPhrases", spec := "fnExactTextOfPhrases", inPlace := ["internal/abi.NoEscape"], unfollowed := true, recurses := true, apart := false, narrowed := true }
def FnExactTextOfPhrasesUptoSaid : Prop := fnExactTextOfPhrasesUptoRow.holds Try.pinned (OpenSpec.upto fnExactTextOfPhrasesSpec)

/-- 'laws.FnExactSpelledPart', WHERE WHAT IT READS IS OF BULK AT MOST 1048576: true; the input reads as it did. -/
def fnExactSpelledPartUptoRow : OpenClaim := { program := "ytfiipjdlleihhaa", sum := "3fe0be0cfe1524199f2cab43187f89ecfb27c70e3cea1ec1a6c742f9ec9abc98", func := "loop.example/g00940/laws.FnExactSpelledPart", spec := "fnExactSpelledPart", unfollowed := true, recurses := true, apart := false, narrowed := true }
def FnExactSpelledPartUptoSaid : Prop := fnExactSpelledPartUptoRow.holds Try.pinned (OpenSpec.upto fnExactSpelledPartSpec)

/-- 'laws.FnExactWithBeginning', WHERE WHAT IT READS IS OF BULK AT MOST 1048576: true; the input reads as it did. -/
def fnExactWithBeginningUptoRow : OpenClaim := { program := "ytfiipjdlleihhaa", sum := "3fe0be0cfe1524199f2cab43187f89ecfb27c70e3cea1ec1a6c742f9ec9abc98", func := "loop.example/g00940/laws.FnExactWithBeginning", spec := "fnExactWithBeginning", unfollowed := true, recurses := true, apart := false, narrowed := true }
def FnExactWithBeginningUptoSaid : Prop := fnExactWithBeginningUptoRow.holds Try.pinned (OpenSpec.upto fnExactWithBeginningSpec)

end Rows
end Go.Proofs.Ytfiipjdlleihhaa
