/-
  No cell of these rows narrows 'for every input' (looked for: loops, veiled, ifaces, maps, wideKeys, modest, calm, conditions, laid).
  DERIVED. THE GIVEN ROWS OF THIS SEAT. 4 by the template 'for every input the law returns true; each argument reads behind the call as it read before'; 0 by the template 'total and deterministic' (their statements: YtjnkdjokbamibaaTotals.lean).
  GIVEN WITH THE SEED: the statements are not yours to turn. If you find one false, say at which input.
  Laid BY PROGRAM, IN A SANDBOX (cutbox-rows.mjs): the forced cells as the released guide's own fill.sh prints them over the translation bda0820da1aa7194… (all of the seat's roots in one cut). By AI agents, Wed Nov 11 2026. No macro, syntax, notation, axiom, sorry.
-/
import Derived.Test.YtjnkdjokbamibaaChecked
import GoSem.Claim
import GoSem.ClaimJoined
import GoSem.ClaimMapViews
import Derived.JoinedTies
import Derived.KernelRfl
namespace Go.Proofs.Ytjnkdjokbamibaa
/- THE CELL 'sum', in the pinned program and in every row, IS THE sha256 OF THE DUMP (.gsa) THAT YtjnkdjokbamibaaProg.lean LOADS. Nothing in Lean hashes anything: it is a label: what it is worth is what the hold of that sum in a sandbox is worth. -/
noncomputable def Try.pinned : Pinned := { name := "ytjnkdjokbamibaa", sum := "bda0820da1aa7194468d830420ce656aa98d09f191e3ed1dfed08ed9da725a51", checked := Try.checked }
namespace Rows
def none {H : Type} : Left H := { results := [], args := [] }

/-- 'laws.FnExactDropPhrase': WHATEVER THE INPUT: true; the input reads as it did. -/
def fnExactDropPhraseSpec : ChangeSpec := { name := "fnExactDropPhrase", fn := fun _ => fun
  | [d1, d2] => { results := [.lit (.bool true)], args := [d1, d2] }
  | _ => none }
def fnExactDropPhraseRow : OpenClaim := { program := "ytjnkdjokbamibaa", sum := "bda0820da1aa7194468d830420ce656aa98d09f191e3ed1dfed08ed9da725a51", func := "loop.example/g00940/laws.FnExactDropPhrase", spec := "fnExactDropPhrase", unfollowed := true, recurses := true, apart := false }
def FnExactDropPhraseSaid : Prop := fnExactDropPhraseRow.holds Try.pinned (OpenSpec.ofChange fnExactDropPhraseSpec)

/-- ITS FALSE NEIGHBOUR: 'it returns false'. Refute it at one input. -/
def fnExactDropPhraseWrong : ChangeSpec := { name := "fnExactDropPhrase", fn := fun _ => fun
  | [d1, d2] => { results := [.lit (.bool false)], args := [d1, d2] }
  | _ => none }
def FnExactDropPhraseWrongFalsely : Prop := fnExactDropPhraseRow.holds Try.pinned (OpenSpec.ofChange fnExactDropPhraseWrong)

/-- 'laws.FnExactAddPhrase': WHATEVER THE INPUT: true; the input reads as it did. -/
def fnExactAddPhraseSpec : ChangeSpec := { name := "fnExactAddPhrase", fn := fun _ => fun
  | [d1, d2] => { results := [.lit (.bool true)], args := [d1, d2] }
  | _ => none }
def fnExactAddPhraseRow : OpenClaim := { program := "ytjnkdjokbamibaa", sum := "bda0820da1aa7194468d830420ce656aa98d09f191e3ed1dfed08ed9da725a51", func := "loop.example/g00940/laws.FnExactAddPhrase", spec := "fnExactAddPhrase", inPlace := ["slices.overlaps[loop.example/g00940/impl.Phrase]"], unfollowed := true, recurses := true, apart := false }
def FnExactAddPhraseSaid : Prop := fnExactAddPhraseRow.holds Try.pinned (OpenSpec.ofChange fnExactAddPhraseSpec)

/-- ITS FALSE NEIGHBOUR: 'it returns false'. Refute it at one input. -/
def fnExactAddPhraseWrong : ChangeSpec := { name := "fnExactAddPhrase", fn := fun _ => fun
  | [d1, d2] => { results := [.lit (.bool false)], args := [d1, d2] }
  | _ => none }
def FnExactAddPhraseWrongFalsely : Prop := fnExactAddPhraseRow.holds Try.pinned (OpenSpec.ofChange fnExactAddPhraseWrong)

/-- 'laws.FnSpelling': WHATEVER THE INPUT: true; the input reads as it did. -/
def fnSpellingSpec : ChangeSpec := { name := "fnSpelling", fn := fun _ => fun
  | [d1, d2] => { results := [.lit (.bool true)], args := [d1, d2] }
  | _ => none }
def fnSpellingRow : OpenClaim := { program := "ytjnkdjokbamibaa", sum := "bda0820da1aa7194468d830420ce656aa98d09f191e3ed1dfed08ed9da725a51", func := "loop.example/g00940/laws.FnSpelling", spec := "fnSpelling", inPlace := ["internal/abi.NoEscape"], unfollowed := true, recurses := true, apart := false }
def FnSpellingSaid : Prop := fnSpellingRow.holds Try.pinned (OpenSpec.ofChange fnSpellingSpec)

/-- ITS FALSE NEIGHBOUR: 'it returns false'. Refute it at one input. -/
def fnSpellingWrong : ChangeSpec := { name := "fnSpelling", fn := fun _ => fun
  | [d1, d2] => { results := [.lit (.bool false)], args := [d1, d2] }
  | _ => none }
def FnSpellingWrongFalsely : Prop := fnSpellingRow.holds Try.pinned (OpenSpec.ofChange fnSpellingWrong)

/-- 'laws.FnCodeWords': WHATEVER THE INPUT: true; the input reads as it did. -/
def fnCodeWordsSpec : ChangeSpec := { name := "fnCodeWords", fn := fun _ => fun
  | [d1, d2] => { results := [.lit (.bool true)], args := [d1, d2] }
  | _ => none }
def fnCodeWordsRow : OpenClaim := { program := "ytjnkdjokbamibaa", sum := "bda0820da1aa7194468d830420ce656aa98d09f191e3ed1dfed08ed9da725a51", func := "loop.example/g00940/laws.FnCodeWords", spec := "fnCodeWords", unfollowed := true, recurses := true, apart := false }
def FnCodeWordsSaid : Prop := fnCodeWordsRow.holds Try.pinned (OpenSpec.ofChange fnCodeWordsSpec)

/-- ITS FALSE NEIGHBOUR: 'it returns false'. Refute it at one input. -/
def fnCodeWordsWrong : ChangeSpec := { name := "fnCodeWords", fn := fun _ => fun
  | [d1, d2] => { results := [.lit (.bool false)], args := [d1, d2] }
  | _ => none }
def FnCodeWordsWrongFalsely : Prop := fnCodeWordsRow.holds Try.pinned (OpenSpec.ofChange fnCodeWordsWrong)

/- THE SECOND FORM. 'bulk': how many values and letters a reading holds, each counted each time it is reached (what is shared counts as often as it is met; a slice's spare places count too). A statement '..UptoSaid' is the law's where the arguments, and the package variables that the reading takes, are together of bulk at most 1048576: NARROWER than '..Said'. Prove '..Said' where nothing that the law and all that it calls make is longer than what came in: it says more and counts as full. Else prove '..UptoSaid'. A law counts once. -/
mutual
def uptoBulk {H : Type} : DataW H → Nat
  | .lit (.string bytes) => bytes.length + 1
  | .lit _ => 1
  | .nil => 1
  | .ptr d => uptoBulk d + 1
  | .slice elems spare => uptoBulkAll elems + uptoBulkAll spare + 1
  | .agg parts => uptoBulkAll parts + 1
  | .iface _ d => uptoBulk d + 1
  | .map entries => uptoBulkEntries entries + 1
  | .held _ => 1
def uptoBulkAll {H : Type} : List (DataW H) → Nat
  | [] => 0
  | d :: r => uptoBulk d + uptoBulkAll r
def uptoBulkEntries {H : Type} : List (Lit × DataW H) → Nat
  | [] => 0
  | x :: r => uptoBulkEntry x + uptoBulkEntries r
def uptoBulkEntry {H : Type} : Lit × DataW H → Nat
  | (.string bytes, d) => bytes.length + uptoBulk d + 1
  | (_, d) => uptoBulk d + 1
 end
def uptoSmall : (H : Type) → List (DataW H) → Bool := fun _ ds => decide (uptoBulkAll ds ≤ 1048576)
def OpenSpec.upto (s : _root_.Go.ChangeSpec) : _root_.Go.OpenSpec := { _root_.Go.OpenSpec.ofChange s with cond := some uptoSmall }

/-- 'laws.FnExactDropPhrase', WHERE WHAT IT READS IS OF BULK AT MOST 1048576: true; the input reads as it did. -/
def fnExactDropPhraseUptoRow : OpenClaim := { program := "ytjnkdjokbamibaa", sum := "bda0820da1aa7194468d830420ce656aa98d09f191e3ed1dfed08ed9da725a51", func := "loop.example/g00940/laws.FnExactDropPhrase", spec := "fnExactDropPhrase", unfollowed := true, recurses := true, apart := false, narrowed := true }
def FnExactDropPhraseUptoSaid : Prop := fnExactDropPhraseUptoRow.holds Try.pinned (OpenSpec.upto fnExactDropPhraseSpec)

/-- 'laws.FnExactAddPhrase', WHERE WHAT IT READS IS OF BULK AT MOST 1048576: true; the input reads as it did. -/
def fnExactAddPhraseUptoRow : OpenClaim := { program := "ytjnkdjokbamibaa", sum := "bda0820da1aa7194468d830420ce656aa98d09f191e3ed1dfed08ed9da725a51", func := "loop.example/g00940/laws.FnExactAddPhrase", spec := "fnExactAddPhrase", inPlace := ["slices.overlaps[loop.example/g00940/impl.Phrase]"], unfollowed := true, recurses := true, apart := false, narrowed := true }
def FnExactAddPhraseUptoSaid : Prop := fnExactAddPhraseUptoRow.holds Try.pinned (OpenSpec.upto fnExactAddPhraseSpec)

/-- 'laws.FnSpelling', WHERE WHAT IT READS IS OF BULK AT MOST 1048576: true; the input reads as it did. -/
def fnSpellingUptoRow : OpenClaim := { program := "ytjnkdjokbamibaa", sum := "bda0820da1aa7194468d830420ce656aa98d09f191e3ed1dfed08ed9da725a51", func := "loop.example/g00940/laws.FnSpelling", spec := "fnSpelling", inPlace := ["internal/abi.NoEscape"], unfollowed := true, recurses := true, apart := false, narrowed := true }
def FnSpellingUptoSaid : Prop := fnSpellingUptoRow.holds Try.pinned (OpenSpec.upto fnSpellingSpec)

/-- 'laws.FnCodeWords', WHERE WHAT IT READS IS OF BULK AT MOST 1048576: true; the input reads as it did. -/
def fnCodeWordsUptoRow : OpenClaim := { program := "ytjnkdjokbamibaa", sum := "bda0820da1aa7194468d830420ce656aa98d09f191e3ed1dfed08ed9da725a51", func := "loop.example/g00940/laws.FnCodeWords", spec := "fnCodeWords", unfollowed := true, recurses := true, apart := false, narrowed := true }
def FnCodeWordsUptoSaid : Prop := fnCodeWordsUptoRow.holds Try.pinned (OpenSpec.upto fnCodeWordsSpec)

end Rows
end Go.Proofs.Ytjnkdjokbamibaa
