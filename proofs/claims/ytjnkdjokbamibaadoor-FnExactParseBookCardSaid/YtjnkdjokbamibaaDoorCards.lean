/-
  DERIVED. GIVEN WITH THE SEED: THE CARDS: each row of YtjnkdjokbamibaaDoorRows.lean that lists a variable, with what it lists TIED to the program's text (the seventh form; the later family's looks); each row that meets fmt, with fmt's text TOLD by the authors' own Lean function (tested against real Go, not proved from fmt's source: count such statements apart). THE CARD IS WHAT COUNTS. Prove the row's statement (the work); the ties are given (YtjnkdjokbamibaaDoorTie.lean); close each card by the builder's one call (the guide's Derived/Test/ToyasCard.lean, 'card_holds'). Laid BY PROGRAM, IN A SANDBOX (cutbox-door.mjs). By AI agents, Wed Nov 11 2026. No macro, syntax, notation, axiom, sorry.
-/
import Derived.Test.YtjnkdjokbamibaaDoorRows
import GoSem.ClaimSeven
namespace Go.Proofs.YtjnkdjokbamibaaDoor
namespace Rows

/-- THE TIED CARD OF 'laws.FnExactParseBook'. -/
def fnExactParseBookCard : Claim7 := { stood := { row := fnExactParseBookRow, standIns := [], harness := (true, "0266f185ac22ac71c9642922321f75c3e2d4fc36dd9a8a78528cfa4846a8c8d5"), looks := true }, kinds := [], alts := [], laidByText := true, laidKinds := [.data, .data, .data, .data, .sentinel, .sentinel, .pinned], laidTests := true, laidLooks := .later }
def FnExactParseBookCardSaid : Prop := Claim7.holds Tryd.pinned (.plain (OpenSpec.ofChange fnExactParseBookSpec)) fnExactParseBookCard

/-- THE TIED CARD OF 'laws.FnExactSignalsText'. -/
def fnExactSignalsTextCard : Claim7 := { stood := { row := fnExactSignalsTextRow, standIns := [], harness := (true, "0266f185ac22ac71c9642922321f75c3e2d4fc36dd9a8a78528cfa4846a8c8d5"), looks := true }, kinds := [], alts := [], laidByText := true, laidKinds := [.data, .data, .data], laidTests := true, laidLooks := .later }
def FnExactSignalsTextCardSaid : Prop := Claim7.holds Tryd.pinned (.plain (OpenSpec.ofChange fnExactSignalsTextSpec)) fnExactSignalsTextCard

/-- THE TIED CARD OF 'laws.FnExactBookText'. -/
def fnExactBookTextCard : Claim7 := { stood := { row := fnExactBookTextRow, standIns := [], harness := (true, "0266f185ac22ac71c9642922321f75c3e2d4fc36dd9a8a78528cfa4846a8c8d5"), looks := true }, kinds := [], alts := [], laidByText := true, laidKinds := [.data, .data, .data], laidTests := true, laidLooks := .later }
def FnExactBookTextCardSaid : Prop := Claim7.holds Tryd.pinned (.plain (OpenSpec.ofChange fnExactBookTextSpec)) fnExactBookTextCard

/-- THE TIED CARD OF 'laws.FnExactReadSignals'. -/
def fnExactReadSignalsCard : Claim7 := { stood := { row := fnExactReadSignalsRow, standIns := [], harness := (true, "0266f185ac22ac71c9642922321f75c3e2d4fc36dd9a8a78528cfa4846a8c8d5"), looks := true }, kinds := [], alts := [], laidByText := true, laidKinds := [.data, .data, .data, .data, .sentinel, .sentinel, .pinned], laidTests := true, laidLooks := .later }
def FnExactReadSignalsCardSaid : Prop := Claim7.holds Tryd.pinned (.plain (OpenSpec.ofChange fnExactReadSignalsSpec)) fnExactReadSignalsCard

/-- THE SECOND FORM's CARD OF 'laws.FnExactParseBook'. -/
def fnExactParseBookUptoCard : Claim7 := { stood := { row := fnExactParseBookUptoRow, standIns := [], harness := (true, "0266f185ac22ac71c9642922321f75c3e2d4fc36dd9a8a78528cfa4846a8c8d5"), looks := true }, kinds := [], alts := [], laidByText := true, laidKinds := [.data, .data, .data, .data, .sentinel, .sentinel, .pinned], laidTests := true, laidLooks := .later }
def FnExactParseBookUptoCardSaid : Prop := Claim7.holds Tryd.pinned (.plain (OpenSpec.upto fnExactParseBookSpec)) fnExactParseBookUptoCard

/-- THE SECOND FORM's CARD OF 'laws.FnExactSignalsText'. -/
def fnExactSignalsTextUptoCard : Claim7 := { stood := { row := fnExactSignalsTextUptoRow, standIns := [], harness := (true, "0266f185ac22ac71c9642922321f75c3e2d4fc36dd9a8a78528cfa4846a8c8d5"), looks := true }, kinds := [], alts := [], laidByText := true, laidKinds := [.data, .data, .data], laidTests := true, laidLooks := .later }
def FnExactSignalsTextUptoCardSaid : Prop := Claim7.holds Tryd.pinned (.plain (OpenSpec.upto fnExactSignalsTextSpec)) fnExactSignalsTextUptoCard

/-- THE SECOND FORM's CARD OF 'laws.FnExactBookText'. -/
def fnExactBookTextUptoCard : Claim7 := { stood := { row := fnExactBookTextUptoRow, standIns := [], harness := (true, "0266f185ac22ac71c9642922321f75c3e2d4fc36dd9a8a78528cfa4846a8c8d5"), looks := true }, kinds := [], alts := [], laidByText := true, laidKinds := [.data, .data, .data], laidTests := true, laidLooks := .later }
def FnExactBookTextUptoCardSaid : Prop := Claim7.holds Tryd.pinned (.plain (OpenSpec.upto fnExactBookTextSpec)) fnExactBookTextUptoCard

/-- THE SECOND FORM's CARD OF 'laws.FnExactReadSignals'. -/
def fnExactReadSignalsUptoCard : Claim7 := { stood := { row := fnExactReadSignalsUptoRow, standIns := [], harness := (true, "0266f185ac22ac71c9642922321f75c3e2d4fc36dd9a8a78528cfa4846a8c8d5"), looks := true }, kinds := [], alts := [], laidByText := true, laidKinds := [.data, .data, .data, .data, .sentinel, .sentinel, .pinned], laidTests := true, laidLooks := .later }
def FnExactReadSignalsUptoCardSaid : Prop := Claim7.holds Tryd.pinned (.plain (OpenSpec.upto fnExactReadSignalsSpec)) fnExactReadSignalsUptoCard
end Rows
end Go.Proofs.YtjnkdjokbamibaaDoor
