/-
  DERIVED. GIVEN WITH THE SEED: THE CARDS: each row of YtjnkdjokbamibaaGreatDoorRows.lean that lists a variable, with what it lists TIED to the program's text (the seventh form; the later family's looks); each row that meets fmt, with fmt's text TOLD by the authors' own Lean function (tested against real Go, not proved from fmt's source: count such statements apart). THE CARD IS WHAT COUNTS. Prove the row's statement (the work); the ties are given (YtjnkdjokbamibaaGreatDoorTie.lean); close each card by the builder's one call (the guide's Derived/Test/ToyasCard.lean, 'card_holds'). Laid BY PROGRAM, IN A SANDBOX (cutbox-door.mjs). By AI agents, Wed Nov 11 2026. No macro, syntax, notation, axiom, sorry.
-/
import Derived.Test.YtjnkdjokbamibaaGreatDoorRows
import GoSem.ClaimSeven
namespace Go.Proofs.YtjnkdjokbamibaaGreatDoor
namespace Rows

/-- THE TIED CARD OF 'laws.FnSignalLists'. -/
def fnSignalListsCard : Claim7 := { stood := { row := fnSignalListsRow, standIns := [], harness := (true, "a87f2347fcf2466d8cb772253ec59848f9d5844c7e8cd1393eb8d1c68f198f72"), looks := true }, kinds := [], alts := [], laidByText := true, laidKinds := [.data, .data, .data, .data, .sentinel, .sentinel, .pinned], laidTests := true, laidLooks := .later }
def FnSignalListsCardSaid : Prop := Claim7.holds Tryz.pinned (.plain (OpenSpec.ofChange fnSignalListsSpec)) fnSignalListsCard

/-- THE TIED CARD OF 'laws.FnBooks'. -/
def fnBooksCard : Claim7 := { stood := { row := fnBooksRow, standIns := [], harness := (true, "a87f2347fcf2466d8cb772253ec59848f9d5844c7e8cd1393eb8d1c68f198f72"), looks := true }, kinds := [], alts := [], laidByText := true, laidKinds := [.data, .data, .data, .data, .sentinel, .sentinel, .pinned], laidTests := true, laidLooks := .later }
def FnBooksCardSaid : Prop := Claim7.holds Tryz.pinned (.plain (OpenSpec.ofChange fnBooksSpec)) fnBooksCard

/-- THE SECOND FORM's CARD OF 'laws.FnSignalLists'. -/
def fnSignalListsUptoCard : Claim7 := { stood := { row := fnSignalListsUptoRow, standIns := [], harness := (true, "a87f2347fcf2466d8cb772253ec59848f9d5844c7e8cd1393eb8d1c68f198f72"), looks := true }, kinds := [], alts := [], laidByText := true, laidKinds := [.data, .data, .data, .data, .sentinel, .sentinel, .pinned], laidTests := true, laidLooks := .later }
def FnSignalListsUptoCardSaid : Prop := Claim7.holds Tryz.pinned (.plain (OpenSpec.upto fnSignalListsSpec)) fnSignalListsUptoCard

/-- THE SECOND FORM's CARD OF 'laws.FnBooks'. -/
def fnBooksUptoCard : Claim7 := { stood := { row := fnBooksUptoRow, standIns := [], harness := (true, "a87f2347fcf2466d8cb772253ec59848f9d5844c7e8cd1393eb8d1c68f198f72"), looks := true }, kinds := [], alts := [], laidByText := true, laidKinds := [.data, .data, .data, .data, .sentinel, .sentinel, .pinned], laidTests := true, laidLooks := .later }
def FnBooksUptoCardSaid : Prop := Claim7.holds Tryz.pinned (.plain (OpenSpec.upto fnBooksSpec)) fnBooksUptoCard
end Rows
end Go.Proofs.YtjnkdjokbamibaaGreatDoor
