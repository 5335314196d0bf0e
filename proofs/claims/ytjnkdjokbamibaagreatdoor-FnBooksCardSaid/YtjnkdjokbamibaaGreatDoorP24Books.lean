/- Texts of one claim, joined: VBooks. -/
import Derived.Deep.DeepCutAuto
import Derived.Deep.CutBlock
import Derived.Test.YtjnkdjokbamibaaGreatDoorP20Books
import Derived.Test.YtjnkdjokbamibaaGreatDoorP22Books
import Derived.Test.YtjnkdjokbamibaaGreatDoorP23Books
/- The walk of the law FnBooks. -/
namespace Go.Proofs.YtjnkdjokbamibaaGreatDoor.fnBooks
open Go.ChangeShapes Go.WideShapes Go.ChangeAt Go.RowKit
open Go.ChangeMaps (open_string)
set_option linter.unusedVariables false
theorem walk (v0 : Value) (xs0 : List UInt8) (v1 : Value) (xs1 : List UInt8) (w : World) (hLW0 : LW w) (hr0 : RdU w w.heap.size v0 xs0) (hr1 : RdU w w.heap.size v1 xs1) : Calls Tryz.prog 4 #[v0, v1] w fun e w' => e = .returned (.bool true) ∧ Below w.heap.size w w' :=
  halfA.2.2 restB (halfC.2.2 restD restE) v0 xs0 v1 xs1 w hLW0 hr0 hr1
end Go.Proofs.YtjnkdjokbamibaaGreatDoor.fnBooks
