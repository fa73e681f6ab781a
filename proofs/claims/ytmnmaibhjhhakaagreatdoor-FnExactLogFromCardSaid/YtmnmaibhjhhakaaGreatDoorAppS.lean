/-
  StoreAppend of the reference. No condition beyond what the rows list.
-/
import Derived.Test.YtmnmaibhjhhakaaGreatDoorAppP
import Derived.Test.YtmnmaibhjhhakaaGreatDoorKEntry
namespace Go.Proofs.YtmnmaibhjhhakaaGreatDoor
open Go.ChangeShapes Go.WideShapes Go.ChangeAt Go.RowKit
end Go.Proofs.YtmnmaibhjhhakaaGreatDoor
