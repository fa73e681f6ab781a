/-
  Slices of strings: their cells, and the laws' equality. For every readable slice. No condition.
-/
import Derived.Test.YtmnmaibhjhhakaaGreatDoorMade
import Derived.Test.YtmnmaibhjhhakaaGreatDoorSz
import Derived.Test.YtmnmaibhjhhakaaGreatDoorOwn
import Derived.WalkSpells
import Derived.WalkLawsBesides
namespace Go.Proofs.YtmnmaibhjhhakaaGreatDoor
open Go.ChangeShapes Go.WideShapes Go.ChangeAt Go.RowKit

def strCells (x : ByteArray) : List Value := [.string x]
theorem infoStr : (Tryz.prog.info? 9).map (fun i => (i.zero, i.size, i.bytes)) = some (some (.string ByteArray.empty), 1, 16) := by kernel_rfl
theorem rowStr : RowTy Tryz.prog 46 9 1 16 := rowTy_mk Tryz.underlying46 infoStr rfl (by decide)

end Go.Proofs.YtmnmaibhjhhakaaGreatDoor
