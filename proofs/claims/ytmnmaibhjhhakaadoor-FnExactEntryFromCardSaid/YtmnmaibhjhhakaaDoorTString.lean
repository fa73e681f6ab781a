/-
  Slices of strings: their cells, and the laws' equality. For every readable slice. No condition.
-/
import Derived.Test.YtmnmaibhjhhakaaDoorMade
import Derived.Test.YtmnmaibhjhhakaaDoorSz
import Derived.Test.YtmnmaibhjhhakaaDoorOwn
import Derived.WalkSpells
import Derived.WalkLawsBesides
namespace Go.Proofs.YtmnmaibhjhhakaaDoor
open Go.ChangeShapes Go.WideShapes Go.ChangeAt Go.RowKit

def strCells (x : ByteArray) : List Value := [.string x]
theorem infoStr : (Tryd.prog.info? 9).map (fun i => (i.zero, i.size, i.bytes)) = some (some (.string ByteArray.empty), 1, 16) := by kernel_rfl
theorem rowStr : RowTy Tryd.prog 33 9 1 16 := rowTy_mk Tryd.underlying33 infoStr rfl (by decide)

end Go.Proofs.YtmnmaibhjhhakaaDoor
