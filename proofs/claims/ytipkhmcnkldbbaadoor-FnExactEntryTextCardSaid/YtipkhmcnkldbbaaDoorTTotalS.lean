/-
  Slices of Total: the laws' copy and count. For every readable slice. No condition.
-/
import Derived.Test.YtipkhmcnkldbbaaDoorTTotal
namespace Go.Proofs.YtipkhmcnkldbbaaDoor
open Go.ChangeShapes Go.WideShapes Go.ChangeAt Go.RowKit

def totalTexts (x : ByteArray × Int × Int) : List ByteArray := [x.1]
end Go.Proofs.YtipkhmcnkldbbaaDoor
