/-
  Row: the laws' copies of one and of a slice. For every readable one. No condition.
-/
import Derived.Test.YtipkhmcnkldbbaaDoorTRow
namespace Go.Proofs.YtipkhmcnkldbbaaDoor
open Go.ChangeShapes Go.WideShapes Go.ChangeAt Go.RowKit

end Go.Proofs.YtipkhmcnkldbbaaDoor
