/-
  Valid totals: what the reference's function returns, for every slice of totals. No condition.
-/
import Derived.Test.YtipkhmcnkldbbaaDoorTotals
namespace Go.Proofs.YtipkhmcnkldbbaaDoor
open Go.ChangeShapes Go.WideShapes Go.ChangeAt Go.RowKit

end Go.Proofs.YtipkhmcnkldbbaaDoor
