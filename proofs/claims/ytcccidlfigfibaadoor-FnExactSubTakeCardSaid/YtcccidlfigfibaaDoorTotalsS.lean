/-
  Valid totals: what the reference's function returns, for every slice of totals. No condition.
-/
import Derived.Test.YtcccidlfigfibaaDoorTotals
namespace Go.Proofs.YtcccidlfigfibaaDoor
open Go.ChangeShapes Go.WideShapes Go.ChangeAt Go.RowKit

end Go.Proofs.YtcccidlfigfibaaDoor
