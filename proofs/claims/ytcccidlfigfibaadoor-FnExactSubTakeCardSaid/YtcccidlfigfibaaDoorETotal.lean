/-
  Total: equality of one and of slices, as the laws ask it. No condition.
-/
import Derived.Test.YtcccidlfigfibaaDoorTTotalS
namespace Go.Proofs.YtcccidlfigfibaaDoor
open Go.ChangeShapes Go.WideShapes Go.ChangeAt Go.RowKit

end Go.Proofs.YtcccidlfigfibaaDoor
