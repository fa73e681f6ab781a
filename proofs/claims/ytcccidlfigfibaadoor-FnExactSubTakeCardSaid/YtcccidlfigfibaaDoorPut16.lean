/-
  A total put into a list of totals by one pass with a mark: the reference's l16Put. The numbers lie between 0 and 1000000.
-/
import Derived.Test.YtcccidlfigfibaaDoorJoinI
namespace Go.Proofs.YtcccidlfigfibaaDoor
open Go.ChangeShapes Go.WideShapes Go.ChangeAt Go.RowKit

end Go.Proofs.YtcccidlfigfibaaDoor
