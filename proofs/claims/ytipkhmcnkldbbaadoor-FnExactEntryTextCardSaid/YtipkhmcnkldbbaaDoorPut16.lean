/-
  A total put into a list of totals by one pass with a mark: the reference's l16Put. The numbers lie between 0 and 1000000.
-/
import Derived.Test.YtipkhmcnkldbbaaDoorJoinI
namespace Go.Proofs.YtipkhmcnkldbbaaDoor
open Go.ChangeShapes Go.WideShapes Go.ChangeAt Go.RowKit

end Go.Proofs.YtipkhmcnkldbbaaDoor
