/-
  Slices of Total within an interval of blocks: the laws' copy, equality, marks, and whether the marks are held. No condition.
-/
import Derived.Test.YtipkhmcnkldbbaaDoorETotal
import Derived.Test.YtipkhmcnkldbbaaDoorKeep
import Derived.Test.YtipkhmcnkldbbaaDoorMarkText
namespace Go.Proofs.YtipkhmcnkldbbaaDoor
open Go.ChangeShapes Go.WideShapes Go.ChangeAt Go.RowKit

def totalMarks (q : Int) : List Value := [.string (mtext (q)), .int .i64 (q + 1), .int .i64 (q + 1 + 1)]
end Go.Proofs.YtipkhmcnkldbbaaDoor
