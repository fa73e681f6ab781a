/-
  Valid totals: what the reference's and the program's functions return, for every slice of totals. No condition.
-/
import Derived.Test.YtipkhmcnkldbbaaDoorTTotalS
import Derived.Test.YtipkhmcnkldbbaaDoorOrd
namespace Go.Proofs.YtipkhmcnkldbbaaDoor
open Go.ChangeShapes Go.WideShapes Go.ChangeAt Go.RowKit

/-- A valid total. -/
def totalB (x : ByteArray × Int × Int) : Bool := wordB x.1 && inB x.2.1 1 99 && inB x.2.2 0 (999 * x.2.1)
def totalsFrom : Option ByteArray → List (ByteArray × Int × Int) → Bool := sortedBy totalB (fun x => x.1)
def totalsB (xs : List (ByteArray × Int × Int)) : Bool := decide (xs.length ≤ 24) && totalsFrom none xs
theorem totals_no {xs : List (ByteArray × Int × Int)} (h : totalsFrom none xs = false) : totalsB xs = false := by unfold totalsB; rw [h]; simp

end Go.Proofs.YtipkhmcnkldbbaaDoor
