/-
  The total of a category: what the reference's and the program's functions return, for every slice of totals. No condition.
-/
import Derived.Test.YtipkhmcnkldbbaaDoorTotalsS
namespace Go.Proofs.YtipkhmcnkldbbaaDoor
open Go.ChangeShapes Go.WideShapes Go.ChangeAt Go.RowKit

abbrev Tot := ByteArray × Int × Int
def isCat (c : ByteArray) (x : Tot) : Bool := decide (x.1 = c)
def totZero : Tot := (ByteArray.empty, 0, 0)
def totalFind (xs : List Tot) (c : ByteArray) : Tot × Bool := if totalsB xs = true then (match xs.find? (isCat c) with | some x => (x, true) | none => (totZero, false)) else (totZero, false)
def totV (r : Tot × Bool) : Value := .tuple #[.agg #[.string r.1.1, .int .i64 r.1.2.1, .int .i64 r.1.2.2], .bool r.2]
theorem find_hit {xs : List Tot} {k : Nat} {x : Tot} {c : ByteArray} (hx : xs[k]? = some x) (h : xs.find? (isCat c) = (xs.drop k).find? (isCat c)) (e : x.1 = c) : xs.find? (isCat c) = some x := by
  rw [h, drop_of hx, List.find?_cons_of_pos (by simp [isCat, e])]
theorem find_on {xs : List Tot} {k : Nat} {x : Tot} {c : ByteArray} (hx : xs[k]? = some x) (h : xs.find? (isCat c) = (xs.drop k).find? (isCat c)) (e : ¬ x.1 = c) : xs.find? (isCat c) = (xs.drop (k + 1)).find? (isCat c) := by
  rw [h, drop_of hx, List.find?_cons_of_neg (by simp [isCat, e])]

end Go.Proofs.YtipkhmcnkldbbaaDoor
