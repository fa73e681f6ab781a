/-
  Ints in ascending order between two bounds. Plain facts, no condition.
-/
import Derived.Test.YtkianldpmlbgcaaTInt
namespace Go.Proofs.Ytkianldpmlbgcaa
open Go.RowKit
/-- Ascending, behind 'last' and below 'hi'. -/
def ascTo (last hi : Int) : List Int → Bool
  | [] => true
  | x :: xs => decide (last < x) && decide (x < hi) && ascTo x hi xs
theorem asc_step {xs : List Int} {k : Nat} {x L hi lo : Int} (hx : xs[k]? = some x) (h : ascTo lo hi xs = ascTo L hi (xs.drop k)) :
    ascTo lo hi xs = (decide (L < x) && decide (x < hi) && ascTo x hi (xs.drop (k + 1))) := by
  rw [h, drop_of hx, ascTo]
end Go.Proofs.Ytkianldpmlbgcaa
