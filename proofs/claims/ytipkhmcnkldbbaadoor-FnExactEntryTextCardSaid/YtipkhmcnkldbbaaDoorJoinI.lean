/-
  Totals joined by the program: the merge of two ascending lists. The numbers lie between 0 and 1000000, at most 24 totals each.
-/
import Derived.Test.YtipkhmcnkldbbaaDoorPMerge
import Derived.Test.YtipkhmcnkldbbaaDoorPTail
import Derived.Test.YtipkhmcnkldbbaaDoorKTotal
import Derived.Deep.LoopGhost
import Derived.Deep.RegionHeld3
namespace Go.Proofs.YtipkhmcnkldbbaaDoor
open Go.ChangeShapes Go.WideShapes Go.ChangeAt Go.RowKit

def Small (x : Tot) : Prop := (0 ≤ x.2.1 ∧ x.2.1 ≤ 1000000) ∧ (0 ≤ x.2.2 ∧ x.2.2 ≤ 1000000)
theorem total_one (xs : List Tot) : ∀ u ∈ xs.flatMap totalCells, u.oneCell' = true := by
  intro u hu
  obtain ⟨x, _, hx⟩ := List.mem_flatMap.1 hu
  simp only [totalCells, List.mem_cons, List.not_mem_nil, or_false] at hx
  rcases hx with rfl | rfl | rfl <;> rfl

end Go.Proofs.YtipkhmcnkldbbaaDoor
