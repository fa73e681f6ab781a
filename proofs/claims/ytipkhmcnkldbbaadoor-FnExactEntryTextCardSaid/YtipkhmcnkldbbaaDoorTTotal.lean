/-
  Total: its cells, the laws' copies, counts and equality. For every readable one. No condition.
-/
import Derived.Test.YtipkhmcnkldbbaaDoorMade
import Derived.Test.YtipkhmcnkldbbaaDoorSz
import Derived.WalkSpells
import Derived.WalkLawsBesides
import Derived.Deep.RegionHeld3
namespace Go.Proofs.YtipkhmcnkldbbaaDoor
open Go.ChangeShapes Go.WideShapes Go.ChangeAt Go.RowKit

def totalCells (x : ByteArray × Int × Int) : List Value := [.string x.1, .int .i64 x.2.1, .int .i64 x.2.2]
def totalOk (x : ByteArray × Int × Int) : Prop := StrOk (x.1) ∧ IntOk (x.2.1) ∧ IntOk (x.2.2)
theorem totalDec (w : World) : ∀ row, CellsAre w [1, 0, 0] row → ∃ x, row = totalCells x ∧ totalOk x := by
  intro row h
  have hl := h.length
  match row, hl with
  | [_, _, _], _ =>
    obtain ⟨⟨x0, rfl, o0⟩, ⟨x1, rfl, o1⟩, ⟨x2, rfl, o2⟩, _⟩ := h
    exact ⟨(x0, x1, x2), rfl, o0, o1, o2⟩

end Go.Proofs.YtipkhmcnkldbbaaDoor
