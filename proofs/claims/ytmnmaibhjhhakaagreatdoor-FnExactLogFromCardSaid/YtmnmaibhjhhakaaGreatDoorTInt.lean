/-
  Slices of ints: their cells, the laws' copy, count and equality. For every readable slice. No condition.
-/
import Derived.Test.YtmnmaibhjhhakaaGreatDoorMade
import Derived.Test.YtmnmaibhjhhakaaGreatDoorSz
import Derived.WalkSpells
import Derived.WalkLawsBesides
namespace Go.Proofs.YtmnmaibhjhhakaaGreatDoor
open Go.ChangeShapes Go.WideShapes Go.ChangeAt Go.RowKit

def intCells (x0 : Int) : List Value := [.int .i64 x0]
def intOk (x0 : Int) : Prop := IntOk x0
theorem intDec (w : World) : ∀ row, CellsAre w [0] row → ∃ x, row = intCells x ∧ intOk x := by
  intro row h
  have hl := h.length
  match row, hl with
  | [_], _ =>
    obtain ⟨⟨x0, rfl, o0⟩, _⟩ := h
    exact ⟨x0, rfl, o0⟩
theorem int_map (zs : List Int) : zs.map (Value.int .i64) = zs.flatMap intCells := by
  induction zs with
  | nil => rfl
  | cons z zs ih => rw [List.map_cons, ih]; rfl
theorem infoInt : (Tryz.prog.info? 3).map (fun i => (i.zero, i.size, i.bytes)) = some (some (.int .i64 0), 1, 8) := by kernel_rfl

end Go.Proofs.YtmnmaibhjhhakaaGreatDoor
