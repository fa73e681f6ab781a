/-
  Lock: its cells, the laws' copies, counts and equality. For every readable one. No condition.
-/
import Derived.Test.YtfbnpnajpkhkdaaMade
import Derived.Test.YtfbnpnajpkhkdaaSz
import Derived.WalkSpells
import Derived.WalkLawsBesides
import Derived.Deep.RegionHeld3
namespace Go.Proofs.Ytfbnpnajpkhkdaa
open Go.ChangeShapes Go.WideShapes Go.ChangeAt Go.RowKit

def lockCells (x : Int × Int) : List Value := [.int .i64 x.1, .int .i64 x.2]
def lockOk (x : Int × Int) : Prop := IntOk (x.1) ∧ IntOk (x.2)
theorem lockDec (w : World) : ∀ row, CellsAre w [0, 0] row → ∃ x, row = lockCells x ∧ lockOk x := by
  intro row h
  have hl := h.length
  match row, hl with
  | [_, _], _ =>
    obtain ⟨⟨x0, rfl, o0⟩, ⟨x1, rfl, o1⟩, _⟩ := h
    exact ⟨(x0, x1), rfl, o0, o1⟩

theorem toLock_any (x0 : Int) (x1 : Int) (w : World) :
    Calls Try.prog 78 #[.agg #[.int .i64 x0, .int .i64 x1]] w fun e w' => e = .returned (.agg #[.int .i64 x0, .int .i64 x1]) ∧ Below w.heap.size w w' := by
  go_enter Try.func78, Try.ntmps78
  go_wp2
  go_returns
  exact ⟨rfl, by go_grown⟩


end Go.Proofs.Ytfbnpnajpkhkdaa
