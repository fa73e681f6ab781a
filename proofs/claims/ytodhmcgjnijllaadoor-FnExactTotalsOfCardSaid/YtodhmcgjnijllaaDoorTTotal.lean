/-
  Total: its cells, the laws' copies, counts and equality. For every readable one. No condition.
-/
import Derived.Test.YtodhmcgjnijllaaDoorMade
import Derived.Test.YtodhmcgjnijllaaDoorSz
import Derived.WalkSpells
import Derived.WalkLawsBesides
import Derived.Deep.RegionHeld3
namespace Go.Proofs.YtodhmcgjnijllaaDoor
open Go.ChangeShapes Go.WideShapes Go.ChangeAt Go.RowKit

def totalCells (x : ByteArray × Int × Int) : List Value := [.string x.1, .int .i64 x.2.1, .int .i64 x.2.2]
def totalOk (x : ByteArray × Int × Int) : Prop := StrOk (x.1) ∧ IntOk (x.2.1) ∧ IntOk (x.2.2)
theorem totalDec (w : World) : ∀ row, CellsAre w [1, 0, 0] row → ∃ x, row = totalCells x ∧ totalOk x := by
  intro row h
  have hl := h.length
  match row, hl with
  | [_, _, _], _ =>
    obtain ⟨⟨x0, rfl, o0⟩, ⟨x1, rfl, o1⟩, ⟨x2, rfl, o2⟩, _⟩ := h
    exact ⟨(x0, x1, x2), rfl, o0, o1, o2⟩

theorem toTotal_any (x0 : ByteArray) (x1 : Int) (x2 : Int) (w : World) :
    Calls Tryd.prog 57 #[.agg #[.string x0, .int .i64 x1, .int .i64 x2]] w fun e w' => e = .returned (.agg #[.string x0, .int .i64 x1, .int .i64 x2]) ∧ Below w.heap.size w w' := by
  go_enter Tryd.func57, Tryd.ntmps57
  go_wp2
  go_returns
  exact ⟨rfl, by go_grown⟩

theorem szTotal_any (x0 : ByteArray) (x1 : Int) (x2 : Int) (left : Int) (h0 : 0 ≤ left) (h1 : left ≤ 1048576) (hs : StrOk x0) (w : World) :
    Calls Tryd.prog 50 #[.agg #[.string x0, .int .i64 x1, .int .i64 x2], .int .i64 left] w fun e w' => e = .returned (.int .i64 (szN left x0.size)) ∧ Below w.heap.size w w' := by
  unfold StrOk maxLen at hs
  by_cases c : left < x0.size
  · have e : Hid (szN left x0.size = -1) := Lib.hid (by unfold szN; rw [if_pos c])
    go_enter Tryd.func50, Tryd.ntmps50
    go_wp2
    go_ret
    exact ⟨ret_int e.out.symm, by go_grown⟩
  · have e : Hid (szN left x0.size = left - x0.size) := Lib.hid (by unfold szN; rw [if_neg c])
    go_enter Tryd.func50, Tryd.ntmps50
    go_wp2
    go_ret
    exact ⟨ret_int e.out.symm, by go_grown⟩

end Go.Proofs.YtodhmcgjnijllaaDoor
