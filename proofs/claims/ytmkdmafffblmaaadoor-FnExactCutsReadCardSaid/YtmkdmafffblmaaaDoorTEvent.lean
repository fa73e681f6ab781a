/-
  Event: its cells, the laws' copies, counts and equality. For every readable one. No condition.
-/
import Derived.Test.YtmkdmafffblmaaaDoorMade
import Derived.Test.YtmkdmafffblmaaaDoorSz
import Derived.WalkSpells
import Derived.WalkLawsBesides
import Derived.Deep.RegionHeld3
namespace Go.Proofs.YtmkdmafffblmaaaDoor
open Go.ChangeShapes Go.WideShapes Go.ChangeAt Go.RowKit

def eventCells (x : Int × ByteArray × Int) : List Value := [.int .i64 x.1, .string x.2.1, .int .i64 x.2.2]
def eventOk (x : Int × ByteArray × Int) : Prop := IntOk (x.1) ∧ StrOk (x.2.1) ∧ IntOk (x.2.2)
theorem eventDec (w : World) : ∀ row, CellsAre w [0, 1, 0] row → ∃ x, row = eventCells x ∧ eventOk x := by
  intro row h
  have hl := h.length
  match row, hl with
  | [_, _, _], _ =>
    obtain ⟨⟨x0, rfl, o0⟩, ⟨x1, rfl, o1⟩, ⟨x2, rfl, o2⟩, _⟩ := h
    exact ⟨(x0, x1, x2), rfl, o0, o1, o2⟩

theorem toEvent_any (x0 : Int) (x1 : ByteArray) (x2 : Int) (w : World) :
    Calls Tryd.prog 48 #[.agg #[.int .i64 x0, .string x1, .int .i64 x2]] w fun e w' => e = .returned (.agg #[.int .i64 x0, .string x1, .int .i64 x2]) ∧ Below w.heap.size w w' := by
  go_enter Tryd.func48, Tryd.ntmps48
  go_wp2
  go_returns
  exact ⟨rfl, by go_grown⟩

theorem szEvent_any (x0 : Int) (x1 : ByteArray) (x2 : Int) (left : Int) (h0 : 0 ≤ left) (h1 : left ≤ 1048576) (hs : StrOk x1) (w : World) :
    Calls Tryd.prog 46 #[.agg #[.int .i64 x0, .string x1, .int .i64 x2], .int .i64 left] w fun e w' => e = .returned (.int .i64 (szN left x1.size)) ∧ Below w.heap.size w w' := by
  unfold StrOk maxLen at hs
  by_cases c : left < x1.size
  · have e : Hid (szN left x1.size = -1) := Lib.hid (by unfold szN; rw [if_pos c])
    go_enter Tryd.func46, Tryd.ntmps46
    go_wp2
    go_ret
    exact ⟨ret_int e.out.symm, by go_grown⟩
  · have e : Hid (szN left x1.size = left - x1.size) := Lib.hid (by unfold szN; rw [if_neg c])
    go_enter Tryd.func46, Tryd.ntmps46
    go_wp2
    go_ret
    exact ⟨ret_int e.out.symm, by go_grown⟩

end Go.Proofs.YtmkdmafffblmaaaDoor
