/-
  Cut: its cells, the laws' copies, counts and equality. For every readable one. No condition.
-/
import Derived.Test.YtcccidlfigfibaaDoorMade
import Derived.Test.YtcccidlfigfibaaDoorSz
import Derived.WalkSpells
import Derived.WalkLawsBesides
import Derived.Deep.RegionHeld3
namespace Go.Proofs.YtcccidlfigfibaaDoor
open Go.ChangeShapes Go.WideShapes Go.ChangeAt Go.RowKit

def cutCells (x : ByteArray × Int) : List Value := [.string x.1, .int .i64 x.2]
def cutOk (x : ByteArray × Int) : Prop := StrOk (x.1) ∧ IntOk (x.2)
theorem cutDec (w : World) : ∀ row, CellsAre w [1, 0] row → ∃ x, row = cutCells x ∧ cutOk x := by
  intro row h
  have hl := h.length
  match row, hl with
  | [_, _], _ =>
    obtain ⟨⟨x0, rfl, o0⟩, ⟨x1, rfl, o1⟩, _⟩ := h
    exact ⟨(x0, x1), rfl, o0, o1⟩

theorem toCut_any (x0 : ByteArray) (x1 : Int) (w : World) :
    Calls Tryd.prog 28 #[.agg #[.string x0, .int .i64 x1]] w fun e w' => e = .returned (.agg #[.string x0, .int .i64 x1]) ∧ Below w.heap.size w w' := by
  go_enter Tryd.func28, Tryd.ntmps28
  go_wp2
  go_returns
  exact ⟨rfl, by go_grown⟩

theorem szCut_any (x0 : ByteArray) (x1 : Int) (left : Int) (h0 : 0 ≤ left) (h1 : left ≤ 1048576) (hs : StrOk x0) (w : World) :
    Calls Tryd.prog 25 #[.agg #[.string x0, .int .i64 x1], .int .i64 left] w fun e w' => e = .returned (.int .i64 (szN left x0.size)) ∧ Below w.heap.size w w' := by
  unfold StrOk maxLen at hs
  by_cases c : left < x0.size
  · have e : Hid (szN left x0.size = -1) := Lib.hid (by unfold szN; rw [if_pos c])
    go_enter Tryd.func25, Tryd.ntmps25
    go_wp2
    go_ret
    exact ⟨ret_int e.out.symm, by go_grown⟩
  · have e : Hid (szN left x0.size = left - x0.size) := Lib.hid (by unfold szN; rw [if_neg c])
    go_enter Tryd.func25, Tryd.ntmps25
    go_wp2
    go_ret
    exact ⟨ret_int e.out.symm, by go_grown⟩

end Go.Proofs.YtcccidlfigfibaaDoor
