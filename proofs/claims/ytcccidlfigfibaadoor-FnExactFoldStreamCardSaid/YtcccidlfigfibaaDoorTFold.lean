/-
  Fold: its cells, the laws' copies, counts and equality. For every readable one. No condition.
-/
import Derived.Test.YtcccidlfigfibaaDoorMade
import Derived.Test.YtcccidlfigfibaaDoorSz
import Derived.WalkSpells
import Derived.WalkLawsBesides
import Derived.Deep.RegionHeld3
namespace Go.Proofs.YtcccidlfigfibaaDoor
open Go.ChangeShapes Go.WideShapes Go.ChangeAt Go.RowKit

def foldCells (x : Int × Int × ByteArray) : List Value := [.int .i64 x.1, .int .i64 x.2.1, .string x.2.2]
def foldOk (x : Int × Int × ByteArray) : Prop := IntOk (x.1) ∧ IntOk (x.2.1) ∧ StrOk (x.2.2)
theorem foldDec (w : World) : ∀ row, CellsAre w [0, 0, 1] row → ∃ x, row = foldCells x ∧ foldOk x := by
  intro row h
  have hl := h.length
  match row, hl with
  | [_, _, _], _ =>
    obtain ⟨⟨x0, rfl, o0⟩, ⟨x1, rfl, o1⟩, ⟨x2, rfl, o2⟩, _⟩ := h
    exact ⟨(x0, x1, x2), rfl, o0, o1, o2⟩

theorem toFold_any (x0 : Int) (x1 : Int) (x2 : ByteArray) (w : World) :
    Calls Tryd.prog 21 #[.agg #[.int .i64 x0, .int .i64 x1, .string x2]] w fun e w' => e = .returned (.agg #[.int .i64 x0, .int .i64 x1, .string x2]) ∧ Below w.heap.size w w' := by
  go_enter Tryd.func21, Tryd.ntmps21
  go_wp2
  go_returns
  exact ⟨rfl, by go_grown⟩

theorem szFold_any (x0 : Int) (x1 : Int) (x2 : ByteArray) (left : Int) (h0 : 0 ≤ left) (h1 : left ≤ 1048576) (hs : StrOk x2) (w : World) :
    Calls Tryd.prog 19 #[.agg #[.int .i64 x0, .int .i64 x1, .string x2], .int .i64 left] w fun e w' => e = .returned (.int .i64 (szN left x2.size)) ∧ Below w.heap.size w w' := by
  unfold StrOk maxLen at hs
  by_cases c : left < x2.size
  · have e : Hid (szN left x2.size = -1) := Lib.hid (by unfold szN; rw [if_pos c])
    go_enter Tryd.func19, Tryd.ntmps19
    go_wp2
    go_ret
    exact ⟨ret_int e.out.symm, by go_grown⟩
  · have e : Hid (szN left x2.size = left - x2.size) := Lib.hid (by unfold szN; rw [if_neg c])
    go_enter Tryd.func19, Tryd.ntmps19
    go_wp2
    go_ret
    exact ⟨ret_int e.out.symm, by go_grown⟩

end Go.Proofs.YtcccidlfigfibaaDoor
