/-
  toEvent, szEvent: what the copy of one Event returns. No condition.
-/
import Derived.Test.YtbgkgjbgebnglaaSz
namespace Go.Proofs.Ytbgkgjbgebnglaa
open Go.ChangeShapes Go.WideShapes Go.ChangeAt Go.RowKit

theorem toEvent_any (x0 : Int) (x1 : ByteArray) (x2 : Int) (w : World) :
    Calls Try.prog 25 #[.agg #[.int .i64 x0, .string x1, .int .i64 x2]] w fun e w' => e = .returned (.agg #[.int .i64 x0, .string x1, .int .i64 x2]) ∧ Below w.heap.size w w' := by
  go_enter Try.func25, Try.ntmps25
  go_wp2
  go_returns
  exact ⟨rfl, by go_grown⟩

theorem szEvent_any (x0 : Int) (x1 : ByteArray) (x2 : Int) (left : Int) (h0 : 0 ≤ left) (h1 : left ≤ 1048576) (hs : StrOk x1) (w : World) :
    Calls Try.prog 23 #[.agg #[.int .i64 x0, .string x1, .int .i64 x2], .int .i64 left] w fun e w' => e = .returned (.int .i64 (szN left x1.size)) ∧ Below w.heap.size w w' := by
  unfold StrOk maxLen at hs
  by_cases c : left < x1.size
  · have e : Hid (szN left x1.size = -1) := Lib.hid (by unfold szN; rw [if_pos c])
    go_enter Try.func23, Try.ntmps23
    go_wp2
    go_ret
    exact ⟨ret_int e.out.symm, by go_grown⟩
  · have e : Hid (szN left x1.size = left - x1.size) := Lib.hid (by unfold szN; rw [if_neg c])
    go_enter Try.func23, Try.ntmps23
    go_wp2
    go_ret
    exact ⟨ret_int e.out.symm, by go_grown⟩
end Go.Proofs.Ytbgkgjbgebnglaa
