/-
  toFold, szFold: what the copy of one Fold returns. No condition.
-/
import Derived.Test.YtbgkgjbgebnglaaSz
namespace Go.Proofs.Ytbgkgjbgebnglaa
open Go.ChangeShapes Go.WideShapes Go.ChangeAt Go.RowKit

theorem toFold_any (x0 : Int) (x1 : Int) (x2 : ByteArray) (w : World) :
    Calls Try.prog 29 #[.agg #[.int .i64 x0, .int .i64 x1, .string x2]] w fun e w' => e = .returned (.agg #[.int .i64 x0, .int .i64 x1, .string x2]) ∧ Below w.heap.size w w' := by
  go_enter Try.func29, Try.ntmps29
  go_wp2
  go_returns
  exact ⟨rfl, by go_grown⟩

theorem szFold_any (x0 : Int) (x1 : Int) (x2 : ByteArray) (left : Int) (h0 : 0 ≤ left) (h1 : left ≤ 1048576) (hs : StrOk x2) (w : World) :
    Calls Try.prog 27 #[.agg #[.int .i64 x0, .int .i64 x1, .string x2], .int .i64 left] w fun e w' => e = .returned (.int .i64 (szN left x2.size)) ∧ Below w.heap.size w w' := by
  unfold StrOk maxLen at hs
  by_cases c : left < x2.size
  · have e : Hid (szN left x2.size = -1) := Lib.hid (by unfold szN; rw [if_pos c])
    go_enter Try.func27, Try.ntmps27
    go_wp2
    go_ret
    exact ⟨ret_int e.out.symm, by go_grown⟩
  · have e : Hid (szN left x2.size = left - x2.size) := Lib.hid (by unfold szN; rw [if_neg c])
    go_enter Try.func27, Try.ntmps27
    go_wp2
    go_ret
    exact ⟨ret_int e.out.symm, by go_grown⟩
end Go.Proofs.Ytbgkgjbgebnglaa
