/-
  Sub: equality, as the laws ask it. No condition.
-/
import Derived.Test.YtcccidlfigfibaaDoorTSub
namespace Go.Proofs.YtcccidlfigfibaaDoor
open Go.ChangeShapes Go.WideShapes Go.ChangeAt Go.RowKit

theorem eqSub_any (x y : ByteArray × Int) (w : World) :
    Calls Tryd.prog 16 #[.agg #[.string x.1, .int .i64 x.2], .agg #[.string y.1, .int .i64 y.2]] w fun e w' => e = .returned (.bool (decide (x = y))) ∧ Below w.heap.size w w' := by
  obtain ⟨x0, x1⟩ := x
  obtain ⟨y0, y1⟩ := y
  by_cases h0 : x0 = y0
  · by_cases h1 : x1 = y1
    · have e := Lib.hid (show decide ((x0, x1) = (y0, y1)) = true from by simp [h0, h1])
      have m0 : (x0.toList == y0.toList) = true := by simp [h0]
      have n1 : (x1 != y1) = false := by simp [h1]
      clear h0 h1
      go_enter Tryd.func16, Tryd.ntmps16
      go_wp2
      go_ret
      exact ⟨ret_bool (by first | exact e.out.symm | (rw [e.out]; simp; omega)), by go_grown⟩
    · have e := Lib.hid (show decide ((x0, x1) = (y0, y1)) = false from by simp [h1])
      have m0 : (x0.toList == y0.toList) = true := by simp [h0]
      have n1 : (x1 != y1) = true := by simp [h1]
      clear h0 h1
      go_enter Tryd.func16, Tryd.ntmps16
      go_wp2
      go_ret
      exact ⟨ret_bool (by first | exact e.out.symm | (rw [e.out]; simp; omega)), by go_grown⟩
  · have e := Lib.hid (show decide ((x0, x1) = (y0, y1)) = false from by simp [h0])
    have m0 : (x0.toList == y0.toList) = false := str_ne h0
    clear h0
    go_enter Tryd.func16, Tryd.ntmps16
    go_wp2
    go_ret
    exact ⟨ret_bool (by first | exact e.out.symm | (rw [e.out]; simp; omega)), by go_grown⟩

end Go.Proofs.YtcccidlfigfibaaDoor
