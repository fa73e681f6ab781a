/-
  Fold: equality, as the laws ask it. No condition.
-/
import Derived.Test.YtcccidlfigfibaaDoorTFold
namespace Go.Proofs.YtcccidlfigfibaaDoor
open Go.ChangeShapes Go.WideShapes Go.ChangeAt Go.RowKit

theorem eqFold_any (x y : Int × Int × ByteArray) (w : World) :
    Calls Tryd.prog 23 #[.agg #[.int .i64 x.1, .int .i64 x.2.1, .string x.2.2], .agg #[.int .i64 y.1, .int .i64 y.2.1, .string y.2.2]] w fun e w' => e = .returned (.bool (decide (x = y))) ∧ Below w.heap.size w w' := by
  obtain ⟨x0, x1, x2⟩ := x
  obtain ⟨y0, y1, y2⟩ := y
  by_cases h0 : x0 = y0
  · by_cases h1 : x1 = y1
    · by_cases h2 : x2 = y2
      · have e := Lib.hid (show decide ((x0, x1, x2) = (y0, y1, y2)) = true from by simp [h0, h1, h2])
        have n0 : (x0 != y0) = false := by simp [h0]
        have n1 : (x1 != y1) = false := by simp [h1]
        have m2 : (x2.toList == y2.toList) = true := by simp [h2]
        clear h0 h1 h2
        go_enter Tryd.func23, Tryd.ntmps23
        go_wp2
        go_ret
        exact ⟨ret_bool (by first | exact e.out.symm | (rw [e.out]; simp; omega)), by go_grown⟩
      · have e := Lib.hid (show decide ((x0, x1, x2) = (y0, y1, y2)) = false from by simp [h2])
        have n0 : (x0 != y0) = false := by simp [h0]
        have n1 : (x1 != y1) = false := by simp [h1]
        have m2 : (x2.toList == y2.toList) = false := str_ne h2
        clear h0 h1 h2
        go_enter Tryd.func23, Tryd.ntmps23
        go_wp2
        go_ret
        exact ⟨ret_bool (by first | exact e.out.symm | (rw [e.out]; simp; omega)), by go_grown⟩
    · have e := Lib.hid (show decide ((x0, x1, x2) = (y0, y1, y2)) = false from by simp [h1])
      have n0 : (x0 != y0) = false := by simp [h0]
      have n1 : (x1 != y1) = true := by simp [h1]
      clear h0 h1
      go_enter Tryd.func23, Tryd.ntmps23
      go_wp2
      go_ret
      exact ⟨ret_bool (by first | exact e.out.symm | (rw [e.out]; simp; omega)), by go_grown⟩
  · have e := Lib.hid (show decide ((x0, x1, x2) = (y0, y1, y2)) = false from by simp [h0])
    have n0 : (x0 != y0) = true := by simp [h0]
    clear h0
    go_enter Tryd.func23, Tryd.ntmps23
    go_wp2
    go_ret
    exact ⟨ret_bool (by first | exact e.out.symm | (rw [e.out]; simp; omega)), by go_grown⟩

end Go.Proofs.YtcccidlfigfibaaDoor
