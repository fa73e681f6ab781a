/-
  The three tables of strconv that the rows of the laws that come to it list. No condition.
-/
import Derived.Test.YtmnmaibhjhhakaaGreatDoorBunF
namespace Go.Proofs.YtmnmaibhjhhakaaGreatDoor
open Go.ChangeShapes Go.WideShapes Go.ChangeAt Go.RowKit

/-- What the rows of the laws that come to strconv list. -/
def tabs : List (String × DataW Unit) := [("math/bits.deBruijn32tab", Rows.laid_math_bits_deBruijn32tab), ("math/bits.deBruijn64tab", Rows.laid_math_bits_deBruijn64tab), ("internal/strconv.uint64pow10", Rows.laid_internal_strconv_uint64pow10)]
theorem tabs_met (os : Os) (args : Array Value) : laidMetH Tryz.prog tabs ((World.doorLaid Tryz.prog 60 os).forCall (fun _ _ => 0) ⟨#[], args, []⟩).memory :=
  laidMetH_of_parts3 (fuel := 8) (laidMet_of_run' 65 (by kernel_rfl) (by kernel_rfl)) (by kernel_rfl) (by kernel_rfl)
end Go.Proofs.YtmnmaibhjhhakaaGreatDoor
