/-
  The statement FnExactIndexValid of the given rows: for every readable input the law returns true and leaves its arguments as they were. No condition beyond the row's own.
-/
import Derived.Test.YtkianldpmlbgcaaWIndexValid
namespace Go.Proofs.Ytkianldpmlbgcaa.lawIndexValid
open Go.ChangeShapes Go.WideShapes Go.ChangeAt Go.RowKit

theorem spec1 {H : Type} (ds : List (DataW H)) (h : ds.length = Try.f3.params.toList.length) : Rows.fnExactIndexValidSpec.fn H ds = { results := [.lit (.bool true)], args := ds, vars := [] } := by
  rw [Try.params3] at h
  match ds, h with
  | [_], _ => rfl

set_option maxRecDepth 100000 in
/-- THE STATEMENT. -/
theorem proved : Rows.FnExactIndexValidSaid :=
  OpenClaim.holds_of_wide 3 Try.f3 rfl rfl rfl rfl rfl rfl rfl ⟨rfl, rfl, rfl, rfl, rfl⟩ rfl rfl rfl rfl rfl (by kernel_rfl) Try.func3 (by kernel_rfl)
    (of_decide_eq_true (by kernel_rfl)) (by unfold Func.isWrapper; first | (rw [if_pos (by decide +kernel)]; kernel_rfl) | (rw [if_neg (by decide +kernel)]; exact ⟨rfl, rfl⟩))
    (fun os started H enc _ => law_lifted 3 Try.f3 Rows.fnExactIndexValidSpec Rows.fnExactIndexValidRow.domain os started H enc (by kernel_rfl) Try.func3
      (ChangeSpec.witness6 (enc := enc) (C := Try.checked) false ⟨#[], #[.slice none 0 0], []⟩ 8 (by kernel_rfl) (by kernel_rfl) (by kernel_rfl) (by kernel_rfl))
      rfl rfl spec1 (by kernel_rfl)
      (fun W base args ds ps hval hA => by
        rw [Try.params3] at hval hA
        exact opened W base args ds ps hval hA))
end Go.Proofs.Ytkianldpmlbgcaa.lawIndexValid
