/-
  The statement FnExactIndexFind of the given rows: for every readable input the law returns true and leaves its arguments as they were. No condition beyond the row's own.
-/
import Derived.Test.YtkianldpmlbgcaaWIndexFind
namespace Go.Proofs.Ytkianldpmlbgcaa.lawIndexFind
open Go.ChangeShapes Go.WideShapes Go.ChangeAt Go.RowKit

theorem spec2 {H : Type} (ds : List (DataW H)) (h : ds.length = Try.f6.params.toList.length) : Rows.fnExactIndexFindSpec.fn H ds = { results := [.lit (.bool true)], args := ds, vars := [] } := by
  rw [Try.params6] at h
  match ds, h with
  | [_, _], _ => rfl

set_option maxRecDepth 100000 in
/-- THE STATEMENT. -/
theorem proved : Rows.FnExactIndexFindSaid :=
  OpenClaim.holds_of_wide 6 Try.f6 rfl rfl rfl rfl rfl rfl rfl ⟨rfl, rfl, rfl, rfl, rfl⟩ rfl rfl rfl rfl rfl (by kernel_rfl) Try.func6 (by kernel_rfl)
    (of_decide_eq_true (by kernel_rfl)) (by unfold Func.isWrapper; first | (rw [if_pos (by decide +kernel)]; kernel_rfl) | (rw [if_neg (by decide +kernel)]; exact ⟨rfl, rfl⟩))
    (fun os started H enc _ => law_lifted 6 Try.f6 Rows.fnExactIndexFindSpec Rows.fnExactIndexFindRow.domain os started H enc (by kernel_rfl) Try.func6
      (ChangeSpec.witness6 (enc := enc) (C := Try.checked) false ⟨#[], #[.slice none 0 0, .string ByteArray.empty], []⟩ 8 (by kernel_rfl) (by kernel_rfl) (by kernel_rfl) (by kernel_rfl))
      rfl rfl spec2 (by kernel_rfl)
      (fun W base args ds ps hval hA => by
        rw [Try.params6] at hval hA
        exact opened W base args ds ps hval hA))
end Go.Proofs.Ytkianldpmlbgcaa.lawIndexFind
