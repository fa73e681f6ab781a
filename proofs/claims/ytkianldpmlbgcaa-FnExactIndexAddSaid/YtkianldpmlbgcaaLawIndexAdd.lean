/-
  The statement FnExactIndexAdd of the given rows: for every readable input the law returns true and leaves its arguments as they were. No condition beyond the row's own.
-/
import Derived.Test.YtkianldpmlbgcaaWIndexAdd
namespace Go.Proofs.Ytkianldpmlbgcaa.lawIndexAdd
open Go.ChangeShapes Go.WideShapes Go.ChangeAt Go.RowKit

theorem spec3 {H : Type} (ds : List (DataW H)) (h : ds.length = Try.f7.params.toList.length) : Rows.fnExactIndexAddSpec.fn H ds = { results := [.lit (.bool true)], args := ds, vars := [] } := by
  rw [Try.params7] at h
  match ds, h with
  | [_, _, _], _ => rfl

set_option maxRecDepth 100000 in
/-- THE STATEMENT. -/
theorem proved : Rows.FnExactIndexAddSaid :=
  OpenClaim.holds_of_wide 7 Try.f7 rfl rfl rfl rfl rfl rfl rfl ⟨rfl, rfl, rfl, rfl, rfl⟩ rfl rfl rfl rfl rfl (by kernel_rfl) Try.func7 (by kernel_rfl)
    (of_decide_eq_true (by kernel_rfl)) (by unfold Func.isWrapper; first | (rw [if_pos (by decide +kernel)]; kernel_rfl) | (rw [if_neg (by decide +kernel)]; exact ⟨rfl, rfl⟩))
    (fun os started H enc _ => law_lifted 7 Try.f7 Rows.fnExactIndexAddSpec Rows.fnExactIndexAddRow.domain os started H enc (by kernel_rfl) Try.func7
      (ChangeSpec.witness6 (enc := enc) (C := Try.checked) false ⟨#[], #[.slice none 0 0, .string ByteArray.empty, .int .i64 0], []⟩ 8 (by kernel_rfl) (by kernel_rfl) (by kernel_rfl) (by kernel_rfl))
      rfl rfl spec3 (by kernel_rfl)
      (fun W base args ds ps hval hA => by
        rw [Try.params7] at hval hA
        exact opened W base args ds ps hval hA))
end Go.Proofs.Ytkianldpmlbgcaa.lawIndexAdd
