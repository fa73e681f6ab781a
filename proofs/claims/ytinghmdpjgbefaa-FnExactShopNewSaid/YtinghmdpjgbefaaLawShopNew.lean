/-
  The statement FnExactShopNew of the given rows: for every readable input the law returns true and leaves its arguments as they were. No condition beyond the row's own.
-/
import Derived.Test.YtinghmdpjgbefaaWShopNew
namespace Go.Proofs.Ytinghmdpjgbefaa.lawShopNew
open Go.ChangeShapes Go.WideShapes Go.ChangeAt Go.RowKit

theorem spec1 {H : Type} (ds : List (DataW H)) (h : ds.length = Try.f8.params.toList.length) : Rows.fnExactShopNewSpec.fn H ds = { results := [.lit (.bool true)], args := ds, vars := [] } := by
  rw [Try.params8] at h
  match ds, h with
  | [_], _ => rfl

set_option maxRecDepth 100000 in
/-- THE STATEMENT. -/
theorem proved : Rows.FnExactShopNewSaid :=
  OpenClaim.holds_of_wide 8 Try.f8 rfl rfl rfl rfl rfl rfl rfl ⟨rfl, rfl, rfl, rfl, rfl⟩ rfl rfl rfl rfl rfl (by kernel_rfl) Try.func8 (by kernel_rfl)
    (of_decide_eq_true (by kernel_rfl)) (by unfold Func.isWrapper; first | (rw [if_pos (by decide +kernel)]; kernel_rfl) | (rw [if_neg (by decide +kernel)]; exact ⟨rfl, rfl⟩))
    (fun os started H enc _ => law_lifted 8 Try.f8 Rows.fnExactShopNewSpec Rows.fnExactShopNewRow.domain os started H enc (by kernel_rfl) Try.func8
      (ChangeSpec.witness6 (enc := enc) (C := Try.checked) false ⟨#[], #[.int .i64 0], []⟩ 8 (by kernel_rfl) (by kernel_rfl) (by kernel_rfl) (by kernel_rfl))
      rfl rfl spec1 (by kernel_rfl)
      (fun W base args ds ps hval hA => by
        rw [Try.params8] at hval hA
        exact opened W base args ds ps hval hA))
end Go.Proofs.Ytinghmdpjgbefaa.lawShopNew
