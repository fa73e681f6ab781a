/-
  The statement FnExactCheckMark of the given rows: for every readable input the law returns true and leaves its arguments as they were. No condition beyond the row's own.
-/
import Derived.Test.YtfbnpnajpkhkdaaWCheckMark
namespace Go.Proofs.Ytfbnpnajpkhkdaa.lawCheckMark
open Go.ChangeShapes Go.WideShapes Go.ChangeAt Go.RowKit

theorem spec2 {H : Type} (ds : List (DataW H)) (h : ds.length = Try.f12.params.toList.length) : Rows.fnExactCheckMarkSpec.fn H ds = { results := [.lit (.bool true)], args := ds, vars := [] } := by
  rw [Try.params12] at h
  match ds, h with
  | [_, _], _ => rfl

set_option maxRecDepth 100000 in
/-- THE STATEMENT. -/
theorem proved : Rows.FnExactCheckMarkSaid :=
  OpenClaim.holds_of_wide 12 Try.f12 rfl rfl rfl rfl rfl rfl rfl ⟨rfl, rfl, rfl, rfl, rfl⟩ rfl rfl rfl rfl rfl (by kernel_rfl) Try.func12 (by kernel_rfl)
    (of_decide_eq_true (by kernel_rfl)) (by unfold Func.isWrapper; first | (rw [if_pos (by decide +kernel)]; kernel_rfl) | (rw [if_neg (by decide +kernel)]; exact ⟨rfl, rfl⟩))
    (fun os started H enc _ => law_lifted 12 Try.f12 Rows.fnExactCheckMarkSpec Rows.fnExactCheckMarkRow.domain os started H enc (by kernel_rfl) Try.func12
      (ChangeSpec.witness6 (enc := enc) (C := Try.checked) false ⟨#[], #[.agg #[.int .i64 0, .slice none 0 0], .int .i64 0], []⟩ 8 (by kernel_rfl) (by kernel_rfl) (by kernel_rfl) (by kernel_rfl))
      rfl rfl spec2 (by kernel_rfl)
      (fun W base args ds ps hval hA => by
        rw [Try.params12] at hval hA
        exact opened W base args ds ps hval hA))
end Go.Proofs.Ytfbnpnajpkhkdaa.lawCheckMark
