/-
  The statement FnExactLogFrom of the given rows: for every readable input the law returns true and leaves its arguments as they were. No condition beyond the row's own.
-/
import Derived.Test.YtmnmaibhjhhakaaGreatDoorWLogFrom
namespace Go.Proofs.YtmnmaibhjhhakaaGreatDoor.lawLogFrom
open Go.ChangeShapes Go.WideShapes Go.ChangeAt Go.RowKit

theorem spec1 {H : Type} (ds : List (DataW H)) (g : DataW H) (h : ds.length = Tryz.f3.params.toList.length) : Rows.fnExactLogFromSpec.fn H (ds ++ [g]) = { results := [.lit (.bool true)], args := ds, vars := [g] } := by
  rw [Tryz.params3] at h
  match ds, h with
  | [_], _ => rfl

set_option maxRecDepth 100000 in
theorem row_holds : Rows.FnExactLogFromSaid :=
  OpenClaim.holds_of_wide 3 Tryz.f3 rfl rfl rfl rfl rfl rfl rfl ⟨rfl, rfl, rfl, rfl, rfl⟩ rfl rfl rfl rfl rfl (by kernel_rfl) Tryz.func3 (by kernel_rfl)
    (of_decide_eq_true (by kernel_rfl)) (by unfold Func.isWrapper; first | (rw [if_pos (by decide +kernel)]; kernel_rfl) | (rw [if_neg (by decide +kernel)]; exact ⟨rfl, rfl⟩))
    (fun os started H enc _ => law_alls 3 Tryz.f3 Rows.fnExactLogFromSpec Rows.fnExactLogFromRow.domain os started H enc (by kernel_rfl) Tryz.func3
      (ChangeSpec.witness_shaped (enc := enc) (C := Tryz.checked) (os := os) (X := fun w _ => laidMetH Tryz.prog alls w) false (allsW os) #[.string ByteArray.empty] 8 (allsW_os os) (World.shaped_of_ZipB (by kernel_rfl) (by kernel_rfl)) (by kernel_rfl) (by kernel_rfl) (by kernel_rfl) (alls_met os _))
      rfl rfl spec1 (by kernel_rfl)
      (fun W base args ds ps hval hA hL => by
        rw [Tryz.params3] at hval hA
        exact opened W base args ds ps hval hA hL))

set_option maxRecDepth 100000 in
/-- THE STATEMENT: THE TIED CARD. -/
theorem proved : Rows.FnExactLogFromCardSaid :=
  Claim7.holds_tied_plain_at .later [] Rows.fnExactLogFromCard.laidKinds true Rows.fnExactLogFromCard.stood.harness true
    row_holds (fun _ h => by cases h) (by kernel_rfl) (fun _ h => by cases h) fnExactLogFrom_row_tie rfl ⟨rfl, rfl⟩ (by kernel_rfl) rfl
    (fun f fn hf hfn => by
      obtain rfl : f = 3 := Option.some.inj ((show Tryz.prog.funcNamed "loop.example/streambarrier/laws.FnExactLogFrom" = some 3 by kernel_rfl).symm.trans hf) |>.symm
      obtain rfl : fn = Tryz.f3 := (Option.some.inj (Tryz.func3.symm.trans hfn)).symm
      exact ⟨by kernel_rfl, fun j t ht => by
        have hm : t ∈ Tryz.f3.params.toList := by simpa using Array.mem_of_getElem? ht
        have hall : (Tryz.f3.params.toList.all fun u => !Tryz.prog.wantsStandIn u) = true := by kernel_rfl
        exact (show Tryz.prog.wantsStandIn t = false by simpa using List.all_eq_true.1 hall t hm)⟩)
    (by kernel_rfl)
end Go.Proofs.YtmnmaibhjhhakaaGreatDoor.lawLogFrom

