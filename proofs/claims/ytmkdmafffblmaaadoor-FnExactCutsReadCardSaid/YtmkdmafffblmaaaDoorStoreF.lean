/-
  Entries whose texts' sizes the laws let pass. No condition.
-/
import Derived.Test.YtmkdmafffblmaaaDoorStoreS
import Derived.Test.YtmkdmafffblmaaaDoorStoreI
import Derived.Test.YtmkdmafffblmaaaDoorEEntry
namespace Go.Proofs.YtmkdmafffblmaaaDoor
open Go.ChangeShapes Go.WideShapes Go.ChangeAt Go.RowKit

theorem enS_ok {left : Int} {n : Nat} {xs : List EnT} (hl : left ≤ 1048576) (h : 0 ≤ szR left n (xs.flatMap entryTexts)) : ∀ x ∈ xs, enS x := fun x hx => by
  unfold szR at h
  split at h
  · omega
  · have hm := szT_all (by omega) h
    have h1 := hm x.1 (List.mem_flatMap.2 ⟨x, hx, by simp [entryTexts]⟩)
    have h2 := hm x.2.2.1 (List.mem_flatMap.2 ⟨x, hx, by simp [entryTexts]⟩)
    exact ⟨by omega, by omega⟩
theorem enE_ok {xs : List EnT} (h : ∀ x ∈ xs, entryOk x) : ∀ x ∈ xs, eventOk x.2 := fun x hx => by
  obtain ⟨_, h1, h2, h3⟩ := h x hx
  exact ⟨h1, h2, h3⟩
end Go.Proofs.YtmkdmafffblmaaaDoor
