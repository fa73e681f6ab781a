/-
  IndexKinds of both, over copies. No condition beyond what the rows list.
-/
import Derived.Test.YtipkhmcnkldbbaaDoorKindsS
import Derived.Test.YtipkhmcnkldbbaaDoorKRow
namespace Go.Proofs.YtipkhmcnkldbbaaDoor
open Go.ChangeShapes Go.WideShapes Go.ChangeAt Go.RowKit

theorem kindsR_len (xs : List EnT) : rowLen (kindsR xs) ≤ 1048576 := by
  unfold kindsR
  split
  · rename_i h
    have h24 : xs.length ≤ 24 := ((store_iff xs).1 h).1
    have h1 := kindsT_rows xs xs.length
    have h2 := rowLen_le (N := 24) _ (fun y hy => Nat.le_trans (RT.small_rows (kindsT_small xs xs.length) y hy) h24)
    omega
  · simp [rowLen]
theorem specKinds_at (lo hi : Nat) (v : Value) (xs : List EnT) (hok : StOk xs) (w : World) (h : entrySAt w lo hi v xs) :
    Calls Tryd.prog 25 #[v] w fun e w' => ∃ v', e = .returned v' ∧ rowSAt w' w.heap.size w'.heap.size v' (kindsR xs) ∧ Below w.heap.size w w' := by
  obtain ⟨g, m, c, rfl, hx, hb, _, _, ho⟩ := h.open
  refine (specKinds_any _ _ _ xs hb hx hok w (lies_of_own ho)).mono ?_
  rintro e w' ⟨hs, S, g', m', cap, rfl, hv, hf, hB⟩
  exact ⟨_, rfl, rowSAt.made hv (SmallR.of (kindsR_len xs)) hf, hB⟩
theorem implKinds_at (lo hi : Nat) (v : Value) (xs : List EnT) (hok : StOk xs) (w : World) (a : Addr) (hS : Sent a w) (hM : MaxL w) (h : entrySAt w lo hi v xs) :
    Calls Tryd.prog 26 #[v] w fun e w' => ∃ v', e = .returned v' ∧ rowSAt w' w.heap.size w'.heap.size v' (kindsR xs) ∧ Below w.heap.size w w' := by
  obtain ⟨g, m, c, rfl, hx, hb, _, _, ho⟩ := h.open
  refine (implKinds_any _ _ _ xs hb hx hok w a hS hM (lies_of_own ho)).mono ?_
  rintro e w' ⟨hs, S, g', m', cap, rfl, hl, hv, ho', hh, hn, hfar, hB⟩
  refine ⟨_, rfl, rowSAt.made hv (SmallR.of (kindsR_len xs)) (S := S.filter (fun b => decide (b < w'.heap.size))) ⟨hl, ho', ?_, hn, ?_⟩, hB⟩
  · intro x hx
    obtain ⟨b, h1, h2, h3, h4⟩ := hh x hx
    exact ⟨b, h1, List.mem_filter.2 ⟨h2, decide_eq_true (owns_lt h4).2⟩, h3, h4⟩
  · intro b hb
    obtain ⟨h1, h2⟩ := List.mem_filter.1 hb
    exact ⟨(hfar b h1).1, (hfar b h1).2, of_decide_eq_true h2⟩
end Go.Proofs.YtipkhmcnkldbbaaDoor
