/-
  The names of a store: what both functions return, within an interval of blocks. No condition.
-/
import Derived.Test.YtjloonjkplaplaaDoorNamesI
import Derived.Test.YtjloonjkplaplaaDoorKEntry
import Derived.Test.YtjloonjkplaplaaDoorKString
namespace Go.Proofs.YtjloonjkplaplaaDoor
open Go.ChangeShapes Go.WideShapes Go.ChangeAt Go.RowKit

theorem stringSAt.made {w w' : World} {v : Value} {xs : List ByteArray} (hb : xs.length ≤ 1048576) (hw : w.heap.size ≤ w'.heap.size) (h : w'.ownsRow w.heap.size 9 1 v xs.length (xs.flatMap strCells)) : stringSAt w' w.heap.size w'.heap.size v xs := ⟨hb, RowN.of hw h⟩
theorem specNames_at (lo hi : Nat) (v : Value) (xs : List EnT) (hok : StOk xs) (w : World) (h : entrySAt w lo hi v xs) :
    Calls Tryd.prog 22 #[v] w fun e w' => ∃ u, e = .returned u ∧ stringSAt w' w.heap.size w'.heap.size u (storeNames xs) ∧ Below w.heap.size w w' := by
  obtain ⟨g, m, c, rfl, hx, hb, _, _, ho⟩ := h.open
  exact (specNames_any _ _ _ xs hb hx hok w (lies_of_own ho)).mono fun _ _ ⟨_, _, _, he, hl, hw, hB⟩ => ⟨_, he, stringSAt.made (by have := storeNames_len xs; omega) hB.size (by rw [hl]; exact hw), hB⟩
theorem implNames_at (lo hi : Nat) (v : Value) (xs : List EnT) (hok : StOk xs) (w : World) (a : Addr) (hS : Sent a w) (hM : MaxL w) (h : entrySAt w lo hi v xs) :
    Calls Tryd.prog 23 #[v] w fun e w' => ∃ u, e = .returned u ∧ stringSAt w' w.heap.size w'.heap.size u (storeNames xs) ∧ Below w.heap.size w w' := by
  obtain ⟨g, m, c, rfl, hx, hb, _, _, ho⟩ := h.open
  exact (implNames_any _ _ _ xs hb hx hok w a hS hM (lies_of_own ho)).mono fun _ _ ⟨_, he, hw, hB⟩ => ⟨_, he, stringSAt.made (by have := storeNames_len xs; omega) hB.size hw, hB⟩
end Go.Proofs.YtjloonjkplaplaaDoor
