/-
  A row whose first elements have been written over, whatever its capacity; the numbers from k on. No condition.
-/
import Derived.Test.YtmnmaibhjhhakaaGreatDoorMade
namespace Go.Proofs.YtmnmaibhjhhakaaGreatDoor
open Go.ChangeShapes Go.WideShapes Go.ChangeAt Go.RowKit

/-- Of a row of n elements with room for c the first k are 'done'. -/
def FillC (w : World) (base : Nat) (e : TypeId) (size : Nat) (g n c : Nat) (done : List Value) (k : Nat) : Prop :=
  ∃ ys : List Value, w.ownsRow base e size (.slice (some ⟨g, 0, none⟩) n c) n ys ∧ ys.take (k * size) = done ∧ done.length = k * size
theorem FillC.start {w : World} {base : Nat} {e : TypeId} {size g n c : Nat} {xs : List Value} (h : w.ownsRow base e size (.slice (some ⟨g, 0, none⟩) n c) n xs) : FillC w base e size g n c [] 0 :=
  ⟨xs, h, by simp, by simp⟩
theorem FillC.stored {w : World} {base : Nat} {e : TypeId} {size g n c k : Nat} {done : List Value} (h : FillC w base e size g n c done k) (us : List Value) (hu : us.length = size) (hk : k < n) :
    FillC (setAll w g (k * size) us) base e size g n c (done ++ us) (k + 1) := by
  obtain ⟨ys, ho, h1, h2⟩ := h
  have hl := ho.1
  have hle : k * size + size ≤ n * size := by rw [← Nat.succ_mul]; exact Nat.mul_le_mul_right _ hk
  refine ⟨setList ys (k * size) us, ownsRow_setAll us _ ho, ?_, by rw [List.length_append, h2, hu, Nat.succ_mul]⟩
  have h3 := setList_take us ys (k * size) (by omega)
  rw [hu, ← Nat.succ_mul] at h3
  rw [h3, h1]
theorem FillC.cell {w : World} {base : Nat} {e : TypeId} {size g n c k : Nat} {done : List Value} (h : FillC w base e size g n c done k) (j : Nat) (hj : j < n * size) : ∃ u, w.cell? ⟨g, j, none⟩ = some u := by
  obtain ⟨ys, ho, _, _⟩ := h
  exact ⟨ys[j]'(by rw [ho.1]; exact hj), (ho.cellAt j (by omega)).trans (List.getElem?_eq_getElem (by rw [ho.1]; exact hj))⟩
theorem FillC.frozen {w : World} {base : Nat} {e : TypeId} {size g n c k : Nat} {done : List Value} (h : FillC w base e size g n c done k) (j : Nat) : w.frozen? ⟨g, j, none⟩ = false := by
  obtain ⟨ys, ho, _, _⟩ := h
  exact ho.frozenAt j
theorem only_setAll : ∀ (us : List Value) {w a : World} (g j : Nat), a.grownBy w (some g) → a.grownBy (setAll w g j us) (some g)
  | [], _, _, _, _, h => h
  | u :: us, _, _, g, j, h => only_setAll us g (j + 1) (only_setCell h (.inl rfl) u)
theorem FillC.owns {w : World} {base : Nat} {e : TypeId} {size g n c : Nat} {done : List Value} (h : FillC w base e size g n c done n) : w.ownsRow base e size (.slice (some ⟨g, 0, none⟩) n c) n done := by
  obtain ⟨ys, ho, h1, _⟩ := h
  rw [List.take_of_length_le (by rw [ho.1]; exact Nat.le_refl _)] at h1
  subst h1; exact ho
/-- The numbers from k on. -/
def numsFrom (k : Int) : Nat → List Value
  | 0 => []
  | n + 1 => numsFrom k n ++ [.int .i64 (k + n)]
theorem numsFrom_length (k : Int) : ∀ n, (numsFrom k n).length = n
  | 0 => rfl
  | n + 1 => by simp [numsFrom, numsFrom_length k n]
theorem numsFrom_get (k : Int) : ∀ (n j : Nat), j < n → (numsFrom k n)[j]? = some (.int .i64 (k + j))
  | 0, _, h => by omega
  | n + 1, j, h => by
    unfold numsFrom
    by_cases e : j < n
    · rw [List.getElem?_append_left (by rw [numsFrom_length]; exact e)]; exact numsFrom_get k n j e
    · have : j = n := by omega
      subst this
      rw [List.getElem?_append_right (by rw [numsFrom_length]; exact Nat.le_refl _), numsFrom_length]; simp
end Go.Proofs.YtmnmaibhjhhakaaGreatDoor
