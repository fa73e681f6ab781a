/-
  Rows of the same texts and numbers: what holds of the one holds of the other. Plain facts, no condition.
-/
import Derived.Test.YtkianldpmlbgcaaIdxI
import Derived.Test.YtkianldpmlbgcaaERowS
namespace Go.Proofs.Ytkianldpmlbgcaa
open Go.ChangeShapes Go.WideShapes Go.ChangeAt Go.RowKit

theorem val_of {x y : RowX} (h : rowVal x = rowVal y) : x.key = y.key ∧ x.zs = y.zs := by
  unfold rowVal at h; exact ⟨congrArg Prod.fst h, congrArg Prod.snd h⟩
theorem rowB_congr {x y : RowX} (h : rowVal x = rowVal y) (hx : x.zs.length = x.n) (hy : y.zs.length = y.n) : rowB x = rowB y := by
  obtain ⟨h1, h2⟩ := val_of h
  unfold rowB
  rw [h1, h2, ← hx, ← hy, h2]
theorem from_congr : ∀ (xs ys : List RowX) (p : Option ByteArray), xs.map rowVal = ys.map rowVal → (∀ x ∈ xs, x.zs.length = x.n) → (∀ y ∈ ys, y.zs.length = y.n) → rowsFrom p xs = rowsFrom p ys
  | [], [], _, _, _, _ => rfl
  | [], y :: ys, _, h, _, _ => by simp at h
  | x :: xs, [], _, h, _, _ => by simp at h
  | x :: xs, y :: ys, p, h, hx, hy => by
    simp only [List.map_cons, List.cons.injEq] at h
    have e := rowB_congr h.1 (hx x (by simp)) (hy y (by simp))
    have ih := from_congr xs ys (some x.key) h.2 (fun z hz => hx z (by simp [hz])) (fun z hz => hy z (by simp [hz]))
    have hk := (val_of h.1).1
    unfold rowsFrom at *
    rw [sortedBy, sortedBy, e, ih, hk]
theorem places_congr : ∀ (xs ys : List RowX), xs.map rowVal = ys.map rowVal → placesL xs = placesL ys
  | [], [], _ => rfl
  | [], y :: ys, h => by simp at h
  | x :: xs, [], h => by simp at h
  | x :: xs, y :: ys, h => by
    simp only [List.map_cons, List.cons.injEq] at h
    have ih := places_congr xs ys h.2
    unfold placesL at *
    rw [List.flatMap_cons, List.flatMap_cons, ih, (val_of h.1).2]
theorem rowsB_congr {xs ys : List RowX} (h : xs.map rowVal = ys.map rowVal) (hx : ∀ x ∈ xs, x.zs.length = x.n) (hy : ∀ y ∈ ys, y.zs.length = y.n) : rowsB xs = rowsB ys := by
  unfold rowsB onceB manyN
  rw [from_congr xs ys none h hx hy]
  have := places_congr xs ys h
  unfold placesL at this
  rw [this]
theorem mem_val {xs ys : List RowX} (h : ys.map rowVal = xs.map rowVal) {y : RowX} (hy : y ∈ ys) : ∃ x ∈ xs, rowVal x = rowVal y := by
  have : rowVal y ∈ xs.map rowVal := by rw [← h]; exact List.mem_map.2 ⟨y, hy, rfl⟩
  exact List.mem_map.1 this
/-- A copy of rows of a fit size is of a fit size. -/
theorem fit_copy {w w' : World} {B : Nat} {xs ys : List RowX} (h : ys.map rowVal = xs.map rowVal) (hx : ∀ x ∈ xs, RowOk w x ∧ RowFit x) (hy : ∀ y ∈ ys, RowNew w' B y) : ∀ y ∈ ys, RowOk w' y ∧ RowFit y := by
  intro y hm
  obtain ⟨x, hxm, e⟩ := mem_val h hm
  obtain ⟨e1, e2⟩ := val_of e
  obtain ⟨ox, fx⟩ := hx x hxm
  have oy := (hy y hm).ok
  refine ⟨oy, ?_, ?_⟩
  · rw [← e1]; exact fx.1
  · rw [← oy.len, ← e2, ox.len]; exact fx.2
theorem copy_length {xs ys : List RowX} {n : Nat} (h : ys.map rowVal = xs.map rowVal) (hx : xs.length = n) : ys.length = n := by
  have := congrArg List.length h
  simp at this; omega
end Go.Proofs.Ytkianldpmlbgcaa
