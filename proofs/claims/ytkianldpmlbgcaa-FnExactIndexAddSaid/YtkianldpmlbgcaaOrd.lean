/-
  Texts in order: the model's comparison of texts is a strict linear order; lists in ascending order of a key. Plain facts, no condition.
-/
import Derived.Test.YtkianldpmlbgcaaSz
import Derived.Sort.Walk0
namespace Go.Proofs.Ytkianldpmlbgcaa
open Go.RowKit
/-- a < b. -/
def ltS (a b : ByteArray) : Bool := Op.bytesLess a.toList b.toList
theorem ltS_iff {a b : ByteArray} : ltS a b = true ↔ a.toList < b.toList := by
  unfold ltS; rw [bytesLess_eq]; simp
theorem ltS_irrefl (a : ByteArray) : ltS a a = false := by
  rw [Bool.eq_false_iff]; intro h; exact List.lt_irrefl _ (ltS_iff.1 h)
theorem ltS_trans {a b c : ByteArray} (h : ltS a b = true) (g : ltS b c = true) : ltS a c = true := ltS_iff.2 (List.lt_trans (ltS_iff.1 h) (ltS_iff.1 g))
theorem ltS_asymm {a b : ByteArray} (h : ltS a b = true) : ltS b a = false := by
  rw [Bool.eq_false_iff]; intro g; exact absurd (ltS_trans h g) (by rw [ltS_irrefl]; simp)
theorem toList_inj {a b : ByteArray} (h : a.toList = b.toList) : a = b := WideShapes.bytes_inj (by simpa only [ByteArray.toList_eq] using h)
theorem ltS_tri {a b : ByteArray} (h : ltS a b = false) (g : ltS b a = false) : a = b := by
  refine toList_inj (List.le_antisymm ?_ ?_)
  · rw [← List.not_lt]; intro k; rw [ltS_iff.2 k] at g; cases g
  · rw [← List.not_lt]; intro k; rw [ltS_iff.2 k] at h; cases h
theorem ltS_ne {a b : ByteArray} (h : ltS a b = true) : a ≠ b := fun e => by rw [e, ltS_irrefl] at h; cases h
theorem beq_toList {a b : ByteArray} (h : a = b) : (a.toList == b.toList) = true := by simp [h]

/-- k is behind p, if there is such. -/
def ltO (p : Option ByteArray) (k : ByteArray) : Bool := match p with | none => true | some q => ltS q k
/-- Each element is fine, and the keys ascend. -/
def sortedBy {α : Type} (ok : α → Bool) (key : α → ByteArray) : Option ByteArray → List α → Bool
  | _, [] => true
  | p, x :: xs => ok x && ltO p (key x) && sortedBy ok key (some (key x)) xs
theorem sorted_step {α : Type} {ok : α → Bool} {key : α → ByteArray} {xs : List α} {k : Nat} {x : α} {p0 p : Option ByteArray} (hx : xs[k]? = some x) (h : sortedBy ok key p0 xs = sortedBy ok key p (xs.drop k)) :
    sortedBy ok key p0 xs = (ok x && ltO p (key x) && sortedBy ok key (some (key x)) (xs.drop (k + 1))) := by
  rw [h, drop_of hx, sortedBy]
theorem sorted_bad {α : Type} {ok : α → Bool} {key : α → ByteArray} {xs : List α} {k : Nat} {x : α} {p0 p : Option ByteArray} (hx : xs[k]? = some x) (h : sortedBy ok key p0 xs = sortedBy ok key p (xs.drop k)) (hb : ok x = false) : sortedBy ok key p0 xs = false := by
  rw [sorted_step hx h, hb]; rfl
theorem sorted_first {α : Type} {ok : α → Bool} {key : α → ByteArray} {xs : List α} {k : Nat} {x : α} {p0 : Option ByteArray} (hx : xs[k]? = some x) (h : sortedBy ok key p0 xs = sortedBy ok key none (xs.drop k)) (hb : ok x = true) : sortedBy ok key p0 xs = sortedBy ok key (some (key x)) (xs.drop (k + 1)) := by
  rw [sorted_step hx h, hb]; rfl
theorem sorted_next {α : Type} {ok : α → Bool} {key : α → ByteArray} {xs : List α} {k : Nat} {x : α} {p0 : Option ByteArray} {q : ByteArray} (hx : xs[k]? = some x) (h : sortedBy ok key p0 xs = sortedBy ok key (some q) (xs.drop k)) (hb : ok x = true) (hq : ltS q (key x) = true) : sortedBy ok key p0 xs = sortedBy ok key (some (key x)) (xs.drop (k + 1)) := by
  rw [sorted_step hx h, hb, show ltO (some q) (key x) = true from hq]; rfl
theorem sorted_stop {α : Type} {ok : α → Bool} {key : α → ByteArray} {xs : List α} {k : Nat} {x : α} {p0 : Option ByteArray} {q : ByteArray} (hx : xs[k]? = some x) (h : sortedBy ok key p0 xs = sortedBy ok key (some q) (xs.drop k)) (hq : ltS q (key x) = false) : sortedBy ok key p0 xs = false := by
  rw [sorted_step hx h, show ltO (some q) (key x) = false from hq]; simp
end Go.Proofs.Ytkianldpmlbgcaa
