/-
  Row: a text and a slice of numbers that lies elsewhere: its cells, and how the laws count the size of rows. For every readable one. No condition.
-/
import Derived.Test.YtipkhmcnkldbbaaDoorTInt
namespace Go.Proofs.YtipkhmcnkldbbaaDoor
open Go.ChangeShapes Go.WideShapes Go.ChangeAt Go.RowKit

structure RowX where
  key : ByteArray
  A : Option Addr
  n : Nat
  c : Nat
  zs : List Int
def rowCells (x : RowX) : List Value := [.string x.key, .slice x.A x.n x.c]
/-- The row's numbers lie behind its slice. -/
structure RowOk (w : World) (x : RowX) : Prop where
  key : StrOk x.key
  cap : x.n ≤ x.c
  most : x.c ≤ maxLen
  len : x.zs.length = x.n
  lies : Lies w 1 x.A x.n (x.zs.map (.int .i64))
  ints : ∀ z ∈ x.zs, IntOk z
theorem rowDec (w : World) : ∀ row, CellsAre w [1, 3] row → ∃ x, row = rowCells x ∧ RowOk w x := by
  intro row h
  have hl := h.length
  match row, hl with
  | [_, _], _ =>
    obtain ⟨⟨x0, rfl, o0⟩, ⟨A, n, c, zs, rfl, nc, cm, zl, zL, zo⟩, _⟩ := h
    exact ⟨⟨x0, A, n, c, zs⟩, rfl, o0, nc, cm, zl, zL, zo⟩
theorem RowOk.below {w w' : World} {x : RowX} (h : RowOk w x) (hb : Below w.heap.size w w') : RowOk w' x :=
  ⟨h.key, h.cap, h.most, h.len, h.lies.below hb, h.ints⟩
/-- A row of a size that the laws let pass. -/
def RowFit (x : RowX) : Prop := x.key.size ≤ 1048576 ∧ x.n ≤ 1048576

end Go.Proofs.YtipkhmcnkldbbaaDoor
