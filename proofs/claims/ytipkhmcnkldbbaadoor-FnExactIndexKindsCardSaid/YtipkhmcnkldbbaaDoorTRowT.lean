/-
  Row: the laws' copy of a slice of rows: the copies' numbers lie in blocks of their own. For every readable one. No condition.
-/
import Derived.Test.YtipkhmcnkldbbaaDoorTRowS
namespace Go.Proofs.YtipkhmcnkldbbaaDoor
open Go.ChangeShapes Go.WideShapes Go.ChangeAt Go.RowKit

theorem infoRow : (Tryd.prog.info? 82).map (fun i => (i.zero, i.size, i.bytes)) = some (some (.agg #[.string ByteArray.empty, .slice none 0 0]), 2, 40) := by kernel_rfl
/-- The same text and the same numbers. -/
def rowVal (x : RowX) : ByteArray × List Int := (x.key, x.zs)
/-- A copied row: its numbers lie in a block behind B. -/
structure RowNew (w : World) (B : Nat) (y : RowX) : Prop where
  ok : RowOk w y
  far : ∃ g, B < g ∧ y.A = some ⟨g, 0, none⟩
theorem RowNew.below {w w' : World} {B : Nat} {y : RowX} (h : RowNew w B y) (hb : Below w.heap.size w w') : RowNew w' B y := ⟨h.ok.below hb, h.far⟩
theorem RowNew.set {w : World} {B o : Nat} {y : RowX} (h : RowNew w B y) (u : Value) : RowNew (w.setCell ⟨B, o, none⟩ u) B y :=
  ⟨⟨h.ok.key, h.ok.cap, h.ok.most, h.ok.len, h.ok.lies.setOther (fun _ b o' e => by
    obtain ⟨g, hg, e2⟩ := h.far
    rw [e2] at e
    have e3 : g = b := by cases e; rfl
    show b ≠ B
    omega) u, h.ok.ints⟩, h.far⟩

end Go.Proofs.YtipkhmcnkldbbaaDoor
