/-
  The texts TEvent TEventS TEntry TEntryS EEvent EEntry as one. No condition beyond what the rows list.
-/
import Derived.Test.YtmnmaibhjhhakaaDoorMade
import Derived.Test.YtmnmaibhjhhakaaDoorSz
import Derived.WalkSpells
import Derived.WalkLawsBesides
import Derived.Deep.RegionHeld3
/-
  Event: its cells, the laws' copies, counts and equality. For every readable one. No condition.
-/
namespace Go.Proofs.YtmnmaibhjhhakaaDoor
open Go.ChangeShapes Go.WideShapes Go.ChangeAt Go.RowKit

def eventCells (x : Int × ByteArray × Int) : List Value := [.int .i64 x.1, .string x.2.1, .int .i64 x.2.2]
def eventOk (x : Int × ByteArray × Int) : Prop := IntOk (x.1) ∧ StrOk (x.2.1) ∧ IntOk (x.2.2)
theorem eventDec (w : World) : ∀ row, CellsAre w [0, 1, 0] row → ∃ x, row = eventCells x ∧ eventOk x := by
  intro row h
  have hl := h.length
  match row, hl with
  | [_, _, _], _ =>
    obtain ⟨⟨x0, rfl, o0⟩, ⟨x1, rfl, o1⟩, ⟨x2, rfl, o2⟩, _⟩ := h
    exact ⟨(x0, x1, x2), rfl, o0, o1, o2⟩

end Go.Proofs.YtmnmaibhjhhakaaDoor

/-
  Slices of Event: the laws' copy and count. For every readable slice. No condition.
-/
namespace Go.Proofs.YtmnmaibhjhhakaaDoor
open Go.ChangeShapes Go.WideShapes Go.ChangeAt Go.RowKit

theorem infoEvent : (Tryd.prog.info? 23).map (fun i => (i.zero, i.size, i.bytes)) = some (some (.agg #[.int .i64 0, .string ByteArray.empty, .int .i64 0]), 3, 32) := by kernel_rfl

def eventTexts (x : Int × ByteArray × Int) : List ByteArray := [x.2.1]
end Go.Proofs.YtmnmaibhjhhakaaDoor

/-
  Entry: its cells, the laws' copies, counts and equality. For every readable one. No condition.
-/
namespace Go.Proofs.YtmnmaibhjhhakaaDoor
open Go.ChangeShapes Go.WideShapes Go.ChangeAt Go.RowKit

def entryCells (x : ByteArray × Int × ByteArray × Int) : List Value := [.string x.1, .int .i64 x.2.1, .string x.2.2.1, .int .i64 x.2.2.2]
def entryOk (x : ByteArray × Int × ByteArray × Int) : Prop := StrOk (x.1) ∧ IntOk (x.2.1) ∧ StrOk (x.2.2.1) ∧ IntOk (x.2.2.2)
theorem entryDec (w : World) : ∀ row, CellsAre w [1, 0, 1, 0] row → ∃ x, row = entryCells x ∧ entryOk x := by
  intro row h
  have hl := h.length
  match row, hl with
  | [_, _, _, _], _ =>
    obtain ⟨⟨x0, rfl, o0⟩, ⟨x1, rfl, o1⟩, ⟨x2, rfl, o2⟩, ⟨x3, rfl, o3⟩, _⟩ := h
    exact ⟨(x0, x1, x2, x3), rfl, o0, o1, o2, o3⟩

end Go.Proofs.YtmnmaibhjhhakaaDoor

/-
  Slices of Entry: the laws' copy and count. For every readable slice. No condition.
-/
namespace Go.Proofs.YtmnmaibhjhhakaaDoor
open Go.ChangeShapes Go.WideShapes Go.ChangeAt Go.RowKit

theorem infoEntry : (Tryd.prog.info? 29).map (fun i => (i.zero, i.size, i.bytes)) = some (some (.agg #[.string ByteArray.empty, .int .i64 0, .string ByteArray.empty, .int .i64 0]), 4, 48) := by kernel_rfl

def entryTexts (x : ByteArray × Int × ByteArray × Int) : List ByteArray := [x.1, x.2.2.1]
end Go.Proofs.YtmnmaibhjhhakaaDoor

/-
  Event: equality of one and of slices, as the laws ask it. No condition.
-/
namespace Go.Proofs.YtmnmaibhjhhakaaDoor
open Go.ChangeShapes Go.WideShapes Go.ChangeAt Go.RowKit

theorem eqEvent_any (x y : Int × ByteArray × Int) (w : World) :
    Calls Tryd.prog 7 #[.agg #[.int .i64 x.1, .string x.2.1, .int .i64 x.2.2], .agg #[.int .i64 y.1, .string y.2.1, .int .i64 y.2.2]] w fun e w' => e = .returned (.bool (decide (x = y))) ∧ Below w.heap.size w w' := by
  obtain ⟨x0, x1, x2⟩ := x
  obtain ⟨y0, y1, y2⟩ := y
  by_cases h0 : x0 = y0
  · by_cases h1 : x1 = y1
    · by_cases h2 : x2 = y2
      · have e := Lib.hid (show decide ((x0, x1, x2) = (y0, y1, y2)) = true from by simp [h0, h1, h2])
        have n0 : (x0 != y0) = false := by simp [h0]
        have m1 : (x1.toList == y1.toList) = true := by simp [h1]
        have n2 : (x2 != y2) = false := by simp [h2]
        clear h0 h1 h2
        go_enter Tryd.func7, Tryd.ntmps7
        go_wp2
        go_ret
        exact ⟨ret_bool (by first | exact e.out.symm | (rw [e.out]; simp; omega)), by go_grown⟩
      · have e := Lib.hid (show decide ((x0, x1, x2) = (y0, y1, y2)) = false from by simp [h2])
        have n0 : (x0 != y0) = false := by simp [h0]
        have m1 : (x1.toList == y1.toList) = true := by simp [h1]
        have n2 : (x2 != y2) = true := by simp [h2]
        clear h0 h1 h2
        go_enter Tryd.func7, Tryd.ntmps7
        go_wp2
        go_ret
        exact ⟨ret_bool (by first | exact e.out.symm | (rw [e.out]; simp; omega)), by go_grown⟩
    · have e := Lib.hid (show decide ((x0, x1, x2) = (y0, y1, y2)) = false from by simp [h1])
      have n0 : (x0 != y0) = false := by simp [h0]
      have m1 : (x1.toList == y1.toList) = false := str_ne h1
      clear h0 h1
      go_enter Tryd.func7, Tryd.ntmps7
      go_wp2
      go_ret
      exact ⟨ret_bool (by first | exact e.out.symm | (rw [e.out]; simp; omega)), by go_grown⟩
  · have e := Lib.hid (show decide ((x0, x1, x2) = (y0, y1, y2)) = false from by simp [h0])
    have n0 : (x0 != y0) = true := by simp [h0]
    clear h0
    go_enter Tryd.func7, Tryd.ntmps7
    go_wp2
    go_ret
    exact ⟨ret_bool (by first | exact e.out.symm | (rw [e.out]; simp; omega)), by go_grown⟩

end Go.Proofs.YtmnmaibhjhhakaaDoor

/-
  Entry: equality of one and of slices, as the laws ask it. No condition.
-/
namespace Go.Proofs.YtmnmaibhjhhakaaDoor
open Go.ChangeShapes Go.WideShapes Go.ChangeAt Go.RowKit

theorem eqEntry_any (x y : ByteArray × Int × ByteArray × Int) (w : World) :
    Calls Tryd.prog 10 #[.agg #[.string x.1, .int .i64 x.2.1, .string x.2.2.1, .int .i64 x.2.2.2], .agg #[.string y.1, .int .i64 y.2.1, .string y.2.2.1, .int .i64 y.2.2.2]] w fun e w' => e = .returned (.bool (decide (x = y))) ∧ Below w.heap.size w w' := by
  obtain ⟨x0, x1, x2, x3⟩ := x
  obtain ⟨y0, y1, y2, y3⟩ := y
  by_cases h0 : x0 = y0
  · have m0 : (x0.toList == y0.toList) = true := by simp [h0]
    by_cases h1 : (x1, x2, x3) = (y1, y2, y3)
    · have E : decide ((x1, x2, x3) = (y1, y2, y3)) = true := by simp only [h1, decide_true]
      have e := Lib.hid (show decide ((x0, x1, x2, x3) = (y0, y1, y2, y3)) = true from by rw [h0]; simpa using h1)
      clear h0 h1
      go_enter Tryd.func10, Tryd.ntmps10
      go_wp2_with fail
      refine (eqEvent_any (x1, x2, x3) (y1, y2, y3) _).mono ?_
      rintro e1 w1 ⟨rfl, hb1⟩
      rw [E]
      go_wp2
      go_ret
      exact ⟨ret_bool (by first | exact e.out.symm | (rw [e.out]; simp; omega)), (by repeat' (first | (with_reducible exact Below.refl _ _) | (with_reducible assumption) | (with_reducible refine below_step (by assumption) ?_) | (with_reducible refine below_alloc ?_ _) | (with_reducible refine Below.drew ?_) | (with_reducible refine below_drewN ?_ _) | (with_reducible refine Below.setCell ?_ ?_ _) | go_size))⟩
    · have E : decide ((x1, x2, x3) = (y1, y2, y3)) = false := by simp only [h1, decide_false]
      have e := Lib.hid (show decide ((x0, x1, x2, x3) = (y0, y1, y2, y3)) = false from by simp only [decide_eq_false_iff_not]; intro h; exact h1 (by simpa using (Prod.mk.inj h).2))
      clear h0 h1
      go_enter Tryd.func10, Tryd.ntmps10
      go_wp2_with fail
      refine (eqEvent_any (x1, x2, x3) (y1, y2, y3) _).mono ?_
      rintro e1 w1 ⟨rfl, hb1⟩
      rw [E]
      go_wp2
      go_ret
      exact ⟨ret_bool (by first | exact e.out.symm | (rw [e.out]; simp; omega)), (by repeat' (first | (with_reducible exact Below.refl _ _) | (with_reducible assumption) | (with_reducible refine below_step (by assumption) ?_) | (with_reducible refine below_alloc ?_ _) | (with_reducible refine Below.drew ?_) | (with_reducible refine below_drewN ?_ _) | (with_reducible refine Below.setCell ?_ ?_ _) | go_size))⟩
  · have m0 : (x0.toList == y0.toList) = false := str_ne h0
    have e := Lib.hid (show decide ((x0, x1, x2, x3) = (y0, y1, y2, y3)) = false from by simp [h0])
    clear h0
    go_enter Tryd.func10, Tryd.ntmps10
    go_wp2
    go_ret
    exact ⟨ret_bool (by first | exact e.out.symm | (rw [e.out]; simp; omega)), by go_grown⟩

end Go.Proofs.YtmnmaibhjhhakaaDoor
