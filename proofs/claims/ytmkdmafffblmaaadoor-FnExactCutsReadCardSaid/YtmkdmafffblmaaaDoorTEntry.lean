/-
  Entry: its cells, the laws' copies, counts and equality. For every readable one. No condition.
-/
import Derived.Test.YtmkdmafffblmaaaDoorMade
import Derived.Test.YtmkdmafffblmaaaDoorSz
import Derived.WalkSpells
import Derived.WalkLawsBesides
import Derived.Deep.RegionHeld3
import Derived.Test.YtmkdmafffblmaaaDoorTEvent
namespace Go.Proofs.YtmkdmafffblmaaaDoor
open Go.ChangeShapes Go.WideShapes Go.ChangeAt Go.RowKit

def entryCells (x : ByteArray × Int × ByteArray × Int) : List Value := [.string x.1, .int .i64 x.2.1, .string x.2.2.1, .int .i64 x.2.2.2]
def entryOk (x : ByteArray × Int × ByteArray × Int) : Prop := StrOk (x.1) ∧ IntOk (x.2.1) ∧ StrOk (x.2.2.1) ∧ IntOk (x.2.2.2)
theorem entryDec (w : World) : ∀ row, CellsAre w [1, 0, 1, 0] row → ∃ x, row = entryCells x ∧ entryOk x := by
  intro row h
  have hl := h.length
  match row, hl with
  | [_, _, _, _], _ =>
    obtain ⟨⟨x0, rfl, o0⟩, ⟨x1, rfl, o1⟩, ⟨x2, rfl, o2⟩, ⟨x3, rfl, o3⟩, _⟩ := h
    exact ⟨(x0, x1, x2, x3), rfl, o0, o1, o2, o3⟩

set_option maxHeartbeats 1600000 in
theorem toEntry_any (x0 : ByteArray) (x1 : Int) (x2 : ByteArray) (x3 : Int) (w : World) :
    Calls Tryd.prog 27 #[.agg #[.string x0, .int .i64 x1, .string x2, .int .i64 x3]] w fun e w' => e = .returned (.agg #[.string x0, .int .i64 x1, .string x2, .int .i64 x3]) ∧ Below w.heap.size w w' := by
  go_enter Tryd.func27, Tryd.ntmps27
  go_wp2_with fail
  refine (toEvent_any _ _ _ _).mono ?_
  rintro e1 w1 ⟨rfl, hb1⟩
  have r0 := box_cell hb1 (b := w.heap.size + 1 + 1) (o := 0) (u := .string x0) (by go_cell)
  have r1 := box_cell hb1 (b := w.heap.size + 1 + 1) (o := 1) (u := .int .i64 0) (by go_cell)
  have r2 := box_cell hb1 (b := w.heap.size + 1 + 1) (o := 2) (u := .string ⟨#[]⟩) (by go_cell)
  have r3 := box_cell hb1 (b := w.heap.size + 1 + 1) (o := 3) (u := .int .i64 0) (by go_cell)
  have q0 := box_cell hb1 (b := w.heap.size + 1) (o := 0) (u := .string ⟨#[]⟩) (by go_cell)
  have q1 := box_cell hb1 (b := w.heap.size + 1) (o := 1) (u := .int .i64 0) (by go_cell)
  have q2 := box_cell hb1 (b := w.heap.size + 1) (o := 2) (u := .string ⟨#[]⟩) (by go_cell)
  have q3 := box_cell hb1 (b := w.heap.size + 1) (o := 3) (u := .int .i64 0) (by go_cell)
  have f1 : w1.frozen? ⟨w.heap.size + 1 + 1, 1, none⟩ = false := (hb1.frozen (p := ⟨w.heap.size + 1 + 1, 1, none⟩) (by simp)).trans (by simp [go_sem])
  have f2 : w1.frozen? ⟨w.heap.size + 1 + 1, 2, none⟩ = false := (hb1.frozen (p := ⟨w.heap.size + 1 + 1, 2, none⟩) (by simp)).trans (by simp [go_sem])
  have f3 : w1.frozen? ⟨w.heap.size + 1 + 1, 3, none⟩ = false := (hb1.frozen (p := ⟨w.heap.size + 1 + 1, 3, none⟩) (by simp)).trans (by simp [go_sem])
  have g0 : w1.frozen? ⟨w.heap.size + 1, 0, none⟩ = false := (hb1.frozen (p := ⟨w.heap.size + 1, 0, none⟩) (by simp)).trans (by simp [go_sem])
  have g1 : w1.frozen? ⟨w.heap.size + 1, 1, none⟩ = false := (hb1.frozen (p := ⟨w.heap.size + 1, 1, none⟩) (by simp)).trans (by simp [go_sem])
  have g2 : w1.frozen? ⟨w.heap.size + 1, 2, none⟩ = false := (hb1.frozen (p := ⟨w.heap.size + 1, 2, none⟩) (by simp)).trans (by simp [go_sem])
  have g3 : w1.frozen? ⟨w.heap.size + 1, 3, none⟩ = false := (hb1.frozen (p := ⟨w.heap.size + 1, 3, none⟩) (by simp)).trans (by simp [go_sem])
  have hs := hb1.size
  go_wp2
  refine bodyPost_ret (v := .agg #[.string x0, .int .i64 x1, .string x2, .int .i64 x3]) (by simp [results, Tryd.results27, go_sem, q0, q1, q2, q3]) rfl ?_
  refine ⟨rfl, ?_⟩
  simp only [World.size_alloc] at hs
  refine Below.setCell (Below.setCell (Below.setCell (Below.setCell (Below.setCell (Below.setCell (Below.setCell (below_step hb1 (by repeat' (first | (with_reducible exact Below.refl _ _) | (with_reducible assumption) | (with_reducible refine below_step (by assumption) ?_) | (with_reducible refine below_alloc ?_ _) | (with_reducible refine Below.drew ?_) | (with_reducible refine below_drewN ?_ _) | (with_reducible refine Below.setCell ?_ ?_ _) | go_size))) ?_ _) ?_ _) ?_ _) ?_ _) ?_ _) ?_ _) ?_ _ <;> go_size

theorem szEntry_any (x0 : ByteArray) (x1 : Int) (x2 : ByteArray) (x3 : Int) (left : Int) (h0 : 0 ≤ left) (h1 : left ≤ 1048576) (hs : StrOk x0) (ht : StrOk x2) (w : World) :
    Calls Tryd.prog 24 #[.agg #[.string x0, .int .i64 x1, .string x2, .int .i64 x3], .int .i64 left] w fun e w' => e = .returned (.int .i64 (szT left [x0, x2])) ∧ Below w.heap.size w w' := by
  unfold StrOk maxLen at hs
  by_cases c : left < x0.size
  · have e : Hid (szT left [x0, x2] = -1) := Lib.hid (szT_lt c)
    go_enter Tryd.func24, Tryd.ntmps24
    go_wp2
    go_ret
    exact ⟨ret_int e.out.symm, by go_grown⟩
  · have e1 : Hid (szT left [x0, x2] = szT (left - x0.size) [x2]) := Lib.hid (szT_ge c)
    by_cases c2 : left - x0.size < x2.size
    · have e2 : szT (left - x0.size) [x2] = -1 := szT_lt c2
      have e4 := Lib.hid (show szN (left - x0.size) x2.size = -1 from by unfold szN; rw [if_pos c2])
      go_enter Tryd.func24, Tryd.ntmps24
      go_wp2_with fail
      refine (szEvent_any x1 x2 x3 _ (by omega) (by omega) ht _).mono ?_
      rintro e' w1 ⟨rfl, hb1⟩
      rw [e4.out]
      go_wp2
      go_ret
      exact ⟨ret_int (by rw [e1.out, e2]), (by repeat' (first | (with_reducible exact Below.refl _ _) | (with_reducible assumption) | (with_reducible refine below_step (by assumption) ?_) | (with_reducible refine below_alloc ?_ _) | (with_reducible refine Below.drew ?_) | (with_reducible refine below_drewN ?_ _) | (with_reducible refine Below.setCell ?_ ?_ _) | go_size))⟩
    · have e2 : szT (left - x0.size) [x2] = left - x0.size - x2.size := by rw [szT_ge c2]; rfl
      have e4 := Lib.hid (show szN (left - x0.size) x2.size = left - x0.size - x2.size from by unfold szN; rw [if_neg c2])
      go_enter Tryd.func24, Tryd.ntmps24
      go_wp2_with fail
      refine (szEvent_any x1 x2 x3 _ (by omega) (by omega) ht _).mono ?_
      rintro e' w1 ⟨rfl, hb1⟩
      rw [e4.out]
      have e3 := Lib.hid e2
      clear e2
      go_wp2
      go_ret
      exact ⟨ret_int (by rw [e1.out, e3.out]), (by repeat' (first | (with_reducible exact Below.refl _ _) | (with_reducible assumption) | (with_reducible refine below_step (by assumption) ?_) | (with_reducible refine below_alloc ?_ _) | (with_reducible refine Below.drew ?_) | (with_reducible refine below_drewN ?_ _) | (with_reducible refine Below.setCell ?_ ?_ _) | go_size))⟩

end Go.Proofs.YtmkdmafffblmaaaDoor
