/-
  EntryText: what the program's function and the reference's return. No condition beyond what the row lists.
-/
import Derived.Test.YtmnmaibhjhhakaaGreatDoorLine
import Derived.Test.YtmnmaibhjhhakaaGreatDoorBunS
namespace Go.Proofs.YtmnmaibhjhhakaaGreatDoor
open Go.ChangeShapes Go.WideShapes Go.ChangeAt Go.RowKit

/-- The line, or none where the entry is not valid. -/
def outL (x : EnT) : ByteArray := if entB x then lineS x else ⟨#[]⟩

set_option maxHeartbeats 3200000 in
theorem specLine_any (x0 : ByteArray) (x1 : Int) (x2 : ByteArray) (x3 : Int) (hs : x0.size ≤ 1048576) (ht : x2.size ≤ 1048576) (w : World) :
    Calls Tryz.prog 21 #[.agg #[.string x0, .int .i64 x1, .string x2, .int .i64 x3]] w fun e w' => e = .returned (.string (outL (x0, x1, x2, x3))) ∧ Below w.heap.size w w' := by
  have hk : StrOk x2 := by unfold StrOk maxLen; omega
  cases E1 : nameB x0
  · have ho := Lib.hid (show outL (x0, x1, x2, x3) = ⟨#[]⟩ by unfold outL entB; simp [E1])
    go_enter Tryz.func21, Tryz.ntmps21
    go_wp2_with fail
    refine (specNameValid_any x0 hs _).mono ?_
    rintro e w1 ⟨rfl, hb1⟩
    rw [E1]
    have hB := below_step hb1 (below_alloc (Below.refl _ _) _)
    go_wp2
    go_ret
    exact ⟨ret_str ho.out.symm, hB⟩
  · cases E2 : eventB x1 x2 x3
    · have ho := Lib.hid (show outL (x0, x1, x2, x3) = ⟨#[]⟩ by unfold outL entB evOk; simp [E2])
      go_enter Tryz.func21, Tryz.ntmps21
      go_wp2_with fail
      refine (specNameValid_any x0 hs _).mono ?_
      rintro e w1 ⟨rfl, hb1⟩
      rw [E1]
      have y1 := box_cell hb1 (b := w.heap.size) (o := 1) (u := .int .i64 x1) (by go_cell)
      have y2 := box_cell hb1 (b := w.heap.size) (o := 2) (u := .string x2) (by go_cell)
      have y3 := box_cell hb1 (b := w.heap.size) (o := 3) (u := .int .i64 x3) (by go_cell)
      have hB := below_step hb1 (below_alloc (Below.refl _ _) _)
      go_wp2_with fail
      refine (specEvent_any _ _ _ hk _).mono ?_
      rintro e w2 ⟨rfl, hb2⟩
      rw [E2]
      go_wp2
      go_ret
      exact ⟨ret_str ho.out.symm, below_step hb2 hB⟩
    · have ho := Lib.hid (show outL (x0, x1, x2, x3) = lineS (x0, x1, x2, x3) by unfold outL entB evOk; simp [E1, E2])
      go_enter Tryz.func21, Tryz.ntmps21
      go_wp2_with fail
      refine (specNameValid_any x0 hs _).mono ?_
      rintro e w1 ⟨rfl, hb1⟩
      rw [E1]
      have y0 := box_cell hb1 (b := w.heap.size) (o := 0) (u := .string x0) (by go_cell)
      have y1 := box_cell hb1 (b := w.heap.size) (o := 1) (u := .int .i64 x1) (by go_cell)
      have y2 := box_cell hb1 (b := w.heap.size) (o := 2) (u := .string x2) (by go_cell)
      have y3 := box_cell hb1 (b := w.heap.size) (o := 3) (u := .int .i64 x3) (by go_cell)
      have hB := below_step hb1 (below_alloc (Below.refl _ _) _)
      go_wp2_with fail
      refine (specEvent_any _ _ _ hk _).mono ?_
      rintro e w2 ⟨rfl, hb2⟩
      rw [E2]
      have u0 := box_cell hb2 y0
      have u1 := box_cell hb2 y1
      have u2 := box_cell hb2 y2
      have u3 := box_cell hb2 y3
      have hB2 := below_step hb2 hB
      go_wp2_with fail
      refine (l31Text_any x0 x1 x2 x3 hs E2 _).mono ?_
      rintro e w3 ⟨rfl, hb3⟩
      go_wp2
      go_ret
      exact ⟨ret_str ho.out.symm, below_step hb3 hB2⟩

end Go.Proofs.YtmnmaibhjhhakaaGreatDoor
