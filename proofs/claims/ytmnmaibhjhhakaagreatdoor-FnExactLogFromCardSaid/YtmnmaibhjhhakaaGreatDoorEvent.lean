/-
  The functions on one event: what each returns, for every event. No condition.
-/
import Derived.Test.YtmnmaibhjhhakaaGreatDoorBunT
namespace Go.Proofs.YtmnmaibhjhhakaaGreatDoor
open Go.ChangeShapes Go.WideShapes Go.ChangeAt Go.RowKit

/-- A valid event. -/
def eventB (id : Int) (k : ByteArray) (d : Int) : Bool := inB id 1 9999 && wordB k && inB d 0 999

theorem specEvent_any (id : Int) (k : ByteArray) (d : Int) (hs : StrOk k) (w : World) :
    Calls Tryz.prog 23 #[.agg #[.int .i64 id, .string k, .int .i64 d]] w fun e w' => e = .returned (.bool (eventB id k d)) ∧ Below w.heap.size w w' := by
  cases c1 : inB id 1 9999 <;> cases c2 : wordB k
  all_goals
    go_enter Tryz.func23, Tryz.ntmps23
    go_wp2_with (first | (go_at_call 34; refine (l6In_any _ _ _ _).mono ?_; rintro e w' ⟨rfl, rfl⟩) | (go_at_call 37; refine (l1Word_any _ hs _).mono ?_; rintro e w' ⟨rfl, rfl⟩))
    go_ret
    exact ⟨ret_bool (by simp [eventB, c1, c2]), by go_grown⟩

set_option maxHeartbeats 800000 in
theorem eventValid_any (id : Int) (k : ByteArray) (d : Int) (hs : StrOk k) (w : World) :
    Calls Tryz.prog 43 #[.agg #[.int .i64 id, .string k, .int .i64 d]] w fun e w' => e = .returned (.bool (eventB id k d)) ∧ Below w.heap.size w w' := by
  rcases (show id < 1 ∨ 9999 < id ∨ (1 ≤ id ∧ id ≤ 9999) from by omega) with h | h | ⟨h, h'⟩
  · have e := Lib.hid (show eventB id k d = false from by unfold eventB; rw [inB_f (by omega)]; simp)
    go_enter Tryz.func43, Tryz.ntmps43
    go_wp2
    go_ret
    exact ⟨ret_bool (by first | exact e.out.symm | (rw [e.out]; simp; omega)), by go_grown⟩
  · have e := Lib.hid (show eventB id k d = false from by unfold eventB; rw [inB_f (by omega)]; simp)
    go_enter Tryz.func43, Tryz.ntmps43
    go_wp2
    go_ret
    exact ⟨ret_bool (by first | exact e.out.symm | (rw [e.out]; simp; omega)), by go_grown⟩
  · rcases (show d < 0 ∨ 999 < d ∨ (0 ≤ d ∧ d ≤ 999) from by omega) with g | g | ⟨g, g'⟩ <;> cases c : wordB k
    · have e := Lib.hid (show eventB id k d = false from by unfold eventB; rw [c]; simp)
      go_enter Tryz.func43, Tryz.ntmps43
      go_wp2_with (go_at_call 59; refine (wordValid_any _ hs _).mono ?_; rintro e w' ⟨rfl, rfl⟩)
      go_ret
      exact ⟨ret_bool (by first | exact e.out.symm | (rw [e.out]; simp; omega)), by go_grown⟩
    · have e := Lib.hid (show eventB id k d = false from by unfold eventB; rw [inB_f (n := d) (by omega)]; simp)
      go_enter Tryz.func43, Tryz.ntmps43
      go_wp2_with (go_at_call 59; refine (wordValid_any _ hs _).mono ?_; rintro e w' ⟨rfl, rfl⟩)
      go_ret
      exact ⟨ret_bool (by first | exact e.out.symm | (rw [e.out]; simp; omega)), by go_grown⟩
    · have e := Lib.hid (show eventB id k d = false from by unfold eventB; rw [c]; simp)
      go_enter Tryz.func43, Tryz.ntmps43
      go_wp2_with (go_at_call 59; refine (wordValid_any _ hs _).mono ?_; rintro e w' ⟨rfl, rfl⟩)
      go_ret
      exact ⟨ret_bool (by first | exact e.out.symm | (rw [e.out]; simp; omega)), by go_grown⟩
    · have e := Lib.hid (show eventB id k d = false from by unfold eventB; rw [inB_f (n := d) (by omega)]; simp)
      go_enter Tryz.func43, Tryz.ntmps43
      go_wp2_with (go_at_call 59; refine (wordValid_any _ hs _).mono ?_; rintro e w' ⟨rfl, rfl⟩)
      go_ret
      exact ⟨ret_bool (by first | exact e.out.symm | (rw [e.out]; simp; omega)), by go_grown⟩
    · have e := Lib.hid (show eventB id k d = false from by unfold eventB; rw [c]; simp)
      go_enter Tryz.func43, Tryz.ntmps43
      go_wp2_with (go_at_call 59; refine (wordValid_any _ hs _).mono ?_; rintro e w' ⟨rfl, rfl⟩)
      go_ret
      exact ⟨ret_bool (by first | exact e.out.symm | (rw [e.out]; simp; omega)), by go_grown⟩
    · have e := Lib.hid (show eventB id k d = true from by unfold eventB; rw [c, inB_t (n := d) (by omega), inB_t (n := id) (by omega)]; simp)
      go_enter Tryz.func43, Tryz.ntmps43
      go_wp2_with (go_at_call 59; refine (wordValid_any _ hs _).mono ?_; rintro e w' ⟨rfl, rfl⟩)
      go_ret
      exact ⟨ret_bool (by first | exact e.out.symm | (rw [e.out]; simp; omega)), by go_grown⟩
end Go.Proofs.YtmnmaibhjhhakaaGreatDoor
