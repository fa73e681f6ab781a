/-
  The functions on one fold: what each returns, for every fold. No condition.
-/
import Derived.Test.YtcccidlfigfibaaDoorTFold
namespace Go.Proofs.YtcccidlfigfibaaDoor
open Go.ChangeShapes Go.WideShapes Go.ChangeAt Go.RowKit

/-- A valid fold. -/
def foldB (v s : Int) (l : ByteArray) : Bool := if v = -1 then s == 0 && l.toList.isEmpty else inB v 0 23 && inB s 0 (999 * (v + 1)) && wordB l

set_option maxHeartbeats 800000 in
theorem specFold_any (v s : Int) (l : ByteArray) (hv : IntOk v) (hs : StrOk l) (w : World) :
    Calls Tryd.prog 47 #[.agg #[.int .i64 v, .int .i64 s, .string l]] w fun e w' => e = .returned (.bool (foldB v s l)) ∧ Below w.heap.size w w' := by
  obtain ⟨v0, v1⟩ := hv
  by_cases h : v = -1
  · subst h
    cases c1 : (s == 0) <;> cases c2 : l.toList.isEmpty
    all_goals
      have e := Lib.hid (show foldB (-1) s l = _ from by unfold foldB; rw [if_pos rfl, c1, c2])
      go_enter Tryd.func47, Tryd.ntmps47
      go_wp2
      go_ret
      exact ⟨ret_bool (by first | exact e.out.symm | (rw [e.out]; simp; omega)), by go_grown⟩
  · have hb : (v == -1) = false := by simp [h]
    by_cases hr : 0 ≤ v ∧ v ≤ 23
    · obtain ⟨r0, r1⟩ := hr
      have i1 : inB v 0 23 = true := inB_t ⟨r0, r1⟩
      cases c2 : inB s 0 (999 * (v + 1)) <;> cases c3 : wordB l
      all_goals
        have e := Lib.hid (show foldB v s l = _ from by unfold foldB; rw [if_neg h, i1, c2, c3])
        clear h
        go_enter Tryd.func47, Tryd.ntmps47
        go_wp2_with (first | (go_at_call 43; refine (l6In_any _ _ _ _).mono ?_; rintro e w' ⟨rfl, rfl⟩) | (go_at_call 64; refine (l1Word_any _ hs _).mono ?_; rintro e w' ⟨rfl, rfl⟩))
        go_ret
        exact ⟨ret_bool (by first | exact e.out.symm | (rw [e.out]; simp; omega)), by go_grown⟩
    · have i1 : inB v 0 23 = false := inB_f hr
      have e := Lib.hid (show foldB v s l = false from by unfold foldB; rw [if_neg h, i1]; simp)
      clear h hr
      go_enter Tryd.func47, Tryd.ntmps47
      go_wp2_with (first | (go_at_call 43; refine (l6In_any _ _ _ _).mono ?_; rintro e w' ⟨rfl, rfl⟩))
      go_ret
      exact ⟨ret_bool (by first | exact e.out.symm | (rw [e.out]; simp; omega)), by go_grown⟩

set_option maxHeartbeats 1600000 in
theorem implFold_any (v s : Int) (l : ByteArray) (hv : IntOk v) (hs : StrOk l) (w : World) :
    Calls Tryd.prog 51 #[.agg #[.int .i64 v, .int .i64 s, .string l]] w fun e w' => e = .returned (.bool (foldB v s l)) ∧ Below w.heap.size w w' := by
  obtain ⟨v0, v1⟩ := hv
  by_cases h : v = -1
  · subst h
    cases c1 : (s == 0) <;> cases c2 : l.toList.isEmpty
    all_goals
      have e := Lib.hid (show foldB (-1) s l = _ from by unfold foldB; rw [if_pos rfl, c1, c2])
      go_enter Tryd.func51, Tryd.ntmps51
      go_wp2
      go_ret
      exact ⟨ret_bool (by first | exact e.out.symm | (rw [e.out]; simp; omega)), by go_grown⟩
  · have hb : (v == -1) = false := by simp [h]
    rcases (show v < 0 ∨ 23 < v ∨ (0 ≤ v ∧ v ≤ 23) from by omega) with r | r | ⟨r0, r1⟩
    · have e := Lib.hid (show foldB v s l = false from by unfold foldB; rw [if_neg h, inB_f (by omega)]; simp)
      clear h
      go_enter Tryd.func51, Tryd.ntmps51
      go_wp2
      go_ret
      exact ⟨ret_bool (by first | exact e.out.symm | (rw [e.out]; simp; omega)), by go_grown⟩
    · have e := Lib.hid (show foldB v s l = false from by unfold foldB; rw [if_neg h, inB_f (by omega)]; simp)
      clear h
      go_enter Tryd.func51, Tryd.ntmps51
      go_wp2
      go_ret
      exact ⟨ret_bool (by first | exact e.out.symm | (rw [e.out]; simp; omega)), by go_grown⟩
    · rcases (show s < 0 ∨ (v + 1) * 999 < s ∨ (0 ≤ s ∧ s ≤ (v + 1) * 999) from by omega) with q | q | ⟨q, q'⟩ <;> cases c3 : wordB l
      all_goals
        have e := Lib.hid (show foldB v s l = _ from by unfold foldB; rw [if_neg h, c3])
        have e2 : Hid (foldB v s l = (inB v 0 23 && inB s 0 (999 * (v + 1)) && wordB l)) := Lib.hid (by unfold foldB; rw [if_neg h])
        clear h e
        go_enter Tryd.func51, Tryd.ntmps51
        go_wp2_with (first | (go_at_call 70; refine (wordValid_any _ hs _).mono ?_; rintro e w' ⟨rfl, rfl⟩))
        go_ret
        exact ⟨ret_bool (by rw [e2.out, c3]; simp [inB]; try omega), by go_grown⟩
end Go.Proofs.YtcccidlfigfibaaDoor
