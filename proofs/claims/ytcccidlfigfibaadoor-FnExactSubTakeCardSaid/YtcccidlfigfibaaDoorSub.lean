/-
  The functions under FnExactSubValid: what each returns, for every input. No condition.
-/
import Derived.Test.YtcccidlfigfibaaDoorTSub
namespace Go.Proofs.YtcccidlfigfibaaDoor
open Go.ChangeShapes Go.WideShapes Go.ChangeAt Go.RowKit

def subB (s : ByteArray) (n : Int) : Bool := (s.toList.isEmpty || wordB s) && inB n 0 100

theorem specSub_any (s : ByteArray) (n : Int) (hs : StrOk s) (w : World) :
    Calls Tryd.prog 35 #[.agg #[.string s, .int .i64 n]] w fun e w' => e = .returned (.bool (subB s n)) ∧ Below w.heap.size w w' := by
  cases c1 : s.toList.isEmpty <;> cases c2 : wordB s
  all_goals
    go_enter Tryd.func35, Tryd.ntmps35
    go_wp2_with (first | (go_at_call 43; refine (l6In_any _ _ _ _).mono ?_; rintro e w' ⟨rfl, rfl⟩) | (go_at_call 64; refine (l1Word_any _ hs _).mono ?_; rintro e w' ⟨rfl, rfl⟩))
    go_ret
    exact ⟨ret_bool (by unfold subB; simp [c1, c2]), by go_grown⟩

theorem implSub_any (s : ByteArray) (n : Int) (hs : StrOk s) (w : World) :
    Calls Tryd.prog 39 #[.agg #[.string s, .int .i64 n]] w fun e w' => e = .returned (.bool (subB s n)) ∧ Below w.heap.size w w' := by
  by_cases h1 : 0 ≤ n <;> by_cases h2 : n ≤ 100 <;> cases c1 : s.toList.isEmpty <;> cases c2 : wordB s
  all_goals try omega
  all_goals
    go_enter Tryd.func39, Tryd.ntmps39
    go_wp2_with (first | (go_at_call 70; refine (wordValid_any _ hs _).mono ?_; rintro e w' ⟨rfl, rfl⟩))
    go_ret
    exact ⟨ret_bool (by simp [subB, inB, c1, c2] <;> omega), by go_grown⟩
end Go.Proofs.YtcccidlfigfibaaDoor
