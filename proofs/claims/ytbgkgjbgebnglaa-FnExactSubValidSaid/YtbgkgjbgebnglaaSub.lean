/-
  The functions under FnExactSubValid: what each returns, for every input. No condition.
-/
import Derived.Test.YtbgkgjbgebnglaaCore
import Derived.Test.YtbgkgjbgebnglaaBase
namespace Go.Proofs.Ytbgkgjbgebnglaa
open Go.ChangeShapes Go.WideShapes Go.ChangeAt Go.RowKit

/-- What is left of 'left' behind n, or -1. -/
def szN (left n : Int) : Int := if left < n then -1 else left - n

theorem szSub_any (s : ByteArray) (n left : Int) (h0 : 0 ≤ left) (h1 : left ≤ 1048576) (hs : StrOk s) (w : World) :
    Calls Try.prog 17 #[.agg #[.string s, .int .i64 n], .int .i64 left] w fun e w' => e = .returned (.int .i64 (szN left s.size)) ∧ Below w.heap.size w w' := by
  unfold StrOk maxLen at hs
  by_cases c : left < s.size
  · have e : Hid (szN left s.size = -1) := Lib.hid (by unfold szN; rw [if_pos c])
    go_enter Try.func17, Try.ntmps17
    go_wp2
    go_ret
    exact ⟨ret_int e.out.symm, by go_grown⟩
  · have e : Hid (szN left s.size = left - s.size) := Lib.hid (by unfold szN; rw [if_neg c])
    go_enter Try.func17, Try.ntmps17
    go_wp2
    go_ret
    exact ⟨ret_int e.out.symm, by go_grown⟩

theorem toSub_any (s : ByteArray) (n : Int) (w : World) :
    Calls Try.prog 19 #[.agg #[.string s, .int .i64 n]] w fun e w' => e = .returned (.agg #[.string s, .int .i64 n]) ∧ Below w.heap.size w w' := by
  go_enter Try.func19, Try.ntmps19
  go_wp2
  go_returns
  exact ⟨rfl, by go_grown⟩

def subB (s : ByteArray) (n : Int) : Bool := (s.toList.isEmpty || wordB s) && inB n 0 100

theorem specSub_any (s : ByteArray) (n : Int) (hs : StrOk s) (w : World) :
    Calls Try.prog 18 #[.agg #[.string s, .int .i64 n]] w fun e w' => e = .returned (.bool (subB s n)) ∧ Below w.heap.size w w' := by
  cases c1 : s.toList.isEmpty <;> cases c2 : wordB s
  all_goals
    go_enter Try.func18, Try.ntmps18
    go_wp2_with (first | (go_at_call 55; refine (l6In_any _ _ _ _).mono ?_; rintro e w' ⟨rfl, rfl⟩) | (go_at_call 57; refine (l1Word_any _ hs _).mono ?_; rintro e w' ⟨rfl, rfl⟩))
    go_ret
    exact ⟨ret_bool (by unfold subB; simp [c1, c2]), by go_grown⟩

theorem implSub_any (s : ByteArray) (n : Int) (hs : StrOk s) (w : World) :
    Calls Try.prog 20 #[.agg #[.string s, .int .i64 n]] w fun e w' => e = .returned (.bool (subB s n)) ∧ Below w.heap.size w w' := by
  by_cases h1 : 0 ≤ n <;> by_cases h2 : n ≤ 100 <;> cases c1 : s.toList.isEmpty <;> cases c2 : wordB s
  all_goals try omega
  all_goals
    go_enter Try.func20, Try.ntmps20
    go_wp2_with (first | (go_at_call 58; refine (wordValid_any _ hs _).mono ?_; rintro e w' ⟨rfl, rfl⟩))
    go_ret
    exact ⟨ret_bool (by simp [subB, inB, c1, c2] <;> omega), by go_grown⟩
end Go.Proofs.Ytbgkgjbgebnglaa
