/-
  FnExactExpectFrom returns true at every text: the program's ExpectFrom is the reference's. No condition.
-/
import Derived.Test.YtinghmdpjgbefaaExpF
namespace Go.Proofs.Ytinghmdpjgbefaa.lawExpectFrom
open Go.ChangeShapes Go.WideShapes Go.ChangeAt Go.RowKit

theorem walk (s : ByteArray) (hs : StrOk s) (w : World) : Calls Try.prog 3 #[.string s] w fun e w' => e = .returned (.bool true) ∧ Below w.heap.size w w' := by
  have hm : s.size ≤ maxLen := hs
  unfold StrOk maxLen at hs
  cases E : expB s
  all_goals
    by_cases hl : (1048576 : Int) < s.size
    · go_enter Try.func3, Try.ntmps3
      go_wp2
      go_ret
      exact ⟨rfl, Below.refl _ _⟩
    · go_enter Try.func3, Try.ntmps3
      go_wp2_with fail
      refine (specExpectFrom_any s hm _).mono ?_
      rintro e1 w1 ⟨rfl, hb1⟩
      rw [E]
      go_wp2_with fail
      refine (implExpectFrom_any s hm _).mono ?_
      rintro e1 w1 ⟨rfl, rfl⟩
      rw [E]
      go_wp2
      go_ret
      exact ⟨rfl, hb1⟩


set_option maxRecDepth 100000 in
theorem opened {H : Type} {enc : TypeId × Value → H} (W : World) (base : Nat) (args : Array Value) (ds : List (DataW H)) (ps : List MemPlace)
    (hval : ∀ (j : Nat) t v, (#[9] : Array TypeId)[j]? = some t → args[j]? = some v → Value.okWide Try.prog W .any base t v)
    (hA : DataW.TrodAll enc Try.prog W 0 (fun _ => true) true [9] args.toList ds ps) :
    Calls Try.prog 3 args W fun e W' => e = .returned (.bool true) ∧ Below W.heap.size W W' := by
  obtain ⟨v0, vs0, d0, ds0, p0, q0, hargs, rfl, rfl, h0, r0⟩ := trodAll_cons hA
  obtain ⟨rfl, rfl, rfl⟩ := trodAll_nil r0
  obtain rfl : args = #[v0] := by cases args; simp_all
  obtain ⟨a0, rfl, rfl, rfl, w0⟩ := Go.ChangeMaps.open_string Try.underlying9 (hval 0 9 v0 rfl rfl) h0
  exact walk a0 w0 W
end Go.Proofs.Ytinghmdpjgbefaa.lawExpectFrom
