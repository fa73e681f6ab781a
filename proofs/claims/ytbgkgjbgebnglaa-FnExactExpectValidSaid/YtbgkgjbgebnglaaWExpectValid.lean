/-
  FnExactExpectValid returns true at every int: the program's ExpectValid is the reference's. No condition.
-/
import Derived.Test.YtbgkgjbgebnglaaFrame
import Derived.Test.YtbgkgjbgebnglaaBase
namespace Go.Proofs.Ytbgkgjbgebnglaa.lawExpectValid
open Go.ChangeShapes Go.WideShapes Go.ChangeAt Go.RowKit

theorem walk (n : Int) (hn : IntOk n) (w : World) : Calls Try.prog 4 #[.int .i64 n] w fun e w' => e = .returned (.bool true) ∧ Below w.heap.size w w' := by
  obtain ⟨hlo, hhi⟩ := hn
  rcases (show n < -2 ∨ n = -2 ∨ n = -1 ∨ (0 ≤ n ∧ n ≤ 23) ∨ 23 < n from by omega) with h | rfl | rfl | ⟨h, h'⟩ | h
  all_goals
    go_enter Try.func4, Try.ntmps4
    go_wp2
    go_ret
    exact ⟨rfl, by go_grown⟩


set_option maxRecDepth 100000 in
theorem opened {H : Type} {enc : TypeId × Value → H} (W : World) (base : Nat) (args : Array Value) (ds : List (DataW H)) (ps : List MemPlace)
    (hval : ∀ (j : Nat) t v, (#[3] : Array TypeId)[j]? = some t → args[j]? = some v → Value.okWide Try.prog W .any base t v)
    (hA : DataW.TrodAll enc Try.prog W 0 (fun _ => true) true [3] args.toList ds ps) :
    Calls Try.prog 4 args W fun e W' => e = .returned (.bool true) ∧ Below W.heap.size W W' := by
  obtain ⟨v0, vs0, d0, ds0, p0, q0, hargs, rfl, rfl, h0, r0⟩ := trodAll_cons hA
  obtain ⟨rfl, rfl, rfl⟩ := trodAll_nil r0
  obtain rfl : args = #[v0] := by cases args; simp_all
  obtain ⟨a0, rfl, rfl, rfl, w0⟩ := open_int Try.underlying3 (hval 0 3 v0 rfl rfl) h0
  exact walk a0 (bounds_i64 w0) W
end Go.Proofs.Ytbgkgjbgebnglaa.lawExpectValid
