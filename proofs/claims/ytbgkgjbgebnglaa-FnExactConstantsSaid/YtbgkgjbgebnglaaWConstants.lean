/-
  FnExactConstants returns true: the program's constants are the reference's. No condition.
-/
import Derived.Test.YtbgkgjbgebnglaaFrame
namespace Go.Proofs.Ytbgkgjbgebnglaa.lawConstants
open Go.ChangeShapes Go.WideShapes Go.ChangeAt Go.RowKit

theorem walk (w : World) : Calls Try.prog 3 #[] w fun e w' => e = .returned (.bool true) ∧ Below w.heap.size w w' := by
  go_enter Try.func3, Try.ntmps3
  go_wp2
  go_ret
  exact ⟨rfl, Below.refl _ _⟩

theorem opened {H : Type} {enc : TypeId × Value → H} (W : World) (base : Nat) (args : Array Value) (ds : List (DataW H)) (ps : List MemPlace)
    (_hval : ∀ (j : Nat) t v, (#[] : Array TypeId)[j]? = some t → args[j]? = some v → Value.okWide Try.prog W .any base t v)
    (hA : DataW.TrodAll enc Try.prog W 0 (fun _ => true) true ([] : List TypeId) args.toList ds ps) :
    Calls Try.prog 3 args W fun e W' => e = .returned (.bool true) ∧ Below W.heap.size W W' := by
  obtain ⟨_, h⟩ := trodAll_length hA
  obtain rfl : args = #[] := by cases args; simp_all
  exact walk W
end Go.Proofs.Ytbgkgjbgebnglaa.lawConstants
