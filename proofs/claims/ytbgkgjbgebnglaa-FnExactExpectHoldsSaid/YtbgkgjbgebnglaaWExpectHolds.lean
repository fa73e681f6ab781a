/-
  FnExactExpectHolds returns true at every two ints: the program's ExpectHolds is the reference's. No condition.
-/
import Derived.Test.YtbgkgjbgebnglaaFrame
import Derived.Test.YtbgkgjbgebnglaaIface
namespace Go.Proofs.Ytbgkgjbgebnglaa.lawExpectHolds
open Go.ChangeShapes Go.WideShapes Go.ChangeAt Go.RowKit

set_option maxRecDepth 100000 in
set_option maxHeartbeats 1600000 in
theorem walk (n : Int) (hn : IntOk n) (v : Int) (hv : IntOk v) (w : World) : Calls Try.prog 6 #[.int .i64 n, .int .i64 v] w fun e w' => e = .returned (.bool true) ∧ Below w.heap.size w w' := by
  obtain ⟨hlo, hhi⟩ := hn
  obtain ⟨vlo, vhi⟩ := hv
  rcases (show v < -1 ∨ 23 < v ∨ v = -1 ∨ (0 ≤ v ∧ v ≤ 23) from by omega) with g | g | g | ⟨g, g'⟩
  all_goals rcases (show n < -2 ∨ n = -2 ∨ n = -1 ∨ (0 ≤ n ∧ n ≤ 23 ∧ n = v) ∨ (0 ≤ n ∧ n ≤ 23 ∧ n ≠ v) ∨ 23 < n from by omega) with h | rfl | rfl | ⟨h, h', rfl⟩ | ⟨h, h', hne⟩ | h
  all_goals try omega
  all_goals try (obtain rfl : v = -1 := g)
  all_goals try (have hd : decide (v ≤ 23) = false := by simp; omega)
  all_goals
    go_enter Try.func6, Try.ntmps6
    go_wp2
    all_goals first | (go_ret; exact ⟨rfl, by go_grown⟩) | go_ways


set_option maxRecDepth 100000 in
theorem opened {H : Type} {enc : TypeId × Value → H} (W : World) (base : Nat) (args : Array Value) (ds : List (DataW H)) (ps : List MemPlace)
    (hval : ∀ (j : Nat) t v, (#[3, 3] : Array TypeId)[j]? = some t → args[j]? = some v → Value.okWide Try.prog W .any base t v)
    (hA : DataW.TrodAll enc Try.prog W 0 (fun _ => true) true [3, 3] args.toList ds ps) :
    Calls Try.prog 6 args W fun e W' => e = .returned (.bool true) ∧ Below W.heap.size W W' := by
  obtain ⟨v0, vs0, d0, ds0, p0, q0, hargs, rfl, rfl, h0, r0⟩ := trodAll_cons hA
  obtain ⟨v1, vs1, d1, ds1, p1, q1, rfl, rfl, rfl, h1, r1⟩ := trodAll_cons r0
  obtain ⟨rfl, rfl, rfl⟩ := trodAll_nil r1
  obtain rfl : args = #[v0, v1] := by cases args; simp_all
  obtain ⟨a0, rfl, rfl, rfl, w0⟩ := open_int Try.underlying3 (hval 0 3 v0 rfl rfl) h0
  obtain ⟨a1, rfl, rfl, rfl, w1⟩ := open_int Try.underlying3 (hval 1 3 v1 rfl rfl) h1
  exact walk a0 (bounds_i64 w0) a1 (bounds_i64 w1) W
end Go.Proofs.Ytbgkgjbgebnglaa.lawExpectHolds
