/-
  FnExactExpectText returns true at every int: the program's ExpectText is the reference's. No condition beyond what the row lists.
-/
import Derived.Test.YtinghmdpjgbefaaDoorFrameD
import Derived.Test.YtinghmdpjgbefaaDoorShelf
import Derived.Test.YtinghmdpjgbefaaDoorIface
import Derived.Test.YtinghmdpjgbefaaDoorDec
namespace Go.Proofs.YtinghmdpjgbefaaDoor.lawExpectText
open Go.ChangeShapes Go.WideShapes Go.ChangeAt Go.RowKit

set_option maxRecDepth 8000 in
set_option maxHeartbeats 3200000 in
theorem walk (n : Int) (hn : IntOk n) (w : World) : Calls Tryd.prog 4 #[.int .i64 n] w fun e w' => e = .returned (.bool true) ∧ Below w.heap.size w w' := by
  obtain ⟨hlo, hhi⟩ := hn
  rcases (show n < -2 ∨ n = -2 ∨ n = -1 ∨ (0 ≤ n ∧ n ≤ 23) ∨ 23 < n from by omega) with h | rfl | rfl | ⟨h, h'⟩ | h
  case inr.inr.inr.inl =>
    have HI : ∀ W : World, Calls Tryd.prog 27 #[.int .i64 n] W fun e w' => e = .returned (.string (decS n)) ∧ w' = W := fun W => by
      have := Tryd.strconv_Itoa_small n.toNat (by omega) W
      rw [show ((n.toNat : Nat) : Int) = n by omega] at this
      exact this
    go_enter Tryd.func4, Tryd.ntmps4
    go_wp2_with (first
      | (go_at_call 25; refine (l6Dec_any n (by omega) (by omega) _).mono ?_; rintro e1 w1 ⟨rfl, hb1⟩)
      | (go_at_call 27; refine (HI _).mono ?_; rintro e1 w1 ⟨rfl, rfl⟩)
      | go_in)
    go_ret
    exact ⟨rfl, (by repeat' (first | (with_reducible exact Below.refl _ _) | (with_reducible assumption) | (with_reducible refine below_step (by assumption) ?_) | (with_reducible refine below_alloc ?_ _) | (with_reducible refine Below.drew ?_) | (with_reducible refine below_drewN ?_ _) | (with_reducible refine Below.setCell ?_ ?_ _) | go_size))⟩
  all_goals try (have hd : decide (n ≤ 23) = false := by simp; omega)
  all_goals
    go_enter Tryd.func4, Tryd.ntmps4
    go_wp2
    go_ret
    exact ⟨rfl, (by repeat' (first | (with_reducible exact Below.refl _ _) | (with_reducible assumption) | (with_reducible refine below_step (by assumption) ?_) | (with_reducible refine below_alloc ?_ _) | (with_reducible refine Below.drew ?_) | (with_reducible refine below_drewN ?_ _) | (with_reducible refine Below.setCell ?_ ?_ _) | go_size))⟩



set_option maxRecDepth 100000 in
theorem opened {H : Type} {enc : TypeId × Value → H} (W : World) (base : Nat) (args : Array Value) (ds : List (DataW H)) (ps : List MemPlace)
    (hval : ∀ (j : Nat) t v, (#[3] : Array TypeId)[j]? = some t → args[j]? = some v → Value.okWide Tryd.prog W .any base t v)
    (hA : DataW.TrodAll enc Tryd.prog W 0 (fun _ => true) true [3] args.toList ds ps) (_hL : laidMetH Tryd.prog tabs W) :
    Calls Tryd.prog 4 args W fun e W' => e = .returned (.bool true) ∧ Below W.heap.size W W' := by
  obtain ⟨v0, vs0, d0, ds0, p0, q0, hargs, rfl, rfl, h0, r0⟩ := trodAll_cons hA
  obtain ⟨rfl, rfl, rfl⟩ := trodAll_nil r0
  obtain rfl : args = #[v0] := by cases args; simp_all
  obtain ⟨a0, rfl, rfl, rfl, w0⟩ := open_int Tryd.underlying3 (hval 0 3 v0 rfl rfl) h0
  exact walk a0 (bounds_i64 w0) W
end Go.Proofs.YtinghmdpjgbefaaDoor.lawExpectText
