/-
  FnExactShopNew returns true at every int: the program's ShopNew is the reference's, and no slice of its result has a place in memory. No condition.
-/
import Derived.Test.YtinghmdpjgbefaaFrame
import Derived.Test.YtinghmdpjgbefaaBase
import Derived.Test.YtinghmdpjgbefaaNil
namespace Go.Proofs.Ytinghmdpjgbefaa.lawShopNew
open Go.ChangeShapes Go.WideShapes Go.ChangeAt Go.RowKit

set_option maxRecDepth 8000 in
set_option maxHeartbeats 6400000 in
theorem walk (n : Int) (hn : IntOk n) (w : World) : Calls Try.prog 8 #[.int .i64 n] w fun e w' => e = .returned (.bool true) ∧ Below w.heap.size w w' := by
  obtain ⟨hlo, hhi⟩ := hn
  rcases (show n < 1 ∨ (1 ≤ n ∧ n ≤ 8) ∨ 8 < n from by omega) with h | ⟨h, h'⟩ | h
  · have d1 : decide ((1:Int) ≤ n) = false := decide_eq_false (by omega)
    have d2 : decide (n < (1:Int)) = true := decide_eq_true (by omega)
    go_enter Try.func8, Try.ntmps8
    go_wp2_with (first
      | (go_at_call 60; refine (eqLockS_nil _).mono ?_; rintro e1 w1 ⟨rfl, rfl⟩)
      | (go_at_call 62; refine (markLockS_nil _ _).mono ?_; rintro e1 w1 ⟨rfl, rfl⟩)
      | (go_at_call 64; refine (heldLockS_nil _ _).mono ?_; rintro e1 w1 ⟨rfl, rfl⟩)
      | (go_at_call 61; refine (eqSlotS_nil _).mono ?_; rintro e1 w1 ⟨rfl, rfl⟩)
      | (go_at_call 63; refine (markSlotS_nil _ _).mono ?_; rintro e1 w1 ⟨rfl, rfl⟩)
      | (go_at_call 65; refine (heldSlotS_nil _ _).mono ?_; rintro e1 w1 ⟨rfl, rfl⟩)
      | (go_at_call 27; refine (eqIntS_nil _).mono ?_; rintro e1 w1 ⟨rfl, rfl⟩)
      | (go_at_call 29; refine (markIntS_nil _ _).mono ?_; rintro e1 w1 ⟨rfl, rfl⟩)
      | (go_at_call 30; refine (heldIntS_nil _ _).mono ?_; rintro e1 w1 ⟨rfl, rfl⟩) | go_in)
    go_ret
    exact ⟨rfl, (by repeat' (first | (with_reducible exact Below.refl _ _) | (with_reducible assumption) | (with_reducible refine below_step (by assumption) ?_) | (with_reducible refine below_alloc ?_ _) | (with_reducible refine Below.drew ?_) | (with_reducible refine below_drewN ?_ _) | (with_reducible refine Below.setCell ?_ ?_ _) | go_size))⟩
  · have d1 : decide ((1:Int) ≤ n) = true := decide_eq_true (by omega)
    have d2 : decide (n < (1:Int)) = false := decide_eq_false (by omega)
    have d3 : decide (n ≤ (8:Int)) = true := decide_eq_true (by omega)
    have d4 : decide ((8:Int) < n) = false := decide_eq_false (by omega)
    go_enter Try.func8, Try.ntmps8
    go_wp2_with (first
      | (go_at_call 60; refine (eqLockS_nil _).mono ?_; rintro e1 w1 ⟨rfl, rfl⟩)
      | (go_at_call 62; refine (markLockS_nil _ _).mono ?_; rintro e1 w1 ⟨rfl, rfl⟩)
      | (go_at_call 64; refine (heldLockS_nil _ _).mono ?_; rintro e1 w1 ⟨rfl, rfl⟩)
      | (go_at_call 61; refine (eqSlotS_nil _).mono ?_; rintro e1 w1 ⟨rfl, rfl⟩)
      | (go_at_call 63; refine (markSlotS_nil _ _).mono ?_; rintro e1 w1 ⟨rfl, rfl⟩)
      | (go_at_call 65; refine (heldSlotS_nil _ _).mono ?_; rintro e1 w1 ⟨rfl, rfl⟩)
      | (go_at_call 27; refine (eqIntS_nil _).mono ?_; rintro e1 w1 ⟨rfl, rfl⟩)
      | (go_at_call 29; refine (markIntS_nil _ _).mono ?_; rintro e1 w1 ⟨rfl, rfl⟩)
      | (go_at_call 30; refine (heldIntS_nil _ _).mono ?_; rintro e1 w1 ⟨rfl, rfl⟩) | go_in)
    go_ret
    exact ⟨rfl, (by repeat' (first | (with_reducible exact Below.refl _ _) | (with_reducible assumption) | (with_reducible refine below_step (by assumption) ?_) | (with_reducible refine below_alloc ?_ _) | (with_reducible refine Below.drew ?_) | (with_reducible refine below_drewN ?_ _) | (with_reducible refine Below.setCell ?_ ?_ _) | go_size))⟩
  · have d1 : decide ((1:Int) ≤ n) = true := decide_eq_true (by omega)
    have d2 : decide (n < (1:Int)) = false := decide_eq_false (by omega)
    have d3 : decide (n ≤ (8:Int)) = false := decide_eq_false (by omega)
    have d4 : decide ((8:Int) < n) = true := decide_eq_true (by omega)
    go_enter Try.func8, Try.ntmps8
    go_wp2_with (first
      | (go_at_call 60; refine (eqLockS_nil _).mono ?_; rintro e1 w1 ⟨rfl, rfl⟩)
      | (go_at_call 62; refine (markLockS_nil _ _).mono ?_; rintro e1 w1 ⟨rfl, rfl⟩)
      | (go_at_call 64; refine (heldLockS_nil _ _).mono ?_; rintro e1 w1 ⟨rfl, rfl⟩)
      | (go_at_call 61; refine (eqSlotS_nil _).mono ?_; rintro e1 w1 ⟨rfl, rfl⟩)
      | (go_at_call 63; refine (markSlotS_nil _ _).mono ?_; rintro e1 w1 ⟨rfl, rfl⟩)
      | (go_at_call 65; refine (heldSlotS_nil _ _).mono ?_; rintro e1 w1 ⟨rfl, rfl⟩)
      | (go_at_call 27; refine (eqIntS_nil _).mono ?_; rintro e1 w1 ⟨rfl, rfl⟩)
      | (go_at_call 29; refine (markIntS_nil _ _).mono ?_; rintro e1 w1 ⟨rfl, rfl⟩)
      | (go_at_call 30; refine (heldIntS_nil _ _).mono ?_; rintro e1 w1 ⟨rfl, rfl⟩) | go_in)
    go_ret
    exact ⟨rfl, (by repeat' (first | (with_reducible exact Below.refl _ _) | (with_reducible assumption) | (with_reducible refine below_step (by assumption) ?_) | (with_reducible refine below_alloc ?_ _) | (with_reducible refine Below.drew ?_) | (with_reducible refine below_drewN ?_ _) | (with_reducible refine Below.setCell ?_ ?_ _) | go_size))⟩


set_option maxRecDepth 100000 in
theorem opened {H : Type} {enc : TypeId × Value → H} (W : World) (base : Nat) (args : Array Value) (ds : List (DataW H)) (ps : List MemPlace)
    (hval : ∀ (j : Nat) t v, (#[3] : Array TypeId)[j]? = some t → args[j]? = some v → Value.okWide Try.prog W .any base t v)
    (hA : DataW.TrodAll enc Try.prog W 0 (fun _ => true) true [3] args.toList ds ps) :
    Calls Try.prog 8 args W fun e W' => e = .returned (.bool true) ∧ Below W.heap.size W W' := by
  obtain ⟨v0, vs0, d0, ds0, p0, q0, hargs, rfl, rfl, h0, r0⟩ := trodAll_cons hA
  obtain ⟨rfl, rfl, rfl⟩ := trodAll_nil r0
  obtain rfl : args = #[v0] := by cases args; simp_all
  obtain ⟨a0, rfl, rfl, rfl, w0⟩ := open_int Try.underlying3 (hval 0 3 v0 rfl rfl) h0
  exact walk a0 (bounds_i64 w0) W
end Go.Proofs.Ytinghmdpjgbefaa.lawShopNew
