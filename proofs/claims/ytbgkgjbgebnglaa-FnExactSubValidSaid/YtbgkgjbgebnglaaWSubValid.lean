/-
  FnExactSubValid returns true at every subscriber: the program's SubValid is the reference's. No condition.
-/
import Derived.Test.YtbgkgjbgebnglaaSub
namespace Go.Proofs.Ytbgkgjbgebnglaa.lawSubValid
open Go.ChangeShapes Go.WideShapes Go.ChangeAt Go.RowKit

theorem walk (s : ByteArray) (hs : StrOk s) (n : Int) (_hn : IntOk n) (w : World) : Calls Try.prog 5 #[.agg #[.string s, .int .i64 n]] w fun e w' => e = .returned (.bool true) ∧ Below w.heap.size w w' := by
  by_cases c : (1048576 : Int) < s.size
  · have e : Hid (szN 1048576 s.size = -1) := Lib.hid (by unfold szN; rw [if_pos c])
    go_enter Try.func5, Try.ntmps5
    go_wp2_with (first | (go_at_call 17; refine (szSub_any _ _ _ (by omega) (by omega) hs _).mono ?_; rintro e1 w1 ⟨rfl, hb1⟩; rw [e.out]; have c0 := box_cell hb1 (b := w.heap.size) (o := 0) (u := .string s) (by first | assumption | go_cell); have c1 := box_cell hb1 (b := w.heap.size) (o := 1) (u := .int .i64 n) (by first | assumption | go_cell)))
    go_ret
    exact ⟨rfl, (by repeat' (first | (with_reducible exact Below.refl _ _) | (with_reducible refine below_step (by assumption) ?_) | (with_reducible refine below_alloc ?_ _) | (with_reducible refine Below.drew ?_) | (with_reducible refine Below.setCell ?_ ?_ _) | go_size))⟩
  · have e : Hid (szN 1048576 s.size = 1048576 - s.size) := Lib.hid (by unfold szN; rw [if_neg c])
    go_enter Try.func5, Try.ntmps5
    go_wp2_with (first
      | (go_at_call 17; refine (szSub_any _ _ _ (by omega) (by omega) hs _).mono ?_; rintro e1 w1 ⟨rfl, hb1⟩; rw [e.out]; have c0 := box_cell hb1 (b := w.heap.size) (o := 0) (u := .string s) (by first | assumption | go_cell); have c1 := box_cell hb1 (b := w.heap.size) (o := 1) (u := .int .i64 n) (by first | assumption | go_cell))
      | (go_at_call 19; refine (toSub_any _ _ _).mono ?_; rintro e2 w2 ⟨rfl, hb2⟩; have c0 := box_cell hb2 (b := w.heap.size) (o := 0) (u := .string s) (by first | assumption | go_cell); have c1 := box_cell hb2 (b := w.heap.size) (o := 1) (u := .int .i64 n) (by first | assumption | go_cell))
      | (go_at_call 18; refine (specSub_any _ _ hs _).mono ?_; rintro e2 w2 ⟨rfl, hb2⟩; have c0 := box_cell hb2 (b := w.heap.size) (o := 0) (u := .string s) (by first | assumption | go_cell); have c1 := box_cell hb2 (b := w.heap.size) (o := 1) (u := .int .i64 n) (by first | assumption | go_cell))
      | (go_at_call 20; refine (implSub_any _ _ hs _).mono ?_; rintro e2 w2 ⟨rfl, hb2⟩; have c0 := box_cell hb2 (b := w.heap.size) (o := 0) (u := .string s) (by first | assumption | go_cell); have c1 := box_cell hb2 (b := w.heap.size) (o := 1) (u := .int .i64 n) (by first | assumption | go_cell)))
    go_ret
    exact ⟨rfl, (by repeat' (first | (with_reducible exact Below.refl _ _) | (with_reducible refine below_step (by assumption) ?_) | (with_reducible refine below_alloc ?_ _) | (with_reducible refine Below.drew ?_) | (with_reducible refine Below.setCell ?_ ?_ _) | go_size))⟩


set_option maxRecDepth 100000 in
theorem opened {H : Type} {enc : TypeId × Value → H} (W : World) (base : Nat) (args : Array Value) (ds : List (DataW H)) (ps : List MemPlace)
    (hval : ∀ (j : Nat) t v, (#[25] : Array TypeId)[j]? = some t → args[j]? = some v → Value.okWide Try.prog W .any base t v)
    (hA : DataW.TrodAll enc Try.prog W 0 (fun _ => true) true [25] args.toList ds ps) :
    Calls Try.prog 5 args W fun e W' => e = .returned (.bool true) ∧ Below W.heap.size W W' := by
  obtain ⟨v0, vs0, d0, ds0, p0, q0, hargs, rfl, rfl, h0, r0⟩ := trodAll_cons hA
  obtain ⟨rfl, rfl, rfl⟩ := trodAll_nil r0
  obtain rfl : args = #[v0] := by cases args; simp_all
  obtain ⟨cs0, rfl, hc0⟩ := open_cells (ks := [1, 0]) Try.underlying25 (by kernel_rfl) (hval 0 25 v0 rfl rfl) h0
  obtain ⟨c0_0, c0_1, rfl⟩ : ∃ c0_0 c0_1 : Value, cs0 = [c0_0, c0_1] := by
    have hl := hc0.length
    match cs0, hl with
    | [c0_0, c0_1], _ => exact ⟨_, _, rfl⟩
  obtain ⟨⟨x0_0, rfl, o0_0⟩, ⟨x0_1, rfl, o0_1⟩, _⟩ := hc0
  exact walk x0_0 o0_0 x0_1 o0_1 W
end Go.Proofs.Ytbgkgjbgebnglaa.lawSubValid
