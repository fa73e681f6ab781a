/-
  FnExactEventValid returns true at every event: the program's EventValid is the reference's. No condition.
-/
import Derived.Test.YtbgkgjbgebnglaaEvent
namespace Go.Proofs.Ytbgkgjbgebnglaa.lawEventValid
open Go.ChangeShapes Go.WideShapes Go.ChangeAt Go.RowKit

theorem implEvent_any (id : Int) (k : ByteArray) (d : Int) (hs : StrOk k) (w : World) :
    Calls Try.prog 26 #[.agg #[.int .i64 id, .string k, .int .i64 d]] w fun e w' => e = .returned (.bool (eventB id k d)) ∧ Below w.heap.size w w' := by
  go_enter Try.func26, Try.ntmps26
  go_wp2_with (go_at_call 60; refine (eventValid_any _ _ _ hs _).mono ?_; rintro e w' ⟨rfl, hb⟩)
  go_ret
  exact ⟨rfl, (by repeat' (first | (with_reducible exact Below.refl _ _) | (with_reducible refine below_step (by assumption) ?_) | (with_reducible refine below_alloc ?_ _) | (with_reducible refine Below.drew ?_) | (with_reducible refine Below.setCell ?_ ?_ _) | go_size))⟩

theorem walk (id : Int) (_hi : IntOk id) (k : ByteArray) (hs : StrOk k) (d : Int) (_hd : IntOk d) (w : World) :
    Calls Try.prog 7 #[.agg #[.int .i64 id, .string k, .int .i64 d]] w fun e w' => e = .returned (.bool true) ∧ Below w.heap.size w w' := by
  by_cases c : (1048576 : Int) < k.size
  · have e : Hid (szN 1048576 k.size = -1) := Lib.hid (by unfold szN; rw [if_pos c])
    go_enter Try.func7, Try.ntmps7
    go_wp2_with (first | (go_at_call 23; refine (szEvent_any _ _ _ _ (by omega) (by omega) hs _).mono ?_; rintro e1 w1 ⟨rfl, hb1⟩; rw [e.out]))
    go_ret
    exact ⟨rfl, (by repeat' (first | (with_reducible exact Below.refl _ _) | (with_reducible refine below_step (by assumption) ?_) | (with_reducible refine below_alloc ?_ _) | (with_reducible refine Below.drew ?_) | (with_reducible refine Below.setCell ?_ ?_ _) | go_size))⟩
  · have e : Hid (szN 1048576 k.size = 1048576 - k.size) := Lib.hid (by unfold szN; rw [if_neg c])
    go_enter Try.func7, Try.ntmps7
    go_wp2_with (first
      | (go_at_call 23; refine (szEvent_any _ _ _ _ (by omega) (by omega) hs _).mono ?_; rintro e1 w1 ⟨rfl, hb1⟩; rw [e.out]; have c0 := box_cell hb1 (b := w.heap.size) (o := 0) (u := .int .i64 id) (by first | assumption | go_cell); have c1 := box_cell hb1 (b := w.heap.size) (o := 1) (u := .string k) (by first | assumption | go_cell); have c2 := box_cell hb1 (b := w.heap.size) (o := 2) (u := .int .i64 d) (by first | assumption | go_cell))
      | (go_at_call 25; refine (toEvent_any _ _ _ _).mono ?_; rintro e1 w1 ⟨rfl, hb1⟩; have c0 := box_cell hb1 (b := w.heap.size) (o := 0) (u := .int .i64 id) (by first | assumption | go_cell); have c1 := box_cell hb1 (b := w.heap.size) (o := 1) (u := .string k) (by first | assumption | go_cell); have c2 := box_cell hb1 (b := w.heap.size) (o := 2) (u := .int .i64 d) (by first | assumption | go_cell))
      | (go_at_call 24; refine (specEvent_any _ _ _ hs _).mono ?_; rintro e1 w1 ⟨rfl, hb1⟩; have c0 := box_cell hb1 (b := w.heap.size) (o := 0) (u := .int .i64 id) (by first | assumption | go_cell); have c1 := box_cell hb1 (b := w.heap.size) (o := 1) (u := .string k) (by first | assumption | go_cell); have c2 := box_cell hb1 (b := w.heap.size) (o := 2) (u := .int .i64 d) (by first | assumption | go_cell))
      | (go_at_call 26; refine (implEvent_any _ _ _ hs _).mono ?_; rintro e1 w1 ⟨rfl, hb1⟩; have c0 := box_cell hb1 (b := w.heap.size) (o := 0) (u := .int .i64 id) (by first | assumption | go_cell); have c1 := box_cell hb1 (b := w.heap.size) (o := 1) (u := .string k) (by first | assumption | go_cell); have c2 := box_cell hb1 (b := w.heap.size) (o := 2) (u := .int .i64 d) (by first | assumption | go_cell)))
    go_ret
    exact ⟨rfl, (by repeat' (first | (with_reducible exact Below.refl _ _) | (with_reducible refine below_step (by assumption) ?_) | (with_reducible refine below_alloc ?_ _) | (with_reducible refine Below.drew ?_) | (with_reducible refine Below.setCell ?_ ?_ _) | go_size))⟩



set_option maxRecDepth 100000 in
theorem opened {H : Type} {enc : TypeId × Value → H} (W : World) (base : Nat) (args : Array Value) (ds : List (DataW H)) (ps : List MemPlace)
    (hval : ∀ (j : Nat) t v, (#[33] : Array TypeId)[j]? = some t → args[j]? = some v → Value.okWide Try.prog W .any base t v)
    (hA : DataW.TrodAll enc Try.prog W 0 (fun _ => true) true [33] args.toList ds ps) :
    Calls Try.prog 7 args W fun e W' => e = .returned (.bool true) ∧ Below W.heap.size W W' := by
  obtain ⟨v0, vs0, d0, ds0, p0, q0, hargs, rfl, rfl, h0, r0⟩ := trodAll_cons hA
  obtain ⟨rfl, rfl, rfl⟩ := trodAll_nil r0
  obtain rfl : args = #[v0] := by cases args; simp_all
  obtain ⟨cs0, rfl, hc0⟩ := open_cells (ks := [0, 1, 0]) Try.underlying33 (by kernel_rfl) (hval 0 33 v0 rfl rfl) h0
  obtain ⟨c0_0, c0_1, c0_2, rfl⟩ : ∃ c0_0 c0_1 c0_2 : Value, cs0 = [c0_0, c0_1, c0_2] := by
    have hl := hc0.length
    match cs0, hl with
    | [c0_0, c0_1, c0_2], _ => exact ⟨_, _, _, rfl⟩
  obtain ⟨⟨x0_0, rfl, o0_0⟩, ⟨x0_1, rfl, o0_1⟩, ⟨x0_2, rfl, o0_2⟩, _⟩ := hc0
  exact walk x0_0 o0_0 x0_1 o0_1 x0_2 o0_2 W
end Go.Proofs.Ytbgkgjbgebnglaa.lawEventValid
