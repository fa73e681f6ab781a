/-
  FnExactFoldValid returns true at every fold: the program's FoldValid is the reference's. No condition.
-/
import Derived.Test.YtbgkgjbgebnglaaFold
namespace Go.Proofs.Ytbgkgjbgebnglaa.lawFoldValid
open Go.ChangeShapes Go.WideShapes Go.ChangeAt Go.RowKit

theorem walk (v : Int) (hv : IntOk v) (s : Int) (_hs : IntOk s) (l : ByteArray) (hl : StrOk l) (w : World) :
    Calls Try.prog 8 #[.agg #[.int .i64 v, .int .i64 s, .string l]] w fun e w' => e = .returned (.bool true) ∧ Below w.heap.size w w' := by
  by_cases c : (1048576 : Int) < l.size
  · have e : Hid (szN 1048576 l.size = -1) := Lib.hid (by unfold szN; rw [if_pos c])
    go_enter Try.func8, Try.ntmps8
    go_wp2_with (first | (go_at_call 27; refine (szFold_any _ _ _ _ (by omega) (by omega) hl _).mono ?_; rintro e1 w1 ⟨rfl, hb1⟩; rw [e.out]))
    go_ret
    exact ⟨rfl, (by repeat' (first | (with_reducible exact Below.refl _ _) | (with_reducible refine below_step (by assumption) ?_) | (with_reducible refine below_alloc ?_ _) | (with_reducible refine Below.drew ?_) | (with_reducible refine Below.setCell ?_ ?_ _) | go_size))⟩
  · have e : Hid (szN 1048576 l.size = 1048576 - l.size) := Lib.hid (by unfold szN; rw [if_neg c])
    go_enter Try.func8, Try.ntmps8
    go_wp2_with (first
      | (go_at_call 27; refine (szFold_any _ _ _ _ (by omega) (by omega) hl _).mono ?_; rintro e1 w1 ⟨rfl, hb1⟩; rw [e.out]; have c0 := box_cell hb1 (b := w.heap.size) (o := 0) (u := .int .i64 v) (by first | assumption | go_cell); have c1 := box_cell hb1 (b := w.heap.size) (o := 1) (u := .int .i64 s) (by first | assumption | go_cell); have c2 := box_cell hb1 (b := w.heap.size) (o := 2) (u := .string l) (by first | assumption | go_cell))
      | (go_at_call 29; refine (toFold_any _ _ _ _).mono ?_; rintro e1 w1 ⟨rfl, hb1⟩; have c0 := box_cell hb1 (b := w.heap.size) (o := 0) (u := .int .i64 v) (by first | assumption | go_cell); have c1 := box_cell hb1 (b := w.heap.size) (o := 1) (u := .int .i64 s) (by first | assumption | go_cell); have c2 := box_cell hb1 (b := w.heap.size) (o := 2) (u := .string l) (by first | assumption | go_cell))
      | (go_at_call 28; refine (specFold_any _ _ _ hv hl _).mono ?_; rintro e1 w1 ⟨rfl, hb1⟩; have c0 := box_cell hb1 (b := w.heap.size) (o := 0) (u := .int .i64 v) (by first | assumption | go_cell); have c1 := box_cell hb1 (b := w.heap.size) (o := 1) (u := .int .i64 s) (by first | assumption | go_cell); have c2 := box_cell hb1 (b := w.heap.size) (o := 2) (u := .string l) (by first | assumption | go_cell))
      | (go_at_call 30; refine (implFold_any _ _ _ hv hl _).mono ?_; rintro e1 w1 ⟨rfl, hb1⟩; have c0 := box_cell hb1 (b := w.heap.size) (o := 0) (u := .int .i64 v) (by first | assumption | go_cell); have c1 := box_cell hb1 (b := w.heap.size) (o := 1) (u := .int .i64 s) (by first | assumption | go_cell); have c2 := box_cell hb1 (b := w.heap.size) (o := 2) (u := .string l) (by first | assumption | go_cell)))
    go_ret
    exact ⟨rfl, (by repeat' (first | (with_reducible exact Below.refl _ _) | (with_reducible refine below_step (by assumption) ?_) | (with_reducible refine below_alloc ?_ _) | (with_reducible refine Below.drew ?_) | (with_reducible refine Below.setCell ?_ ?_ _) | go_size))⟩



set_option maxRecDepth 100000 in
theorem opened {H : Type} {enc : TypeId × Value → H} (W : World) (base : Nat) (args : Array Value) (ds : List (DataW H)) (ps : List MemPlace)
    (hval : ∀ (j : Nat) t v, (#[40] : Array TypeId)[j]? = some t → args[j]? = some v → Value.okWide Try.prog W .any base t v)
    (hA : DataW.TrodAll enc Try.prog W 0 (fun _ => true) true [40] args.toList ds ps) :
    Calls Try.prog 8 args W fun e W' => e = .returned (.bool true) ∧ Below W.heap.size W W' := by
  obtain ⟨v0, vs0, d0, ds0, p0, q0, hargs, rfl, rfl, h0, r0⟩ := trodAll_cons hA
  obtain ⟨rfl, rfl, rfl⟩ := trodAll_nil r0
  obtain rfl : args = #[v0] := by cases args; simp_all
  obtain ⟨cs0, rfl, hc0⟩ := open_cells (ks := [0, 0, 1]) Try.underlying40 (by kernel_rfl) (hval 0 40 v0 rfl rfl) h0
  obtain ⟨c0_0, c0_1, c0_2, rfl⟩ : ∃ c0_0 c0_1 c0_2 : Value, cs0 = [c0_0, c0_1, c0_2] := by
    have hl := hc0.length
    match cs0, hl with
    | [c0_0, c0_1, c0_2], _ => exact ⟨_, _, _, rfl⟩
  obtain ⟨⟨x0_0, rfl, o0_0⟩, ⟨x0_1, rfl, o0_1⟩, ⟨x0_2, rfl, o0_2⟩, _⟩ := hc0
  exact walk x0_0 o0_0 x0_1 o0_1 x0_2 o0_2 W
end Go.Proofs.Ytbgkgjbgebnglaa.lawFoldValid
