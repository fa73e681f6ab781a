/-
  FnExactEventText returns true at every event: the program's EventText is the reference's. No condition beyond what the row lists.
-/
import Derived.Test.YtinghmdpjgbefaaDoorEvText
namespace Go.Proofs.YtinghmdpjgbefaaDoor.lawEventText
open Go.ChangeShapes Go.WideShapes Go.ChangeAt Go.RowKit

/-- The text, or none where the event is not valid. -/
def outE (id : Int) (k : ByteArray) (d : Int) : ByteArray := if eventB id k d then textE id k d else ⟨#[]⟩
theorem eventB_parts {id : Int} {k : ByteArray} {d : Int} (h : eventB id k d = true) : 1 ≤ id ∧ id ≤ 9999 ∧ k.size ≤ 6 ∧ 0 ≤ d ∧ d ≤ 999 := by
  unfold eventB at h
  simp only [Bool.and_eq_true] at h
  obtain ⟨⟨h1, h2⟩, h3⟩ := h
  rw [inB_iff] at h1 h3
  have h4 : inB (k.size : Int) 1 6 = true := by
    unfold wordB at h2
    simp only [Bool.and_eq_true] at h2
    first | exact h2.1 | exact h2.2
  rw [inB_iff] at h4
  omega

theorem specText_any (id : Int) (k : ByteArray) (d : Int) (hs : StrOk k) (w : World) :
    Calls Tryd.prog 18 #[.agg #[.int .i64 id, .string k, .int .i64 d]] w fun e w' => e = .returned (.string (outE id k d)) ∧ Below w.heap.size w w' := by
  cases E : eventB id k d
  · have ho := Lib.hid (show outE id k d = ⟨#[]⟩ by unfold outE; rw [E]; rfl)
    go_enter Tryd.func18, Tryd.ntmps18
    go_wp2_with (go_at_call 35; refine (specEvent_any _ _ _ hs _).mono ?_; rintro e w1 ⟨rfl, hb1⟩; rw [E])
    go_ret
    exact ⟨by rw [ho.out]; rfl, (by repeat' (first | (with_reducible exact Below.refl _ _) | (with_reducible assumption) | (with_reducible refine below_step (by assumption) ?_) | (with_reducible refine below_alloc ?_ _) | (with_reducible refine Below.drew ?_) | (with_reducible refine below_drewN ?_ _) | (with_reducible refine Below.setCell ?_ ?_ _) | go_size))⟩
  · have ho := Lib.hid (show outE id k d = textE id k d by unfold outE; rw [E]; rfl)
    obtain ⟨p1, p2, p3, p4, p5⟩ := eventB_parts E
    go_enter Tryd.func18, Tryd.ntmps18
    go_wp2_with (first
      | (go_at_call 35; refine (specEvent_any _ _ _ hs _).mono ?_; rintro e w1 ⟨rfl, hb1⟩; rw [E]; have c0 := box_cell hb1 (b := w.heap.size) (o := 0) (u := .int .i64 id) (by first | assumption | exact box_cell (below_alloc (Below.refl _ _) _) (by assumption) | go_cell); have c1 := box_cell hb1 (b := w.heap.size) (o := 1) (u := .string k) (by first | assumption | exact box_cell (below_alloc (Below.refl _ _) _) (by assumption) | go_cell); have c2 := box_cell hb1 (b := w.heap.size) (o := 2) (u := .int .i64 d) (by first | assumption | exact box_cell (below_alloc (Below.refl _ _) _) (by assumption) | go_cell))
      | (go_at_call 36; refine (l1Text_any _ _ _ p3 (by omega) (by omega) (by omega) (by omega) _).mono ?_; rintro e w2 ⟨rfl, hb2⟩))
    go_ret
    exact ⟨by rw [ho.out]; rfl, (by repeat' (first | (with_reducible exact Below.refl _ _) | (with_reducible assumption) | (with_reducible refine below_step (by assumption) ?_) | (with_reducible refine below_alloc ?_ _) | (with_reducible refine Below.drew ?_) | (with_reducible refine below_drewN ?_ _) | (with_reducible refine Below.setCell ?_ ?_ _) | go_size))⟩

theorem implText_any (id : Int) (k : ByteArray) (d : Int) (hs : StrOk k) (w : World) (HT : HasTab w) :
    Calls Tryd.prog 20 #[.agg #[.int .i64 id, .string k, .int .i64 d]] w fun e w' => e = .returned (.string (outE id k d)) ∧ Below w.heap.size w w' := by
  cases E : eventB id k d
  · have ho := Lib.hid (show outE id k d = ⟨#[]⟩ by unfold outE; rw [E]; rfl)
    go_enter Tryd.func20, Tryd.ntmps20
    go_wp2_with (go_at_call 37; refine (eventValid_any _ _ _ hs _).mono ?_; rintro e w1 ⟨rfl, hb1⟩; rw [E])
    go_ret
    exact ⟨by rw [ho.out]; rfl, (by repeat' (first | (with_reducible exact Below.refl _ _) | (with_reducible assumption) | (with_reducible refine below_step (by assumption) ?_) | (with_reducible refine below_alloc ?_ _) | (with_reducible refine Below.drew ?_) | (with_reducible refine below_drewN ?_ _) | (with_reducible refine Below.setCell ?_ ?_ _) | go_size))⟩
  · have ho := Lib.hid (show outE id k d = textE id k d by unfold outE; rw [E]; rfl)
    obtain ⟨p1, p2, p3, p4, p5⟩ := eventB_parts E
    go_enter Tryd.func20, Tryd.ntmps20
    go_wp2_with (first
      | (go_at_call 37; refine (eventValid_any _ _ _ hs _).mono ?_; rintro e w1 ⟨rfl, hb1⟩; rw [E]; have c0 := box_cell hb1 (b := w.heap.size) (o := 0) (u := .int .i64 id) (by first | assumption | exact box_cell (below_alloc (Below.refl _ _) _) (by assumption) | go_cell); have c1 := box_cell hb1 (b := w.heap.size) (o := 1) (u := .string k) (by first | assumption | exact box_cell (below_alloc (Below.refl _ _) _) (by assumption) | go_cell); have c2 := box_cell hb1 (b := w.heap.size) (o := 2) (u := .int .i64 d) (by first | assumption | exact box_cell (below_alloc (Below.refl _ _) _) (by assumption) | go_cell))
      | (go_at_call 38; refine (eventText_any _ _ _ p3 (by omega) (by omega) (by omega) (by omega) _ (HT.below (show Below w.heap.size w w1 from below_step hb1 (below_alloc (Below.refl _ _) _)) (Nat.le_refl _))).mono ?_; rintro e w2 ⟨rfl, hb2⟩))
    go_ret
    exact ⟨by rw [ho.out]; rfl, (by repeat' (first | (with_reducible exact Below.refl _ _) | (with_reducible assumption) | (with_reducible refine below_step (by assumption) ?_) | (with_reducible refine below_alloc ?_ _) | (with_reducible refine Below.drew ?_) | (with_reducible refine below_drewN ?_ _) | (with_reducible refine Below.setCell ?_ ?_ _) | go_size))⟩

set_option maxHeartbeats 1600000 in
theorem walk (id : Int) (_hi : IntOk id) (k : ByteArray) (hs : StrOk k) (d : Int) (_hd : IntOk d) (w : World) (hL : laidMetH Tryd.prog tabs w) :
    Calls Tryd.prog 7 #[.agg #[.int .i64 id, .string k, .int .i64 d]] w fun e w' => e = .returned (.bool true) ∧ Below w.heap.size w w' := by
  have HT := hasTab_of_laid hL
  clear hL
  by_cases c : (1048576 : Int) < k.size
  · have e : Hid (szN 1048576 k.size = -1) := Lib.hid (by unfold szN; rw [if_pos c])
    go_enter Tryd.func7, Tryd.ntmps7
    go_wp2_with (first | (go_at_call 17; refine (szEvent_any _ _ _ _ (by omega) (by omega) hs _).mono ?_; rintro e1 w1 ⟨rfl, hb1⟩; rw [e.out]))
    go_ret
    exact ⟨rfl, (by repeat' (first | (with_reducible exact Below.refl _ _) | (with_reducible assumption) | (with_reducible refine below_step (by assumption) ?_) | (with_reducible refine below_alloc ?_ _) | (with_reducible refine Below.drew ?_) | (with_reducible refine below_drewN ?_ _) | (with_reducible refine Below.setCell ?_ ?_ _) | go_size))⟩
  · have e : Hid (szN 1048576 k.size = 1048576 - k.size) := Lib.hid (by unfold szN; rw [if_neg c])
    have HB0 : Below w.heap.size w (w.alloc (Obj.cells #[Value.int IntKind.i64 id, Value.string k, Value.int IntKind.i64 d] 30)) := below_alloc (Below.refl _ _) _
    go_enter Tryd.func7, Tryd.ntmps7
    go_wp2_with (first
      | (go_at_call 17; refine (szEvent_any _ _ _ _ (by omega) (by omega) hs _).mono ?_; rintro e1 w1 ⟨rfl, hb1⟩; rw [e.out]; have c0 := box_cell hb1 (b := w.heap.size) (o := 0) (u := .int .i64 id) (by first | assumption | exact box_cell (below_alloc (Below.refl _ _) _) (by assumption) | go_cell); have c1 := box_cell hb1 (b := w.heap.size) (o := 1) (u := .string k) (by first | assumption | exact box_cell (below_alloc (Below.refl _ _) _) (by assumption) | go_cell); have c2 := box_cell hb1 (b := w.heap.size) (o := 2) (u := .int .i64 d) (by first | assumption | exact box_cell (below_alloc (Below.refl _ _) _) (by assumption) | go_cell))
      | (go_at_call 19; refine (toEvent_any _ _ _ _).mono ?_; rintro e1 w2 ⟨rfl, hb1⟩; have c0 := box_cell hb1 (b := w.heap.size) (o := 0) (u := .int .i64 id) (by first | assumption | exact box_cell (below_alloc (Below.refl _ _) _) (by assumption) | go_cell); have c1 := box_cell hb1 (b := w.heap.size) (o := 1) (u := .string k) (by first | assumption | exact box_cell (below_alloc (Below.refl _ _) _) (by assumption) | go_cell); have c2 := box_cell hb1 (b := w.heap.size) (o := 2) (u := .int .i64 d) (by first | assumption | exact box_cell (below_alloc (Below.refl _ _) _) (by assumption) | go_cell))
      | (go_at_call 18; refine (specText_any _ _ _ hs _).mono ?_; rintro e1 w3 ⟨rfl, hb1⟩; have c0 := box_cell hb1 (b := w.heap.size) (o := 0) (u := .int .i64 id) (by first | assumption | exact box_cell (below_alloc (Below.refl _ _) _) (by assumption) | go_cell); have c1 := box_cell hb1 (b := w.heap.size) (o := 1) (u := .string k) (by first | assumption | exact box_cell (below_alloc (Below.refl _ _) _) (by assumption) | go_cell); have c2 := box_cell hb1 (b := w.heap.size) (o := 2) (u := .int .i64 d) (by first | assumption | exact box_cell (below_alloc (Below.refl _ _) _) (by assumption) | go_cell))
      | (go_at_call 20; refine (implText_any _ _ _ hs _ (HT.below (show Below w.heap.size w _ by (repeat' (first | (with_reducible exact Below.refl _ _) | (with_reducible assumption) | (with_reducible refine below_step (by assumption) ?_) | (with_reducible refine below_alloc ?_ _) | (with_reducible refine Below.drew ?_) | (with_reducible refine below_drewN ?_ _) | (with_reducible refine Below.setCell ?_ ?_ _) | go_size))) (Nat.le_refl _))).mono ?_; rintro e1 w4 ⟨rfl, hb1⟩; have c0 := box_cell hb1 (b := w.heap.size) (o := 0) (u := .int .i64 id) (by first | assumption | exact box_cell (below_alloc (Below.refl _ _) _) (by assumption) | go_cell); have c1 := box_cell hb1 (b := w.heap.size) (o := 1) (u := .string k) (by first | assumption | exact box_cell (below_alloc (Below.refl _ _) _) (by assumption) | go_cell); have c2 := box_cell hb1 (b := w.heap.size) (o := 2) (u := .int .i64 d) (by first | assumption | exact box_cell (below_alloc (Below.refl _ _) _) (by assumption) | go_cell)))
    go_ret
    exact ⟨rfl, (by repeat' (first | (with_reducible exact Below.refl _ _) | (with_reducible assumption) | (with_reducible refine below_step (by assumption) ?_) | (with_reducible refine below_alloc ?_ _) | (with_reducible refine Below.drew ?_) | (with_reducible refine below_drewN ?_ _) | (with_reducible refine Below.setCell ?_ ?_ _) | go_size))⟩




set_option maxRecDepth 100000 in
theorem opened {H : Type} {enc : TypeId × Value → H} (W : World) (base : Nat) (args : Array Value) (ds : List (DataW H)) (ps : List MemPlace)
    (hval : ∀ (j : Nat) t v, (#[30] : Array TypeId)[j]? = some t → args[j]? = some v → Value.okWide Tryd.prog W .any base t v)
    (hA : DataW.TrodAll enc Tryd.prog W 0 (fun _ => true) true [30] args.toList ds ps) (hL : laidMetH Tryd.prog tabs W) :
    Calls Tryd.prog 7 args W fun e W' => e = .returned (.bool true) ∧ Below W.heap.size W W' := by
  obtain ⟨v0, vs0, d0, ds0, p0, q0, hargs, rfl, rfl, h0, r0⟩ := trodAll_cons hA
  obtain ⟨rfl, rfl, rfl⟩ := trodAll_nil r0
  obtain rfl : args = #[v0] := by cases args; simp_all
  obtain ⟨cs0, rfl, hc0⟩ := open_cells (ks := [0, 1, 0]) Tryd.underlying30 (by kernel_rfl) (hval 0 30 v0 rfl rfl) h0
  obtain ⟨c0_0, c0_1, c0_2, rfl⟩ : ∃ c0_0 c0_1 c0_2 : Value, cs0 = [c0_0, c0_1, c0_2] := by
    have hl := hc0.length
    match cs0, hl with
    | [c0_0, c0_1, c0_2], _ => exact ⟨_, _, _, rfl⟩
  obtain ⟨⟨x0_0, rfl, o0_0⟩, ⟨x0_1, rfl, o0_1⟩, ⟨x0_2, rfl, o0_2⟩, _⟩ := hc0
  exact walk x0_0 o0_0 x0_1 o0_1 x0_2 o0_2 W hL
end Go.Proofs.YtinghmdpjgbefaaDoor.lawEventText
