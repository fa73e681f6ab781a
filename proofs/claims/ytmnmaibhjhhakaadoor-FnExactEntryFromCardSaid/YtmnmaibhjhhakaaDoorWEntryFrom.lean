/-
  FnExactEntryFrom returns true at every input: the program's EntryFrom is the reference's, leaves its arguments as they were, and its result is its own. No condition.
-/
import Derived.Test.YtmnmaibhjhhakaaDoorEntS
import Derived.Test.YtmnmaibhjhhakaaDoorBunT
namespace Go.Proofs.YtmnmaibhjhhakaaDoor.lawEntryFrom
open Go.ChangeShapes Go.WideShapes Go.ChangeAt Go.RowKit

set_option maxHeartbeats 6400000 in
theorem walk (s : ByteArray) (_hs : StrOk s) (w : World) (hQ : (∃ a, Sent a w) ∧ MaxL w ∧ HasTab w ∧ HandE w) :
    Calls Tryd.prog 4 #[.string s] w fun e w' => e = .returned (.bool true) ∧ Below w.heap.size w w' := by
  obtain ⟨⟨aS, hS⟩, hM, hT, hE⟩ := hQ
  by_cases cs0 : (1048576 : Int) < s.size
  · skip
    have HB : Below w.heap.size w w := Below.refl _ _
    go_enter Tryd.func4, Tryd.ntmps4
    go_wp2
    go_ret
    exact ⟨rfl, (by repeat' (first | (with_reducible exact Below.refl _ _) | (with_reducible assumption) | (with_reducible refine below_step (by assumption) ?_) | (with_reducible refine below_alloc ?_ _) | (with_reducible refine Below.drew ?_) | (with_reducible refine below_drewN ?_ _) | (with_reducible refine Below.setCell ?_ ?_ _) | go_size))⟩
  have hns : s.size ≤ 1048576 := by omega
  obtain ⟨⟨d0, d1, d2, d3⟩, bb, hres⟩ : ∃ r b, entR s = (r, b) := ⟨_, _, rfl⟩
  have HRS := Lib.hid hres
  clear hres
  have HB : Below w.heap.size w w := Below.refl _ _
  go_enter Tryd.func4, Tryd.ntmps4
  go_wp2_with fail
  refine (specEntFrom_as s d0 d1 d2 d3 bb HRS.out hns _).mono ?_
  rintro e1 w1 ⟨rfl, b1⟩
  have HB := below_step b1 HB
  have zz1 := b1.size
  go_wp2_with fail
  refine (implEntFrom_as s d0 d1 d2 d3 bb HRS.out hns _ aS (hS.below (below_step (below_alloc (Below.refl _ _) _) HB) (Nat.le_refl _)) (hM.below (below_step (below_alloc (Below.refl _ _) _) HB)) (hT.below (below_step (below_alloc (Below.refl _ _) _) HB) (Nat.le_refl _)) (hE.below (below_step (below_alloc (Below.refl _ _) _) HB))).mono ?_
  rintro e1 w2 ⟨rfl, b2⟩
  have hs2 := b2.size
  simp only [World.size_alloc] at hs2
  have cbw0_0 := box_cell b2 (b := w1.heap.size) (o := 0) (u := .string (d0)) (by go_cell)
  have cbw0_1 := box_cell b2 (b := w1.heap.size) (o := 1) (u := .int .i64 (d1)) (by go_cell)
  have cbw0_2 := box_cell b2 (b := w1.heap.size) (o := 2) (u := .string (d2)) (by go_cell)
  have cbw0_3 := box_cell b2 (b := w1.heap.size) (o := 3) (u := .int .i64 (d3)) (by go_cell)
  have b2 := below_step b2 (below_alloc (Below.refl _ _) _)
  have ltcbw0 : w1.heap.size < w2.heap.size := World.block_lt_of_cell? w2 _ cbw0_0
  have HB := below_step b2 HB
  have zz2 := b2.size
  go_wp2_with fail
  refine (eqEntry_any (d0, d1, d2, d3) (d0, d1, d2, d3) _).mono ?_
  rintro e1 w3 ⟨rfl, b3⟩
  rw [dec_self]
  have hs3 := b3.size
  simp only [World.size_alloc] at hs3
  have cbg0_0 := box_cell b3 (b := w2.heap.size) (o := 0) (u := .string (d0)) (by go_cell)
  have cbg0_1 := box_cell b3 (b := w2.heap.size) (o := 1) (u := .int .i64 (d1)) (by go_cell)
  have cbg0_2 := box_cell b3 (b := w2.heap.size) (o := 2) (u := .string (d2)) (by go_cell)
  have cbg0_3 := box_cell b3 (b := w2.heap.size) (o := 3) (u := .int .i64 (d3)) (by go_cell)
  have b3 := below_step b3 (below_alloc (Below.refl _ _) _)
  have cbw0_0 := box_cell b3 cbw0_0
  have cbw0_1 := box_cell b3 cbw0_1
  have cbw0_2 := box_cell b3 cbw0_2
  have cbw0_3 := box_cell b3 cbw0_3
  have ltcbw0 : w1.heap.size < w3.heap.size := World.block_lt_of_cell? w3 _ cbw0_0
  have ltcbg0 : w2.heap.size < w3.heap.size := World.block_lt_of_cell? w3 _ cbg0_0
  have HB := below_step b3 HB
  have zz3 := b3.size
  go_wp2
  go_ret
  exact ⟨rfl, HB⟩



set_option maxRecDepth 100000 in
theorem opened {H : Type} {enc : TypeId × Value → H} (W : World) (base : Nat) (args : Array Value) (ds : List (DataW H)) (ps : List MemPlace)
    (hval : ∀ (j : Nat) t v, (#[9] : Array TypeId)[j]? = some t → args[j]? = some v → Value.okWide Tryd.prog W .any base t v)
    (hA : DataW.TrodAll enc Tryd.prog W 0 (fun _ => true) true [9] args.toList ds ps) (hL : (∃ a, Sent a W) ∧ MaxL W ∧ HasTab W ∧ HandE W) :
    Calls Tryd.prog 4 args W fun e W' => e = .returned (.bool true) ∧ Below W.heap.size W W' := by
  obtain ⟨v0, vs0, d0, ds0, p0, q0, hargs, rfl, rfl, h0, r0⟩ := trodAll_cons hA
  obtain ⟨rfl, rfl, rfl⟩ := trodAll_nil r0
  obtain rfl : args = #[v0] := by cases args; simp_all
  obtain ⟨a0, rfl, rfl, rfl, w0⟩ := Go.ChangeMaps.open_string Tryd.underlying9 (hval 0 9 v0 rfl rfl) h0
  exact walk a0 w0 W hL
end Go.Proofs.YtmnmaibhjhhakaaDoor.lawEntryFrom
