/-
  FnExactEntryText returns true at every input: the program's EntryText is the reference's, leaves its arguments as they were, and its result is its own. No condition.
-/
import Derived.Test.YtipkhmcnkldbbaaDoorEntryL
import Derived.Test.YtipkhmcnkldbbaaDoorBunT
import Derived.Test.YtipkhmcnkldbbaaDoorFrameTS
namespace Go.Proofs.YtipkhmcnkldbbaaDoor.lawEntryText
open Go.ChangeShapes Go.WideShapes Go.ChangeAt Go.RowKit

set_option maxHeartbeats 6400000 in
theorem walk (x0 : ByteArray) (hx0 : StrOk x0) (x1 : Int) (_hx1 : IntOk x1) (x2 : ByteArray) (hx2 : StrOk x2) (x3 : Int) (_hx3 : IntOk x3) (w : World) (hQ : (∃ a, Sent a w) ∧ MaxL w ∧ HasTab w) :
    Calls Tryd.prog 4 #[.agg #[.string x0, .int .i64 x1, .string x2, .int .i64 x3]] w fun e w' => e = .returned (.bool true) ∧ Below w.heap.size w w' := by
  obtain ⟨⟨aS, hS⟩, hM, hT⟩ := hQ
  by_cases cs0 : szT (1048576) [x0, x2] < 0
  · have es := Lib.hid (szT_neg2 (by omega) cs0)
    have HB : Below w.heap.size w w := Below.refl _ _
    go_enter Tryd.func4, Tryd.ntmps4
    go_wp2_with fail
    refine (szEntry_any _ _ _ _ _ (by omega) (by omega) hx0 hx2 _).mono ?_
    rintro e1 w1 ⟨rfl, b1⟩
    rw [es.out]
    have hs1 := b1.size
    simp only [World.size_alloc] at hs1
    have caaX_0 := box_cell b1 (b := w.heap.size) (o := 0) (u := .string x0) (by go_cell)
    have caaX_1 := box_cell b1 (b := w.heap.size) (o := 1) (u := .int .i64 x1) (by go_cell)
    have caaX_2 := box_cell b1 (b := w.heap.size) (o := 2) (u := .string x2) (by go_cell)
    have caaX_3 := box_cell b1 (b := w.heap.size) (o := 3) (u := .int .i64 x3) (by go_cell)
    have b1 := below_step b1 (below_alloc (Below.refl _ _) _)
    have ltcaaX : w.heap.size < w1.heap.size := World.block_lt_of_cell? w1 _ caaX_0
    have HB := below_step b1 HB
    have zz1 := b1.size
    go_wp2
    go_ret
    exact ⟨rfl, HB⟩
  obtain ⟨r0, hr0, hra0, hrb0, hn0, hn2⟩ := szT_pos2 (by omega) (by omega) cs0
  have es0 := Lib.hid hr0
  clear hr0 cs0
  have HB : Below w.heap.size w w := Below.refl _ _
  go_enter Tryd.func4, Tryd.ntmps4
  go_wp2_with fail
  refine (szEntry_any _ _ _ _ _ (by omega) (by omega) hx0 hx2 _).mono ?_
  rintro e1 w1 ⟨rfl, b1⟩
  rw [es0.out]
  have hs1 := b1.size
  simp only [World.size_alloc] at hs1
  have caaX_0 := box_cell b1 (b := w.heap.size) (o := 0) (u := .string x0) (by go_cell)
  have caaX_1 := box_cell b1 (b := w.heap.size) (o := 1) (u := .int .i64 x1) (by go_cell)
  have caaX_2 := box_cell b1 (b := w.heap.size) (o := 2) (u := .string x2) (by go_cell)
  have caaX_3 := box_cell b1 (b := w.heap.size) (o := 3) (u := .int .i64 x3) (by go_cell)
  have b1 := below_step b1 (below_alloc (Below.refl _ _) _)
  have ltcaaX : w.heap.size < w1.heap.size := World.block_lt_of_cell? w1 _ caaX_0
  have HB := below_step b1 HB
  have zz1 := b1.size
  go_wp2_with fail
  refine (toEntry_any _ _ _ _ _).mono ?_
  rintro e1 w2 ⟨rfl, b2⟩
  have caaX_0 := box_cell b2 caaX_0
  have caaX_1 := box_cell b2 caaX_1
  have caaX_2 := box_cell b2 caaX_2
  have caaX_3 := box_cell b2 caaX_3
  have ltcaaX : w.heap.size < w2.heap.size := World.block_lt_of_cell? w2 _ caaX_0
  have HB := below_step b2 HB
  have zz2 := b2.size
  go_wp2_with fail
  refine (specLine_any x0 x1 x2 x3 hn0 hn2 _).mono ?_
  rintro e1 w3 ⟨rfl, b3⟩
  have caaX_0 := box_cell b3 caaX_0
  have caaX_1 := box_cell b3 caaX_1
  have caaX_2 := box_cell b3 caaX_2
  have caaX_3 := box_cell b3 caaX_3
  have ltcaaX : w.heap.size < w3.heap.size := World.block_lt_of_cell? w3 _ caaX_0
  have HB := below_step b3 HB
  have zz3 := b3.size
  go_wp2_with fail
  refine (toEntry_any _ _ _ _ _).mono ?_
  rintro e1 w4 ⟨rfl, b4⟩
  have caaX_0 := box_cell b4 caaX_0
  have caaX_1 := box_cell b4 caaX_1
  have caaX_2 := box_cell b4 caaX_2
  have caaX_3 := box_cell b4 caaX_3
  have ltcaaX : w.heap.size < w4.heap.size := World.block_lt_of_cell? w4 _ caaX_0
  have HB := below_step b4 HB
  have zz4 := b4.size
  go_wp2_with fail
  refine (implLine_any x0 x1 x2 x3 hn0 hn2 _ aS (hS.below HB (Nat.le_refl _)) (hM.below HB) (hT.below HB (Nat.le_refl _))).mono ?_
  rintro e1 w5 ⟨rfl, b5⟩
  have caaX_0 := box_cell b5 caaX_0
  have caaX_1 := box_cell b5 caaX_1
  have caaX_2 := box_cell b5 caaX_2
  have caaX_3 := box_cell b5 caaX_3
  have ltcaaX : w.heap.size < w5.heap.size := World.block_lt_of_cell? w5 _ caaX_0
  have HB := below_step b5 HB
  have zz5 := b5.size
  go_wp2
  go_ret
  exact ⟨rfl, HB⟩



set_option maxRecDepth 100000 in
theorem opened {H : Type} {enc : TypeId × Value → H} (W : World) (base : Nat) (args : Array Value) (ds : List (DataW H)) (ps : List MemPlace)
    (hval : ∀ (j : Nat) t v, (#[34] : Array TypeId)[j]? = some t → args[j]? = some v → Value.okWide Tryd.prog W .any base t v)
    (hA : DataW.TrodAll enc Tryd.prog W 0 (fun _ => true) true [34] args.toList ds ps) (hL : (∃ a, Sent a W) ∧ MaxL W ∧ HasTab W) :
    Calls Tryd.prog 4 args W fun e W' => e = .returned (.bool true) ∧ Below W.heap.size W W' := by
  obtain ⟨v0, vs0, d0, ds0, p0, q0, hargs, rfl, rfl, h0, r0⟩ := trodAll_cons hA
  obtain ⟨rfl, rfl, rfl⟩ := trodAll_nil r0
  obtain rfl : args = #[v0] := by cases args; simp_all
  obtain ⟨cs0, rfl, hc0⟩ := open_cells (ks := [1, 0, 1, 0]) Tryd.underlying34 (by kernel_rfl) (hval 0 34 v0 rfl rfl) h0
  obtain ⟨c0_0, c0_1, c0_2, c0_3, rfl⟩ : ∃ c0_0 c0_1 c0_2 c0_3 : Value, cs0 = [c0_0, c0_1, c0_2, c0_3] := by
    have hl := hc0.length
    match cs0, hl with
    | [c0_0, c0_1, c0_2, c0_3], _ => exact ⟨_, _, _, _, rfl⟩
  obtain ⟨⟨x0_0, rfl, o0_0⟩, ⟨x0_1, rfl, o0_1⟩, ⟨x0_2, rfl, o0_2⟩, ⟨x0_3, rfl, o0_3⟩, _⟩ := hc0
  exact walk x0_0 o0_0 x0_1 o0_1 x0_2 o0_2 x0_3 o0_3 W hL
end Go.Proofs.YtipkhmcnkldbbaaDoor.lawEntryText
