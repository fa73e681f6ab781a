/-
  FnExactSubLeft returns true at every input: the program's SubLeft is the reference's, leaves its arguments as they were, and its result is its own. No condition.
-/
import Derived.Test.YtcccidlfigfibaaDoorSubLI
import Derived.Test.YtcccidlfigfibaaDoorKEntry
import Derived.Test.YtcccidlfigfibaaDoorESub
namespace Go.Proofs.YtcccidlfigfibaaDoor.lawSubLeft
open Go.ChangeShapes Go.WideShapes Go.ChangeAt Go.RowKit

set_option maxHeartbeats 6400000 in
theorem walk (w : World) (Axs : Option Addr) (nxs cxs : Nat) (xs : List (ByteArray × Int × ByteArray × Int)) (hncxs : nxs ≤ cxs) (hcmxs : cxs ≤ maxLen) (hxxs : xs.length = nxs) (hLxs : Lies w 4 Axs nxs (xs.flatMap entryCells)) (hoxs : ∀ x ∈ xs, entryOk x) (c0 : ByteArray) (hc0 : StrOk c0) (p0 : Int) (_hp0 : IntOk p0) (hQ : (∃ a, Sent a w) ∧ MaxL w) :
    Calls Tryd.prog 3 #[.slice Axs nxs cxs, .agg #[.string c0, .int .i64 p0]] w fun e w' => e = .returned (.bool true) ∧ Below w.heap.size w w' := by
  obtain ⟨⟨aS, hS⟩, hM⟩ := hQ
  have hmxs : nxs ≤ maxLen := Nat.le_trans hncxs hcmxs
  have HXxs := Lib.hid hxxs
  have HLxs := Lib.hid hLxs
  have HOxs := Lib.hid hoxs
  clear hxxs hLxs hoxs
  by_cases cs0 : szR (1048576) nxs (xs.flatMap entryTexts) < 0
  · have es := Lib.hid (szR_neg cs0)
    clear cs0
    have QAxs := Lib.hid (ArgAt.mk' HLxs.out)
    have HB : Below w.heap.size w w := Below.refl _ _
    go_enter Tryd.func3, Tryd.ntmps3
    go_wp2_with fail
    refine (szEntryS_any _ _ _ hmxs xs HXxs.out HOxs.out _ (by omega) (by omega) _ (QAxs.out.keepB (below_alloc (Below.refl _ _) _)).1).mono ?_
    rintro e1 w1 ⟨rfl, b1⟩
    rw [es.out]
    have hs1 := b1.size
    simp only [World.size_alloc] at hs1
    have caaS_0 := box_cell b1 (b := w.heap.size) (o := 0) (u := .string c0) (by go_cell)
    have caaS_1 := box_cell b1 (b := w.heap.size) (o := 1) (u := .int .i64 p0) (by go_cell)
    have b1 := below_step b1 (below_alloc (Below.refl _ _) _)
    have ltcaaS : w.heap.size < w1.heap.size := World.block_lt_of_cell? w1 _ caaS_0
    have HB := below_step b1 HB
    have zz1 := b1.size
    replace QAxs := Lib.hid (QAxs.out.keepB b1)
    go_wp2
    go_ret
    exact ⟨rfl, HB⟩
  have hnxs := szR_len_of (by omega) cs0
  obtain ⟨r0, hr0, hra0, hrb0⟩ := szR_pos (by omega) cs0
  have es0 := Lib.hid hr0
  clear hr0 cs0
  by_cases cs1 : (r0) < c0.size
  · have es := Lib.hid (show szN (r0) c0.size = -1 by unfold szN; rw [if_pos cs1])
    have QAxs := Lib.hid (ArgAt.mk' HLxs.out)
    have HB : Below w.heap.size w w := Below.refl _ _
    go_enter Tryd.func3, Tryd.ntmps3
    go_wp2_with fail
    refine (szEntryS_any _ _ _ hmxs xs HXxs.out HOxs.out _ (by omega) (by omega) _ (QAxs.out.keepB (below_alloc (Below.refl _ _) _)).1).mono ?_
    rintro e1 w1 ⟨rfl, b1⟩
    rw [es0.out]
    have hs1 := b1.size
    simp only [World.size_alloc] at hs1
    have caaS_0 := box_cell b1 (b := w.heap.size) (o := 0) (u := .string c0) (by go_cell)
    have caaS_1 := box_cell b1 (b := w.heap.size) (o := 1) (u := .int .i64 p0) (by go_cell)
    have b1 := below_step b1 (below_alloc (Below.refl _ _) _)
    have ltcaaS : w.heap.size < w1.heap.size := World.block_lt_of_cell? w1 _ caaS_0
    have HB := below_step b1 HB
    have zz1 := b1.size
    replace QAxs := Lib.hid (QAxs.out.keepB b1)
    go_wp2_with fail
    refine (szSub_any _ _ _ (by omega) (by omega) hc0 _).mono ?_
    rintro e1 w2 ⟨rfl, b2⟩
    rw [es.out]
    have caaS_0 := box_cell b2 caaS_0
    have caaS_1 := box_cell b2 caaS_1
    have ltcaaS : w.heap.size < w2.heap.size := World.block_lt_of_cell? w2 _ caaS_0
    have HB := below_step b2 HB
    have zz2 := b2.size
    replace QAxs := Lib.hid (QAxs.out.keepB b2)
    go_wp2
    go_ret
    exact ⟨rfl, HB⟩
  have es1 := Lib.hid (show szN (r0) c0.size = r0 - c0.size by unfold szN; rw [if_neg cs1])
  have HSTxs := Lib.hid (show StOk xs from ⟨enS_ok (left := 1048576) (by omega) (by rw [es0.out]; exact hra0), enE_ok HOxs.out⟩)
  have QAxs := Lib.hid (ArgAt.mk' HLxs.out)
  have HB : Below w.heap.size w w := Below.refl _ _
  go_enter Tryd.func3, Tryd.ntmps3
  go_wp2_with fail
  refine (szEntryS_any _ _ _ hmxs xs HXxs.out HOxs.out _ (by omega) (by omega) _ (QAxs.out.keepB (below_alloc (Below.refl _ _) _)).1).mono ?_
  rintro e1 w1 ⟨rfl, b1⟩
  rw [es0.out]
  have hs1 := b1.size
  simp only [World.size_alloc] at hs1
  have caaS_0 := box_cell b1 (b := w.heap.size) (o := 0) (u := .string c0) (by go_cell)
  have caaS_1 := box_cell b1 (b := w.heap.size) (o := 1) (u := .int .i64 p0) (by go_cell)
  have b1 := below_step b1 (below_alloc (Below.refl _ _) _)
  have ltcaaS : w.heap.size < w1.heap.size := World.block_lt_of_cell? w1 _ caaS_0
  have HB := below_step b1 HB
  have zz1 := b1.size
  replace QAxs := Lib.hid (QAxs.out.keepB b1)
  go_wp2_with fail
  refine (szSub_any _ _ _ (by omega) (by omega) hc0 _).mono ?_
  rintro e1 w2 ⟨rfl, b2⟩
  rw [es1.out]
  have caaS_0 := box_cell b2 caaS_0
  have caaS_1 := box_cell b2 caaS_1
  have ltcaaS : w.heap.size < w2.heap.size := World.block_lt_of_cell? w2 _ caaS_0
  have HB := below_step b2 HB
  have zz2 := b2.size
  replace QAxs := Lib.hid (QAxs.out.keepB b2)
  have BR := Below.refl w2.heap.size w2
  go_wp2_with fail
  go_region_held3 (fun wx => wx.cell? ⟨w.heap.size, 0, none⟩ = some (.string c0) ∧ wx.cell? ⟨w.heap.size, 1, none⟩ = some (.int .i64 p0) ∧ Below w2.heap.size w2 wx) ((go_split_ands; refine ⟨?_, ?_, ?_⟩ <;> first | assumption | (refine box_cell (by assumption) ?_; assumption) | (refine below_step (by assumption) ?_; assumption) | exact Below.drew (by assumption)))
    (first
      | (go_at_call 10; go_split_ands; refine (toEntryS_at _ _ _ _ xs hnxs HXxs.out _ (QAxs.out.keepB (by assumption))).mono ?_; rintro e1 wA1 ⟨vA1, rfl, fA1, bA1⟩; have HTaList := Lib.hid fA1; clear fA1; have BW1 : Below w2.heap.size w2 wA1 := below_step bA1 (show Below w2.heap.size w2 _ by assumption))
      | (go_at_call 11; refine (toSub_any _ _ _).mono ?_; rintro e1 wA2 ⟨rfl, bA2⟩; have bC2 : Below wA1.heap.size wA1 wA2 := (by first | exact bA2 | exact below_step bA2 (below_alloc (Below.refl _ _) _)); have HTaList := Lib.hid (HTaList.out.keepB bC2); have BW2 : Below w2.heap.size w2 wA2 := below_step bC2 BW1)
      | (go_at_call 9; refine (specLeft_at0 _ _ _ xs c0 p0 HSTxs.out hc0 _ (HTaList.out.keepB (by first | exact Below.refl _ _ | exact below_alloc (Below.refl _ _) _))).mono ?_; rintro e1 w3 ⟨rfl, b3⟩; have BW3 : Below w2.heap.size w2 w3 := (by first | exact below_step b3 BW2 | exact below_step b3 (below_alloc BW2 _))))
  have b3 : Below w2.heap.size w2 w3 := BW3
  clear HTaList
  have caaS_0 := box_cell b3 caaS_0
  have caaS_1 := box_cell b3 caaS_1
  have ltcaaS : w.heap.size < w3.heap.size := World.block_lt_of_cell? w3 _ caaS_0
  have HB := below_step b3 HB
  have zz3 := b3.size
  replace QAxs := Lib.hid (QAxs.out.keepB b3)
  go_wp2_with fail
  refine (toEntryS_at _ _ _ _ xs hnxs HXxs.out _ (QAxs.out)).mono ?_
  rintro e1 w4 ⟨v4, rfl, f4, b4⟩
  have caaS_0 := box_cell b4 caaS_0
  have caaS_1 := box_cell b4 caaS_1
  have ltcaaS : w.heap.size < w4.heap.size := World.block_lt_of_cell? w4 _ caaS_0
  have HB := below_step b4 HB
  have zz4 := b4.size
  replace QAxs := Lib.hid (QAxs.out.keepB b4)
  have Xx0 := Lib.hid f4
  clear f4
  go_wp2_with fail
  refine (toSub_any _ _ _).mono ?_
  rintro e1 w5 ⟨rfl, b5⟩
  have caaS_0 := box_cell b5 caaS_0
  have caaS_1 := box_cell b5 caaS_1
  have ltcaaS : w.heap.size < w5.heap.size := World.block_lt_of_cell? w5 _ caaS_0
  have HB := below_step b5 HB
  have zz5 := b5.size
  replace QAxs := Lib.hid (QAxs.out.keepB b5)
  replace Xx0 := Lib.hid (Xx0.out.keepB b5)
  go_wp2_with fail
  refine (implLeft_at0 _ _ _ xs c0 p0 HSTxs.out hc0 _ aS (hS.below HB (Nat.le_refl _)) (hM.below HB) (Xx0.out)).mono ?_
  rintro e1 w6 ⟨rfl, b6⟩
  have caaS_0 := box_cell b6 caaS_0
  have caaS_1 := box_cell b6 caaS_1
  have ltcaaS : w.heap.size < w6.heap.size := World.block_lt_of_cell? w6 _ caaS_0
  have HB := below_step b6 HB
  have zz6 := b6.size
  replace QAxs := Lib.hid (QAxs.out.keepB b6)
  replace Xx0 := Lib.hid (Xx0.out.keepB b6)
  go_wp2_with fail
  refine (toEntryS_at _ _ _ _ xs hnxs HXxs.out _ (QAxs.out)).mono ?_
  rintro e1 w7 ⟨v7, rfl, f7, b7⟩
  have caaS_0 := box_cell b7 caaS_0
  have caaS_1 := box_cell b7 caaS_1
  have ltcaaS : w.heap.size < w7.heap.size := World.block_lt_of_cell? w7 _ caaS_0
  have HB := below_step b7 HB
  have zz7 := b7.size
  replace QAxs := Lib.hid (QAxs.out.keepB b7)
  replace Xx0 := Lib.hid (Xx0.out.keepB b7)
  have TE := Lib.hid f7
  clear f7
  go_wp2_with fail
  refine (eqEntryS_at _ _ _ _ _ _ _ _ _ (Xx0.out) (TE.out)).mono ?_
  rintro e1 w8 ⟨rfl, b8⟩
  rw [dec_self]
  have caaS_0 := box_cell b8 caaS_0
  have caaS_1 := box_cell b8 caaS_1
  have ltcaaS : w.heap.size < w8.heap.size := World.block_lt_of_cell? w8 _ caaS_0
  have HB := below_step b8 HB
  have zz8 := b8.size
  replace QAxs := Lib.hid (QAxs.out.keepB b8)
  replace Xx0 := Lib.hid (Xx0.out.keepB b8)
  replace TE := Lib.hid (TE.out.keepB b8)
  clear TE
  go_wp2
  go_ret
  exact ⟨rfl, HB⟩



set_option maxRecDepth 100000 in
theorem opened {H : Type} {enc : TypeId × Value → H} (W : World) (base : Nat) (args : Array Value) (ds : List (DataW H)) (ps : List MemPlace)
    (hval : ∀ (j : Nat) t v, (#[22, 24] : Array TypeId)[j]? = some t → args[j]? = some v → Value.okWide Tryd.prog W .any base t v)
    (hA : DataW.TrodAll enc Tryd.prog W 0 (fun _ => true) true [22, 24] args.toList ds ps) (hL : (∃ a, Sent a W) ∧ MaxL W) :
    Calls Tryd.prog 3 args W fun e W' => e = .returned (.bool true) ∧ Below W.heap.size W W' := by
  obtain ⟨v0, vs0, d0, ds0, p0, q0, hargs, rfl, rfl, h0, r0⟩ := trodAll_cons hA
  obtain ⟨v1, vs1, d1, ds1, p1, q1, rfl, rfl, rfl, h1, r1⟩ := trodAll_cons r0
  obtain ⟨rfl, rfl, rfl⟩ := trodAll_nil r1
  obtain rfl : args = #[v0, v1] := by cases args; simp_all
  obtain ⟨A0, n0, k0, xs0, rfl, nc0, cm0, xl0, xL0, xo0⟩ := open_rows (ks := [1, 0, 1, 0]) entryCells entryOk (entryDec W) Tryd.underlying22 (by kernel_rfl) (by kernel_rfl) (by decide) (fun _ => rfl) (hval 0 22 v0 rfl rfl) h0
  obtain ⟨cs1, rfl, hc1⟩ := open_cells (ks := [1, 0]) Tryd.underlying24 (by kernel_rfl) (hval 1 24 v1 rfl rfl) h1
  obtain ⟨c1_0, c1_1, rfl⟩ : ∃ c1_0 c1_1 : Value, cs1 = [c1_0, c1_1] := by
    have hl := hc1.length
    match cs1, hl with
    | [c1_0, c1_1], _ => exact ⟨_, _, rfl⟩
  obtain ⟨⟨x1_0, rfl, o1_0⟩, ⟨x1_1, rfl, o1_1⟩, _⟩ := hc1
  exact walk W A0 n0 k0 xs0 nc0 cm0 xl0 xL0 xo0 x1_0 o1_0 x1_1 o1_1 hL
end Go.Proofs.YtcccidlfigfibaaDoor.lawSubLeft
