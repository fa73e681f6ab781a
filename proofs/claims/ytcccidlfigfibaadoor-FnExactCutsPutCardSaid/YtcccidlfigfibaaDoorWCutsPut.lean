/-
  FnExactCutsPut returns true at every input: the program's CutsPut is the reference's, leaves its arguments as they were, and its result is its own. No condition.
-/
import Derived.Test.YtcccidlfigfibaaDoorCutPutI
import Derived.Test.YtcccidlfigfibaaDoorKCut
import Derived.Test.YtcccidlfigfibaaDoorECut
namespace Go.Proofs.YtcccidlfigfibaaDoor.lawCutsPut
open Go.ChangeShapes Go.WideShapes Go.ChangeAt Go.RowKit

set_option maxHeartbeats 6400000 in
theorem walk (w : World) (Axs : Option Addr) (nxs cxs : Nat) (xs : List (ByteArray × Int)) (hncxs : nxs ≤ cxs) (hcmxs : cxs ≤ maxLen) (hxxs : xs.length = nxs) (hLxs : Lies w 2 Axs nxs (xs.flatMap cutCells)) (hoxs : ∀ x ∈ xs, cutOk x) (c0 : ByteArray) (hc0 : StrOk c0) (p0 : Int) (_hp0 : IntOk p0) (hQ : (∃ a, Sent a w) ∧ MaxL w) :
    Calls Tryd.prog 6 #[.slice Axs nxs cxs, .agg #[.string c0, .int .i64 p0]] w fun e w' => e = .returned (.bool true) ∧ Below w.heap.size w w' := by
  obtain ⟨⟨aS, hS⟩, hM⟩ := hQ
  have hmxs : nxs ≤ maxLen := Nat.le_trans hncxs hcmxs
  have HXxs := Lib.hid hxxs
  have HLxs := Lib.hid hLxs
  have HOxs := Lib.hid hoxs
  clear hxxs hLxs hoxs
  by_cases cs0 : szR (1048576) nxs (xs.flatMap cutTexts) < 0
  · have es := Lib.hid (szR_neg cs0)
    clear cs0
    have QAxs := Lib.hid (ArgAt.mk' HLxs.out)
    have HB : Below w.heap.size w w := Below.refl _ _
    go_enter Tryd.func6, Tryd.ntmps6
    go_wp2_with fail
    refine (szCutS_any _ _ _ hmxs xs HXxs.out HOxs.out _ (by omega) (by omega) _ (QAxs.out.keepB (below_alloc (Below.refl _ _) _)).1).mono ?_
    rintro e1 w1 ⟨rfl, b1⟩
    rw [es.out]
    have hs1 := b1.size
    simp only [World.size_alloc] at hs1
    have caaC_0 := box_cell b1 (b := w.heap.size) (o := 0) (u := .string c0) (by go_cell)
    have caaC_1 := box_cell b1 (b := w.heap.size) (o := 1) (u := .int .i64 p0) (by go_cell)
    have b1 := below_step b1 (below_alloc (Below.refl _ _) _)
    have ltcaaC : w.heap.size < w1.heap.size := World.block_lt_of_cell? w1 _ caaC_0
    have HB := below_step b1 HB
    have zz1 := b1.size
    replace QAxs := Lib.hid (QAxs.out.keepB b1)
    go_wp2
    go_ret
    exact ⟨rfl, HB⟩
  have hnxs := szR_len_of (by omega) cs0
  obtain ⟨r0, hr0, hra0, hrb0⟩ := szR_pos (by omega) cs0
  have es0 := Lib.hid hr0
  clear hr0 cs0
  by_cases cs1 : (r0) < c0.size
  · have es := Lib.hid (show szN (r0) c0.size = -1 by unfold szN; rw [if_pos cs1])
    have QAxs := Lib.hid (ArgAt.mk' HLxs.out)
    have HB : Below w.heap.size w w := Below.refl _ _
    go_enter Tryd.func6, Tryd.ntmps6
    go_wp2_with fail
    refine (szCutS_any _ _ _ hmxs xs HXxs.out HOxs.out _ (by omega) (by omega) _ (QAxs.out.keepB (below_alloc (Below.refl _ _) _)).1).mono ?_
    rintro e1 w1 ⟨rfl, b1⟩
    rw [es0.out]
    have hs1 := b1.size
    simp only [World.size_alloc] at hs1
    have caaC_0 := box_cell b1 (b := w.heap.size) (o := 0) (u := .string c0) (by go_cell)
    have caaC_1 := box_cell b1 (b := w.heap.size) (o := 1) (u := .int .i64 p0) (by go_cell)
    have b1 := below_step b1 (below_alloc (Below.refl _ _) _)
    have ltcaaC : w.heap.size < w1.heap.size := World.block_lt_of_cell? w1 _ caaC_0
    have HB := below_step b1 HB
    have zz1 := b1.size
    replace QAxs := Lib.hid (QAxs.out.keepB b1)
    go_wp2_with fail
    refine (szCut_any _ _ _ (by omega) (by omega) hc0 _).mono ?_
    rintro e1 w2 ⟨rfl, b2⟩
    rw [es.out]
    have caaC_0 := box_cell b2 caaC_0
    have caaC_1 := box_cell b2 caaC_1
    have ltcaaC : w.heap.size < w2.heap.size := World.block_lt_of_cell? w2 _ caaC_0
    have HB := below_step b2 HB
    have zz2 := b2.size
    replace QAxs := Lib.hid (QAxs.out.keepB b2)
    go_wp2
    go_ret
    exact ⟨rfl, HB⟩
  have es1 := Lib.hid (show szN (r0) c0.size = r0 - c0.size by unfold szN; rw [if_neg cs1])
  have HCS := Lib.hid (cutS_okL (left := 1048576) (by omega) (by rw [es0.out]; exact hra0) HOxs.out)
  have hcs : c0.size ≤ 1048576 := by omega
  cases EB0 : cutPutB xs c0 p0
  all_goals
    have QAxs := Lib.hid (ArgAt.mk' HLxs.out)
    have HB : Below w.heap.size w w := Below.refl _ _
    go_enter Tryd.func6, Tryd.ntmps6
    go_wp2_with fail
    refine (szCutS_any _ _ _ hmxs xs HXxs.out HOxs.out _ (by omega) (by omega) _ (QAxs.out.keepB (below_alloc (Below.refl _ _) _)).1).mono ?_
    rintro e1 w1 ⟨rfl, b1⟩
    rw [es0.out]
    have hs1 := b1.size
    simp only [World.size_alloc] at hs1
    have caaC_0 := box_cell b1 (b := w.heap.size) (o := 0) (u := .string c0) (by go_cell)
    have caaC_1 := box_cell b1 (b := w.heap.size) (o := 1) (u := .int .i64 p0) (by go_cell)
    have b1 := below_step b1 (below_alloc (Below.refl _ _) _)
    have ltcaaC : w.heap.size < w1.heap.size := World.block_lt_of_cell? w1 _ caaC_0
    have HB := below_step b1 HB
    have zz1 := b1.size
    replace QAxs := Lib.hid (QAxs.out.keepB b1)
    go_wp2_with fail
    refine (szCut_any _ _ _ (by omega) (by omega) hc0 _).mono ?_
    rintro e1 w2 ⟨rfl, b2⟩
    rw [es1.out]
    have caaC_0 := box_cell b2 caaC_0
    have caaC_1 := box_cell b2 caaC_1
    have ltcaaC : w.heap.size < w2.heap.size := World.block_lt_of_cell? w2 _ caaC_0
    have HB := below_step b2 HB
    have zz2 := b2.size
    replace QAxs := Lib.hid (QAxs.out.keepB b2)
    have BR := Below.refl w2.heap.size w2
    go_wp2_with fail
    go_region_held3 (fun wx => wx.cell? ⟨w.heap.size, 0, none⟩ = some (.string c0) ∧ wx.cell? ⟨w.heap.size, 1, none⟩ = some (.int .i64 p0) ∧ Below w2.heap.size w2 wx) ((go_split_ands; refine ⟨?_, ?_, ?_⟩ <;> first | assumption | (refine box_cell (by assumption) ?_; assumption) | (refine below_step (by assumption) ?_; assumption) | exact Below.drew (by assumption)))
      (first
        | (go_at_call 27; go_split_ands; refine (toCutS_at _ _ _ _ xs hnxs HXxs.out _ (QAxs.out.keepB (by assumption))).mono ?_; rintro e1 wA1 ⟨vA1, rfl, fA1, bA1⟩; have HTaCuts := Lib.hid fA1; clear fA1; have BW1 : Below w2.heap.size w2 wA1 := below_step bA1 (show Below w2.heap.size w2 _ by assumption))
        | (go_at_call 28; refine (toCut_any _ _ _).mono ?_; rintro e1 wA2 ⟨rfl, bA2⟩; have bC2 : Below wA1.heap.size wA1 wA2 := (by first | exact bA2 | exact below_step bA2 (below_alloc (Below.refl _ _) _)); have HTaCuts := Lib.hid (HTaCuts.out.keepB bC2); have BW2 : Below w2.heap.size w2 wA2 := below_step bC2 BW1)
        | (go_at_call 26; refine (specPut_at _ _ _ xs c0 p0 HCS.out hcs _hp0 _ (HTaCuts.out.keepB (by first | exact Below.refl _ _ | exact below_alloc (Below.refl _ _) _))).mono ?_; rintro e1 w3 ⟨v3_0, rfl, f3_0, b3⟩; rw [EB0]; have BW3 : Below w2.heap.size w2 w3 := (by first | exact below_step b3 BW2 | exact below_step b3 (below_alloc BW2 _))))
    have b3 : Below w2.heap.size w2 w3 := BW3
    clear HTaCuts
    have caaC_0 := box_cell b3 caaC_0
    have caaC_1 := box_cell b3 caaC_1
    have ltcaaC : w.heap.size < w3.heap.size := World.block_lt_of_cell? w3 _ caaC_0
    have HB := below_step b3 HB
    have zz3 := b3.size
    replace QAxs := Lib.hid (QAxs.out.keepB b3)
    have Rw0 := Lib.hid f3_0
    clear f3_0
    go_wp2_with fail
    refine (toCutS_at _ _ _ _ xs hnxs HXxs.out _ (QAxs.out)).mono ?_
    rintro e1 w4 ⟨v4, rfl, f4, b4⟩
    have caaC_0 := box_cell b4 caaC_0
    have caaC_1 := box_cell b4 caaC_1
    have ltcaaC : w.heap.size < w4.heap.size := World.block_lt_of_cell? w4 _ caaC_0
    have HB := below_step b4 HB
    have zz4 := b4.size
    replace QAxs := Lib.hid (QAxs.out.keepB b4)
    replace Rw0 := Lib.hid (Rw0.out.keepB b4)
    have Xx0 := Lib.hid f4
    clear f4
    go_wp2_with fail
    refine (toCut_any _ _ _).mono ?_
    rintro e1 w5 ⟨rfl, b5⟩
    have caaC_0 := box_cell b5 caaC_0
    have caaC_1 := box_cell b5 caaC_1
    have ltcaaC : w.heap.size < w5.heap.size := World.block_lt_of_cell? w5 _ caaC_0
    have HB := below_step b5 HB
    have zz5 := b5.size
    replace QAxs := Lib.hid (QAxs.out.keepB b5)
    replace Rw0 := Lib.hid (Rw0.out.keepB b5)
    replace Xx0 := Lib.hid (Xx0.out.keepB b5)
    go_wp2_with fail
    refine (implPut_at _ _ _ xs c0 p0 HCS.out hcs _ aS (hS.below HB (Nat.le_refl _)) (hM.below HB) (Xx0.out)).mono ?_
    rintro e1 w6 ⟨v6_0, rfl, f6_0, b6⟩
    rw [EB0]
    have caaC_0 := box_cell b6 caaC_0
    have caaC_1 := box_cell b6 caaC_1
    have ltcaaC : w.heap.size < w6.heap.size := World.block_lt_of_cell? w6 _ caaC_0
    have HB := below_step b6 HB
    have zz6 := b6.size
    replace QAxs := Lib.hid (QAxs.out.keepB b6)
    replace Rw0 := Lib.hid (Rw0.out.keepB b6)
    replace Xx0 := Lib.hid (Xx0.out.keepB b6)
    have Rg0 := Lib.hid f6_0
    clear f6_0
    go_wp2_with fail
    refine (eqCutS_at _ _ _ _ _ _ _ _ _ (Rg0.out) (Rw0.out)).mono ?_
    rintro e1 w7 ⟨rfl, b7⟩
    rw [dec_self]
    have caaC_0 := box_cell b7 caaC_0
    have caaC_1 := box_cell b7 caaC_1
    have ltcaaC : w.heap.size < w7.heap.size := World.block_lt_of_cell? w7 _ caaC_0
    have HB := below_step b7 HB
    have zz7 := b7.size
    replace QAxs := Lib.hid (QAxs.out.keepB b7)
    replace Rw0 := Lib.hid (Rw0.out.keepB b7)
    replace Xx0 := Lib.hid (Xx0.out.keepB b7)
    replace Rg0 := Lib.hid (Rg0.out.keepB b7)
    go_wp2_with fail
    refine (toCutS_at _ _ _ _ xs hnxs HXxs.out _ (QAxs.out)).mono ?_
    rintro e1 w8 ⟨v8, rfl, f8, b8⟩
    have caaC_0 := box_cell b8 caaC_0
    have caaC_1 := box_cell b8 caaC_1
    have ltcaaC : w.heap.size < w8.heap.size := World.block_lt_of_cell? w8 _ caaC_0
    have HB := below_step b8 HB
    have zz8 := b8.size
    replace QAxs := Lib.hid (QAxs.out.keepB b8)
    replace Rw0 := Lib.hid (Rw0.out.keepB b8)
    replace Xx0 := Lib.hid (Xx0.out.keepB b8)
    replace Rg0 := Lib.hid (Rg0.out.keepB b8)
    have TE := Lib.hid f8
    clear f8
    go_wp2_with fail
    refine (eqCutS_at _ _ _ _ _ _ _ _ _ (Xx0.out) (TE.out)).mono ?_
    rintro e1 w9 ⟨rfl, b9⟩
    rw [dec_self]
    have caaC_0 := box_cell b9 caaC_0
    have caaC_1 := box_cell b9 caaC_1
    have ltcaaC : w.heap.size < w9.heap.size := World.block_lt_of_cell? w9 _ caaC_0
    have HB := below_step b9 HB
    have zz9 := b9.size
    replace QAxs := Lib.hid (QAxs.out.keepB b9)
    replace Rw0 := Lib.hid (Rw0.out.keepB b9)
    replace Xx0 := Lib.hid (Xx0.out.keepB b9)
    replace Rg0 := Lib.hid (Rg0.out.keepB b9)
    replace TE := Lib.hid (TE.out.keepB b9)
    clear TE
    have hl9 := Xx0.out.1
    have LF := Xx0
    clear Xx0
    go_wp2_with fail
    refine (markCutS_at _ _ _ _ _ _ (by omega) (by omega) LF.out.1 _ LF.out.2).mono ?_
    rintro e1 w10 ⟨rfl, _, b10⟩
    have caaC_0 := cell_keep b10 (by omega) caaC_0
    have caaC_1 := cell_keep b10 (by omega) caaC_1
    have ltcaaC : w.heap.size < w10.heap.size := World.block_lt_of_cell? w10 _ caaC_0
    have zz10 := b10.size
    have HB := Within.below HB b10 (by omega) HB.size
    replace QAxs := Lib.hid (QAxs.out.keep b10 (by omega))
    replace Rw0 := Lib.hid (Rw0.out.keep b10 (by omega))
    replace Rg0 := Lib.hid (Rg0.out.keep b10 (by omega))
    clear LF
    go_wp2_with fail
    refine (eqCutS_at _ _ _ _ _ _ _ _ _ (Rg0.out) (Rw0.out)).mono ?_
    rintro e1 w11 ⟨rfl, b11⟩
    rw [dec_self]
    have caaC_0 := box_cell b11 caaC_0
    have caaC_1 := box_cell b11 caaC_1
    have ltcaaC : w.heap.size < w11.heap.size := World.block_lt_of_cell? w11 _ caaC_0
    have HB := below_step b11 HB
    have zz11 := b11.size
    replace QAxs := Lib.hid (QAxs.out.keepB b11)
    replace Rw0 := Lib.hid (Rw0.out.keepB b11)
    replace Rg0 := Lib.hid (Rg0.out.keepB b11)
    have hl11 := Rg0.out.1
    have LF := Rg0
    clear Rg0
    go_wp2_with fail
    refine (markCutS_at _ _ _ _ _ _ (by omega) (by omega) LF.out.1 _ LF.out.2).mono ?_
    rintro e1 w12 ⟨rfl, f12, b12⟩
    have caaC_0 := cell_keep b12 (by omega) caaC_0
    have caaC_1 := cell_keep b12 (by omega) caaC_1
    have ltcaaC : w.heap.size < w12.heap.size := World.block_lt_of_cell? w12 _ caaC_0
    have zz12 := b12.size
    have HB := Within.below HB b12 (by omega) HB.size
    replace QAxs := Lib.hid (QAxs.out.keep b12 (by omega))
    replace Rw0 := Lib.hid (Rw0.out.keep b12 (by omega))
    have Hg0 := Lib.hid f12
    clear f12
    clear LF
    go_wp2_with fail
    refine (heldCutS_at _ _ _ _ _ (by omega) (by omega) _ (Hg0.out)).mono ?_
    rintro e1 w13 ⟨rfl, b13⟩
    have caaC_0 := box_cell b13 caaC_0
    have caaC_1 := box_cell b13 caaC_1
    have ltcaaC : w.heap.size < w13.heap.size := World.block_lt_of_cell? w13 _ caaC_0
    have HB := below_step b13 HB
    have zz13 := b13.size
    replace QAxs := Lib.hid (QAxs.out.keepB b13)
    replace Rw0 := Lib.hid (Rw0.out.keepB b13)
    replace Hg0 := Lib.hid (Hg0.out.keepB b13)
    have BR := Below.refl w13.heap.size w13
    go_wp2_with fail
    go_region_held3 (fun wx => wx.cell? ⟨w.heap.size, 0, none⟩ = some (.string c0) ∧ wx.cell? ⟨w.heap.size, 1, none⟩ = some (.int .i64 p0) ∧ Below w13.heap.size w13 wx) ((go_split_ands; refine ⟨?_, ?_, ?_⟩ <;> first | assumption | (refine box_cell (by assumption) ?_; assumption) | (refine below_step (by assumption) ?_; assumption) | exact Below.drew (by assumption)))
      (first
        | (go_at_call 27; go_split_ands; refine (toCutS_at _ _ _ _ xs hnxs HXxs.out _ (QAxs.out.keepB (by assumption))).mono ?_; rintro e1 wA1 ⟨vA1, rfl, fA1, bA1⟩; have HTaCuts := Lib.hid fA1; clear fA1; have BW1 : Below w13.heap.size w13 wA1 := below_step bA1 (show Below w13.heap.size w13 _ by assumption))
        | (go_at_call 28; refine (toCut_any _ _ _).mono ?_; rintro e1 wA2 ⟨rfl, bA2⟩; have bC2 : Below wA1.heap.size wA1 wA2 := (by first | exact bA2 | exact below_step bA2 (below_alloc (Below.refl _ _) _)); have HTaCuts := Lib.hid (HTaCuts.out.keepB bC2); have BW2 : Below w13.heap.size w13 wA2 := below_step bC2 BW1)
        | (go_at_call 29; refine (implPut_at _ _ _ xs c0 p0 HCS.out hcs _ aS (hS.below (by first | exact below_step BW2 HB | exact below_alloc (below_step BW2 HB) _) (Nat.le_refl _)) (hM.below (by first | exact below_step BW2 HB | exact below_alloc (below_step BW2 HB) _)) (HTaCuts.out.keepB (by first | exact Below.refl _ _ | exact below_alloc (Below.refl _ _) _))).mono ?_; rintro e1 w14 ⟨v14_0, rfl, f14_0, b14⟩; rw [EB0]; have BW3 : Below w13.heap.size w13 w14 := (by first | exact below_step b14 BW2 | exact below_step b14 (below_alloc BW2 _))))
    have b14 : Below w13.heap.size w13 w14 := BW3
    clear HTaCuts
    have caaC_0 := box_cell b14 caaC_0
    have caaC_1 := box_cell b14 caaC_1
    have ltcaaC : w.heap.size < w14.heap.size := World.block_lt_of_cell? w14 _ caaC_0
    have HB := below_step b14 HB
    have zz14 := b14.size
    replace QAxs := Lib.hid (QAxs.out.keepB b14)
    replace Rw0 := Lib.hid (Rw0.out.keepB b14)
    replace Hg0 := Lib.hid (Hg0.out.keepB b14)
    have Rh0 := Lib.hid f14_0
    clear f14_0
    go_wp2_with fail
    refine (eqCutS_at _ _ _ _ _ _ _ _ _ (Rh0.out) (Rw0.out)).mono ?_
    rintro e1 w15 ⟨rfl, b15⟩
    rw [dec_self]
    have caaC_0 := box_cell b15 caaC_0
    have caaC_1 := box_cell b15 caaC_1
    have ltcaaC : w.heap.size < w15.heap.size := World.block_lt_of_cell? w15 _ caaC_0
    have HB := below_step b15 HB
    have zz15 := b15.size
    replace QAxs := Lib.hid (QAxs.out.keepB b15)
    replace Rw0 := Lib.hid (Rw0.out.keepB b15)
    replace Hg0 := Lib.hid (Hg0.out.keepB b15)
    replace Rh0 := Lib.hid (Rh0.out.keepB b15)
    go_wp2_with fail
    refine (heldCutS_at _ _ _ _ _ (by omega) (by omega) _ (Hg0.out)).mono ?_
    rintro e1 w16 ⟨rfl, b16⟩
    have caaC_0 := box_cell b16 caaC_0
    have caaC_1 := box_cell b16 caaC_1
    have ltcaaC : w.heap.size < w16.heap.size := World.block_lt_of_cell? w16 _ caaC_0
    have HB := below_step b16 HB
    have zz16 := b16.size
    replace QAxs := Lib.hid (QAxs.out.keepB b16)
    replace Rw0 := Lib.hid (Rw0.out.keepB b16)
    replace Hg0 := Lib.hid (Hg0.out.keepB b16)
    replace Rh0 := Lib.hid (Rh0.out.keepB b16)
    go_wp2
    go_ret
    exact ⟨rfl, HB⟩



set_option maxRecDepth 100000 in
theorem opened {H : Type} {enc : TypeId × Value → H} (W : World) (base : Nat) (args : Array Value) (ds : List (DataW H)) (ps : List MemPlace)
    (hval : ∀ (j : Nat) t v, (#[48, 50] : Array TypeId)[j]? = some t → args[j]? = some v → Value.okWide Tryd.prog W .any base t v)
    (hA : DataW.TrodAll enc Tryd.prog W 0 (fun _ => true) true [48, 50] args.toList ds ps) (hL : (∃ a, Sent a W) ∧ MaxL W) :
    Calls Tryd.prog 6 args W fun e W' => e = .returned (.bool true) ∧ Below W.heap.size W W' := by
  obtain ⟨v0, vs0, d0, ds0, p0, q0, hargs, rfl, rfl, h0, r0⟩ := trodAll_cons hA
  obtain ⟨v1, vs1, d1, ds1, p1, q1, rfl, rfl, rfl, h1, r1⟩ := trodAll_cons r0
  obtain ⟨rfl, rfl, rfl⟩ := trodAll_nil r1
  obtain rfl : args = #[v0, v1] := by cases args; simp_all
  obtain ⟨A0, n0, k0, xs0, rfl, nc0, cm0, xl0, xL0, xo0⟩ := open_rows (ks := [1, 0]) cutCells cutOk (cutDec W) Tryd.underlying48 (by kernel_rfl) (by kernel_rfl) (by decide) (fun _ => rfl) (hval 0 48 v0 rfl rfl) h0
  obtain ⟨cs1, rfl, hc1⟩ := open_cells (ks := [1, 0]) Tryd.underlying50 (by kernel_rfl) (hval 1 50 v1 rfl rfl) h1
  obtain ⟨c1_0, c1_1, rfl⟩ : ∃ c1_0 c1_1 : Value, cs1 = [c1_0, c1_1] := by
    have hl := hc1.length
    match cs1, hl with
    | [c1_0, c1_1], _ => exact ⟨_, _, rfl⟩
  obtain ⟨⟨x1_0, rfl, o1_0⟩, ⟨x1_1, rfl, o1_1⟩, _⟩ := hc1
  exact walk W A0 n0 k0 xs0 nc0 cm0 xl0 xL0 xo0 x1_0 o1_0 x1_1 o1_1 hL
end Go.Proofs.YtcccidlfigfibaaDoor.lawCutsPut
