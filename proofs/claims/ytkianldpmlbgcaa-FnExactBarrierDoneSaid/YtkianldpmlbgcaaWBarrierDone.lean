/-
  FnExactBarrierDone returns true at every input: the program's BarrierDone is the reference's, leaves its arguments as they were, and its result is its own. No condition.
-/
import Derived.Test.YtkianldpmlbgcaaBDone
import Derived.Test.YtkianldpmlbgcaaKBarrier
import Derived.Test.YtkianldpmlbgcaaKBarrierR
namespace Go.Proofs.Ytkianldpmlbgcaa.lawBarrierDone
open Go.ChangeShapes Go.WideShapes Go.ChangeAt Go.RowKit

set_option maxHeartbeats 6400000 in
theorem walk (w : World) (x : Int) (hx0 : IntOk x) (Azs : Option Addr) (nzs czs : Nat) (zs : List Int) (hnczs : nzs ≤ czs) (hcmzs : czs ≤ maxLen) (hxzs : zs.length = nzs) (hLzs' : Lies w 1 Azs nzs (zs.map (.int .i64))) (hozs : ∀ z ∈ zs, IntOk z) (f : Int) (_hf : IntOk f) (p : Int) (_hp : IntOk p) :
    Calls Try.prog 5 #[.agg #[.int .i64 x, .slice Azs nzs czs], .int .i64 f, .int .i64 p] w fun e w' => e = .returned (.bool true) ∧ Below w.heap.size w w' := by
  rw [int_map] at hLzs'
  have HLxzs := Lib.hid hLzs'
  have Hx0 := Lib.hid hx0
  clear hx0
  have hmzs : nzs ≤ maxLen := Nat.le_trans hnczs hcmzs
  have HXzs := Lib.hid hxzs
  have HLzs := Lib.hid hLzs'
  have HOzs := Lib.hid hozs
  clear hxzs hLzs' hozs
  clear HLxzs
  by_cases cs0 : (1048576 : Int) < nzs
  · have es := Lib.hid (show szN (1048576) nzs = -1 by unfold szN; rw [if_pos cs0])
    have QAzs := Lib.hid (ArgAt.mk' HLzs.out)
    have HB : Below w.heap.size w w := Below.refl _ _
    go_enter Try.func5, Try.ntmps5
    go_wp2_with fail
    refine (szBarrier_any _ _ _ _ hmzs _ (by omega) (by omega) _).mono ?_
    rintro e1 w1 ⟨rfl, b1⟩
    rw [es.out]
    have hs1 := b1.size
    simp only [World.size_alloc] at hs1
    have caaB_0 := box_cell b1 (b := w.heap.size) (o := 0) (u := .int .i64 x) (by go_cell)
    have caaB_1 := box_cell b1 (b := w.heap.size) (o := 1) (u := .slice Azs nzs czs) (by go_cell)
    have b1 := below_step b1 (below_alloc (Below.refl _ _) _)
    have ltcaaB : w.heap.size < w1.heap.size := World.block_lt_of_cell? w1 _ caaB_0
    have HB := below_step b1 HB
    have zz1 := b1.size
    replace QAzs := Lib.hid (QAzs.out.keepB b1)
    go_wp2
    go_ret
    exact ⟨rfl, (by repeat' (first | (with_reducible exact Below.refl _ _) | (with_reducible assumption) | (with_reducible refine below_step (by assumption) ?_) | (with_reducible refine below_alloc ?_ _) | (with_reducible refine Below.drew ?_) | (with_reducible refine below_drewN ?_ _) | (with_reducible refine Below.setCell ?_ ?_ _) | go_size))⟩
  have es0 := Lib.hid (show szN (1048576) nzs = 1048576 - nzs by unfold szN; rw [if_neg cs0])
  have hnzs : nzs ≤ 1048576 := by omega
  cases EB0 : bdoneB x zs f p
  all_goals
    have QAzs := Lib.hid (ArgAt.mk' HLzs.out)
    have HB : Below w.heap.size w w := Below.refl _ _
    go_enter Try.func5, Try.ntmps5
    go_wp2_with fail
    refine (szBarrier_any _ _ _ _ hmzs _ (by omega) (by omega) _).mono ?_
    rintro e1 w1 ⟨rfl, b1⟩
    rw [es0.out]
    have hs1 := b1.size
    simp only [World.size_alloc] at hs1
    have caaB_0 := box_cell b1 (b := w.heap.size) (o := 0) (u := .int .i64 x) (by go_cell)
    have caaB_1 := box_cell b1 (b := w.heap.size) (o := 1) (u := .slice Azs nzs czs) (by go_cell)
    have b1 := below_step b1 (below_alloc (Below.refl _ _) _)
    have ltcaaB : w.heap.size < w1.heap.size := World.block_lt_of_cell? w1 _ caaB_0
    have HB := below_step b1 HB
    have zz1 := b1.size
    replace QAzs := Lib.hid (QAzs.out.keepB b1)
    go_wp2_with fail
    refine (toBarrier_at _ _ _ _ _ zs hnzs HXzs.out _ (QAzs.out)).mono ?_
    rintro e1 w2 ⟨g2, rfl, f2, b2⟩
    have caaB_0 := box_cell b2 caaB_0
    have caaB_1 := box_cell b2 caaB_1
    have ltcaaB : w.heap.size < w2.heap.size := World.block_lt_of_cell? w2 _ caaB_0
    have HB := below_step b2 HB
    have zz2 := b2.size
    replace QAzs := Lib.hid (QAzs.out.keepB b2)
    have TaB1 := Lib.hid f2
    clear f2
    go_wp2_with fail
    refine (specBDone_at x _ _ _ _ _ zs f p _ (TaB1.out)).mono ?_
    rintro e1 w3 ⟨A3_0, m3_0, c3_0, rfl, f3_0, b3⟩
    rw [EB0]
    have caaB_0 := box_cell b3 caaB_0
    have caaB_1 := box_cell b3 caaB_1
    have ltcaaB : w.heap.size < w3.heap.size := World.block_lt_of_cell? w3 _ caaB_0
    have HB := below_step b3 HB
    have zz3 := b3.size
    replace QAzs := Lib.hid (QAzs.out.keepB b3)
    replace TaB1 := Lib.hid (TaB1.out.keepB b3)
    have Rw0 := Lib.hid f3_0
    clear f3_0
    clear TaB1
    go_wp2_with fail
    refine (toBarrier_at _ _ _ _ _ zs hnzs HXzs.out _ (QAzs.out.keepB (below_alloc (Below.refl _ _) _))).mono ?_
    rintro e1 w4 ⟨g4, rfl, f4, b4⟩
    have hs4 := b4.size
    simp only [World.size_alloc] at hs4
    have cbw0_0 := box_cell b4 (b := w3.heap.size) (o := 0) (u := .int .i64 (bdoneN x zs f p)) (by go_cell)
    have cbw0_1 := box_cell b4 (b := w3.heap.size) (o := 1) (u := .slice A3_0 m3_0 c3_0) (by go_cell)
    have b4 := below_step b4 (below_alloc (Below.refl _ _) _)
    have caaB_0 := box_cell b4 caaB_0
    have caaB_1 := box_cell b4 caaB_1
    have ltcaaB : w.heap.size < w4.heap.size := World.block_lt_of_cell? w4 _ caaB_0
    have ltcbw0 : w3.heap.size < w4.heap.size := World.block_lt_of_cell? w4 _ cbw0_0
    have HB := below_step b4 HB
    have zz4 := b4.size
    replace QAzs := Lib.hid (QAzs.out.keepB b4)
    replace Rw0 := Lib.hid (Rw0.out.keepB b4)
    simp only [World.size_alloc] at f4
    have Xx0 := Lib.hid f4
    clear f4
    go_wp2_with fail
    refine (implBDone_at x _ _ _ _ _ zs f p _ (Xx0.out.keepB (below_alloc (Below.refl _ _) _))).mono ?_
    rintro e1 w5 ⟨A5_0, m5_0, c5_0, rfl, f5_0, b5⟩
    rw [EB0]
    have hs5 := b5.size
    simp only [World.size_alloc] at hs5
    have cbx0_0 := box_cell b5 (b := w4.heap.size) (o := 0) (u := .int .i64 x) (by go_cell)
    have cbx0_1 := box_cell b5 (b := w4.heap.size) (o := 1) (u := .slice (some ⟨g4, 0, none⟩) nzs nzs) (by go_cell)
    have b5 := below_step b5 (below_alloc (Below.refl _ _) _)
    have caaB_0 := box_cell b5 caaB_0
    have caaB_1 := box_cell b5 caaB_1
    have cbw0_0 := box_cell b5 cbw0_0
    have cbw0_1 := box_cell b5 cbw0_1
    have ltcaaB : w.heap.size < w5.heap.size := World.block_lt_of_cell? w5 _ caaB_0
    have ltcbw0 : w3.heap.size < w5.heap.size := World.block_lt_of_cell? w5 _ cbw0_0
    have ltcbx0 : w4.heap.size < w5.heap.size := World.block_lt_of_cell? w5 _ cbx0_0
    have HB := below_step b5 HB
    have zz5 := b5.size
    replace QAzs := Lib.hid (QAzs.out.keepB b5)
    replace Rw0 := Lib.hid (Rw0.out.keepB b5)
    replace Xx0 := Lib.hid (Xx0.out.keepB b5)
    simp only [World.size_alloc] at f5_0
    have Rg0 := Lib.hid f5_0
    clear f5_0
    go_wp2_with fail
    refine (eqBarrier_see _ _ _ _ _ _ _ _ _ _ _ _ _ _ _ (Rg0.out.keepB (below_alloc (Below.refl _ _) _)).see (Rw0.out.keepB (below_alloc (Below.refl _ _) _))).mono ?_
    rintro e1 w6 ⟨rfl, b6⟩
    rw [dec_self]
    rw [dec_self]
    have hs6 := b6.size
    simp only [World.size_alloc] at hs6
    have cbg0_0 := box_cell b6 (b := w5.heap.size) (o := 0) (u := .int .i64 (bdoneN x zs f p)) (by go_cell)
    have cbg0_1 := box_cell b6 (b := w5.heap.size) (o := 1) (u := .slice A5_0 m5_0 c5_0) (by go_cell)
    have b6 := below_step b6 (below_alloc (Below.refl _ _) _)
    have caaB_0 := box_cell b6 caaB_0
    have caaB_1 := box_cell b6 caaB_1
    have cbw0_0 := box_cell b6 cbw0_0
    have cbw0_1 := box_cell b6 cbw0_1
    have cbx0_0 := box_cell b6 cbx0_0
    have cbx0_1 := box_cell b6 cbx0_1
    have ltcaaB : w.heap.size < w6.heap.size := World.block_lt_of_cell? w6 _ caaB_0
    have ltcbw0 : w3.heap.size < w6.heap.size := World.block_lt_of_cell? w6 _ cbw0_0
    have ltcbx0 : w4.heap.size < w6.heap.size := World.block_lt_of_cell? w6 _ cbx0_0
    have ltcbg0 : w5.heap.size < w6.heap.size := World.block_lt_of_cell? w6 _ cbg0_0
    have HB := below_step b6 HB
    have zz6 := b6.size
    replace QAzs := Lib.hid (QAzs.out.keepB b6)
    replace Rw0 := Lib.hid (Rw0.out.keepB b6)
    replace Xx0 := Lib.hid (Xx0.out.keepB b6)
    replace Rg0 := Lib.hid (Rg0.out.keepB b6)
    have BR := Below.refl w6.heap.size w6
    go_wp2_with fail
    go_region_held3 (fun wx => wx.cell? ⟨w.heap.size, 0, none⟩ = some (.int .i64 x) ∧ wx.cell? ⟨w.heap.size, 1, none⟩ = some (.slice Azs nzs czs) ∧ wx.cell? ⟨w4.heap.size, 0, none⟩ = some (.int .i64 x) ∧ wx.cell? ⟨w4.heap.size, 1, none⟩ = some (.slice (some ⟨g4, 0, none⟩) nzs nzs) ∧ Below w6.heap.size w6 wx) ((go_split_ands; refine ⟨?_, ?_, ?_, ?_, ?_⟩ <;> first | assumption | (refine box_cell (by assumption) ?_; assumption) | (refine below_step (by assumption) ?_; assumption) | exact Below.drew (by assumption)))
      (first | (go_at_call 15; go_split_ands; refine (toBarrier_at _ _ _ _ _ zs hnzs HXzs.out _ (QAzs.out.keepB (by assumption))).mono ?_; rintro e1 wA ⟨gA, rfl, oA, bA⟩; have HQ := Lib.hid oA; have HR := Lib.hid ((Xx0.out.keepB (by assumption)).keepB bA); clear oA) | (go_at_call 17; refine (eqBarrier_at _ _ _ _ _ _ _ _ _ _ _ _ _ _ _ HR.out HQ.out).mono ?_; rintro e1 w7 ⟨rfl, bB⟩; rw [dec_self, dec_self]))
    have b7 : Below w6.heap.size w6 w7 := (by repeat' (first | (with_reducible exact Below.refl _ _) | (with_reducible assumption) | (with_reducible refine below_step (by assumption) ?_) | (with_reducible refine below_alloc ?_ _) | (with_reducible refine Below.drew ?_) | (with_reducible refine below_drewN ?_ _) | (with_reducible refine Below.setCell ?_ ?_ _) | go_size))
    clear HQ HR
    have caaB_0 := box_cell b7 caaB_0
    have caaB_1 := box_cell b7 caaB_1
    have cbw0_0 := box_cell b7 cbw0_0
    have cbw0_1 := box_cell b7 cbw0_1
    have cbx0_0 := box_cell b7 cbx0_0
    have cbx0_1 := box_cell b7 cbx0_1
    have cbg0_0 := box_cell b7 cbg0_0
    have cbg0_1 := box_cell b7 cbg0_1
    have ltcaaB : w.heap.size < w7.heap.size := World.block_lt_of_cell? w7 _ caaB_0
    have ltcbw0 : w3.heap.size < w7.heap.size := World.block_lt_of_cell? w7 _ cbw0_0
    have ltcbx0 : w4.heap.size < w7.heap.size := World.block_lt_of_cell? w7 _ cbx0_0
    have ltcbg0 : w5.heap.size < w7.heap.size := World.block_lt_of_cell? w7 _ cbg0_0
    have HB := below_step b7 HB
    have zz7 := b7.size
    replace QAzs := Lib.hid (QAzs.out.keepB b7)
    replace Rw0 := Lib.hid (Rw0.out.keepB b7)
    replace Xx0 := Lib.hid (Xx0.out.keepB b7)
    replace Rg0 := Lib.hid (Rg0.out.keepB b7)
    have hl7 := Xx0.out.1
    have LF := Xx0
    clear Xx0
    go_wp2_with fail
    refine (markBarrier_at _ _ _ _ _ _ _ _ (by omega) (by omega) _ LF.out).mono ?_
    rintro e1 w8 ⟨rfl, _, b8⟩
    have caaB_0 := cell_keep b8 (by omega) caaB_0
    have caaB_1 := cell_keep b8 (by omega) caaB_1
    have ltcaaB : w.heap.size < w8.heap.size := World.block_lt_of_cell? w8 _ caaB_0
    have cbw0_0 := cell_keep b8 (by omega) cbw0_0
    have cbw0_1 := cell_keep b8 (by omega) cbw0_1
    have ltcbw0 : w3.heap.size < w8.heap.size := World.block_lt_of_cell? w8 _ cbw0_0
    have cbx0_0 := cell_keep b8 (by omega) cbx0_0
    have cbx0_1 := cell_keep b8 (by omega) cbx0_1
    have ltcbx0 : w4.heap.size < w8.heap.size := World.block_lt_of_cell? w8 _ cbx0_0
    have cbg0_0 := cell_keep b8 (by omega) cbg0_0
    have cbg0_1 := cell_keep b8 (by omega) cbg0_1
    have ltcbg0 : w5.heap.size < w8.heap.size := World.block_lt_of_cell? w8 _ cbg0_0
    have zz8 := b8.size
    have HB := Within.below HB b8 (by omega) HB.size
    replace QAzs := Lib.hid (QAzs.out.keep b8 (by omega))
    replace Rw0 := Lib.hid (Rw0.out.keep b8 (by omega))
    replace Rg0 := Lib.hid (Rg0.out.keep b8 (by omega))
    clear LF
    go_wp2_with fail
    refine (eqBarrier_see _ _ _ _ _ _ _ _ _ _ _ _ _ _ _ (Rg0.out).see (Rw0.out)).mono ?_
    rintro e1 w9 ⟨rfl, b9⟩
    rw [dec_self]
    rw [dec_self]
    have caaB_0 := box_cell b9 caaB_0
    have caaB_1 := box_cell b9 caaB_1
    have cbw0_0 := box_cell b9 cbw0_0
    have cbw0_1 := box_cell b9 cbw0_1
    have cbx0_0 := box_cell b9 cbx0_0
    have cbx0_1 := box_cell b9 cbx0_1
    have cbg0_0 := box_cell b9 cbg0_0
    have cbg0_1 := box_cell b9 cbg0_1
    have ltcaaB : w.heap.size < w9.heap.size := World.block_lt_of_cell? w9 _ caaB_0
    have ltcbw0 : w3.heap.size < w9.heap.size := World.block_lt_of_cell? w9 _ cbw0_0
    have ltcbx0 : w4.heap.size < w9.heap.size := World.block_lt_of_cell? w9 _ cbx0_0
    have ltcbg0 : w5.heap.size < w9.heap.size := World.block_lt_of_cell? w9 _ cbg0_0
    have HB := below_step b9 HB
    have zz9 := b9.size
    replace QAzs := Lib.hid (QAzs.out.keepB b9)
    replace Rw0 := Lib.hid (Rw0.out.keepB b9)
    replace Rg0 := Lib.hid (Rg0.out.keepB b9)
    have hl9 := Rg0.out.len
    have LF := Rg0
    clear Rg0
    go_wp2_with fail
    refine (markBarrier_res _ _ _ _ _ _ _ _ (by omega) (by omega) _ LF.out).mono ?_
    rintro e1 w10 ⟨rfl, f10, b10⟩
    have caaB_0 := cell_keep b10 (by omega) caaB_0
    have caaB_1 := cell_keep b10 (by omega) caaB_1
    have ltcaaB : w.heap.size < w10.heap.size := World.block_lt_of_cell? w10 _ caaB_0
    have cbw0_0 := cell_keep b10 (by omega) cbw0_0
    have cbw0_1 := cell_keep b10 (by omega) cbw0_1
    have ltcbw0 : w3.heap.size < w10.heap.size := World.block_lt_of_cell? w10 _ cbw0_0
    have cbx0_0 := cell_keep b10 (by omega) cbx0_0
    have cbx0_1 := cell_keep b10 (by omega) cbx0_1
    have ltcbx0 : w4.heap.size < w10.heap.size := World.block_lt_of_cell? w10 _ cbx0_0
    have cbg0_0 := cell_keep b10 (by omega) cbg0_0
    have cbg0_1 := cell_keep b10 (by omega) cbg0_1
    have ltcbg0 : w5.heap.size < w10.heap.size := World.block_lt_of_cell? w10 _ cbg0_0
    have zz10 := b10.size
    have HB := Within.below HB b10 (by omega) HB.size
    replace QAzs := Lib.hid (QAzs.out.keep b10 (by omega))
    replace Rw0 := Lib.hid (Rw0.out.keep b10 (by omega))
    have Hg0 := Lib.hid f10
    clear f10
    clear LF
    go_wp2_with fail
    refine (heldBarrier_res _ _ _ _ _ _ _ _ (by omega) (by omega) _ (Hg0.out)).mono ?_
    rintro e1 w11 ⟨rfl, b11⟩
    have caaB_0 := box_cell b11 caaB_0
    have caaB_1 := box_cell b11 caaB_1
    have cbw0_0 := box_cell b11 cbw0_0
    have cbw0_1 := box_cell b11 cbw0_1
    have cbx0_0 := box_cell b11 cbx0_0
    have cbx0_1 := box_cell b11 cbx0_1
    have cbg0_0 := box_cell b11 cbg0_0
    have cbg0_1 := box_cell b11 cbg0_1
    have ltcaaB : w.heap.size < w11.heap.size := World.block_lt_of_cell? w11 _ caaB_0
    have ltcbw0 : w3.heap.size < w11.heap.size := World.block_lt_of_cell? w11 _ cbw0_0
    have ltcbx0 : w4.heap.size < w11.heap.size := World.block_lt_of_cell? w11 _ cbx0_0
    have ltcbg0 : w5.heap.size < w11.heap.size := World.block_lt_of_cell? w11 _ cbg0_0
    have HB := below_step b11 HB
    have zz11 := b11.size
    replace QAzs := Lib.hid (QAzs.out.keepB b11)
    replace Rw0 := Lib.hid (Rw0.out.keepB b11)
    replace Hg0 := Lib.hid (Hg0.out.keepB b11)
    go_wp2_with fail
    refine (toBarrier_at _ _ _ _ _ zs hnzs HXzs.out _ (QAzs.out)).mono ?_
    rintro e1 w12 ⟨g12, rfl, f12, b12⟩
    have caaB_0 := box_cell b12 caaB_0
    have caaB_1 := box_cell b12 caaB_1
    have cbw0_0 := box_cell b12 cbw0_0
    have cbw0_1 := box_cell b12 cbw0_1
    have cbx0_0 := box_cell b12 cbx0_0
    have cbx0_1 := box_cell b12 cbx0_1
    have cbg0_0 := box_cell b12 cbg0_0
    have cbg0_1 := box_cell b12 cbg0_1
    have ltcaaB : w.heap.size < w12.heap.size := World.block_lt_of_cell? w12 _ caaB_0
    have ltcbw0 : w3.heap.size < w12.heap.size := World.block_lt_of_cell? w12 _ cbw0_0
    have ltcbx0 : w4.heap.size < w12.heap.size := World.block_lt_of_cell? w12 _ cbx0_0
    have ltcbg0 : w5.heap.size < w12.heap.size := World.block_lt_of_cell? w12 _ cbg0_0
    have HB := below_step b12 HB
    have zz12 := b12.size
    replace QAzs := Lib.hid (QAzs.out.keepB b12)
    replace Rw0 := Lib.hid (Rw0.out.keepB b12)
    replace Hg0 := Lib.hid (Hg0.out.keepB b12)
    have TaB11 := Lib.hid f12
    clear f12
    go_wp2_with fail
    refine (implBDone_at x _ _ _ _ _ zs f p _ (TaB11.out)).mono ?_
    rintro e1 w13 ⟨A13_0, m13_0, c13_0, rfl, f13_0, b13⟩
    rw [EB0]
    have caaB_0 := box_cell b13 caaB_0
    have caaB_1 := box_cell b13 caaB_1
    have cbw0_0 := box_cell b13 cbw0_0
    have cbw0_1 := box_cell b13 cbw0_1
    have cbx0_0 := box_cell b13 cbx0_0
    have cbx0_1 := box_cell b13 cbx0_1
    have cbg0_0 := box_cell b13 cbg0_0
    have cbg0_1 := box_cell b13 cbg0_1
    have ltcaaB : w.heap.size < w13.heap.size := World.block_lt_of_cell? w13 _ caaB_0
    have ltcbw0 : w3.heap.size < w13.heap.size := World.block_lt_of_cell? w13 _ cbw0_0
    have ltcbx0 : w4.heap.size < w13.heap.size := World.block_lt_of_cell? w13 _ cbx0_0
    have ltcbg0 : w5.heap.size < w13.heap.size := World.block_lt_of_cell? w13 _ cbg0_0
    have HB := below_step b13 HB
    have zz13 := b13.size
    replace QAzs := Lib.hid (QAzs.out.keepB b13)
    replace Rw0 := Lib.hid (Rw0.out.keepB b13)
    replace Hg0 := Lib.hid (Hg0.out.keepB b13)
    replace TaB11 := Lib.hid (TaB11.out.keepB b13)
    have Rh0 := Lib.hid f13_0
    clear f13_0
    clear TaB11
    go_wp2_with fail
    refine (eqBarrier_see _ _ _ _ _ _ _ _ _ _ _ _ _ _ _ (Rh0.out.keepB (below_alloc (Below.refl _ _) _)).see (Rw0.out.keepB (below_alloc (Below.refl _ _) _))).mono ?_
    rintro e1 w14 ⟨rfl, b14⟩
    rw [dec_self]
    rw [dec_self]
    have hs14 := b14.size
    simp only [World.size_alloc] at hs14
    have cbh0_0 := box_cell b14 (b := w13.heap.size) (o := 0) (u := .int .i64 (bdoneN x zs f p)) (by go_cell)
    have cbh0_1 := box_cell b14 (b := w13.heap.size) (o := 1) (u := .slice A13_0 m13_0 c13_0) (by go_cell)
    have b14 := below_step b14 (below_alloc (Below.refl _ _) _)
    have caaB_0 := box_cell b14 caaB_0
    have caaB_1 := box_cell b14 caaB_1
    have cbw0_0 := box_cell b14 cbw0_0
    have cbw0_1 := box_cell b14 cbw0_1
    have cbx0_0 := box_cell b14 cbx0_0
    have cbx0_1 := box_cell b14 cbx0_1
    have cbg0_0 := box_cell b14 cbg0_0
    have cbg0_1 := box_cell b14 cbg0_1
    have ltcaaB : w.heap.size < w14.heap.size := World.block_lt_of_cell? w14 _ caaB_0
    have ltcbw0 : w3.heap.size < w14.heap.size := World.block_lt_of_cell? w14 _ cbw0_0
    have ltcbx0 : w4.heap.size < w14.heap.size := World.block_lt_of_cell? w14 _ cbx0_0
    have ltcbg0 : w5.heap.size < w14.heap.size := World.block_lt_of_cell? w14 _ cbg0_0
    have ltcbh0 : w13.heap.size < w14.heap.size := World.block_lt_of_cell? w14 _ cbh0_0
    have HB := below_step b14 HB
    have zz14 := b14.size
    replace QAzs := Lib.hid (QAzs.out.keepB b14)
    replace Rw0 := Lib.hid (Rw0.out.keepB b14)
    replace Hg0 := Lib.hid (Hg0.out.keepB b14)
    replace Rh0 := Lib.hid (Rh0.out.keepB b14)
    go_wp2_with fail
    refine (heldBarrier_res _ _ _ _ _ _ _ _ (by omega) (by omega) _ (Hg0.out)).mono ?_
    rintro e1 w15 ⟨rfl, b15⟩
    have caaB_0 := box_cell b15 caaB_0
    have caaB_1 := box_cell b15 caaB_1
    have cbw0_0 := box_cell b15 cbw0_0
    have cbw0_1 := box_cell b15 cbw0_1
    have cbx0_0 := box_cell b15 cbx0_0
    have cbx0_1 := box_cell b15 cbx0_1
    have cbg0_0 := box_cell b15 cbg0_0
    have cbg0_1 := box_cell b15 cbg0_1
    have cbh0_0 := box_cell b15 cbh0_0
    have cbh0_1 := box_cell b15 cbh0_1
    have ltcaaB : w.heap.size < w15.heap.size := World.block_lt_of_cell? w15 _ caaB_0
    have ltcbw0 : w3.heap.size < w15.heap.size := World.block_lt_of_cell? w15 _ cbw0_0
    have ltcbx0 : w4.heap.size < w15.heap.size := World.block_lt_of_cell? w15 _ cbx0_0
    have ltcbg0 : w5.heap.size < w15.heap.size := World.block_lt_of_cell? w15 _ cbg0_0
    have ltcbh0 : w13.heap.size < w15.heap.size := World.block_lt_of_cell? w15 _ cbh0_0
    have HB := below_step b15 HB
    have zz15 := b15.size
    replace QAzs := Lib.hid (QAzs.out.keepB b15)
    replace Rw0 := Lib.hid (Rw0.out.keepB b15)
    replace Hg0 := Lib.hid (Hg0.out.keepB b15)
    replace Rh0 := Lib.hid (Rh0.out.keepB b15)
    go_wp2
    go_ret
    exact ⟨rfl, HB⟩


set_option maxRecDepth 100000 in
theorem opened {H : Type} {enc : TypeId × Value → H} (W : World) (base : Nat) (args : Array Value) (ds : List (DataW H)) (ps : List MemPlace)
    (hval : ∀ (j : Nat) t v, (#[31, 3, 3] : Array TypeId)[j]? = some t → args[j]? = some v → Value.okWide Try.prog W .any base t v)
    (hA : DataW.TrodAll enc Try.prog W 0 (fun _ => true) true [31, 3, 3] args.toList ds ps) :
    Calls Try.prog 5 args W fun e W' => e = .returned (.bool true) ∧ Below W.heap.size W W' := by
  obtain ⟨v0, vs0, d0, ds0, p0, q0, hargs, rfl, rfl, h0, r0⟩ := trodAll_cons hA
  obtain ⟨v1, vs1, d1, ds1, p1, q1, rfl, rfl, rfl, h1, r1⟩ := trodAll_cons r0
  obtain ⟨v2, vs2, d2, ds2, p2, q2, rfl, rfl, rfl, h2, r2⟩ := trodAll_cons r1
  obtain ⟨rfl, rfl, rfl⟩ := trodAll_nil r2
  obtain rfl : args = #[v0, v1, v2] := by cases args; simp_all
  obtain ⟨cs0, rfl, hc0⟩ := open_cells (ks := [0, 3]) Try.underlying31 (by kernel_rfl) (hval 0 31 v0 rfl rfl) h0
  obtain ⟨c0_0, c0_1, rfl⟩ : ∃ c0_0 c0_1 : Value, cs0 = [c0_0, c0_1] := by
    have hl := hc0.length
    match cs0, hl with
    | [c0_0, c0_1], _ => exact ⟨_, _, rfl⟩
  obtain ⟨⟨x0_0, rfl, o0_0⟩, ⟨A0_1, n0_1, k0_1, z0_1, rfl, nc0_1, cm0_1, zl0_1, zL0_1, zo0_1⟩, _⟩ := hc0
  obtain ⟨a1, rfl, rfl, rfl, w1⟩ := open_int Try.underlying3 (hval 1 3 v1 rfl rfl) h1
  obtain ⟨a2, rfl, rfl, rfl, w2⟩ := open_int Try.underlying3 (hval 2 3 v2 rfl rfl) h2
  exact walk W x0_0 o0_0 A0_1 n0_1 k0_1 z0_1 nc0_1 cm0_1 zl0_1 zL0_1 zo0_1 a1 (bounds_i64 w1) a2 (bounds_i64 w2)
end Go.Proofs.Ytkianldpmlbgcaa.lawBarrierDone
