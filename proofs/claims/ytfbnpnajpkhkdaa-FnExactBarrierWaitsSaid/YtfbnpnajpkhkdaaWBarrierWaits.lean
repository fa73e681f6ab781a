/-
  FnExactBarrierWaits returns true at every input: the program's BarrierWaits is the reference's, and leaves its argument as it was. No condition.
-/
import Derived.Test.YtfbnpnajpkhkdaaWaits
namespace Go.Proofs.Ytfbnpnajpkhkdaa.lawBarrierWaits
open Go.ChangeShapes Go.WideShapes Go.ChangeAt Go.RowKit

set_option maxHeartbeats 1600000 in
theorem walk (w : World) (x : Int) (hx0 : IntOk x) (A : Option Addr) (n c : Nat) (zs : List Int) (hnc : n ≤ c) (hcm : c ≤ maxLen) (hx : zs.length = n) (hL' : Lies w 1 A n (zs.map (.int .i64))) (_ho : ∀ z ∈ zs, IntOk z) :
    Calls Try.prog 10 #[.agg #[.int .i64 x, .slice A n c]] w fun e w' => e = .returned (.bool true) ∧ Below w.heap.size w w' := by
  rw [int_map] at hL'
  have HX0 := Lib.hid hx0
  clear hx0
  have hm : n ≤ maxLen := Nat.le_trans hnc hcm
  by_cases c0 : (1048576 : Int) < n
  · have e : Hid (szN 1048576 n = -1) := Lib.hid (by unfold szN; rw [if_pos c0])
    clear hL' hx
    go_enter Try.func10, Try.ntmps10
    go_wp2_with (go_at_call 41; refine (szBarrier_any _ _ _ _ hm _ (by omega) (by omega) _).mono ?_; rintro e1 w1 ⟨rfl, hb1⟩; rw [e.out])
    go_ret
    exact ⟨rfl, (by repeat' (first | (with_reducible exact Below.refl _ _) | (with_reducible assumption) | (with_reducible refine below_step (by assumption) ?_) | (with_reducible refine below_alloc ?_ _) | (with_reducible refine Below.drew ?_) | (with_reducible refine below_drewN ?_ _) | (with_reducible refine Below.setCell ?_ ?_ _) | go_size))⟩
  · have e : Hid (szN 1048576 n = 1048576 - n) := Lib.hid (by unfold szN; rw [if_neg c0])
    have hn : n ≤ 1048576 := by omega
    have HX := Lib.hid hx
    have HL := Lib.hid hL'
    clear hx hL'
    go_enter Try.func10, Try.ntmps10
    go_wp2_with fail
    refine (szBarrier_any _ _ _ _ hm _ (by omega) (by omega) _).mono ?_
    rintro e1 w1 ⟨rfl, hb1⟩
    rw [e.out]
    have c0 := box_cell hb1 (b := w.heap.size) (o := 0) (u := .int .i64 x) (by first | assumption | exact box_cell (below_alloc (Below.refl _ _) _) (by assumption) | go_cell); have c1 := box_cell hb1 (b := w.heap.size) (o := 1) (u := .slice A n c) (by first | assumption | exact box_cell (below_alloc (Below.refl _ _) _) (by assumption) | go_cell)
    go_wp2_with fail
    have B1 : Below w.heap.size w w1 := (by repeat' (first | (with_reducible exact Below.refl _ _) | (with_reducible assumption) | (with_reducible refine below_step (by assumption) ?_) | (with_reducible refine below_alloc ?_ _) | (with_reducible refine Below.drew ?_) | (with_reducible refine below_drewN ?_ _) | (with_reducible refine Below.setCell ?_ ?_ _) | go_size))
    refine (toBarrier_any _ A n c zs hn HX.out _ (HL.out.below B1)).mono ?_
    rintro e1 w2 ⟨g2, rfl, o2, hb1⟩
    have HO := Lib.hid o2
    clear o2
    have c0 := box_cell hb1 (b := w.heap.size) (o := 0) (u := .int .i64 x) (by first | assumption | exact box_cell (below_alloc (Below.refl _ _) _) (by assumption) | go_cell); have c1 := box_cell hb1 (b := w.heap.size) (o := 1) (u := .slice A n c) (by first | assumption | exact box_cell (below_alloc (Below.refl _ _) _) (by assumption) | go_cell)
    go_wp2_with fail
    refine (specWaits_any _ HX0.out _ _ _ zs hn HX.out _ (lies_of_own HO.out)).mono ?_
    rintro e1 w3 ⟨rfl, hb1⟩
    clear HO
    have c0 := box_cell hb1 (b := w.heap.size) (o := 0) (u := .int .i64 x) (by first | assumption | exact box_cell (below_alloc (Below.refl _ _) _) (by assumption) | go_cell); have c1 := box_cell hb1 (b := w.heap.size) (o := 1) (u := .slice A n c) (by first | assumption | exact box_cell (below_alloc (Below.refl _ _) _) (by assumption) | go_cell)
    go_wp2_with fail
    have B3 : Below w.heap.size w w3 := (by repeat' (first | (with_reducible exact Below.refl _ _) | (with_reducible assumption) | (with_reducible refine below_step (by assumption) ?_) | (with_reducible refine below_alloc ?_ _) | (with_reducible refine Below.drew ?_) | (with_reducible refine below_drewN ?_ _) | (with_reducible refine Below.setCell ?_ ?_ _) | go_size))
    refine (toBarrier_any _ A n c zs hn HX.out _ (HL.out.below B3)).mono ?_
    rintro e1 w4 ⟨g4, rfl, o4, hb1⟩
    have HO := Lib.hid o4
    clear o4
    have c0 := box_cell hb1 (b := w.heap.size) (o := 0) (u := .int .i64 x) (by first | assumption | exact box_cell (below_alloc (Below.refl _ _) _) (by assumption) | go_cell); have c1 := box_cell hb1 (b := w.heap.size) (o := 1) (u := .slice A n c) (by first | assumption | exact box_cell (below_alloc (Below.refl _ _) _) (by assumption) | go_cell)
    go_wp2_with fail
    have hb4 := hb1
    refine (implWaits_any _ HX0.out _ _ _ zs hn HX.out _ ((lies_of_own HO.out).below (below_alloc (Below.refl _ _) _))).mono ?_
    rintro e1 w5 ⟨rfl, hb1⟩
    have HP : Hid (Lies w5 1 (some ⟨g4, 0, none⟩) n (zs.flatMap intCells)) := Lib.hid (((lies_of_own HO.out).below (below_alloc (Below.refl _ _) _)).below hb1)
    have B5 : Below w.heap.size w w5 := (by repeat' (first | (with_reducible exact Below.refl _ _) | (with_reducible assumption) | (with_reducible refine below_step (by assumption) ?_) | (with_reducible refine below_alloc ?_ _) | (with_reducible refine Below.drew ?_) | (with_reducible refine below_drewN ?_ _) | (with_reducible refine Below.setCell ?_ ?_ _) | go_size))
    have m0 := box_cell hb1 (b := w4.heap.size) (o := 0) (u := .int .i64 x) (by go_cell)
    have m1 := box_cell hb1 (b := w4.heap.size) (o := 1) (u := .slice (some ⟨g4, 0, none⟩) n n) (by go_cell)
    have c0 := box_cell hb1 (b := w.heap.size) (o := 0) (u := .int .i64 x) (by first | assumption | exact box_cell (below_alloc (Below.refl _ _) _) (by assumption) | go_cell); have c1 := box_cell hb1 (b := w.heap.size) (o := 1) (u := .slice A n c) (by first | assumption | exact box_cell (below_alloc (Below.refl _ _) _) (by assumption) | go_cell)
    have B6 := Below.refl w5.heap.size w5
    go_wp2_with fail
    go_region_held3 (fun wx => wx.cell? ⟨w.heap.size, 0, none⟩ = some (.int .i64 x) ∧ wx.cell? ⟨w.heap.size, 1, none⟩ = some (.slice A n c) ∧ wx.cell? ⟨w4.heap.size, 0, none⟩ = some (.int .i64 x) ∧ wx.cell? ⟨w4.heap.size, 1, none⟩ = some (.slice (some ⟨g4, 0, none⟩) n n) ∧ Below w5.heap.size w5 wx) ((go_split_ands; refine ⟨?_, ?_, ?_, ?_, ?_⟩ <;> first | assumption | (refine box_cell (by assumption) ?_; assumption) | (refine below_step (by assumption) ?_; assumption) | exact Below.drew (by assumption)))
      (first
        | (go_at_call 43; go_split_ands; refine (toBarrier_any _ A n c zs hn HX.out _ (HL.out.below (below_step (by assumption) B5))).mono ?_; rintro e1 w6 ⟨g6, rfl, o6, hb6⟩; have HQ := Lib.hid o6; have HR := Lib.hid ((HP.out.below (by assumption)).below hb6); clear o6)
        | (go_at_call 45; refine (eqBarrier_any _ _ _ _ _ _ _ _ zs zs hn HX.out HX.out _ HR.out (lies_of_own HQ.out)).mono ?_; rintro e1 w7 ⟨rfl, hb7⟩; rw [dec_self, dec_self]))
    go_wp2
    go_ret
    exact ⟨rfl, (by repeat' (first | (with_reducible exact Below.refl _ _) | (with_reducible assumption) | (with_reducible refine below_step (by assumption) ?_) | (with_reducible refine below_alloc ?_ _) | (with_reducible refine Below.drew ?_) | (with_reducible refine below_drewN ?_ _) | (with_reducible refine Below.setCell ?_ ?_ _) | go_size))⟩



set_option maxRecDepth 100000 in
theorem opened {H : Type} {enc : TypeId × Value → H} (W : World) (base : Nat) (args : Array Value) (ds : List (DataW H)) (ps : List MemPlace)
    (hval : ∀ (j : Nat) t v, (#[56] : Array TypeId)[j]? = some t → args[j]? = some v → Value.okWide Try.prog W .any base t v)
    (hA : DataW.TrodAll enc Try.prog W 0 (fun _ => true) true [56] args.toList ds ps) :
    Calls Try.prog 10 args W fun e W' => e = .returned (.bool true) ∧ Below W.heap.size W W' := by
  obtain ⟨v0, vs0, d0, ds0, p0, q0, hargs, rfl, rfl, h0, r0⟩ := trodAll_cons hA
  obtain ⟨rfl, rfl, rfl⟩ := trodAll_nil r0
  obtain rfl : args = #[v0] := by cases args; simp_all
  obtain ⟨cs0, rfl, hc0⟩ := open_cells (ks := [0, 3]) Try.underlying56 (by kernel_rfl) (hval 0 56 v0 rfl rfl) h0
  obtain ⟨c0_0, c0_1, rfl⟩ : ∃ c0_0 c0_1 : Value, cs0 = [c0_0, c0_1] := by
    have hl := hc0.length
    match cs0, hl with
    | [c0_0, c0_1], _ => exact ⟨_, _, rfl⟩
  obtain ⟨⟨x0_0, rfl, o0_0⟩, ⟨A0_1, n0_1, k0_1, z0_1, rfl, nc0_1, cm0_1, zl0_1, zL0_1, zo0_1⟩, _⟩ := hc0
  exact walk W x0_0 o0_0 A0_1 n0_1 k0_1 z0_1 nc0_1 cm0_1 zl0_1 zL0_1 zo0_1
end Go.Proofs.Ytfbnpnajpkhkdaa.lawBarrierWaits
