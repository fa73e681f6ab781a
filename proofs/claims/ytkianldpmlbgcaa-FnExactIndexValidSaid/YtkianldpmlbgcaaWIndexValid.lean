/-
  FnExactIndexValid returns true at every slice: the program's IndexValid is the reference's, and leaves its argument as it was. No condition.
-/
import Derived.Test.YtkianldpmlbgcaaIdxV
namespace Go.Proofs.Ytkianldpmlbgcaa.lawIndexValid
open Go.ChangeShapes Go.WideShapes Go.ChangeAt Go.RowKit

set_option maxHeartbeats 1600000 in
theorem walk (w : World) (A : Option Addr) (n c : Nat) (xs : List RowX) (hnc : n ≤ c) (hcm : c ≤ maxLen) (hx : xs.length = n) (hL : Lies w 2 A n (xs.flatMap rowCells)) (hok : ∀ x ∈ xs, RowOk w x) :
    Calls Try.prog 3 #[.slice A n c] w fun e w' => e = .returned (.bool true) ∧ Below w.heap.size w w' := by
  have hm : n ≤ maxLen := Nat.le_trans hnc hcm
  have HX := Lib.hid hx
  have HK := Lib.hid hok
  have HL := Lib.hid hL
  clear hx hok hL
  go_enter Try.func3, Try.ntmps3
  go_wp2_with fail
  refine (szRowS_any _ _ _ hm xs HX.out _ (by omega) (by omega) _ HK.out HL.out).mono ?_
  rintro e1 w1 ⟨⟨r, rfl, hr⟩, b1⟩
  rcases hr with rfl | ⟨c0, hn, hf⟩
  · go_wp2
    go_ret
    exact ⟨rfl, (by repeat' (first | (with_reducible exact Below.refl _ _) | (with_reducible assumption) | (with_reducible refine below_step (by assumption) ?_) | (with_reducible refine below_alloc ?_ _) | (with_reducible refine Below.drew ?_) | (with_reducible refine below_drewN ?_ _) | (with_reducible refine Below.setCell ?_ ?_ _) | go_size))⟩
  · have HF := Lib.hid (show ∀ x ∈ xs, RowOk w x ∧ RowFit x from fun x hx => ⟨HK.out x hx, hf x hx⟩)
    have HF1 := Lib.hid (show ∀ x ∈ xs, RowOk w1 x ∧ RowFit x from fun x hx => ⟨(HK.out x hx).below b1, hf x hx⟩)
    clear hf
    go_wp2_with fail
    refine (toRowS_any A n c xs hn HX.out _ HF1.out (HL.out.below b1)).mono ?_
    rintro e1 w2 ⟨g2, ys, rfl, o2, hy, hq, b2⟩
    have HO := Lib.hid o2
    have HY := Lib.hid hy
    have HQ := Lib.hid hq
    clear o2 hy hq
    go_wp2_with fail
    refine (specRows_any _ _ _ ys hn (copy_length HY.out HX.out) _ (fit_copy HY.out HF.out HQ.out) (lies_of_own HO.out)).mono ?_
    rintro e1 w3 ⟨rfl, b3⟩
    have HV := Lib.hid (rowsB_congr HY.out (fun y h => (HQ.out y h).ok.len) (fun x h => (HK.out x h).len))
    rw [HV.out]
    obtain ⟨v, hv⟩ : ∃ v, v = rowsB xs := ⟨_, rfl⟩
    rw [← hv]
    have HVV := Lib.hid hv
    clear HO HQ HY HV hv
    have B3 : Below w.heap.size w w3 := by (repeat' (first | (with_reducible exact Below.refl _ _) | (with_reducible assumption) | (with_reducible refine below_step (by assumption) ?_) | (with_reducible refine below_alloc ?_ _) | (with_reducible refine Below.drew ?_) | (with_reducible refine below_drewN ?_ _) | (with_reducible refine Below.setCell ?_ ?_ _) | go_size))
    have HF3 := Lib.hid (show ∀ x ∈ xs, RowOk w3 x ∧ RowFit x from fun x hx => ⟨(HK.out x hx).below B3, (HF.out x hx).2⟩)
    go_wp2_with fail
    refine (toRowS_any A n c xs hn HX.out _ HF3.out (HL.out.below B3)).mono ?_
    rintro e1 w4 ⟨g4, zs, rfl, o4, hy, hq, b4⟩
    have HO := Lib.hid o4
    have HY := Lib.hid hy
    have HQ := Lib.hid hq
    clear o4 hy hq
    go_wp2_with fail
    refine (implRows_any _ _ _ zs hn (copy_length HY.out HX.out) _ (fit_copy HY.out HF.out HQ.out) (lies_of_own HO.out)).mono ?_
    rintro e1 w5 ⟨rfl, b5⟩
    have HV := Lib.hid (rowsB_congr HY.out (fun y h => (HQ.out y h).ok.len) (fun x h => (HK.out x h).len))
    rw [HV.out, ← HVV.out]
    clear HV
    have B5 : Below w.heap.size w w5 := by (repeat' (first | (with_reducible exact Below.refl _ _) | (with_reducible assumption) | (with_reducible refine below_step (by assumption) ?_) | (with_reducible refine below_alloc ?_ _) | (with_reducible refine Below.drew ?_) | (with_reducible refine below_drewN ?_ _) | (with_reducible refine Below.setCell ?_ ?_ _) | go_size))
    have HF5 := Lib.hid (show ∀ x ∈ xs, RowOk w5 x ∧ RowFit x from fun x hx => ⟨(HK.out x hx).below B5, (HF.out x hx).2⟩)
    go_wp2_with fail
    refine (toRowS_any A n c xs hn HX.out _ HF5.out (HL.out.below B5)).mono ?_
    rintro e1 w6 ⟨g6, us, rfl, o6, hy6, hq6, b6⟩
    have HP := Lib.hid o6
    have HY6 := Lib.hid hy6
    have HQ6 := Lib.hid hq6
    clear o6 hy6 hq6
    have B46 : Below w4.heap.size w4 w6 := below_step b6 b5
    go_wp2_with fail
    refine (eqRowS_same _ _ _ _ _ zs us hn (copy_length HY.out HX.out) (copy_length HY6.out HX.out) (HY.out.trans HY6.out.symm) _ (fun x hx => ⟨(HQ.out x hx).ok.below B46, (fit_copy HY.out HF.out HQ.out x hx).2⟩) (fun y hy => (HQ6.out y hy).ok) ((lies_of_own HO.out).below B46) (lies_of_own HP.out)).mono ?_
    rintro e1 w7 ⟨rfl, b7⟩
    go_wp2
    go_ret
    exact ⟨rfl, (by repeat' (first | (with_reducible exact Below.refl _ _) | (with_reducible assumption) | (with_reducible refine below_step (by assumption) ?_) | (with_reducible refine below_alloc ?_ _) | (with_reducible refine Below.drew ?_) | (with_reducible refine below_drewN ?_ _) | (with_reducible refine Below.setCell ?_ ?_ _) | go_size))⟩


set_option maxRecDepth 100000 in
theorem opened {H : Type} {enc : TypeId × Value → H} (W : World) (base : Nat) (args : Array Value) (ds : List (DataW H)) (ps : List MemPlace)
    (hval : ∀ (j : Nat) t v, (#[22] : Array TypeId)[j]? = some t → args[j]? = some v → Value.okWide Try.prog W .any base t v)
    (hA : DataW.TrodAll enc Try.prog W 0 (fun _ => true) true [22] args.toList ds ps) :
    Calls Try.prog 3 args W fun e W' => e = .returned (.bool true) ∧ Below W.heap.size W W' := by
  obtain ⟨v0, vs0, d0, ds0, p0, q0, hargs, rfl, rfl, h0, r0⟩ := trodAll_cons hA
  obtain ⟨rfl, rfl, rfl⟩ := trodAll_nil r0
  obtain rfl : args = #[v0] := by cases args; simp_all
  obtain ⟨A0, n0, k0, xs0, rfl, nc0, cm0, xl0, xL0, xo0⟩ := open_rows (ks := [1, 3]) rowCells (RowOk W) (rowDec W) Try.underlying22 (by kernel_rfl) (by kernel_rfl) (by decide) (fun _ => rfl) (hval 0 22 v0 rfl rfl) h0
  exact walk W A0 n0 k0 xs0 nc0 cm0 xl0 xL0 xo0
end Go.Proofs.Ytkianldpmlbgcaa.lawIndexValid
