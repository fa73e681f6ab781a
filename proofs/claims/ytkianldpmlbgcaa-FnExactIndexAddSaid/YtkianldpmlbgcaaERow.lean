/-
  Row: equality of one and of slices, as the laws ask it. No condition.
-/
import Derived.Test.YtkianldpmlbgcaaTRowT
namespace Go.Proofs.Ytkianldpmlbgcaa
open Go.ChangeShapes Go.WideShapes Go.ChangeAt Go.RowKit

set_option maxHeartbeats 1600000 in
theorem eqRow_any (x y : RowX) (w : World) (hx : RowOk w x) (fx : RowFit x) (hy : RowOk w y) :
    Calls Try.prog 36 #[.agg #[.string x.key, .slice x.A x.n x.c], .agg #[.string y.key, .slice y.A y.n y.c]] w fun e w' => e = .returned (.bool (decide (rowVal x = rowVal y))) ∧ Below w.heap.size w w' := by
  obtain ⟨kx, A, n, c, zs⟩ := x
  obtain ⟨ky, B, m, d, ts⟩ := y
  have hn : n ≤ 1048576 := fx.2
  have HX := Lib.hid (show zs.length = n from hx.len)
  have HY := Lib.hid (show ts.length = m from hy.len)
  have HL := Lib.hid (show Lies w 1 A n (zs.flatMap intCells) by rw [← int_map]; exact hx.lies)
  have HM := Lib.hid (show Lies w 1 B m (ts.flatMap intCells) by rw [← int_map]; exact hy.lies)
  clear hx hy fx
  by_cases h0 : kx = ky
  · subst h0
    have m0 : (kx.toList == kx.toList) = true := by simp
    cases hz : decide (zs = ts)
    all_goals
      have e := Lib.hid (show decide (rowVal ⟨kx, A, n, c, zs⟩ = rowVal ⟨kx, B, m, d, ts⟩) = decide (zs = ts) by unfold rowVal; simp)
      go_enter Try.func36, Try.ntmps36
      go_wp2_with (go_at_call 24; refine (eqIntS_any A B n c m d zs ts hn HX.out HY.out _ (HL.out.below (by repeat' (first | (with_reducible exact Below.refl _ _) | (with_reducible assumption) | (with_reducible refine below_step (by assumption) ?_) | (with_reducible refine below_alloc ?_ _) | (with_reducible refine Below.drew ?_) | (with_reducible refine below_drewN ?_ _) | (with_reducible refine Below.setCell ?_ ?_ _) | go_size))) (HM.out.below (by repeat' (first | (with_reducible exact Below.refl _ _) | (with_reducible assumption) | (with_reducible refine below_step (by assumption) ?_) | (with_reducible refine below_alloc ?_ _) | (with_reducible refine Below.drew ?_) | (with_reducible refine below_drewN ?_ _) | (with_reducible refine Below.setCell ?_ ?_ _) | go_size)))).mono ?_; rintro e1 w1 ⟨rfl, hb1⟩; rw [hz])
      go_ret
      exact ⟨ret_bool (by rw [e.out, hz]), (by repeat' (first | (with_reducible exact Below.refl _ _) | (with_reducible assumption) | (with_reducible refine below_step (by assumption) ?_) | (with_reducible refine below_alloc ?_ _) | (with_reducible refine Below.drew ?_) | (with_reducible refine below_drewN ?_ _) | (with_reducible refine Below.setCell ?_ ?_ _) | go_size))⟩
  · have e := Lib.hid (show decide (rowVal ⟨kx, A, n, c, zs⟩ = rowVal ⟨ky, B, m, d, ts⟩) = false by unfold rowVal; simp [h0])
    have m0 : (kx.toList == ky.toList) = false := str_ne h0
    have m1 : (kx.toList != ky.toList) = true := by unfold bne; rw [m0]; rfl
    clear h0
    go_enter Try.func36, Try.ntmps36
    go_wp2
    go_ret
    exact ⟨ret_bool e.out.symm, (by repeat' (first | (with_reducible exact Below.refl _ _) | (with_reducible assumption) | (with_reducible refine below_step (by assumption) ?_) | (with_reducible refine below_alloc ?_ _) | (with_reducible refine Below.drew ?_) | (with_reducible refine below_drewN ?_ _) | (with_reducible refine Below.setCell ?_ ?_ _) | go_size))⟩
end Go.Proofs.Ytkianldpmlbgcaa
