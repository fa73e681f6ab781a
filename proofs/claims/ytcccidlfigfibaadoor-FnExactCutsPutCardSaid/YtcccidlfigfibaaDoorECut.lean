/-
  Cut: equality of one and of slices, as the laws ask it. No condition.
-/
import Derived.Test.YtcccidlfigfibaaDoorTCutS
namespace Go.Proofs.YtcccidlfigfibaaDoor
open Go.ChangeShapes Go.WideShapes Go.ChangeAt Go.RowKit

theorem eqCut_any (x y : ByteArray × Int) (w : World) :
    Calls Tryd.prog 61 #[.agg #[.string x.1, .int .i64 x.2], .agg #[.string y.1, .int .i64 y.2]] w fun e w' => e = .returned (.bool (decide (x = y))) ∧ Below w.heap.size w w' := by
  obtain ⟨x0, x1⟩ := x
  obtain ⟨y0, y1⟩ := y
  by_cases h0 : x0 = y0
  · by_cases h1 : x1 = y1
    · have e := Lib.hid (show decide ((x0, x1) = (y0, y1)) = true from by simp [h0, h1])
      have m0 : (x0.toList == y0.toList) = true := by simp [h0]
      have n1 : (x1 != y1) = false := by simp [h1]
      clear h0 h1
      go_enter Tryd.func61, Tryd.ntmps61
      go_wp2
      go_ret
      exact ⟨ret_bool (by first | exact e.out.symm | (rw [e.out]; simp; omega)), by go_grown⟩
    · have e := Lib.hid (show decide ((x0, x1) = (y0, y1)) = false from by simp [h1])
      have m0 : (x0.toList == y0.toList) = true := by simp [h0]
      have n1 : (x1 != y1) = true := by simp [h1]
      clear h0 h1
      go_enter Tryd.func61, Tryd.ntmps61
      go_wp2
      go_ret
      exact ⟨ret_bool (by first | exact e.out.symm | (rw [e.out]; simp; omega)), by go_grown⟩
  · have e := Lib.hid (show decide ((x0, x1) = (y0, y1)) = false from by simp [h0])
    have m0 : (x0.toList == y0.toList) = false := str_ne h0
    clear h0
    go_enter Tryd.func61, Tryd.ntmps61
    go_wp2
    go_ret
    exact ⟨ret_bool (by first | exact e.out.symm | (rw [e.out]; simp; omega)), by go_grown⟩

set_option maxHeartbeats 3200000 in
theorem eqCutS_any (A B : Option Addr) (n c m d : Nat) (xs ys : List (ByteArray × Int)) (hn : n ≤ 1048576) (hx : xs.length = n) (hy : ys.length = m) (w : World) (hL : Lies w 2 A n (xs.flatMap cutCells)) (hM : Lies w 2 B m (ys.flatMap cutCells)) :
    Calls Tryd.prog 30 #[.slice A n c, .slice B m d] w fun e w' => e = .returned (.bool (decide (xs = ys))) ∧ Below w.heap.size w w' := by
  by_cases hnm : n = m
  · subst hnm
    go_enter Tryd.func30, Tryd.ntmps30
    go_wp2
    go_loopw [5] (fun i wr => ∃ k : Nat, k ≤ n ∧ i = .int .i64 k ∧ Hid (xs.take k = ys.take k) ∧ Below w.heap.size w wr) (fun i _ => n - (intOf i).toNat)
    case atStart => exact ⟨0, Nat.zero_le _, rfl, by unfold Hid; rfl, Below.refl _ _⟩
    case round =>
      obtain ⟨k, hk, rfl, hT, hB⟩ := hrel
      by_cases hlt : k < n
      · obtain ⟨b, o, rfl, hb, hc⟩ := (hL.below hB).row (fun _ => rfl) (by omega)
        obtain ⟨⟨x0, x1⟩, hxk⟩ := get_lt hx hlt
        obtain ⟨b', o', rfl, hb', hc'⟩ := (hM.below hB).row (fun _ => rfl) (by omega)
        obtain ⟨⟨y0, y1⟩, hyk⟩ := get_lt hy hlt
        have c0 : wr.cell? ⟨b, o + k * 2, none⟩ = some (.string x0) := hc k _ hxk 0 _ rfl
        have c1 : wr.cell? ⟨b, o + k * 2 + 1, none⟩ = some (.int .i64 x1) := hc k _ hxk 1 _ rfl
        have d0 : wr.cell? ⟨b', o' + k * 2, none⟩ = some (.string y0) := hc' k _ hyk 0 _ rfl
        have d1 : wr.cell? ⟨b', o' + k * 2 + 1, none⟩ = some (.int .i64 y1) := hc' k _ hyk 1 _ rfl
        have HX := Lib.hid hxk
        have HY := Lib.hid hyk
        clear hxk hc hyk hc'
        by_cases he : (x0, x1) = (y0, y1)
        · have E : decide ((x0, x1) = (y0, y1)) = true := by simp only [he, decide_true]
          have HE : Hid (xs.take (k + 1) = ys.take (k + 1)) := Lib.hid (by rw [take_succ_of HX.out, take_succ_of HY.out, hT.out, he])
          clear he
          go_wp2_with fail
          go_region_held3 (fun wx => wx.cell? ⟨b, o + k * 2, none⟩ = some (.string x0) ∧ wx.cell? ⟨b, o + k * 2 + 1, none⟩ = some (.int .i64 x1) ∧ wx.cell? ⟨b', o' + k * 2, none⟩ = some (.string y0) ∧ wx.cell? ⟨b', o' + k * 2 + 1, none⟩ = some (.int .i64 y1)) ((go_split_ands; refine ⟨?_, ?_, ?_, ?_⟩ <;> first | assumption | (refine box_cell (by assumption) ?_; assumption)))
            (first | (go_at_call 61; refine (eqCut_any (x0, x1) (y0, y1) _).mono ?_; rintro e1 w1 ⟨rfl, hb1⟩; rw [E]))
          go_wp2
          go_roundw
          case rel => exact ⟨k + 1, by omega, by go_num, HE, (by repeat' (first | (with_reducible exact Below.refl _ _) | (with_reducible assumption) | (with_reducible refine below_step (by assumption) ?_) | (with_reducible refine below_alloc ?_ _) | (with_reducible refine Below.drew ?_) | (with_reducible refine below_drewN ?_ _) | (with_reducible refine Below.setCell ?_ ?_ _) | go_size))⟩
          case measure => simp [intOf]; omega
        · have E : decide ((x0, x1) = (y0, y1)) = false := by simp only [he, decide_false]
          have HE : Hid (decide (xs = ys) = false) := Lib.hid (by simp only [ne_of_get HX.out HY.out he, decide_false])
          clear he
          go_wp2_with fail
          go_region_held3 (fun wx => wx.cell? ⟨b, o + k * 2, none⟩ = some (.string x0) ∧ wx.cell? ⟨b, o + k * 2 + 1, none⟩ = some (.int .i64 x1) ∧ wx.cell? ⟨b', o' + k * 2, none⟩ = some (.string y0) ∧ wx.cell? ⟨b', o' + k * 2 + 1, none⟩ = some (.int .i64 y1)) ((go_split_ands; refine ⟨?_, ?_, ?_, ?_⟩ <;> first | assumption | (refine box_cell (by assumption) ?_; assumption)))
            (first | (go_at_call 61; refine (eqCut_any (x0, x1) (y0, y1) _).mono ?_; rintro e1 w1 ⟨rfl, hb1⟩; rw [E]))
          go_wp2
          go_ret
          exact ⟨ret_bool HE.out.symm, (by repeat' (first | (with_reducible exact Below.refl _ _) | (with_reducible assumption) | (with_reducible refine below_step (by assumption) ?_) | (with_reducible refine below_alloc ?_ _) | (with_reducible refine Below.drew ?_) | (with_reducible refine below_drewN ?_ _) | (with_reducible refine Below.setCell ?_ ?_ _) | go_size))⟩
      · have HE : Hid (decide (xs = ys) = true) := Lib.hid (by
          have h := hT.out
          rw [List.take_of_length_le (by omega), List.take_of_length_le (by omega)] at h
          simp only [h, decide_true])
        go_wp2
        go_ret
        exact ⟨ret_bool HE.out.symm, (by repeat' (first | (with_reducible exact Below.refl _ _) | (with_reducible assumption) | (with_reducible refine below_step (by assumption) ?_) | (with_reducible refine below_alloc ?_ _) | (with_reducible refine Below.drew ?_) | (with_reducible refine below_drewN ?_ _) | (with_reducible refine Below.setCell ?_ ?_ _) | go_size))⟩
  · have HE : Hid (decide (xs = ys) = false) := Lib.hid (by
      have : xs ≠ ys := fun h => hnm (by rw [← hx, ← hy, h])
      simp only [this, decide_false])
    have N : ((n : Int) != (m : Int)) = true := by simp; omega
    go_enter Tryd.func30, Tryd.ntmps30
    go_wp2
    go_ret
    exact ⟨ret_bool HE.out.symm, (by repeat' (first | (with_reducible exact Below.refl _ _) | (with_reducible assumption) | (with_reducible refine below_step (by assumption) ?_) | (with_reducible refine below_alloc ?_ _) | (with_reducible refine Below.drew ?_) | (with_reducible refine below_drewN ?_ _) | (with_reducible refine Below.setCell ?_ ?_ _) | go_size))⟩

end Go.Proofs.YtcccidlfigfibaaDoor
