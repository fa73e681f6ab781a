/-
  Valid totals: what the reference's and the program's functions return, for every slice of totals. No condition.
-/
import Derived.Test.YtodhmcgjnijllaaDoorTTotalS
import Derived.Test.YtodhmcgjnijllaaDoorOrd
namespace Go.Proofs.YtodhmcgjnijllaaDoor
open Go.ChangeShapes Go.WideShapes Go.ChangeAt Go.RowKit

/-- A valid total. -/
def totalB (x : ByteArray × Int × Int) : Bool := wordB x.1 && inB x.2.1 1 99 && inB x.2.2 0 (999 * x.2.1)
def totalsFrom : Option ByteArray → List (ByteArray × Int × Int) → Bool := sortedBy totalB (fun x => x.1)
def totalsB (xs : List (ByteArray × Int × Int)) : Bool := decide (xs.length ≤ 24) && totalsFrom none xs
theorem totals_no {xs : List (ByteArray × Int × Int)} (h : totalsFrom none xs = false) : totalsB xs = false := by unfold totalsB; rw [h]; simp

set_option maxHeartbeats 1600000 in
theorem totalValid_any (c : ByteArray) (m s : Int) (hm : IntOk m) (hc : StrOk c) (w : World) :
    Calls Tryd.prog 73 #[.agg #[.string c, .int .i64 m, .int .i64 s]] w fun e w' => e = .returned (.bool (totalB (c, m, s))) ∧ Below w.heap.size w w' := by
  obtain ⟨m0, m1⟩ := hm
  cases cw : wordB c
  · have e := Lib.hid (show totalB (c, m, s) = false from by unfold totalB; rw [cw]; rfl)
    go_enter Tryd.func73, Tryd.ntmps73
    go_wp2_with (go_at_call 83; refine (wordValid_any _ hc _).mono ?_; rintro e w' ⟨rfl, rfl⟩)
    go_ret
    exact ⟨ret_bool (by first | exact e.out.symm | (rw [e.out]; simp; omega)), by go_grown⟩
  rcases (show m < 1 ∨ 99 < m ∨ (1 ≤ m ∧ m ≤ 99) from by omega) with h | h | ⟨h, h'⟩
  · have e := Lib.hid (show totalB (c, m, s) = false from by unfold totalB; rw [inB_f (n := m) (by omega)]; simp)
    go_enter Tryd.func73, Tryd.ntmps73
    go_wp2_with (go_at_call 83; refine (wordValid_any _ hc _).mono ?_; rintro e w' ⟨rfl, rfl⟩)
    go_ret
    exact ⟨ret_bool (by first | exact e.out.symm | (rw [e.out]; simp; omega)), by go_grown⟩
  · have e := Lib.hid (show totalB (c, m, s) = false from by unfold totalB; rw [inB_f (n := m) (by omega)]; simp)
    go_enter Tryd.func73, Tryd.ntmps73
    go_wp2_with (go_at_call 83; refine (wordValid_any _ hc _).mono ?_; rintro e w' ⟨rfl, rfl⟩)
    go_ret
    exact ⟨ret_bool (by first | exact e.out.symm | (rw [e.out]; simp; omega)), by go_grown⟩
  · rcases (show s < 0 ∨ m * 999 < s ∨ (0 ≤ s ∧ s ≤ m * 999) from by omega) with q | q | ⟨q, q'⟩
    all_goals
      have e2 : Hid (totalB (c, m, s) = (inB m 1 99 && inB s 0 (999 * m))) := Lib.hid (by unfold totalB; rw [cw]; rfl)
      go_enter Tryd.func73, Tryd.ntmps73
      go_wp2_with (go_at_call 83; refine (wordValid_any _ hc _).mono ?_; rintro e w' ⟨rfl, rfl⟩)
      go_ret
      exact ⟨ret_bool (by rw [e2.out, Bool.eq_iff_iff]; simp [inB]; omega), by go_grown⟩

set_option maxHeartbeats 6400000 in
theorem implTotals_any (A : Option Addr) (n c : Nat) (xs : List (ByteArray × Int × Int)) (hn : n ≤ 1048576) (hx : xs.length = n) (hok : ∀ x ∈ xs, totalOk x) (w : World) (hL : Lies w 3 A n (xs.flatMap totalCells)) :
    Calls Tryd.prog 59 #[.slice A n c] w fun e w' => e = .returned (.bool (totalsB xs)) ∧ Below w.heap.size w w' := by
  by_cases hlim : 24 < n
  · have HE : Hid (totalsB xs = false) := Lib.hid (by unfold totalsB; rw [hx]; simp; omega)
    clear hL hx
    go_enter Tryd.func59, Tryd.ntmps59
    go_wp2
    go_ret
    exact ⟨ret_bool HE.out.symm, Below.refl _ _⟩
  have HR : Hid (totalsB xs = totalsFrom none xs) := Lib.hid (by unfold totalsB; rw [hx]; simp; omega)
  have HX := Lib.hid hx
  have HK := Lib.hid hok
  clear hx hok
  go_enter Tryd.func59, Tryd.ntmps59
  go_wp2
  go_loopw [10] (fun i wr => ∃ (k : Nat) (p : Option ByteArray), k ≤ n ∧ i = .int .i64 k ∧ Hid (totalsFrom none xs = totalsFrom p (xs.drop k)) ∧ Hid (k = 0 → p = none) ∧ Hid (0 < k → ∃ y, xs[k - 1]? = some y ∧ p = some (y.1)) ∧ Below w.heap.size w wr) (fun i _ => n - (intOf i).toNat)
  case atStart => exact ⟨0, none, Nat.zero_le _, rfl, Lib.hid rfl, Lib.hid (fun _ => rfl), Lib.hid (by omega), Below.refl _ _⟩
  case round =>
    obtain ⟨k, p, hk, rfl, hT, hZ, hP, hB⟩ := hrel
    by_cases hlt : k < n
    · obtain ⟨b, o, rfl, hb, hc⟩ := (hL.below hB).row (fun _ => rfl) (by omega)
      obtain ⟨⟨x0, x1, x2⟩, hxk⟩ := get_lt HX.out hlt
      have c0 : wr.cell? ⟨b, o + k * 3, none⟩ = some (.string x0) := hc k _ hxk 0 _ rfl
      have c1 : wr.cell? ⟨b, o + k * 3 + 1, none⟩ = some (.int .i64 x1) := hc k _ hxk 1 _ rfl
      have c2 : wr.cell? ⟨b, o + k * 3 + 2, none⟩ = some (.int .i64 x2) := hc k _ hxk 2 _ rfl
      have HOK := Lib.hid (HK.out _ (List.mem_of_getElem? hxk))
      have HXK := Lib.hid hxk
      have HC := Lib.hid hc
      clear hxk hc
      obtain ⟨wb, hwb⟩ : ∃ wb, wb = wr.alloc (.cells #[.string x0, .int .i64 x1, .int .i64 x2] 91) := ⟨_, rfl⟩
      have HWB := Lib.hid hwb
      have BWB : Below w.heap.size w wb := by rw [hwb]; exact below_alloc hB _
      clear hwb
      have b0 : wb.cell? ⟨wr.heap.size, 0, none⟩ = some (.string x0) := by rw [HWB.out]; go_cell
      have b1 : wb.cell? ⟨wr.heap.size, 1, none⟩ = some (.int .i64 x1) := by rw [HWB.out]; go_cell
      have b2 : wb.cell? ⟨wr.heap.size, 2, none⟩ = some (.int .i64 x2) := by rw [HWB.out]; go_cell
      have a0 := After.cell b0
      have a1 := After.cell b1
      have a2 := After.cell b2
      cases E0 : totalB (x0, x1, x2)
      · have HE : Hid (totalsB xs = false) := Lib.hid (HR.out.trans (sorted_bad HXK.out hT.out E0))
        go_wp2_with fail
        rw [← HWB.out]
        refine wp_region_after (by kernel_rfl) (by kernel_rfl) ?_
        repeat (go_big_quiet_step (((go_at_call 73; exact after_bool E0 (totalValid_any _ _ _ HOK.out.2.1 HOK.out.1 _)))))
        refine wpQuiet_nil ?_
        intro wn hw'
        have hwn := after_below hw'
        clear hw'
        go_wp2
        go_ret
        exact ⟨ret_bool HE.out.symm, (by repeat' (first | (with_reducible exact Below.refl _ _) | (with_reducible assumption) | (with_reducible refine below_step (by assumption) ?_) | (with_reducible refine below_alloc ?_ _) | (with_reducible refine Below.drew ?_) | (with_reducible refine below_drewN ?_ _) | (with_reducible refine Below.setCell ?_ ?_ _) | go_size))⟩
      by_cases hk0 : k = 0
      · have HE : Hid (totalsFrom none xs = totalsFrom (some x0) (xs.drop (k + 1))) := Lib.hid (by
          have h := hT.out
          rw [hZ.out hk0] at h
          exact sorted_first HXK.out h E0)
        have z : decide ((0 : Int) < (k : Int)) = false := by simp; omega
        have z2 : decide (0 < k) = false := by simp; omega
        clear hk0 hZ hP HC
        go_wp2_with fail
        rw [← HWB.out]
        refine wp_region_after (by kernel_rfl) (by kernel_rfl) ?_
        repeat (go_big_quiet_step (((go_at_call 73; exact after_bool E0 (totalValid_any _ _ _ HOK.out.2.1 HOK.out.1 _)))))
        refine wpQuiet_nil ?_
        intro wn hw'
        have hwn := after_below hw'
        clear hw'
        go_wp2
        go_roundw
        case rel => exact ⟨k + 1, _, by omega, by go_num, HE, Lib.hid (by omega), Lib.hid (fun _ => ⟨_, HXK.out, rfl⟩), (by repeat' (first | (with_reducible exact Below.refl _ _) | (with_reducible assumption) | (with_reducible refine below_step (by assumption) ?_) | (with_reducible refine below_alloc ?_ _) | (with_reducible refine Below.drew ?_) | (with_reducible refine below_drewN ?_ _) | (with_reducible refine Below.setCell ?_ ?_ _) | go_size))⟩
        case measure => simp [intOf]; omega
      · obtain ⟨⟨q, y1, y2⟩, hy, hq⟩ := hP.out (by omega)
        have d0 : wr.cell? ⟨b, o + (k - 1) * 3, none⟩ = some (.string q) := HC.out (k - 1) _ hy 0 _ rfl
        have d1 : wb.cell? ⟨b, o + (k - 1) * 3, none⟩ = some (.string q) := by rw [HWB.out]; exact box_cell (below_alloc (Below.refl _ _) _) d0
        have d2 := After.cell d1
        have z : decide ((0 : Int) < (k : Int)) = true := by simp; omega
        have z1 : (1 : Int) ≤ (k : Int) := by omega
        have z2 : 0 < k := by omega
        have HT2 : Hid (totalsFrom none xs = totalsFrom (some q) (xs.drop k)) := Lib.hid (by rw [← hq]; exact hT.out)
        clear hy hk0 hZ hP HC hT hq
        cases E3 : ltS q x0
        · have HE : Hid (totalsB xs = false) := Lib.hid (HR.out.trans (sorted_stop HXK.out HT2.out E3))
          cases E4 : ltS x0 q
          all_goals
            have F1 : Op.bytesLess x0.toList q.toList = _ := E4
            have F2 : (Op.bytesLess x0.toList q.toList || x0.toList == q.toList) = true := by
              first
                | (rw [F1]; rfl)
                | (rw [F1, ltS_tri E4 E3]; simp)
            clear E3 E4 F1
            go_wp2_with fail
            rw [← HWB.out]
            refine wp_region_after (by kernel_rfl) (by kernel_rfl) ?_
            repeat (go_big_quiet_step (((go_at_call 73; exact after_bool E0 (totalValid_any _ _ _ HOK.out.2.1 HOK.out.1 _)))))
            refine wpQuiet_nil ?_
            intro wn hw'
            have hwn := after_below hw'
            clear hw'
            go_wp2
            go_ret
            exact ⟨ret_bool HE.out.symm, (by repeat' (first | (with_reducible exact Below.refl _ _) | (with_reducible assumption) | (with_reducible refine below_step (by assumption) ?_) | (with_reducible refine below_alloc ?_ _) | (with_reducible refine Below.drew ?_) | (with_reducible refine below_drewN ?_ _) | (with_reducible refine Below.setCell ?_ ?_ _) | go_size))⟩
        · have HE : Hid (totalsFrom none xs = totalsFrom (some x0) (xs.drop (k + 1))) := Lib.hid (sorted_next HXK.out HT2.out E0 E3)
          have F1 : Op.bytesLess x0.toList q.toList = false := ltS_asymm E3
          have F2 : (x0.toList == q.toList) = false := str_ne (fun h => ltS_ne E3 h.symm)
          clear E3
          go_wp2_with fail
          rw [← HWB.out]
          refine wp_region_after (by kernel_rfl) (by kernel_rfl) ?_
          repeat (go_big_quiet_step (((go_at_call 73; exact after_bool E0 (totalValid_any _ _ _ HOK.out.2.1 HOK.out.1 _)))))
          refine wpQuiet_nil ?_
          intro wn hw'
          have hwn := after_below hw'
          clear hw'
          go_wp2
          go_roundw
          case rel => exact ⟨k + 1, _, by omega, by go_num, HE, Lib.hid (by omega), Lib.hid (fun _ => ⟨_, HXK.out, rfl⟩), (by repeat' (first | (with_reducible exact Below.refl _ _) | (with_reducible assumption) | (with_reducible refine below_step (by assumption) ?_) | (with_reducible refine below_alloc ?_ _) | (with_reducible refine Below.drew ?_) | (with_reducible refine below_drewN ?_ _) | (with_reducible refine Below.setCell ?_ ?_ _) | go_size))⟩
          case measure => simp [intOf]; omega
    · have HE : Hid (totalsB xs = true) := Lib.hid (by
        have := HX.out
        rw [HR.out, hT.out, List.drop_of_length_le (by omega)]; rfl)
      go_wp2
      go_ret
      exact ⟨ret_bool HE.out.symm, (by repeat' (first | (with_reducible exact Below.refl _ _) | (with_reducible assumption) | (with_reducible refine below_step (by assumption) ?_) | (with_reducible refine below_alloc ?_ _) | (with_reducible refine Below.drew ?_) | (with_reducible refine below_drewN ?_ _) | (with_reducible refine Below.setCell ?_ ?_ _) | go_size))⟩
end Go.Proofs.YtodhmcgjnijllaaDoor
