/-
  Valid totals: what the reference's function returns, for every slice of totals. No condition.
-/
import Derived.Test.YtodhmcgjnijllaaDoorTotals
namespace Go.Proofs.YtodhmcgjnijllaaDoor
open Go.ChangeShapes Go.WideShapes Go.ChangeAt Go.RowKit

set_option maxHeartbeats 6400000 in
theorem specTotals_any (A : Option Addr) (n c : Nat) (xs : List (ByteArray × Int × Int)) (hn : n ≤ 1048576) (hx : xs.length = n) (hok : ∀ x ∈ xs, totalOk x) (w : World) (hL : Lies w 3 A n (xs.flatMap totalCells)) :
    Calls Tryd.prog 52 #[.slice A n c] w fun e w' => e = .returned (.bool (totalsB xs)) ∧ Below w.heap.size w w' := by
  have HX := Lib.hid hx
  have HK := Lib.hid hok
  clear hx hok
  go_enter Tryd.func52, Tryd.ntmps52
  go_wp2
  go_loopw [3] (fun i wr => ∃ (k : Nat) (p : Option ByteArray), k ≤ n ∧ i = .int .i64 k ∧ Hid (totalsFrom none xs = totalsFrom p (xs.drop k)) ∧ Hid (k = 0 → p = none) ∧ Hid (0 < k → ∃ y, xs[k - 1]? = some y ∧ p = some y.1) ∧ Below w.heap.size w wr) (fun i _ => n - (intOf i).toNat)
  case atStart => exact ⟨0, none, Nat.zero_le _, rfl, Lib.hid rfl, Lib.hid (fun _ => rfl), Lib.hid (by omega), Below.refl _ _⟩
  case round =>
    obtain ⟨k, p, hk, rfl, hT, hZ, hP, hB⟩ := hrel
    by_cases hlt : k < n
    · obtain ⟨b, o, rfl, hb, hc⟩ := (hL.below hB).row (fun _ => rfl) (by omega)
      obtain ⟨⟨x0, x1, x2⟩, hxk⟩ := get_lt HX.out hlt
      have c0 : wr.cell? ⟨b, o + k * 3, none⟩ = some (.string x0) := hc k _ hxk 0 _ rfl
      have c1 : wr.cell? ⟨b, o + k * 3 + 1, none⟩ = some (.int .i64 x1) := hc k _ hxk 1 _ rfl
      have c2 : wr.cell? ⟨b, o + k * 3 + 2, none⟩ = some (.int .i64 x2) := hc k _ hxk 2 _ rfl
      have H0 := Lib.hid (HK.out _ (List.mem_of_getElem? hxk)).1
      have HXK := Lib.hid hxk
      have HC := Lib.hid hc
      clear hxk hc
      obtain ⟨wb, hwb⟩ : ∃ wb, wb = wr.alloc (.cells #[.string x0, .int .i64 x1, .int .i64 x2] 91) := ⟨_, rfl⟩
      have HWB := Lib.hid hwb
      have BWB : Below w.heap.size w wb := by rw [hwb]; exact below_alloc hB _
      clear hwb
      have a0 := After.cell (show wb.cell? ⟨wr.heap.size, 0, none⟩ = some (.string x0) by rw [HWB.out]; go_cell)
      have a1 := After.cell (show wb.cell? ⟨wr.heap.size, 1, none⟩ = some (.int .i64 x1) by rw [HWB.out]; go_cell)
      have a2 := After.cell (show wb.cell? ⟨wr.heap.size, 2, none⟩ = some (.int .i64 x2) by rw [HWB.out]; go_cell)
      cases E0 : wordB x0
      · have HE : Hid (totalsB xs = false) := Lib.hid (totals_no (sorted_bad HXK.out hT.out (by unfold totalB; simp only [E0]; rfl)))
        go_wp2_with fail
        rw [← HWB.out]
        refine wp_region_after (by kernel_rfl) (by kernel_rfl) ?_
        repeat (go_big_quiet_step ((first | (go_at_call 70; exact after_same_bool E0 (l1Word_any _ H0.out _)))))
        refine wpQuiet_nil ?_
        intro wn hw'
        have hwn := after_below hw'
        clear hw'
        go_wp2
        go_ret
        exact ⟨ret_bool HE.out.symm, (by repeat' (first | (with_reducible exact Below.refl _ _) | (with_reducible assumption) | (with_reducible refine below_step (by assumption) ?_) | (with_reducible refine below_alloc ?_ _) | (with_reducible refine Below.drew ?_) | (with_reducible refine below_drewN ?_ _) | (with_reducible refine Below.setCell ?_ ?_ _) | go_size))⟩
      cases E1 : inB x1 1 99
      · have HE : Hid (totalsB xs = false) := Lib.hid (totals_no (sorted_bad HXK.out hT.out (by unfold totalB; simp only [E0, E1]; rfl)))
        go_wp2_with fail
        rw [← HWB.out]
        refine wp_region_after (by kernel_rfl) (by kernel_rfl) ?_
        repeat (go_big_quiet_step ((first | (go_at_call 70; exact after_same_bool E0 (l1Word_any _ H0.out _)) | (go_at_call_of 67 (Value.int IntKind.i64 x1); exact after_same_bool E1 (l6In_any _ _ _ _)))))
        refine wpQuiet_nil ?_
        intro wn hw'
        have hwn := after_below hw'
        clear hw'
        go_wp2
        go_ret
        exact ⟨ret_bool HE.out.symm, (by repeat' (first | (with_reducible exact Below.refl _ _) | (with_reducible assumption) | (with_reducible refine below_step (by assumption) ?_) | (with_reducible refine below_alloc ?_ _) | (with_reducible refine Below.drew ?_) | (with_reducible refine below_drewN ?_ _) | (with_reducible refine Below.setCell ?_ ?_ _) | go_size))⟩
      have i1 := inB_iff.1 E1
      obtain ⟨i10, i11⟩ := i1
      have m0 : IntKind.i64.wrap (999 * x1) = 999 * x1 := IntWalk.i64_in _ ⟨by omega, by omega⟩
      cases E2 : inB x2 0 (999 * x1)
      · have HE : Hid (totalsB xs = false) := Lib.hid (totals_no (sorted_bad HXK.out hT.out (by unfold totalB; simp only [E0, E1, E2]; rfl)))
        go_wp2_with fail
        rw [← HWB.out]
        refine wp_region_after (by kernel_rfl) (by kernel_rfl) ?_
        repeat (go_big_quiet_step ((first | (go_at_call 70; exact after_same_bool E0 (l1Word_any _ H0.out _)) | (go_at_call_of 67 (Value.int IntKind.i64 x1); exact after_same_bool E1 (l6In_any _ _ _ _)) | (go_at_call_of 67 (Value.int IntKind.i64 x2); exact after_same_bool E2 (l6In_any _ _ _ _)))))
        refine wpQuiet_nil ?_
        intro wn hw'
        have hwn := after_below hw'
        clear hw'
        go_wp2
        go_ret
        exact ⟨ret_bool HE.out.symm, (by repeat' (first | (with_reducible exact Below.refl _ _) | (with_reducible assumption) | (with_reducible refine below_step (by assumption) ?_) | (with_reducible refine below_alloc ?_ _) | (with_reducible refine Below.drew ?_) | (with_reducible refine below_drewN ?_ _) | (with_reducible refine Below.setCell ?_ ?_ _) | go_size))⟩
      have EB : totalB (x0, x1, x2) = true := by unfold totalB; simp only [E0, E1, E2]; rfl
      have HEB := Lib.hid EB
      clear EB
      by_cases hk0 : k = 0
      · have HE : Hid (totalsFrom none xs = totalsFrom (some x0) (xs.drop (k + 1))) := Lib.hid (by
          have h := hT.out
          rw [hZ.out hk0] at h
          exact sorted_first HXK.out h HEB.out)
        have z : decide ((0 : Int) < (k : Int)) = false := by simp; omega
        have z2 : decide (0 < k) = false := by simp; omega
        clear hk0 hZ hP HC
        go_wp2_with fail
        rw [← HWB.out]
        refine wp_region_after (by kernel_rfl) (by kernel_rfl) ?_
        repeat (go_big_quiet_step ((first | (go_at_call 70; exact after_same_bool E0 (l1Word_any _ H0.out _)) | (go_at_call_of 67 (Value.int IntKind.i64 x1); exact after_same_bool E1 (l6In_any _ _ _ _)) | (go_at_call_of 67 (Value.int IntKind.i64 x2); exact after_same_bool E2 (l6In_any _ _ _ _)))))
        refine wpQuiet_nil ?_
        intro wn hw'
        have hwn := after_below hw'
        clear hw'
        go_wp2
        go_roundw
        case rel => exact ⟨k + 1, _, by omega, by go_num, HE, Lib.hid (by omega), Lib.hid (fun _ => ⟨_, HXK.out, rfl⟩), (by repeat' (first | (with_reducible exact Below.refl _ _) | (with_reducible assumption) | (with_reducible refine below_step (by assumption) ?_) | (with_reducible refine below_alloc ?_ _) | (with_reducible refine Below.drew ?_) | (with_reducible refine below_drewN ?_ _) | (with_reducible refine Below.setCell ?_ ?_ _) | go_size))⟩
        case measure => simp [intOf]; omega
      · obtain ⟨⟨q, y1, y2⟩, hy, hq⟩ := hP.out (by omega)
        have d0 : wr.cell? ⟨b, o + (k - 1) * 3, none⟩ = some (.string q) := HC.out (k - 1) _ hy 0 _ rfl
        have d2 := After.cell (show wb.cell? ⟨b, o + (k - 1) * 3, none⟩ = some (.string q) by rw [HWB.out]; exact box_cell (below_alloc (Below.refl _ _) _) d0)
        have z : decide ((0 : Int) < (k : Int)) = true := by simp; omega
        have z1 : (1 : Int) ≤ (k : Int) := by omega
        have z2 : 0 < k := by omega
        have HT2 : Hid (totalsFrom none xs = totalsFrom (some q) (xs.drop k)) := Lib.hid (by rw [← hq]; exact hT.out)
        clear hy hk0 hZ hP HC hT hq
        cases E3 : ltS q x0
        · have HE : Hid (totalsB xs = false) := Lib.hid (totals_no (sorted_stop HXK.out HT2.out E3))
          have F1 : Op.bytesLess q.toList x0.toList = false := E3
          clear E3
          go_wp2_with fail
          rw [← HWB.out]
          refine wp_region_after (by kernel_rfl) (by kernel_rfl) ?_
          repeat (go_big_quiet_step ((first | (go_at_call 70; exact after_same_bool E0 (l1Word_any _ H0.out _)) | (go_at_call_of 67 (Value.int IntKind.i64 x1); exact after_same_bool E1 (l6In_any _ _ _ _)) | (go_at_call_of 67 (Value.int IntKind.i64 x2); exact after_same_bool E2 (l6In_any _ _ _ _)))))
          refine wpQuiet_nil ?_
          intro wn hw'
          have hwn := after_below hw'
          clear hw'
          go_wp2
          go_ret
          exact ⟨ret_bool HE.out.symm, (by repeat' (first | (with_reducible exact Below.refl _ _) | (with_reducible assumption) | (with_reducible refine below_step (by assumption) ?_) | (with_reducible refine below_alloc ?_ _) | (with_reducible refine Below.drew ?_) | (with_reducible refine below_drewN ?_ _) | (with_reducible refine Below.setCell ?_ ?_ _) | go_size))⟩
        · have HE : Hid (totalsFrom none xs = totalsFrom (some x0) (xs.drop (k + 1))) := Lib.hid (sorted_next HXK.out HT2.out HEB.out E3)
          have F1 : Op.bytesLess q.toList x0.toList = true := E3
          clear E3
          go_wp2_with fail
          rw [← HWB.out]
          refine wp_region_after (by kernel_rfl) (by kernel_rfl) ?_
          repeat (go_big_quiet_step ((first | (go_at_call 70; exact after_same_bool E0 (l1Word_any _ H0.out _)) | (go_at_call_of 67 (Value.int IntKind.i64 x1); exact after_same_bool E1 (l6In_any _ _ _ _)) | (go_at_call_of 67 (Value.int IntKind.i64 x2); exact after_same_bool E2 (l6In_any _ _ _ _)))))
          refine wpQuiet_nil ?_
          intro wn hw'
          have hwn := after_below hw'
          clear hw'
          go_wp2
          go_roundw
          case rel => exact ⟨k + 1, _, by omega, by go_num, HE, Lib.hid (by omega), Lib.hid (fun _ => ⟨_, HXK.out, rfl⟩), (by repeat' (first | (with_reducible exact Below.refl _ _) | (with_reducible assumption) | (with_reducible refine below_step (by assumption) ?_) | (with_reducible refine below_alloc ?_ _) | (with_reducible refine Below.drew ?_) | (with_reducible refine below_drewN ?_ _) | (with_reducible refine Below.setCell ?_ ?_ _) | go_size))⟩
          case measure => simp [intOf]; omega
    · have HE : Hid (totalsB xs = decide (n ≤ 24)) := Lib.hid (by
        have := HX.out
        unfold totalsB
        rw [hT.out, List.drop_of_length_le (by omega), HX.out]
        simp [totalsFrom, sortedBy])
      go_wp2
      go_ret
      exact ⟨ret_bool (by rw [HE.out, Bool.eq_iff_iff]; simp; omega), (by repeat' (first | (with_reducible exact Below.refl _ _) | (with_reducible assumption) | (with_reducible refine below_step (by assumption) ?_) | (with_reducible refine below_alloc ?_ _) | (with_reducible refine Below.drew ?_) | (with_reducible refine below_drewN ?_ _) | (with_reducible refine Below.setCell ?_ ?_ _) | go_size))⟩
end Go.Proofs.YtodhmcgjnijllaaDoor
