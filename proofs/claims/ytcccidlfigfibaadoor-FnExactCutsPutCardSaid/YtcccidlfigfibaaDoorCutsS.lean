/-
  Valid cuts: what the reference's function returns, for every slice of cuts. No condition.
-/
import Derived.Test.YtcccidlfigfibaaDoorCuts
namespace Go.Proofs.YtcccidlfigfibaaDoor
open Go.ChangeShapes Go.WideShapes Go.ChangeAt Go.RowKit

set_option maxHeartbeats 6400000 in
theorem specCuts_any (A : Option Addr) (n c : Nat) (xs : List (ByteArray × Int)) (hn : n ≤ 1048576) (hx : xs.length = n) (hok : ∀ x ∈ xs, cutSOk x) (w : World) (hL : Lies w 2 A n (xs.flatMap cutCells)) :
    Calls Tryd.prog 55 #[.slice A n c] w fun e w' => e = .returned (.bool (cutsB xs)) ∧ Below w.heap.size w w' := by
  have HX := Lib.hid hx
  have HK := Lib.hid hok
  clear hx hok
  go_enter Tryd.func55, Tryd.ntmps55
  go_wp2
  go_loopw [3] (fun i wr => ∃ (k : Nat) (p : Option ByteArray), k ≤ n ∧ i = .int .i64 k ∧ Hid (cutsFrom none xs = cutsFrom p (xs.drop k)) ∧ Hid (k = 0 → p = none) ∧ Hid (0 < k → ∃ y, xs[k - 1]? = some y ∧ p = some y.1) ∧ Below w.heap.size w wr) (fun i _ => n - (intOf i).toNat)
  case atStart => exact ⟨0, none, Nat.zero_le _, rfl, Lib.hid rfl, Lib.hid (fun _ => rfl), Lib.hid (by omega), Below.refl _ _⟩
  case round =>
    obtain ⟨k, p, hk, rfl, hT, hZ0, hP, hB⟩ := hrel
    by_cases hlt : k < n
    · obtain ⟨b, o, rfl, hb, hc⟩ := (hL.below hB).row (fun _ => rfl) (by omega)
      obtain ⟨⟨x0, x1⟩, hxk⟩ := get_lt HX.out hlt
      have c0 : wr.cell? ⟨b, o + k * 2, none⟩ = some (.string x0) := hc k _ hxk 0 _ rfl
      have c1 : wr.cell? ⟨b, o + k * 2 + 1, none⟩ = some (.int .i64 x1) := hc k _ hxk 1 _ rfl
      have HZ := Lib.hid (HK.out _ (List.mem_of_getElem? hxk)).2
      have HXK := Lib.hid hxk
      have HC := Lib.hid hc
      clear hxk hc
      have a0 := After.cell c0
      have a1 := After.cell c1
      cases E0 : nameB x0
      · have HE : Hid (cutsB xs = false) := Lib.hid (cuts_no (sorted_bad HXK.out hT.out (by unfold cutB; simp only [E0]; rfl)))
        go_wp2_with fail
        refine wp_region_after (by kernel_rfl) (by kernel_rfl) ?_
        repeat (go_big_quiet_step ((first | (go_at_call 46; exact after_bool E0 (specNameValid_any _ HZ.out _)))))
        refine wpQuiet_nil ?_
        intro wn hw'
        have hwn := after_below hw'
        clear hw'
        go_wp2
        go_ret
        exact ⟨ret_bool HE.out.symm, (by repeat' (first | (with_reducible exact Below.refl _ _) | (with_reducible assumption) | (with_reducible refine below_step (by assumption) ?_) | (with_reducible refine below_alloc ?_ _) | (with_reducible refine Below.drew ?_) | (with_reducible refine below_drewN ?_ _) | (with_reducible refine Below.setCell ?_ ?_ _) | go_size))⟩
      cases E1 : inB x1 1 24
      · have HE : Hid (cutsB xs = false) := Lib.hid (cuts_no (sorted_bad HXK.out hT.out (by unfold cutB; simp only [E0, E1]; rfl)))
        go_wp2_with fail
        refine wp_region_after (by kernel_rfl) (by kernel_rfl) ?_
        repeat (go_big_quiet_step ((first | (go_at_call 46; exact after_bool E0 (specNameValid_any _ HZ.out _)) | (go_at_call 43; exact after_same_bool E1 (l6In_any _ _ _ _)))))
        refine wpQuiet_nil ?_
        intro wn hw'
        have hwn := after_below hw'
        clear hw'
        go_wp2
        go_ret
        exact ⟨ret_bool HE.out.symm, (by repeat' (first | (with_reducible exact Below.refl _ _) | (with_reducible assumption) | (with_reducible refine below_step (by assumption) ?_) | (with_reducible refine below_alloc ?_ _) | (with_reducible refine Below.drew ?_) | (with_reducible refine below_drewN ?_ _) | (with_reducible refine Below.setCell ?_ ?_ _) | go_size))⟩
      have EB : cutB (x0, x1) = true := by unfold cutB; simp only [E0, E1]; rfl
      have HEB := Lib.hid EB
      clear EB
      by_cases hk0 : k = 0
      · have HE : Hid (cutsFrom none xs = cutsFrom (some x0) (xs.drop (k + 1))) := Lib.hid (by
          have h := hT.out
          rw [hZ0.out hk0] at h
          exact sorted_first HXK.out h HEB.out)
        have z : decide ((0 : Int) < (k : Int)) = false := by simp; omega
        have z2 : decide (0 < k) = false := by simp; omega
        clear hk0 hZ0 hP HC
        go_wp2_with fail
        refine wp_region_after (by kernel_rfl) (by kernel_rfl) ?_
        repeat (go_big_quiet_step ((first | (go_at_call 46; exact after_bool E0 (specNameValid_any _ HZ.out _)) | (go_at_call 43; exact after_same_bool E1 (l6In_any _ _ _ _)))))
        refine wpQuiet_nil ?_
        intro wn hw'
        have hwn := after_below hw'
        clear hw'
        go_wp2
        go_roundw
        case rel => exact ⟨k + 1, _, by omega, by go_num, HE, Lib.hid (by omega), Lib.hid (fun _ => ⟨_, HXK.out, rfl⟩), (by repeat' (first | (with_reducible exact Below.refl _ _) | (with_reducible assumption) | (with_reducible refine below_step (by assumption) ?_) | (with_reducible refine below_alloc ?_ _) | (with_reducible refine Below.drew ?_) | (with_reducible refine below_drewN ?_ _) | (with_reducible refine Below.setCell ?_ ?_ _) | go_size))⟩
        case measure => simp [intOf]; omega
      · obtain ⟨⟨q, y1⟩, hy, hq⟩ := hP.out (by omega)
        have d0 : wr.cell? ⟨b, o + (k - 1) * 2, none⟩ = some (.string q) := HC.out (k - 1) _ hy 0 _ rfl
        have d2 := After.cell d0
        have z : decide ((0 : Int) < (k : Int)) = true := by simp; omega
        have z1 : (1 : Int) ≤ (k : Int) := by omega
        have z2 : 0 < k := by omega
        have HT2 : Hid (cutsFrom none xs = cutsFrom (some q) (xs.drop k)) := Lib.hid (by rw [← hq]; exact hT.out)
        clear hy hk0 hZ0 hP HC hT hq
        cases E3 : ltS q x0
        · have HE : Hid (cutsB xs = false) := Lib.hid (cuts_no (sorted_stop HXK.out HT2.out E3))
          have F1 : Op.bytesLess q.toList x0.toList = false := E3
          clear E3
          go_wp2_with fail
          refine wp_region_after (by kernel_rfl) (by kernel_rfl) ?_
          repeat (go_big_quiet_step ((first | (go_at_call 46; exact after_bool E0 (specNameValid_any _ HZ.out _)) | (go_at_call 43; exact after_same_bool E1 (l6In_any _ _ _ _)))))
          refine wpQuiet_nil ?_
          intro wn hw'
          have hwn := after_below hw'
          clear hw'
          go_wp2
          go_ret
          exact ⟨ret_bool HE.out.symm, (by repeat' (first | (with_reducible exact Below.refl _ _) | (with_reducible assumption) | (with_reducible refine below_step (by assumption) ?_) | (with_reducible refine below_alloc ?_ _) | (with_reducible refine Below.drew ?_) | (with_reducible refine below_drewN ?_ _) | (with_reducible refine Below.setCell ?_ ?_ _) | go_size))⟩
        · have HE : Hid (cutsFrom none xs = cutsFrom (some x0) (xs.drop (k + 1))) := Lib.hid (sorted_next HXK.out HT2.out HEB.out E3)
          have F1 : Op.bytesLess q.toList x0.toList = true := E3
          clear E3
          go_wp2_with fail
          refine wp_region_after (by kernel_rfl) (by kernel_rfl) ?_
          repeat (go_big_quiet_step ((first | (go_at_call 46; exact after_bool E0 (specNameValid_any _ HZ.out _)) | (go_at_call 43; exact after_same_bool E1 (l6In_any _ _ _ _)))))
          refine wpQuiet_nil ?_
          intro wn hw'
          have hwn := after_below hw'
          clear hw'
          go_wp2
          go_roundw
          case rel => exact ⟨k + 1, _, by omega, by go_num, HE, Lib.hid (by omega), Lib.hid (fun _ => ⟨_, HXK.out, rfl⟩), (by repeat' (first | (with_reducible exact Below.refl _ _) | (with_reducible assumption) | (with_reducible refine below_step (by assumption) ?_) | (with_reducible refine below_alloc ?_ _) | (with_reducible refine Below.drew ?_) | (with_reducible refine below_drewN ?_ _) | (with_reducible refine Below.setCell ?_ ?_ _) | go_size))⟩
          case measure => simp [intOf]; omega
    · have HE : Hid (cutsB xs = decide (n ≤ 12)) := Lib.hid (by
        have := HX.out
        unfold cutsB
        rw [hT.out, List.drop_of_length_le (by omega), HX.out]
        simp [cutsFrom, sortedBy])
      go_wp2
      go_ret
      exact ⟨ret_bool (by rw [HE.out, Bool.eq_iff_iff]; simp; omega), (by repeat' (first | (with_reducible exact Below.refl _ _) | (with_reducible assumption) | (with_reducible refine below_step (by assumption) ?_) | (with_reducible refine below_alloc ?_ _) | (with_reducible refine Below.drew ?_) | (with_reducible refine below_drewN ?_ _) | (with_reducible refine Below.setCell ?_ ?_ _) | go_size))⟩
end Go.Proofs.YtcccidlfigfibaaDoor
