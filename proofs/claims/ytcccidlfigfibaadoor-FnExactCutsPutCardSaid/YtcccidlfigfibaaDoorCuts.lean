/-
  Valid cuts: what the program's function returns, for every slice of cuts. No condition beyond what the rows list.
-/
import Derived.Test.YtcccidlfigfibaaDoorTCutS
import Derived.Test.YtcccidlfigfibaaDoorOrd
import Derived.Test.YtcccidlfigfibaaDoorBunN
namespace Go.Proofs.YtcccidlfigfibaaDoor
open Go.ChangeShapes Go.WideShapes Go.ChangeAt Go.RowKit

/-- A valid cut. -/
def cutB (x : ByteArray × Int) : Bool := nameB x.1 && inB x.2 1 24
def cutsFrom : Option ByteArray → List (ByteArray × Int) → Bool := sortedBy cutB (fun x => x.1)
def cutsB (xs : List (ByteArray × Int)) : Bool := decide (xs.length ≤ 12) && cutsFrom none xs
theorem cuts_no {xs : List (ByteArray × Int)} (h : cutsFrom none xs = false) : cutsB xs = false := by unfold cutsB; rw [h]; simp
/-- What the walks ask of a cut. -/
def cutSOk (x : ByteArray × Int) : Prop := IntOk x.2 ∧ x.1.size ≤ 1048576
theorem szT_mem : ∀ (ss : List ByteArray) (left : Int), 0 ≤ left → 0 ≤ szT left ss → ∀ s ∈ ss, (s.size : Int) ≤ left
  | [], _, _, _ => fun _ h => by cases h
  | t :: ss, left, h0, h => fun s hs => by
    by_cases c : left < t.size
    · rw [szT_lt c] at h; omega
    · rw [szT_ge c] at h
      rcases List.mem_cons.1 hs with rfl | hm
      · omega
      · have := szT_mem ss (left - t.size) (by omega) h s hm
        omega
theorem cutS_ok {n : Nat} {xs : List (ByteArray × Int)} (h : 0 ≤ szR 1048576 n (xs.flatMap cutTexts)) (hok : ∀ x ∈ xs, cutOk x) : ∀ x ∈ xs, cutSOk x := fun x hx => by
  refine ⟨(hok x hx).2, ?_⟩
  unfold szR at h
  split at h
  · omega
  · have := szT_mem _ _ (by omega) h x.1 (List.mem_flatMap.2 ⟨x, hx, by simp [cutTexts]⟩)
    omega

set_option maxHeartbeats 1600000 in
theorem cutValid_any (c : ByteArray) (m : Int) (hc : c.size ≤ 1048576) (a : Addr) (w : World) (hS : Sent a w) (hM : MaxL w) :
    Calls Tryd.prog 58 #[.agg #[.string c, .int .i64 m]] w fun e w' => e = .returned (.bool (cutB (c, m))) ∧ Below w.heap.size w w' := by
  have hS1 : Sent a (w.alloc (.cells #[.string c, .int .i64 m] 57)) := hS.below (below_alloc (Below.refl _ _) _) (Nat.le_refl _)
  have hM1 : MaxL (w.alloc (.cells #[.string c, .int .i64 m] 57)) := hM.below (below_alloc (Below.refl _ _) _)
  cases cw : nameB c
  · have e := Lib.hid (show cutB (c, m) = false from by unfold cutB; rw [cw]; rfl)
    go_enter Tryd.func58, Tryd.ntmps58
    go_wp2_with (go_at_call 50; refine (implNameValid_any c hc a _ hS1 hM1).mono ?_; rintro e w1 ⟨rfl, hb1⟩; rw [cw])
    go_ret
    exact ⟨ret_bool (by first | exact e.out.symm | (rw [e.out]; simp; omega)), (by repeat' (first | (with_reducible exact Below.refl _ _) | (with_reducible assumption) | (with_reducible refine below_step (by assumption) ?_) | (with_reducible refine below_alloc ?_ _) | (with_reducible refine Below.drew ?_) | (with_reducible refine below_drewN ?_ _) | (with_reducible refine Below.setCell ?_ ?_ _) | go_size))⟩
  have c1' : (w.alloc (.cells #[.string c, .int .i64 m] 57)).cell? ⟨w.heap.size, 1, none⟩ = some (.int .i64 m) := by go_cell
  rcases (show m < 1 ∨ 24 < m ∨ (1 ≤ m ∧ m ≤ 24) from by omega) with h | h | ⟨h, h'⟩
  · have e := Lib.hid (show cutB (c, m) = false from by unfold cutB; rw [inB_f (n := m) (by omega)]; simp)
    have d1 : decide ((1:Int) ≤ m) = false := decide_eq_false (by omega)
    go_enter Tryd.func58, Tryd.ntmps58
    go_wp2_with (go_at_call 50; refine (implNameValid_any c hc a _ hS1 hM1).mono ?_; rintro e w1 ⟨rfl, hb1⟩; have c1 := box_cell hb1 c1'; rw [cw])
    go_ret
    exact ⟨ret_bool (by first | exact e.out.symm | (rw [e.out]; simp; omega)), (by repeat' (first | (with_reducible exact Below.refl _ _) | (with_reducible assumption) | (with_reducible refine below_step (by assumption) ?_) | (with_reducible refine below_alloc ?_ _) | (with_reducible refine Below.drew ?_) | (with_reducible refine below_drewN ?_ _) | (with_reducible refine Below.setCell ?_ ?_ _) | go_size))⟩
  · have e := Lib.hid (show cutB (c, m) = false from by unfold cutB; rw [inB_f (n := m) (by omega)]; simp)
    have d1 : decide ((1:Int) ≤ m) = true := decide_eq_true (by omega)
    have d2 : decide (m ≤ (24:Int)) = false := decide_eq_false (by omega)
    go_enter Tryd.func58, Tryd.ntmps58
    go_wp2_with (go_at_call 50; refine (implNameValid_any c hc a _ hS1 hM1).mono ?_; rintro e w1 ⟨rfl, hb1⟩; have c1 := box_cell hb1 c1'; rw [cw])
    go_ret
    exact ⟨ret_bool (by first | exact e.out.symm | (rw [e.out]; simp; omega)), (by repeat' (first | (with_reducible exact Below.refl _ _) | (with_reducible assumption) | (with_reducible refine below_step (by assumption) ?_) | (with_reducible refine below_alloc ?_ _) | (with_reducible refine Below.drew ?_) | (with_reducible refine below_drewN ?_ _) | (with_reducible refine Below.setCell ?_ ?_ _) | go_size))⟩
  · have e := Lib.hid (show cutB (c, m) = true from by unfold cutB; rw [cw, inB_t (n := m) ⟨h, h'⟩]; rfl)
    have d1 : decide ((1:Int) ≤ m) = true := decide_eq_true (by omega)
    have d2 : decide (m ≤ (24:Int)) = true := decide_eq_true (by omega)
    go_enter Tryd.func58, Tryd.ntmps58
    go_wp2_with (go_at_call 50; refine (implNameValid_any c hc a _ hS1 hM1).mono ?_; rintro e w1 ⟨rfl, hb1⟩; have c1 := box_cell hb1 c1'; rw [cw])
    go_ret
    exact ⟨ret_bool (by first | exact e.out.symm | (rw [e.out]; simp; omega)), (by repeat' (first | (with_reducible exact Below.refl _ _) | (with_reducible assumption) | (with_reducible refine below_step (by assumption) ?_) | (with_reducible refine below_alloc ?_ _) | (with_reducible refine Below.drew ?_) | (with_reducible refine below_drewN ?_ _) | (with_reducible refine Below.setCell ?_ ?_ _) | go_size))⟩

set_option maxHeartbeats 6400000 in
theorem implCuts_any (A : Option Addr) (n c : Nat) (xs : List (ByteArray × Int)) (hn : n ≤ 1048576) (hx : xs.length = n) (hok : ∀ x ∈ xs, cutSOk x) (w : World) (a : Addr) (hS : Sent a w) (hM : MaxL w) (hL : Lies w 2 A n (xs.flatMap cutCells)) :
    Calls Tryd.prog 57 #[.slice A n c] w fun e w' => e = .returned (.bool (cutsB xs)) ∧ Below w.heap.size w w' := by
  by_cases hlim : 12 < n
  · have HE : Hid (cutsB xs = false) := Lib.hid (by unfold cutsB; rw [hx]; simp; omega)
    clear hL hx
    go_enter Tryd.func57, Tryd.ntmps57
    go_wp2
    go_ret
    exact ⟨ret_bool HE.out.symm, Below.refl _ _⟩
  have HR : Hid (cutsB xs = cutsFrom none xs) := Lib.hid (by unfold cutsB; rw [hx]; simp; omega)
  have HX := Lib.hid hx
  have HK := Lib.hid hok
  clear hx hok
  go_enter Tryd.func57, Tryd.ntmps57
  go_wp2
  go_loopw [10] (fun i wr => ∃ (k : Nat) (p : Option ByteArray), k ≤ n ∧ i = .int .i64 k ∧ Hid (cutsFrom none xs = cutsFrom p (xs.drop k)) ∧ Hid (k = 0 → p = none) ∧ Hid (0 < k → ∃ y, xs[k - 1]? = some y ∧ p = some (y.1)) ∧ Below w.heap.size w wr) (fun i _ => n - (intOf i).toNat)
  case atStart => exact ⟨0, none, Nat.zero_le _, rfl, Lib.hid rfl, Lib.hid (fun _ => rfl), Lib.hid (by omega), Below.refl _ _⟩
  case round =>
    obtain ⟨k, p, hk, rfl, hT, hZ, hP, hB⟩ := hrel
    by_cases hlt : k < n
    · obtain ⟨b, o, rfl, hb, hc⟩ := (hL.below hB).row (fun _ => rfl) (by omega)
      obtain ⟨⟨x0, x1⟩, hxk⟩ := get_lt HX.out hlt
      have c0 : wr.cell? ⟨b, o + k * 2, none⟩ = some (.string x0) := hc k _ hxk 0 _ rfl
      have c1 : wr.cell? ⟨b, o + k * 2 + 1, none⟩ = some (.int .i64 x1) := hc k _ hxk 1 _ rfl
      have HOK := Lib.hid (HK.out _ (List.mem_of_getElem? hxk))
      have HXK := Lib.hid hxk
      have HC := Lib.hid hc
      clear hxk hc
      obtain ⟨wb, hwb⟩ : ∃ wb, wb = wr.alloc (.cells #[.string x0, .int .i64 x1] 57) := ⟨_, rfl⟩
      have HWB := Lib.hid hwb
      have BWB : Below w.heap.size w wb := by rw [hwb]; exact below_alloc hB _
      clear hwb
      have hSb := hS.below BWB (Nat.le_refl _)
      have hMb := hM.below BWB
      have b0 : wb.cell? ⟨wr.heap.size, 0, none⟩ = some (.string x0) := by rw [HWB.out]; go_cell
      have b1 : wb.cell? ⟨wr.heap.size, 1, none⟩ = some (.int .i64 x1) := by rw [HWB.out]; go_cell
      have a0 := After.cell b0
      have a1 := After.cell b1
      cases E0 : cutB (x0, x1)
      · have HE : Hid (cutsB xs = false) := Lib.hid (HR.out.trans (sorted_bad HXK.out hT.out E0))
        go_wp2_with fail
        rw [← HWB.out]
        refine wp_region_after (by kernel_rfl) (by kernel_rfl) ?_
        repeat (go_big_quiet_step (((go_at_call 58; exact after_bool E0 (cutValid_any _ _ HOK.out.2 a _ (hSb.below (After.h _) (Nat.le_refl _)) (hMb.below (After.h _)))))))
        refine wpQuiet_nil ?_
        intro wn hw'
        have hwn := after_below hw'
        clear hw'
        go_wp2
        go_ret
        exact ⟨ret_bool HE.out.symm, (by repeat' (first | (with_reducible exact Below.refl _ _) | (with_reducible assumption) | (with_reducible refine below_step (by assumption) ?_) | (with_reducible refine below_alloc ?_ _) | (with_reducible refine Below.drew ?_) | (with_reducible refine below_drewN ?_ _) | (with_reducible refine Below.setCell ?_ ?_ _) | go_size))⟩
      by_cases hk0 : k = 0
      · have HE : Hid (cutsFrom none xs = cutsFrom (some x0) (xs.drop (k + 1))) := Lib.hid (by
          have h := hT.out
          rw [hZ.out hk0] at h
          exact sorted_first HXK.out h E0)
        have z : decide ((0 : Int) < (k : Int)) = false := by simp; omega
        have z2 : decide (0 < k) = false := by simp; omega
        clear hk0 hZ hP HC
        go_wp2_with fail
        rw [← HWB.out]
        refine wp_region_after (by kernel_rfl) (by kernel_rfl) ?_
        repeat (go_big_quiet_step (((go_at_call 58; exact after_bool E0 (cutValid_any _ _ HOK.out.2 a _ (hSb.below (After.h _) (Nat.le_refl _)) (hMb.below (After.h _)))))))
        refine wpQuiet_nil ?_
        intro wn hw'
        have hwn := after_below hw'
        clear hw'
        go_wp2
        go_roundw
        case rel => exact ⟨k + 1, _, by omega, by go_num, HE, Lib.hid (by omega), Lib.hid (fun _ => ⟨_, HXK.out, rfl⟩), (by repeat' (first | (with_reducible exact Below.refl _ _) | (with_reducible assumption) | (with_reducible refine below_step (by assumption) ?_) | (with_reducible refine below_alloc ?_ _) | (with_reducible refine Below.drew ?_) | (with_reducible refine below_drewN ?_ _) | (with_reducible refine Below.setCell ?_ ?_ _) | go_size))⟩
        case measure => simp [intOf]; omega
      · obtain ⟨⟨q, y1⟩, hy, hq⟩ := hP.out (by omega)
        have d0 : wr.cell? ⟨b, o + (k - 1) * 2, none⟩ = some (.string q) := HC.out (k - 1) _ hy 0 _ rfl
        have d1 : wb.cell? ⟨b, o + (k - 1) * 2, none⟩ = some (.string q) := by rw [HWB.out]; exact box_cell (below_alloc (Below.refl _ _) _) d0
        have d2 := After.cell d1
        have z : decide ((0 : Int) < (k : Int)) = true := by simp; omega
        have z1 : (1 : Int) ≤ (k : Int) := by omega
        have z2 : 0 < k := by omega
        have HT2 : Hid (cutsFrom none xs = cutsFrom (some q) (xs.drop k)) := Lib.hid (by rw [← hq]; exact hT.out)
        clear hy hk0 hZ hP HC hT hq
        cases E3 : ltS q x0
        · have HE : Hid (cutsB xs = false) := Lib.hid (HR.out.trans (sorted_stop HXK.out HT2.out E3))
          cases E4 : ltS x0 q
          all_goals
            have F1 : Op.bytesLess x0.toList q.toList = _ := E4
            have F2 : (Op.bytesLess x0.toList q.toList || x0.toList == q.toList) = true := by
              first
                | (rw [F1]; rfl)
                | (rw [F1, ltS_tri E4 E3]; simp)
            clear E3 E4 F1
            go_wp2_with fail
            rw [← HWB.out]
            refine wp_region_after (by kernel_rfl) (by kernel_rfl) ?_
            repeat (go_big_quiet_step (((go_at_call 58; exact after_bool E0 (cutValid_any _ _ HOK.out.2 a _ (hSb.below (After.h _) (Nat.le_refl _)) (hMb.below (After.h _)))))))
            refine wpQuiet_nil ?_
            intro wn hw'
            have hwn := after_below hw'
            clear hw'
            go_wp2
            go_ret
            exact ⟨ret_bool HE.out.symm, (by repeat' (first | (with_reducible exact Below.refl _ _) | (with_reducible assumption) | (with_reducible refine below_step (by assumption) ?_) | (with_reducible refine below_alloc ?_ _) | (with_reducible refine Below.drew ?_) | (with_reducible refine below_drewN ?_ _) | (with_reducible refine Below.setCell ?_ ?_ _) | go_size))⟩
        · have HE : Hid (cutsFrom none xs = cutsFrom (some x0) (xs.drop (k + 1))) := Lib.hid (sorted_next HXK.out HT2.out E0 E3)
          have F1 : Op.bytesLess x0.toList q.toList = false := ltS_asymm E3
          have F2 : (x0.toList == q.toList) = false := str_ne (fun h => ltS_ne E3 h.symm)
          clear E3
          go_wp2_with fail
          rw [← HWB.out]
          refine wp_region_after (by kernel_rfl) (by kernel_rfl) ?_
          repeat (go_big_quiet_step (((go_at_call 58; exact after_bool E0 (cutValid_any _ _ HOK.out.2 a _ (hSb.below (After.h _) (Nat.le_refl _)) (hMb.below (After.h _)))))))
          refine wpQuiet_nil ?_
          intro wn hw'
          have hwn := after_below hw'
          clear hw'
          go_wp2
          go_roundw
          case rel => exact ⟨k + 1, _, by omega, by go_num, HE, Lib.hid (by omega), Lib.hid (fun _ => ⟨_, HXK.out, rfl⟩), (by repeat' (first | (with_reducible exact Below.refl _ _) | (with_reducible assumption) | (with_reducible refine below_step (by assumption) ?_) | (with_reducible refine below_alloc ?_ _) | (with_reducible refine Below.drew ?_) | (with_reducible refine below_drewN ?_ _) | (with_reducible refine Below.setCell ?_ ?_ _) | go_size))⟩
          case measure => simp [intOf]; omega
    · have HE : Hid (cutsB xs = true) := Lib.hid (by
        have := HX.out
        rw [HR.out, hT.out, List.drop_of_length_le (by omega)]; rfl)
      go_wp2
      go_ret
      exact ⟨ret_bool HE.out.symm, (by repeat' (first | (with_reducible exact Below.refl _ _) | (with_reducible assumption) | (with_reducible refine below_step (by assumption) ?_) | (with_reducible refine below_alloc ?_ _) | (with_reducible refine Below.drew ?_) | (with_reducible refine below_drewN ?_ _) | (with_reducible refine Below.setCell ?_ ?_ _) | go_size))⟩
end Go.Proofs.YtcccidlfigfibaaDoor
