/-
  The functions on one barrier: what each returns, for every one. No condition.
-/
import Derived.Test.YtkianldpmlbgcaaAsc
import Derived.Test.YtkianldpmlbgcaaTBarrier
namespace Go.Proofs.Ytkianldpmlbgcaa
open Go.ChangeShapes Go.WideShapes Go.ChangeAt Go.RowKit

/-- A valid barrier. -/
def barrierB (next : Int) (zs : List Int) : Bool := inB next 0 100 && ascTo (-1) next zs
theorem barrier_no {next : Int} {zs : List Int} (h : inB next 0 100 = true → ascTo (-1) next zs = false) : barrierB next zs = false := by
  unfold barrierB
  cases e : inB next 0 100
  · rfl
  · rw [h e]; rfl
theorem barrier_yes {next : Int} {zs : List Int} (h : inB next 0 100 = true → ascTo (-1) next zs = true) : barrierB next zs = inB next 0 100 := by
  unfold barrierB
  cases e : inB next 0 100
  · rfl
  · rw [h e]; rfl

set_option maxHeartbeats 3200000 in
theorem specBarrier_any (next : Int) (A : Option Addr) (n c : Nat) (zs : List Int) (hn : n ≤ 1048576) (hx : zs.length = n) (w : World) (hL : Lies w 1 A n (zs.flatMap intCells)) :
    Calls Try.prog 38 #[.agg #[.int .i64 next, .slice A n c]] w fun e w' => e = .returned (.bool (barrierB next zs)) ∧ Below w.heap.size w w' := by
  obtain ⟨W, hW1⟩ : ∃ W, IntKind.i64.wrap (next - 1) = W := ⟨_, rfl⟩
  have hW2 : wrap64 (next - 1) = W := (IntWalk.i64_left _).symm.trans hW1
  have HWn : Hid (inB next 0 100 = true → W = next - 1) := Lib.hid (fun h => by
    have := inB_iff.1 h
    rw [← hW1]; exact IntWalk.i64_in _ ⟨by omega, by omega⟩)
  obtain ⟨w0, hw0⟩ : ∃ w0, w0 = w.alloc (.cells #[.int .i64 next, .slice A n c] 33) := ⟨_, rfl⟩
  have B0 : Below w.heap.size w w0 := by rw [hw0]; exact below_alloc (Below.refl _ _) _
  have p0 : w0.cell? ⟨w.heap.size, 0, none⟩ = some (.int .i64 next) := by rw [hw0]; go_cell
  have p1 : w0.cell? ⟨w.heap.size, 1, none⟩ = some (.slice A n c) := by rw [hw0]; go_cell
  have HW0 := Lib.hid hw0
  have hL0 := hL.below B0
  clear hw0
  go_enter Try.func38, Try.ntmps38
  go_wp2
  rw [← HW0.out]
  go_loopw [3] (fun i wr => ∃ (k : Nat) (L : Int), k ≤ n ∧ i = .int .i64 k ∧ Hid (inB next 0 100 = true → ascTo (-1) next zs = ascTo L next (zs.drop k)) ∧ -1 ≤ L ∧ Hid (0 < k → zs[k - 1]? = some L) ∧ Hid (k = 0 → L = (-1)) ∧ Below w0.heap.size w0 wr) (fun i _ => n - (intOf i).toNat)
  case atStart => exact ⟨0, (-1), Nat.zero_le _, rfl, Lib.hid (fun _ => rfl), by omega, Lib.hid (by omega), Lib.hid (fun _ => rfl), Below.refl _ _⟩
  case round =>
    obtain ⟨k, L, hk, rfl, hT, hL1, hP, hZ, hB⟩ := hrel
    have r0 := box_cell hB p0
    have r1 := box_cell hB p1
    have hBw : Below w.heap.size w wr := below_step hB B0
    by_cases hlt : k < n
    · obtain ⟨b, o, rfl, hb, hc⟩ := (hL0.below hB).row (fun _ => rfl) (by omega)
      obtain ⟨x0, hxk⟩ := get_lt hx hlt
      have c0 : wr.cell? ⟨b, o + k, none⟩ = some (.int .i64 x0) := by simpa using hc k _ hxk 0 _ rfl
      have HX := Lib.hid hxk
      have HT : Hid (inB next 0 100 = true → ascTo (-1) next zs = (decide (L < x0) && decide (x0 < next) && ascTo x0 next (zs.drop (k + 1)))) := Lib.hid (fun h => asc_step hxk (hT.out h))
      have HC := Lib.hid hc
      clear hxk hc hT
      cases E0 : inB x0 0 W
      · have HE : Hid (barrierB next zs = false) := Lib.hid (barrier_no (fun hr => by
          rw [HT.out hr]
          unfold inB at E0; simp at E0; rw [HWn.out hr] at E0; simp; omega))
        go_wp2_with fail
        go_quiet ((go_at_call 39; exact quiet_left (l6In_any _ _ _ _)))
        go_wp2
        go_ret
        exact ⟨ret_bool HE.out.symm, (by repeat' (first | (with_reducible exact Below.refl _ _) | (with_reducible assumption) | (with_reducible refine below_step (by assumption) ?_) | (with_reducible refine below_alloc ?_ _) | (with_reducible refine Below.drew ?_) | (with_reducible refine below_drewN ?_ _) | (with_reducible refine Below.setCell ?_ ?_ _) | go_size))⟩
      have hx00 : 0 ≤ x0 := by have := (inB_iff.1 E0).1; omega
      by_cases hk0 : k = 0
      · have HE : Hid (inB next 0 100 = true → ascTo (-1) next zs = ascTo x0 next (zs.drop (k + 1))) := Lib.hid (fun hr => by
          rw [HT.out hr, hZ.out hk0]
          unfold inB at E0; simp at E0; rw [HWn.out hr] at E0; simp; omega)
        have z : decide ((0 : Int) < (k : Int)) = false := by simp; omega
        have z2 : decide (0 < k) = false := by simp; omega
        clear hk0 hZ hP HC
        go_wp2_with fail
        go_quiet ((go_at_call 39; exact quiet_left (l6In_any _ _ _ _)))
        go_wp2
        go_roundw
        case rel => exact ⟨k + 1, x0, by omega, by go_num, HE, by omega, Lib.hid (fun _ => HX.out), Lib.hid (by omega), (by repeat' (first | (with_reducible exact Below.refl _ _) | (with_reducible assumption) | (with_reducible refine below_step (by assumption) ?_) | (with_reducible refine below_alloc ?_ _) | (with_reducible refine Below.drew ?_) | (with_reducible refine below_drewN ?_ _) | (with_reducible refine Below.setCell ?_ ?_ _) | go_size))⟩
        case measure => simp [intOf]; omega
      · have hy := hP.out (by omega)
        have d0 : wr.cell? ⟨b, o + (k - 1), none⟩ = some (.int .i64 L) := by simpa using HC.out (k - 1) _ hy 0 _ rfl
        have z : decide ((0 : Int) < (k : Int)) = true := by simp; omega
        have z1 : (1 : Int) ≤ (k : Int) := by omega
        have z2 : 0 < k := by omega
        clear hy hk0 hZ hP HC
        by_cases hle : x0 ≤ L
        · have HE : Hid (barrierB next zs = false) := Lib.hid (barrier_no (fun hr => by
            rw [HT.out hr]; simp; omega))
          go_wp2_with fail
          go_quiet ((go_at_call 39; exact quiet_left (l6In_any _ _ _ _)))
          go_wp2
          go_ret
          exact ⟨ret_bool HE.out.symm, (by repeat' (first | (with_reducible exact Below.refl _ _) | (with_reducible assumption) | (with_reducible refine below_step (by assumption) ?_) | (with_reducible refine below_alloc ?_ _) | (with_reducible refine Below.drew ?_) | (with_reducible refine below_drewN ?_ _) | (with_reducible refine Below.setCell ?_ ?_ _) | go_size))⟩
        · have HE : Hid (inB next 0 100 = true → ascTo (-1) next zs = ascTo x0 next (zs.drop (k + 1))) := Lib.hid (fun hr => by
            rw [HT.out hr]
            unfold inB at E0; simp at E0; rw [HWn.out hr] at E0; simp; omega)
          have hle' : decide (x0 ≤ L) = false := by simp; omega
          go_wp2_with fail
          go_quiet ((go_at_call 39; exact quiet_left (l6In_any _ _ _ _)))
          go_wp2
          go_roundw
          case rel => exact ⟨k + 1, x0, by omega, by go_num, HE, by omega, Lib.hid (fun _ => HX.out), Lib.hid (by omega), (by repeat' (first | (with_reducible exact Below.refl _ _) | (with_reducible assumption) | (with_reducible refine below_step (by assumption) ?_) | (with_reducible refine below_alloc ?_ _) | (with_reducible refine Below.drew ?_) | (with_reducible refine below_drewN ?_ _) | (with_reducible refine Below.setCell ?_ ?_ _) | go_size))⟩
          case measure => simp [intOf]; omega
    · have HE : Hid (barrierB next zs = inB next 0 100) := Lib.hid (barrier_yes (fun hr => by
        rw [hT.out hr, List.drop_of_length_le (by omega)]; rfl))
      go_wp2_with (go_at_call 39; refine (l6In_any _ _ _ _).mono ?_; rintro e1 w1 ⟨rfl, rfl⟩)
      go_ret
      exact ⟨ret_bool HE.out.symm, (by repeat' (first | (with_reducible exact Below.refl _ _) | (with_reducible assumption) | (with_reducible refine below_step (by assumption) ?_) | (with_reducible refine below_alloc ?_ _) | (with_reducible refine Below.drew ?_) | (with_reducible refine below_drewN ?_ _) | (with_reducible refine Below.setCell ?_ ?_ _) | go_size))⟩

set_option maxHeartbeats 3200000 in
theorem implBarrier_any (next : Int) (A : Option Addr) (n c : Nat) (zs : List Int) (hn : n ≤ 1048576) (hx : zs.length = n) (w : World) (hL : Lies w 1 A n (zs.flatMap intCells)) :
    Calls Try.prog 41 #[.agg #[.int .i64 next, .slice A n c]] w fun e w' => e = .returned (.bool (barrierB next zs)) ∧ Below w.heap.size w w' := by
  rcases (show next < 0 ∨ 100 < next ∨ (0 ≤ next ∧ next ≤ 100) from by omega) with g | g | ⟨g, g'⟩
  · have e := Lib.hid (show barrierB next zs = false from by unfold barrierB; rw [inB_f (by omega)]; simp)
    clear hx hL
    go_enter Try.func41, Try.ntmps41
    go_wp2
    go_ret
    exact ⟨ret_bool (by first | exact e.out.symm | (rw [e.out]; simp; omega)), by go_grown⟩
  · have e := Lib.hid (show barrierB next zs = false from by unfold barrierB; rw [inB_f (by omega)]; simp)
    clear hx hL
    go_enter Try.func41, Try.ntmps41
    go_wp2
    go_ret
    exact ⟨ret_bool (by first | exact e.out.symm | (rw [e.out]; simp; omega)), by go_grown⟩
  have HR : Hid (barrierB next zs = ascTo (-1) next zs) := Lib.hid (by unfold barrierB; rw [inB_t ⟨g, g'⟩]; rfl)
  obtain ⟨w0, hw0⟩ : ∃ w0, w0 = w.alloc (.cells #[.int .i64 next, .slice A n c] 33) := ⟨_, rfl⟩
  have B0 : Below w.heap.size w w0 := by rw [hw0]; exact below_alloc (Below.refl _ _) _
  have p0 : w0.cell? ⟨w.heap.size, 0, none⟩ = some (.int .i64 next) := by rw [hw0]; go_cell
  have p1 : w0.cell? ⟨w.heap.size, 1, none⟩ = some (.slice A n c) := by rw [hw0]; go_cell
  have HW0 := Lib.hid hw0
  have hL0 := hL.below B0
  clear hw0
  have HX := Lib.hid hx
  clear hx
  go_enter Try.func41, Try.ntmps41
  go_wp2
  rw [← HW0.out]
  go_loopw [3, 17] (fun l i wr => ∃ (k : Nat) (L : Int), k ≤ n ∧ i = .int .i64 k ∧ l = .int .i64 L ∧ Hid (ascTo (-1) next zs = ascTo L next (zs.drop k)) ∧ Below w0.heap.size w0 wr) (fun _ i _ => n - (intOf i).toNat)
  case atStart => exact ⟨0, -1, Nat.zero_le _, rfl, rfl, Lib.hid rfl, Below.refl _ _⟩
  case round =>
    obtain ⟨k, L, hk, rfl, rfl, hT, hB⟩ := hrel
    have r0 := box_cell hB p0
    have r1 := box_cell hB p1
    have hBw : Below w.heap.size w wr := below_step hB B0
    by_cases hlt : k < n
    · obtain ⟨b, o, rfl, hb, hc⟩ := (hL0.below hB).row (fun _ => rfl) (by omega)
      obtain ⟨x0, hxk⟩ := get_lt HX.out hlt
      have c0 : wr.cell? ⟨b, o + k, none⟩ = some (.int .i64 x0) := by simpa using hc k _ hxk 0 _ rfl
      have HT := Lib.hid (asc_step hxk hT.out)
      clear hxk hc hT
      by_cases g1 : x0 ≤ L
      · have HE : Hid (barrierB next zs = false) := Lib.hid (by
          rw [HR.out, HT.out]; simp; omega)
        go_wp2
        go_ret
        exact ⟨ret_bool HE.out.symm, (by repeat' (first | (with_reducible exact Below.refl _ _) | (with_reducible assumption) | (with_reducible refine below_step (by assumption) ?_) | (with_reducible refine below_alloc ?_ _) | (with_reducible refine Below.drew ?_) | (with_reducible refine below_drewN ?_ _) | (with_reducible refine Below.setCell ?_ ?_ _) | go_size))⟩
      by_cases g3 : next ≤ x0
      · have HE : Hid (barrierB next zs = false) := Lib.hid (by
          rw [HR.out, HT.out]; simp; omega)
        go_wp2
        go_ret
        exact ⟨ret_bool HE.out.symm, (by repeat' (first | (with_reducible exact Below.refl _ _) | (with_reducible assumption) | (with_reducible refine below_step (by assumption) ?_) | (with_reducible refine below_alloc ?_ _) | (with_reducible refine Below.drew ?_) | (with_reducible refine below_drewN ?_ _) | (with_reducible refine Below.setCell ?_ ?_ _) | go_size))⟩
      · have HE : Hid (ascTo (-1) next zs = ascTo x0 next (zs.drop (k + 1))) := Lib.hid (by
          rw [HT.out]; simp; omega)
        go_wp2
        go_roundw
        case rel => exact ⟨k + 1, x0, by omega, by go_num, rfl, HE, (by repeat' (first | (with_reducible exact Below.refl _ _) | (with_reducible assumption) | (with_reducible refine below_step (by assumption) ?_) | (with_reducible refine below_alloc ?_ _) | (with_reducible refine Below.drew ?_) | (with_reducible refine below_drewN ?_ _) | (with_reducible refine Below.setCell ?_ ?_ _) | go_size))⟩
        case measure => simp [intOf]; omega
    · have HE : Hid (barrierB next zs = true) := Lib.hid (by
        have := HX.out
        rw [HR.out, hT.out, List.drop_of_length_le (by omega)]; rfl)
      go_wp2
      go_ret
      exact ⟨ret_bool HE.out.symm, (by repeat' (first | (with_reducible exact Below.refl _ _) | (with_reducible assumption) | (with_reducible refine below_step (by assumption) ?_) | (with_reducible refine below_alloc ?_ _) | (with_reducible refine Below.drew ?_) | (with_reducible refine below_drewN ?_ _) | (with_reducible refine Below.setCell ?_ ?_ _) | go_size))⟩

theorem szBarrier_any (x : Int) (A : Option Addr) (n c : Nat) (hn : n ≤ maxLen) (left : Int) (h0 : 0 ≤ left) (h1 : left ≤ 1048576) (w : World) :
    Calls Try.prog 13 #[.agg #[.int .i64 x, .slice A n c], .int .i64 left] w fun e w' => e = .returned (.int .i64 (szN left n)) ∧ Below w.heap.size w w' := by
  by_cases c0 : szN left n < 0
  all_goals
    go_enter Try.func13, Try.ntmps13
    go_wp2_with fail
    refine (szIntS_any _ _ _ hn _ h0 h1 _).mono ?_
    rintro e1 w1 ⟨rfl, rfl⟩
    go_wp2
    go_ret
  · exact ⟨ret_int (szN_neg h0 c0).symm, by go_grown⟩
  · exact ⟨rfl, by go_grown⟩

set_option maxHeartbeats 1600000 in
theorem eqBarrier_any (x y : Int) (A B : Option Addr) (n c m d : Nat) (xs ys : List Int) (hn : n ≤ 1048576) (hx : xs.length = n) (hy : ys.length = m) (w : World) (hL : Lies w 1 A n (xs.flatMap intCells)) (hM : Lies w 1 B m (ys.flatMap intCells)) :
    Calls Try.prog 17 #[.agg #[.int .i64 x, .slice A n c], .agg #[.int .i64 y, .slice B m d]] w fun e w' => e = .returned (.bool (decide (x = y) && decide (xs = ys))) ∧ Below w.heap.size w w' := by
  have HX := Lib.hid hx
  have HY := Lib.hid hy
  have HL := Lib.hid hL
  have HM := Lib.hid hM
  clear hx hy hL hM
  by_cases h : x = y
  · have D := Lib.hid (show decide (x = y) = true from by simp [h])
    have n0 : (x != y) = false := by simp [h]
    clear h
    cases E : decide (xs = ys)
    all_goals
      go_enter Try.func17, Try.ntmps17
      go_wp2_with fail
      refine (eqIntS_any _ _ _ _ _ _ xs ys hn HX.out HY.out _ (HL.out.below (by repeat' (first | (with_reducible exact Below.refl _ _) | (with_reducible assumption) | (with_reducible refine below_step (by assumption) ?_) | (with_reducible refine below_alloc ?_ _) | (with_reducible refine Below.drew ?_) | (with_reducible refine below_drewN ?_ _) | (with_reducible refine Below.setCell ?_ ?_ _) | go_size))) (HM.out.below (by repeat' (first | (with_reducible exact Below.refl _ _) | (with_reducible assumption) | (with_reducible refine below_step (by assumption) ?_) | (with_reducible refine below_alloc ?_ _) | (with_reducible refine Below.drew ?_) | (with_reducible refine below_drewN ?_ _) | (with_reducible refine Below.setCell ?_ ?_ _) | go_size)))).mono ?_
      rintro e1 w1 ⟨rfl, hb1⟩
      rw [E]
      go_wp2
      go_ret
      exact ⟨ret_bool (by rw [D.out]; first | rfl | (rw [E]; rfl)), (by repeat' (first | (with_reducible exact Below.refl _ _) | (with_reducible assumption) | (with_reducible refine below_step (by assumption) ?_) | (with_reducible refine below_alloc ?_ _) | (with_reducible refine Below.drew ?_) | (with_reducible refine below_drewN ?_ _) | (with_reducible refine Below.setCell ?_ ?_ _) | go_size))⟩
  · have e := Lib.hid (show (decide (x = y) && decide (xs = ys)) = false from by simp [h])
    have n0 : (x != y) = true := by simp [h]
    clear h
    go_enter Try.func17, Try.ntmps17
    go_wp2
    go_ret
    exact ⟨ret_bool (by first | exact e.out.symm | (rw [e.out]; simp; omega)), by go_grown⟩
end Go.Proofs.Ytkianldpmlbgcaa
