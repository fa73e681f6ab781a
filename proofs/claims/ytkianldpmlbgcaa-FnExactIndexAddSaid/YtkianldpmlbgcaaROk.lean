/-
  A row whose positions ascend, as the reference asks it. For every readable row. No condition.
-/
import Derived.Test.YtkianldpmlbgcaaTRow
import Derived.Test.YtkianldpmlbgcaaAsc
namespace Go.Proofs.Ytkianldpmlbgcaa
open Go.ChangeShapes Go.WideShapes Go.ChangeAt Go.RowKit

/-- A key and positions that ascend, at least one. -/
def rowB (x : RowX) : Bool := ascTo (-1) 100 x.zs && (wordB x.key && decide (0 < x.n))
theorem row_no {x : RowX} (h : ascTo (-1) 100 x.zs = false) : rowB x = false := by unfold rowB; rw [h]; rfl

set_option maxHeartbeats 3200000 in
theorem l22Ok_any (x : RowX) (w : World) (hok : RowOk w x) :
    Calls Try.prog 32 #[.agg #[.string x.key, .slice x.A x.n x.c]] w fun e w' => e = .returned (.bool (rowB x)) ∧ Below w.heap.size w w' := by
  obtain ⟨key, A, n, c, zs⟩ := x
  have hs : key.size ≤ maxLen := hok.key
  have hn : n ≤ maxLen := Nat.le_trans hok.cap hok.most
  unfold maxLen at hn
  have hx : zs.length = n := hok.len
  have hL : Lies w 1 A n (zs.flatMap intCells) := by rw [← int_map]; exact hok.lies
  have HNO := Lib.hid (fun h => row_no (x := ⟨key, A, n, c, zs⟩) h)
  have HYES := Lib.hid (show ascTo (-1) 100 zs = true → rowB ⟨key, A, n, c, zs⟩ = (wordB key && decide (0 < n)) from fun h => by unfold rowB; rw [h]; rfl)
  clear hok
  obtain ⟨w0, hw0⟩ : ∃ w0, w0 = w.alloc (.cells #[.string key, .slice A n c] 55) := ⟨_, rfl⟩
  have B0 : Below w.heap.size w w0 := by rw [hw0]; exact below_alloc (Below.refl _ _) _
  have p0 : w0.cell? ⟨w.heap.size, 0, none⟩ = some (.string key) := by rw [hw0]; go_cell
  have p1 : w0.cell? ⟨w.heap.size, 1, none⟩ = some (.slice A n c) := by rw [hw0]; go_cell
  have HW0 := Lib.hid hw0
  have hL0 := hL.below B0
  clear hw0
  go_enter Try.func32, Try.ntmps32
  go_wp2
  rw [← HW0.out]
  go_loopw [3] (fun i wr => ∃ (k : Nat) (L : Int), k ≤ n ∧ i = .int .i64 k ∧ Hid (ascTo (-1) 100 zs = ascTo L 100 (zs.drop k)) ∧ Hid (-1 ≤ L) ∧ Hid (0 < k → zs[k - 1]? = some L) ∧ Hid (k = 0 → L = -1) ∧ Below w0.heap.size w0 wr) (fun i _ => n - (intOf i).toNat)
  case atStart => exact ⟨0, -1, Nat.zero_le _, rfl, Lib.hid rfl, Lib.hid (by omega), Lib.hid (by omega), Lib.hid (fun _ => rfl), Below.refl _ _⟩
  case round =>
    obtain ⟨k, L, hk, rfl, hT, hM, hP, hZ, hB⟩ := hrel
    have r0 := box_cell hB p0
    have r1 := box_cell hB p1
    have hBw : Below w.heap.size w wr := below_step hB B0
    by_cases hlt : k < n
    · obtain ⟨b, o, rfl, hb, hc⟩ := (hL0.below hB).row (fun _ => rfl) (by omega)
      obtain ⟨x0, hxk⟩ := get_lt hx hlt
      have c0 : wr.cell? ⟨b, o + k, none⟩ = some (.int .i64 x0) := by simpa using hc k _ hxk 0 _ rfl
      have HX := Lib.hid hxk
      have HT := Lib.hid (asc_step hxk hT.out)
      have HC := Lib.hid hc
      clear hxk hc hT
      cases E0 : inB x0 0 99
      · have HE : Hid (rowB ⟨key, some ⟨b, o, none⟩, n, c, zs⟩ = false) := Lib.hid (HNO.out (by rw [HT.out]; have := hM.out; unfold inB at E0; simp at E0; simp; omega))
        go_wp2_with fail
        go_quiet ((go_at_call 39; exact quiet_left (l6In_any _ _ _ _)))
        go_wp2
        go_ret
        exact ⟨ret_bool HE.out.symm, (by repeat' (first | (with_reducible exact Below.refl _ _) | (with_reducible assumption) | (with_reducible refine below_step (by assumption) ?_) | (with_reducible refine below_alloc ?_ _) | (with_reducible refine Below.drew ?_) | (with_reducible refine below_drewN ?_ _) | (with_reducible refine Below.setCell ?_ ?_ _) | go_size))⟩
      by_cases hk0 : k = 0
      · have HE : Hid (ascTo (-1) 100 zs = ascTo x0 100 (zs.drop (k + 1))) := Lib.hid (by
          rw [HT.out, hZ.out hk0]; unfold inB at E0; simp at E0; simp; omega)
        have HLn : Hid (-1 ≤ x0) := Lib.hid (by unfold inB at E0; simp at E0; omega)
        have z : decide ((0 : Int) < (k : Int)) = false := by simp; omega
        have z2 : decide (0 < k) = false := by simp; omega
        clear hk0 hZ hP HC
        go_wp2_with fail
        go_quiet ((go_at_call 39; exact quiet_left (l6In_any _ _ _ _)))
        go_wp2
        go_roundw
        case rel => exact ⟨k + 1, x0, by omega, by go_num, HE, HLn, Lib.hid (fun _ => HX.out), Lib.hid (by omega), (by repeat' (first | (with_reducible exact Below.refl _ _) | (with_reducible assumption) | (with_reducible refine below_step (by assumption) ?_) | (with_reducible refine below_alloc ?_ _) | (with_reducible refine Below.drew ?_) | (with_reducible refine below_drewN ?_ _) | (with_reducible refine Below.setCell ?_ ?_ _) | go_size))⟩
        case measure => simp [intOf]; omega
      · have hy := hP.out (by omega)
        have d0 : wr.cell? ⟨b, o + (k - 1), none⟩ = some (.int .i64 L) := by simpa using HC.out (k - 1) _ hy 0 _ rfl
        have z : decide ((0 : Int) < (k : Int)) = true := by simp; omega
        have z1 : (1 : Int) ≤ (k : Int) := by omega
        have z2 : 0 < k := by omega
        clear hy hk0 hZ hP HC
        by_cases hle : x0 ≤ L
        · have HE : Hid (rowB ⟨key, some ⟨b, o, none⟩, n, c, zs⟩ = false) := Lib.hid (HNO.out (by rw [HT.out]; simp; omega))
          go_wp2_with fail
          go_quiet ((go_at_call 39; exact quiet_left (l6In_any _ _ _ _)))
          go_wp2
          go_ret
          exact ⟨ret_bool HE.out.symm, (by repeat' (first | (with_reducible exact Below.refl _ _) | (with_reducible assumption) | (with_reducible refine below_step (by assumption) ?_) | (with_reducible refine below_alloc ?_ _) | (with_reducible refine Below.drew ?_) | (with_reducible refine below_drewN ?_ _) | (with_reducible refine Below.setCell ?_ ?_ _) | go_size))⟩
        · have HE : Hid (ascTo (-1) 100 zs = ascTo x0 100 (zs.drop (k + 1))) := Lib.hid (by
            rw [HT.out]; unfold inB at E0; simp at E0; simp; omega)
          have HLn : Hid (-1 ≤ x0) := Lib.hid (by unfold inB at E0; simp at E0; omega)
          have hle' : decide (x0 ≤ L) = false := by simp; omega
          go_wp2_with fail
          go_quiet ((go_at_call 39; exact quiet_left (l6In_any _ _ _ _)))
          go_wp2
          go_roundw
          case rel => exact ⟨k + 1, x0, by omega, by go_num, HE, HLn, Lib.hid (fun _ => HX.out), Lib.hid (by omega), (by repeat' (first | (with_reducible exact Below.refl _ _) | (with_reducible assumption) | (with_reducible refine below_step (by assumption) ?_) | (with_reducible refine below_alloc ?_ _) | (with_reducible refine Below.drew ?_) | (with_reducible refine below_drewN ?_ _) | (with_reducible refine Below.setCell ?_ ?_ _) | go_size))⟩
          case measure => simp [intOf]; omega
    · have HE := Lib.hid (HYES.out (by rw [hT.out, List.drop_of_length_le (by omega)]; rfl))
      cases cw : wordB key <;> by_cases h0 : 0 < n
      all_goals
        have hd := Lib.hid (show rowB ⟨key, A, n, c, zs⟩ = _ from by rw [HE.out, cw])
        go_wp2_with (go_at_call 51; refine (l1Word_any _ hs _).mono ?_; rintro e1 w1 ⟨rfl, rfl⟩; rw [cw])
        go_ret
        exact ⟨ret_bool (by rw [hd.out]; simp; try omega), (by repeat' (first | (with_reducible exact Below.refl _ _) | (with_reducible assumption) | (with_reducible refine below_step (by assumption) ?_) | (with_reducible refine below_alloc ?_ _) | (with_reducible refine Below.drew ?_) | (with_reducible refine below_drewN ?_ _) | (with_reducible refine Below.setCell ?_ ?_ _) | go_size))⟩
end Go.Proofs.Ytkianldpmlbgcaa
