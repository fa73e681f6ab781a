/-
  LocksTake of the reference and of the program. No condition.
-/
import Derived.Test.YtfbnpnajpkhkdaaFree
import Derived.Test.YtfbnpnajpkhkdaaPIns
namespace Go.Proofs.Ytfbnpnajpkhkdaa
open Go.ChangeShapes Go.WideShapes Go.ChangeAt Go.RowKit

abbrev lkGe (x y : Int × Int) : Bool := decide (x.1 ≤ y.1)
abbrev lkEq (x y : Int × Int) : Bool := decide (y.1 = x.1)
theorem insL_with (x : Int × Int) : ∀ (ys : List (Int × Int)), insL (lkGe x) (lkEq x) x ys = withLock x ys
  | [] => rfl
  | y :: ys => by
    rw [insL, withLock, insL_with x ys]
    rcases (show y.1 < x.1 ∨ y.1 = x.1 ∨ x.1 < y.1 by omega) with h | h | h
    · rw [if_neg (by simp; omega), if_pos h]
    · rw [if_pos (by simp; omega), if_pos (by simp [h]), if_neg (by omega), if_pos h]
    · rw [if_pos (by simp; omega), if_neg (by simp; omega), if_neg (by omega), if_neg (by omega)]
theorem insOk_locks (x : Int × Int) : ∀ {ys : List (Int × Int)} {L : Int}, locksFrom L ys = true → InsOk (lkGe x) (lkEq x) ys
  | [], _, _ => trivial
  | y :: ys, L, h => by
    obtain ⟨h1, h2, h3, h4, h5⟩ := locksFrom_cons h
    refine ⟨by simp; omega, fun hg z hz => ?_, insOk_locks x h5⟩
    have := locks_above h5 z hz
    simp only [decide_eq_true_eq] at hg
    simp; omega
theorem valid_le {ys : List (Int × Int)} (h : locksFrom (-1) ys = true) : ys.length ≤ 8 := by
  have h1 := locksArr_le (holdsL ys) 0
  rw [locks_of_holds h, holdsL_length] at h1; exact h1

set_option maxHeartbeats 12800000 in
theorem l11With_any (g n c : Nat) (ys : List (Int × Int)) (hn : n ≤ 1048576) (hx : ys.length = n) (s o : Int) (w : World) (hL : Lies w 2 (some ⟨g, 0, none⟩) n (ys.flatMap lockCells)) :
    Calls Try.prog 87 #[.slice (some ⟨g, 0, none⟩) n c, .agg #[.int .i64 s, .int .i64 o]] w fun e w' => ∃ g' m c', e = .returned (.slice (some ⟨g', 0, none⟩) m c') ∧ (insEnd (s, o) (insRun (lkGe (s, o)) (lkEq (s, o)) (s, o) (false, []) ys)).length = m ∧ w'.ownsRow w.heap.size 104 2 (.slice (some ⟨g', 0, none⟩) m c') m ((insEnd (s, o) (insRun (lkGe (s, o)) (lkEq (s, o)) (s, o) (false, []) ys)).flatMap lockCells) ∧ Below w.heap.size w w' := by
  have HX := Lib.hid hx
  have HL := Lib.hid hL
  clear hx hL
  go_enter Try.func87, Try.ntmps87
  go_wp2
  go_loopw [5, 6, 7] (fun l d i wr => ∃ (k g m c : Nat) (D : Bool) (out : List (Int × Int)), k ≤ n ∧ i = .int .i64 k ∧ d = .bool D ∧ l = .slice (some ⟨g, 0, none⟩) m c ∧ m ≤ k + 1 ∧ Hid (insRun (lkGe (s, o)) (lkEq (s, o)) (s, o) (false, []) (ys.take k) = (D, out)) ∧ Hid (out.length = m) ∧ Hid (D = false → m ≤ k) ∧ RowIs wr w.heap.size 104 [.int .i64 s, .int .i64 o] ∧ wr.ownsRow (w.heap.size + 1) 104 2 (.slice (some ⟨g, 0, none⟩) m c) m (out.flatMap lockCells) ∧ Below w.heap.size w wr) (fun _ _ i _ => n - (intOf i).toNat)
  case atStart =>
    exact ⟨0, _, 0, 0, false, [], by omega, rfl, rfl, rfl, by omega, Lib.hid rfl, Lib.hid rfl, Lib.hid (by omega), (RowIs.new w _ _).alloc _, owns_nil' _ _ (by simp) (by omega), (by repeat' (first | (with_reducible exact Below.refl _ _) | (with_reducible assumption) | (with_reducible refine below_step (by assumption) ?_) | (with_reducible refine below_alloc ?_ _) | (with_reducible refine Below.drew ?_) | (with_reducible refine below_drewN ?_ _) | (with_reducible refine Below.setCell ?_ ?_ _) | go_size))⟩
  case round =>
    obtain ⟨k, g1, m, cc, D, out, hk, rfl, rfl, rfl, hm, hI, hl, hD, hR, ho, hB⟩ := hrel
    have HO := Lib.hid ho
    have HR := Lib.hid hR
    have hB1 : w.heap.size + 1 ≤ wr.heap.size := hR.lt
    have x0 := hR.cell (j := 0) rfl
    have x1 := hR.cell (j := 1) rfl
    have hgl := (owns_lt HO.out).1
    clear ho hR
    by_cases hlt : k < n
    · obtain ⟨b, o1, e1, hb, hc⟩ := HL.out.row (fun _ => rfl) (by omega)
      cases e1
      obtain ⟨⟨y0, y1⟩, hyk⟩ := get_lt HX.out hlt
      have C0 : w.cell? ⟨g, 0 + k * 2, none⟩ = some (.int .i64 y0) := hc k _ hyk 0 _ rfl
      have C1 : w.cell? ⟨g, 0 + k * 2 + 1, none⟩ = some (.int .i64 y1) := hc k _ hyk 1 _ rfl
      rw [Nat.zero_add] at C0 C1
      have c0 := box_cell hB C0
      have c1 := box_cell hB C1
      have HS := Lib.hid ((insRun_succ (lkGe (s, o)) (lkEq (s, o)) (s, o) hyk (false, [])).trans (by rw [hI.out]))
      clear hc hyk
      rcases (show y0 < s ∨ y0 = s ∨ s < y0 by omega) with hr | hr | hr
      · have hge : ¬ s ≤ y0 := by omega
        have heq : ¬ y0 = s := by omega
        clear hr
        cases D
        · skip
          have HS2 : Hid (insRun (lkGe (s, o)) (lkEq (s, o)) (s, o) (false, []) (ys.take (k + 1)) = (false, out ++ [(y0, y1)])) := Lib.hid (HS.out.trans (by unfold insStep; simp [hge, heq]))
          have hDm := hD.out rfl
          have q0 : decide (s ≤ y0) = false := by simp; omega
          have q1 : (y0 != s) = true := by simp; omega
          clear HS hI heq hge hD
          have RA_c0 := After.cell c0
          have RA_c1 := After.cell c1
          have RA_x0 := After.cell x0
          have RA_x1 := After.cell x1
          go_wp2_with fail
          refine wp_region_after (by kernel_rfl) (by kernel_rfl) ?_
          repeat (go_big_quiet_step ((fail)))
          refine wpQuiet_nil ?_
          intro wn hw'
          have hwn := after_below hw'
          clear hw'
          have c0 := box_cell hwn c0
          have c1 := box_cell hwn c1
          have x0 := box_cell hwn x0
          have x1 := box_cell hwn x1
          replace HO := Lib.hid (owns_below HO.out hwn)
          replace HR := Lib.hid (HR.out.below hwn)
          have hB := below_step hwn hB
          have hB1 := Nat.le_trans hB1 hwn.size
          clear RA_c0
          clear RA_c1
          clear RA_x0
          clear RA_x1
          have RA_c0 := After.cell c0
          have RA_c1 := After.cell c1
          have RA_x0 := After.cell x0
          have RA_x1 := After.cell x1
          go_wp2_with fail
          refine wp_region_after (by kernel_rfl) (by kernel_rfl) ?_
          repeat (go_big_quiet_step ((fail)))
          refine wpQuiet_nil ?_
          intro wn hw'
          have hwn := after_below hw'
          clear hw'
          have c0 := box_cell hwn c0
          have c1 := box_cell hwn c1
          have x0 := box_cell hwn x0
          have x1 := box_cell hwn x1
          replace HO := Lib.hid (owns_below HO.out hwn)
          replace HR := Lib.hid (HR.out.below hwn)
          have hB := below_step hwn hB
          have hB1 := Nat.le_trans hB1 hwn.size
          clear RA_c0
          clear RA_c1
          clear RA_x0
          clear RA_x1
          go_wp2_with (at_builtin; refine wpList_app1 rfl _ _ 41 104 2 16 rowLock rfl (w.heap.size + 1) _ _ _ _ HO.out rfl rfl rfl rfl (by unfold maxLen; omega) (by omega) hB1 ?_; intro g3 c3 w1 ho1 hg1 hz1)
          have hB := below_grown hB hg1 (by omega) hB.size
          have hB1 := Nat.le_trans hB1 hg1.size
          replace HR := Lib.hid (HR.out.grown hg1 (by simp; omega))
          have HO := Lib.hid ho1
          have hgl := (owns_lt HO.out).1
          clear ho1 hg1
          have c0 := box_cell hB C0
          have c1 := box_cell hB C1
          have x0 := HR.out.cell (j := 0) rfl
          have x1 := HR.out.cell (j := 1) rfl
          go_wp2
          go_roundw
          case rel => exact ⟨k + 1, _, m + 1, _, false, out ++ [(y0, y1)], by omega, by go_num, rfl, rfl, by omega, HS2, Lib.hid (by have := hl.out; simp; omega), Lib.hid (fun _ => by omega), HR.out, by simpa [lockCells] using HO.out, hB⟩
          case measure => simp [intOf]; omega
        · skip
          have HS2 : Hid (insRun (lkGe (s, o)) (lkEq (s, o)) (s, o) (false, []) (ys.take (k + 1)) = (true, out ++ [(y0, y1)])) := Lib.hid (HS.out.trans (by unfold insStep; simp [heq]))
          have q0 : decide (s ≤ y0) = false := by simp; omega
          have q1 : (y0 != s) = true := by simp; omega
          clear HS hI heq hge hD
          have RA_c0 := After.cell c0
          have RA_c1 := After.cell c1
          have RA_x0 := After.cell x0
          have RA_x1 := After.cell x1
          go_wp2_with fail
          refine wp_region_after (by kernel_rfl) (by kernel_rfl) ?_
          repeat (go_big_quiet_step ((fail)))
          refine wpQuiet_nil ?_
          intro wn hw'
          have hwn := after_below hw'
          clear hw'
          have c0 := box_cell hwn c0
          have c1 := box_cell hwn c1
          have x0 := box_cell hwn x0
          have x1 := box_cell hwn x1
          replace HO := Lib.hid (owns_below HO.out hwn)
          replace HR := Lib.hid (HR.out.below hwn)
          have hB := below_step hwn hB
          have hB1 := Nat.le_trans hB1 hwn.size
          clear RA_c0
          clear RA_c1
          clear RA_x0
          clear RA_x1
          have RA_c0 := After.cell c0
          have RA_c1 := After.cell c1
          have RA_x0 := After.cell x0
          have RA_x1 := After.cell x1
          go_wp2_with fail
          refine wp_region_after (by kernel_rfl) (by kernel_rfl) ?_
          repeat (go_big_quiet_step ((fail)))
          refine wpQuiet_nil ?_
          intro wn hw'
          have hwn := after_below hw'
          clear hw'
          have c0 := box_cell hwn c0
          have c1 := box_cell hwn c1
          have x0 := box_cell hwn x0
          have x1 := box_cell hwn x1
          replace HO := Lib.hid (owns_below HO.out hwn)
          replace HR := Lib.hid (HR.out.below hwn)
          have hB := below_step hwn hB
          have hB1 := Nat.le_trans hB1 hwn.size
          clear RA_c0
          clear RA_c1
          clear RA_x0
          clear RA_x1
          go_wp2_with (at_builtin; refine wpList_app1 rfl _ _ 41 104 2 16 rowLock rfl (w.heap.size + 1) _ _ _ _ HO.out rfl rfl rfl rfl (by unfold maxLen; omega) (by omega) hB1 ?_; intro g3 c3 w1 ho1 hg1 hz1)
          have hB := below_grown hB hg1 (by omega) hB.size
          have hB1 := Nat.le_trans hB1 hg1.size
          replace HR := Lib.hid (HR.out.grown hg1 (by simp; omega))
          have HO := Lib.hid ho1
          have hgl := (owns_lt HO.out).1
          clear ho1 hg1
          have c0 := box_cell hB C0
          have c1 := box_cell hB C1
          have x0 := HR.out.cell (j := 0) rfl
          have x1 := HR.out.cell (j := 1) rfl
          go_wp2
          go_roundw
          case rel => exact ⟨k + 1, _, m + 1, _, true, out ++ [(y0, y1)], by omega, by go_num, rfl, rfl, by omega, HS2, Lib.hid (by have := hl.out; simp; omega), Lib.hid (fun h => by cases h), HR.out, by simpa [lockCells] using HO.out, hB⟩
          case measure => simp [intOf]; omega
      · have hge : s ≤ y0 := by omega
        have heq : y0 = s := by omega
        clear hr
        cases D
        · skip
          have HS2 : Hid (insRun (lkGe (s, o)) (lkEq (s, o)) (s, o) (false, []) (ys.take (k + 1)) = (true, out ++ [(s, o)])) := Lib.hid (HS.out.trans (by unfold insStep; simp [heq]))
          have hDm := hD.out rfl
          have q0 : decide (s ≤ y0) = true := by simp; omega
          have q1 : (y0 != s) = false := by simp; omega
          clear HS hI heq hge hD
          have RA_c0 := After.cell c0
          have RA_c1 := After.cell c1
          have RA_x0 := After.cell x0
          have RA_x1 := After.cell x1
          go_wp2_with fail
          refine wp_region_after (by kernel_rfl) (by kernel_rfl) ?_
          repeat (go_big_quiet_step ((fail)))
          refine wpQuiet_nil ?_
          intro wn hw'
          have hwn := after_below hw'
          clear hw'
          have c0 := box_cell hwn c0
          have c1 := box_cell hwn c1
          have x0 := box_cell hwn x0
          have x1 := box_cell hwn x1
          replace HO := Lib.hid (owns_below HO.out hwn)
          replace HR := Lib.hid (HR.out.below hwn)
          have hB := below_step hwn hB
          have hB1 := Nat.le_trans hB1 hwn.size
          clear RA_c0
          clear RA_c1
          clear RA_x0
          clear RA_x1
          go_wp2_with (at_builtin; refine wpList_app1 rfl _ _ 41 104 2 16 rowLock rfl (w.heap.size + 1) _ _ _ _ HO.out rfl rfl rfl rfl (by unfold maxLen; omega) (by omega) hB1 ?_; intro g2 c2 w1 ho1 hg1 hz1)
          have hB := below_grown hB hg1 (by omega) hB.size
          have hB1 := Nat.le_trans hB1 hg1.size
          replace HR := Lib.hid (HR.out.grown hg1 (by simp; omega))
          have HO := Lib.hid ho1
          have hgl := (owns_lt HO.out).1
          clear ho1 hg1
          have c0 := box_cell hB C0
          have c1 := box_cell hB C1
          have x0 := HR.out.cell (j := 0) rfl
          have x1 := HR.out.cell (j := 1) rfl
          have RA_c0 := After.cell c0
          have RA_c1 := After.cell c1
          have RA_x0 := After.cell x0
          have RA_x1 := After.cell x1
          go_wp2_with fail
          refine wp_region_after (by kernel_rfl) (by kernel_rfl) ?_
          repeat (go_big_quiet_step ((fail)))
          refine wpQuiet_nil ?_
          intro wn hw'
          have hwn := after_below hw'
          clear hw'
          have c0 := box_cell hwn c0
          have c1 := box_cell hwn c1
          have x0 := box_cell hwn x0
          have x1 := box_cell hwn x1
          replace HO := Lib.hid (owns_below HO.out hwn)
          replace HR := Lib.hid (HR.out.below hwn)
          have hB := below_step hwn hB
          have hB1 := Nat.le_trans hB1 hwn.size
          clear RA_c0
          clear RA_c1
          clear RA_x0
          clear RA_x1
          go_wp2
          go_roundw
          case rel => exact ⟨k + 1, _, m + 1, _, true, out ++ [(s, o)], by omega, by go_num, rfl, rfl, by omega, HS2, Lib.hid (by have := hl.out; simp; omega), Lib.hid (fun h => by cases h), HR.out, by simpa [lockCells] using HO.out, hB⟩
          case measure => simp [intOf]; omega
        · skip
          have HS2 : Hid (insRun (lkGe (s, o)) (lkEq (s, o)) (s, o) (false, []) (ys.take (k + 1)) = (true, out)) := Lib.hid (HS.out.trans (by unfold insStep; simp [heq]))
          have q0 : decide (s ≤ y0) = true := by simp; omega
          have q1 : (y0 != s) = false := by simp; omega
          clear HS hI heq hge hD
          have RA_c0 := After.cell c0
          have RA_c1 := After.cell c1
          have RA_x0 := After.cell x0
          have RA_x1 := After.cell x1
          go_wp2_with fail
          refine wp_region_after (by kernel_rfl) (by kernel_rfl) ?_
          repeat (go_big_quiet_step ((fail)))
          refine wpQuiet_nil ?_
          intro wn hw'
          have hwn := after_below hw'
          clear hw'
          have c0 := box_cell hwn c0
          have c1 := box_cell hwn c1
          have x0 := box_cell hwn x0
          have x1 := box_cell hwn x1
          replace HO := Lib.hid (owns_below HO.out hwn)
          replace HR := Lib.hid (HR.out.below hwn)
          have hB := below_step hwn hB
          have hB1 := Nat.le_trans hB1 hwn.size
          clear RA_c0
          clear RA_c1
          clear RA_x0
          clear RA_x1
          have RA_c0 := After.cell c0
          have RA_c1 := After.cell c1
          have RA_x0 := After.cell x0
          have RA_x1 := After.cell x1
          go_wp2_with fail
          refine wp_region_after (by kernel_rfl) (by kernel_rfl) ?_
          repeat (go_big_quiet_step ((fail)))
          refine wpQuiet_nil ?_
          intro wn hw'
          have hwn := after_below hw'
          clear hw'
          have c0 := box_cell hwn c0
          have c1 := box_cell hwn c1
          have x0 := box_cell hwn x0
          have x1 := box_cell hwn x1
          replace HO := Lib.hid (owns_below HO.out hwn)
          replace HR := Lib.hid (HR.out.below hwn)
          have hB := below_step hwn hB
          have hB1 := Nat.le_trans hB1 hwn.size
          clear RA_c0
          clear RA_c1
          clear RA_x0
          clear RA_x1
          go_wp2
          go_roundw
          case rel => exact ⟨k + 1, _, m, _, true, out, by omega, by go_num, rfl, rfl, by omega, HS2, Lib.hid (hl.out), Lib.hid (fun h => by cases h), HR.out, HO.out, hB⟩
          case measure => simp [intOf]; omega
      · have hge : s ≤ y0 := by omega
        have heq : ¬ y0 = s := by omega
        clear hr
        cases D
        · skip
          have HS2 : Hid (insRun (lkGe (s, o)) (lkEq (s, o)) (s, o) (false, []) (ys.take (k + 1)) = (true, out ++ [(s, o)] ++ [(y0, y1)])) := Lib.hid (HS.out.trans (by unfold insStep; simp [hge, heq]))
          have hDm := hD.out rfl
          have q0 : decide (s ≤ y0) = true := by simp; omega
          have q1 : (y0 != s) = true := by simp; omega
          clear HS hI heq hge hD
          have RA_c0 := After.cell c0
          have RA_c1 := After.cell c1
          have RA_x0 := After.cell x0
          have RA_x1 := After.cell x1
          go_wp2_with fail
          refine wp_region_after (by kernel_rfl) (by kernel_rfl) ?_
          repeat (go_big_quiet_step ((fail)))
          refine wpQuiet_nil ?_
          intro wn hw'
          have hwn := after_below hw'
          clear hw'
          have c0 := box_cell hwn c0
          have c1 := box_cell hwn c1
          have x0 := box_cell hwn x0
          have x1 := box_cell hwn x1
          replace HO := Lib.hid (owns_below HO.out hwn)
          replace HR := Lib.hid (HR.out.below hwn)
          have hB := below_step hwn hB
          have hB1 := Nat.le_trans hB1 hwn.size
          clear RA_c0
          clear RA_c1
          clear RA_x0
          clear RA_x1
          go_wp2_with (at_builtin; refine wpList_app1 rfl _ _ 41 104 2 16 rowLock rfl (w.heap.size + 1) _ _ _ _ HO.out rfl rfl rfl rfl (by unfold maxLen; omega) (by omega) hB1 ?_; intro g2 c2 w1 ho1 hg1 hz1)
          have hB := below_grown hB hg1 (by omega) hB.size
          have hB1 := Nat.le_trans hB1 hg1.size
          replace HR := Lib.hid (HR.out.grown hg1 (by simp; omega))
          have HO := Lib.hid ho1
          have hgl := (owns_lt HO.out).1
          clear ho1 hg1
          have c0 := box_cell hB C0
          have c1 := box_cell hB C1
          have x0 := HR.out.cell (j := 0) rfl
          have x1 := HR.out.cell (j := 1) rfl
          have RA_c0 := After.cell c0
          have RA_c1 := After.cell c1
          have RA_x0 := After.cell x0
          have RA_x1 := After.cell x1
          go_wp2_with fail
          refine wp_region_after (by kernel_rfl) (by kernel_rfl) ?_
          repeat (go_big_quiet_step ((fail)))
          refine wpQuiet_nil ?_
          intro wn hw'
          have hwn := after_below hw'
          clear hw'
          have c0 := box_cell hwn c0
          have c1 := box_cell hwn c1
          have x0 := box_cell hwn x0
          have x1 := box_cell hwn x1
          replace HO := Lib.hid (owns_below HO.out hwn)
          replace HR := Lib.hid (HR.out.below hwn)
          have hB := below_step hwn hB
          have hB1 := Nat.le_trans hB1 hwn.size
          clear RA_c0
          clear RA_c1
          clear RA_x0
          clear RA_x1
          go_wp2_with (at_builtin; refine wpList_app1 rfl _ _ 41 104 2 16 rowLock rfl (w.heap.size + 1) _ _ _ _ HO.out rfl rfl rfl rfl (by unfold maxLen; omega) (by omega) hB1 ?_; intro g3 c3 w1 ho1 hg1 hz1)
          have hB := below_grown hB hg1 (by omega) hB.size
          have hB1 := Nat.le_trans hB1 hg1.size
          replace HR := Lib.hid (HR.out.grown hg1 (by simp; omega))
          have HO := Lib.hid ho1
          have hgl := (owns_lt HO.out).1
          clear ho1 hg1
          have c0 := box_cell hB C0
          have c1 := box_cell hB C1
          have x0 := HR.out.cell (j := 0) rfl
          have x1 := HR.out.cell (j := 1) rfl
          go_wp2
          go_roundw
          case rel => exact ⟨k + 1, _, m + 1 + 1, _, true, out ++ [(s, o)] ++ [(y0, y1)], by omega, by go_num, rfl, rfl, by omega, HS2, Lib.hid (by have := hl.out; simp; omega), Lib.hid (fun h => by cases h), HR.out, by simpa [lockCells] using HO.out, hB⟩
          case measure => simp [intOf]; omega
        · skip
          have HS2 : Hid (insRun (lkGe (s, o)) (lkEq (s, o)) (s, o) (false, []) (ys.take (k + 1)) = (true, out ++ [(y0, y1)])) := Lib.hid (HS.out.trans (by unfold insStep; simp [heq]))
          have q0 : decide (s ≤ y0) = true := by simp; omega
          have q1 : (y0 != s) = true := by simp; omega
          clear HS hI heq hge hD
          have RA_c0 := After.cell c0
          have RA_c1 := After.cell c1
          have RA_x0 := After.cell x0
          have RA_x1 := After.cell x1
          go_wp2_with fail
          refine wp_region_after (by kernel_rfl) (by kernel_rfl) ?_
          repeat (go_big_quiet_step ((fail)))
          refine wpQuiet_nil ?_
          intro wn hw'
          have hwn := after_below hw'
          clear hw'
          have c0 := box_cell hwn c0
          have c1 := box_cell hwn c1
          have x0 := box_cell hwn x0
          have x1 := box_cell hwn x1
          replace HO := Lib.hid (owns_below HO.out hwn)
          replace HR := Lib.hid (HR.out.below hwn)
          have hB := below_step hwn hB
          have hB1 := Nat.le_trans hB1 hwn.size
          clear RA_c0
          clear RA_c1
          clear RA_x0
          clear RA_x1
          have RA_c0 := After.cell c0
          have RA_c1 := After.cell c1
          have RA_x0 := After.cell x0
          have RA_x1 := After.cell x1
          go_wp2_with fail
          refine wp_region_after (by kernel_rfl) (by kernel_rfl) ?_
          repeat (go_big_quiet_step ((fail)))
          refine wpQuiet_nil ?_
          intro wn hw'
          have hwn := after_below hw'
          clear hw'
          have c0 := box_cell hwn c0
          have c1 := box_cell hwn c1
          have x0 := box_cell hwn x0
          have x1 := box_cell hwn x1
          replace HO := Lib.hid (owns_below HO.out hwn)
          replace HR := Lib.hid (HR.out.below hwn)
          have hB := below_step hwn hB
          have hB1 := Nat.le_trans hB1 hwn.size
          clear RA_c0
          clear RA_c1
          clear RA_x0
          clear RA_x1
          go_wp2_with (at_builtin; refine wpList_app1 rfl _ _ 41 104 2 16 rowLock rfl (w.heap.size + 1) _ _ _ _ HO.out rfl rfl rfl rfl (by unfold maxLen; omega) (by omega) hB1 ?_; intro g3 c3 w1 ho1 hg1 hz1)
          have hB := below_grown hB hg1 (by omega) hB.size
          have hB1 := Nat.le_trans hB1 hg1.size
          replace HR := Lib.hid (HR.out.grown hg1 (by simp; omega))
          have HO := Lib.hid ho1
          have hgl := (owns_lt HO.out).1
          clear ho1 hg1
          have c0 := box_cell hB C0
          have c1 := box_cell hB C1
          have x0 := HR.out.cell (j := 0) rfl
          have x1 := HR.out.cell (j := 1) rfl
          go_wp2
          go_roundw
          case rel => exact ⟨k + 1, _, m + 1, _, true, out ++ [(y0, y1)], by omega, by go_num, rfl, rfl, by omega, HS2, Lib.hid (by have := hl.out; simp; omega), Lib.hid (fun h => by cases h), HR.out, by simpa [lockCells] using HO.out, hB⟩
          case measure => simp [intOf]; omega
    · obtain rfl : k = n := by omega
      have hk := HX.out
      have HI := Lib.hid (show insRun (lkGe (s, o)) (lkEq (s, o)) (s, o) (false, []) ys = (D, out) by have h := hI.out; rwa [List.take_of_length_le (by omega)] at h)
      cases D
      · have HE : Hid (insEnd (s, o) (insRun (lkGe (s, o)) (lkEq (s, o)) (s, o) (false, []) ys) = out ++ [(s, o)]) := Lib.hid (by rw [HI.out]; rfl)
        have HK := Lib.hid hk
        clear HI hI hD hk
        go_wp2_with (at_builtin; refine wpList_app1 rfl _ _ 41 104 2 16 rowLock rfl (w.heap.size + 1) _ _ _ _ HO.out rfl rfl rfl rfl (by unfold maxLen; omega) (by omega) hB1 ?_; intro g2 c2 w1 ho1 hg1 hz1; have HO1 := Lib.hid ho1; clear ho1)
        go_ret
        exact ⟨g2, m + 1, c2, rfl, by rw [HE.out, List.length_append, hl.out]; rfl, by rw [HE.out, List.flatMap_append]; exact ownsRow_base HO1.out (by omega), below_grown hB hg1 (by omega) hB.size⟩
      · have HE : Hid (insEnd (s, o) (insRun (lkGe (s, o)) (lkEq (s, o)) (s, o) (false, []) ys) = out) := Lib.hid (by rw [HI.out]; rfl)
        have HK := Lib.hid hk
        clear HI hI hD hk
        go_wp2
        go_ret
        exact ⟨_, m, _, rfl, by rw [HE.out]; exact hl.out, by rw [HE.out]; exact ownsRow_base HO.out (by omega), hB⟩

def takeRun (o : Int) (ss : List Int) (xs : List (Int × Int)) : List (Int × Int) := ss.foldl (fun l s => withLock (s, o) l) xs
def takes (o : Int) (ss : List Int) (xs : List (Int × Int)) : List (Int × Int) := if locksFreeB xs o ss then takeRun o ss xs else []
theorem takes_t {o : Int} {ss : List Int} {xs : List (Int × Int)} (h : locksFreeB xs o ss = true) : takes o ss xs = takeRun o ss xs := by unfold takes; rw [if_pos h]
theorem takes_f {o : Int} {ss : List Int} {xs : List (Int × Int)} (h : locksFreeB xs o ss = false) : takes o ss xs = [] := by unfold takes; rw [if_neg (by simp [h])]
theorem asc_all : ∀ {ss : List Int} {L hi : Int}, ascTo L hi ss = true → ∀ s ∈ ss, L < s ∧ s < hi
  | [], _, _, _, s, hs => by simp at hs
  | x :: ss, L, hi, h, s, hs => by
    unfold ascTo at h
    simp only [Bool.and_eq_true, decide_eq_true_eq] at h
    rcases List.mem_cons.1 hs with rfl | hs
    · exact ⟨h.1.1, h.1.2⟩
    · have := asc_all h.2 s hs; omega
theorem free_parts {xs : List (Int × Int)} {o : Int} {ss : List Int} (h : locksFreeB xs o ss = true) : locksFrom (-1) xs = true ∧ (1 ≤ o ∧ o ≤ 99) ∧ ∀ s ∈ ss, 0 ≤ s ∧ s ≤ 7 := by
  unfold locksFreeB at h
  simp only [Bool.and_eq_true] at h
  exact ⟨h.1.1.1, inB_iff.1 h.1.1.2, fun s hs => by have := asc_all h.1.2 s hs; omega⟩
theorem takeRun_succ {o : Int} {ss : List Int} {xs : List (Int × Int)} {k : Nat} {s : Int} (hs : ss[k]? = some s) : takeRun o (ss.take (k + 1)) xs = withLock (s, o) (takeRun o (ss.take k) xs) := by
  unfold takeRun; rw [take_succ_of hs, List.foldl_append]; rfl
theorem lock_one (xs : List (Int × Int)) : ∀ u ∈ xs.flatMap lockCells, u.oneCell' = true := by
  intro u hu
  obtain ⟨x, _, hx⟩ := List.mem_flatMap.1 hu
  simp only [lockCells, List.mem_cons, List.not_mem_nil, or_false] at hx
  rcases hx with rfl | rfl <;> rfl

set_option maxHeartbeats 6400000 in
theorem specTake_any (g n c : Nat) (xs : List (Int × Int)) (hn : n ≤ 1048576) (hx : xs.length = n) (o : Int) (B : Option Addr) (m d : Nat) (ss : List Int) (hm : m ≤ 1048576) (hy : ss.length = m) (w : World) (hL : Lies w 2 (some ⟨g, 0, none⟩) n (xs.flatMap lockCells)) (hM : Lies w 1 B m (ss.flatMap intCells)) :
    Calls Try.prog 38 #[.slice (some ⟨g, 0, none⟩) n c, .int .i64 o, .slice B m d] w fun e w' => ∃ g' m' c', e = .returned (.tuple #[.slice (some ⟨g', 0, none⟩) m' c', .bool (locksFreeB xs o ss)]) ∧ (takes o ss xs).length = m' ∧ m' ≤ 8 ∧ w'.ownsRow w.heap.size 104 2 (.slice (some ⟨g', 0, none⟩) m' c') m' ((takes o ss xs).flatMap lockCells) ∧ Below w.heap.size w w' := by
  have HX := Lib.hid hx
  have HY := Lib.hid hy
  have HL := Lib.hid hL
  have HM := Lib.hid hM
  clear hx hy hL hM
  cases E : locksFreeB xs o ss
  · have HE := Lib.hid (takes_f E)
    go_enter Try.func38, Try.ntmps38
    go_wp2_with fail
    refine (specFree_any _ _ _ xs hn HX.out o _ _ _ ss hm HY.out _ HL.out HM.out).mono ?_
    rintro e1 w1 ⟨rfl, hb1⟩
    rw [E]
    go_wp2
    go_ret2
    exact ⟨_, 0, 0, rfl, by rw [HE.out]; rfl, by omega, by rw [HE.out]; exact owns_nil' _ _ rfl hb1.size, (by repeat' (first | (with_reducible exact Below.refl _ _) | (with_reducible assumption) | (with_reducible refine below_step (by assumption) ?_) | (with_reducible refine below_alloc ?_ _) | (with_reducible refine Below.drew ?_) | (with_reducible refine below_drewN ?_ _) | (with_reducible refine Below.setCell ?_ ?_ _) | go_size))⟩
  · have HE := Lib.hid (takes_t E)
    have HV := Lib.hid (free_parts E)
    have HT := Lib.hid (fun k => (take_holds o HV.out.2.1 HV.out.1 (ss.take k) (fun s hs => HV.out.2.2 s (List.mem_of_mem_take hs))).1)
    go_enter Try.func38, Try.ntmps38
    go_wp2_with fail
    refine (specFree_any _ _ _ xs hn HX.out o _ _ _ ss hm HY.out _ HL.out HM.out).mono ?_
    rintro e1 w1 ⟨rfl, hb1⟩
    rw [E]
    go_wp2_with (at_builtin; refine wpList_appS rfl _ _ 41 104 2 16 rowLock rfl w.heap.size w1.heap.size 0 0 [] (owns_nil' _ _ rfl hb1.size) rfl g 0 n c _ rfl ((HL.out.below hb1).below (below_alloc (Below.refl _ _) _)) (lock_one xs) (by unfold maxLen; omega) (by omega) (by have := hb1.size; simp; omega) ?_; intro g1 c1 w2 ho2 hg2; have HO := Lib.hid ho2; clear ho2; have hB := below_grown (below_alloc hb1 (.cells #[] 104)) hg2 hb1.size (by have := hb1.size; simp; omega); clear hg2)
    simp only [Nat.zero_add, List.nil_append] at HO
    go_loopw [8, 9] (fun l i wr => ∃ k g' m' c' : Nat, k ≤ m ∧ i = .int .i64 k ∧ l = .slice (some ⟨g', 0, none⟩) m' c' ∧ Hid ((takeRun o (ss.take k) xs).length = m') ∧ wr.ownsRow w.heap.size 104 2 (.slice (some ⟨g', 0, none⟩) m' c') m' ((takeRun o (ss.take k) xs).flatMap lockCells) ∧ Below w.heap.size w wr) (fun _ i _ => m - (intOf i).toNat)
    case atStart => exact ⟨0, g1, _, c1, by omega, rfl, by simp, Lib.hid HX.out, HO.out, hB⟩
    case round =>
      obtain ⟨k, g', m', c', hk, rfl, rfl, hl, ho, hB⟩ := hrel
      have HO := Lib.hid ho
      clear ho
      have hm8 : m' ≤ 8 := by have h1 : (takeRun o (ss.take k) xs).length ≤ 8 := valid_le (HT.out k); have := hl.out; omega
      by_cases hlt : k < m
      · obtain ⟨b, o1, rfl, hb, hc⟩ := (HM.out.below hB).row (fun _ => rfl) (by omega)
        obtain ⟨s0, hsk⟩ := get_lt HY.out hlt
        have c0 : wr.cell? ⟨b, o1 + k, none⟩ = some (.int .i64 s0) := by simpa using hc k _ hsk 0 _ rfl
        have HK := Lib.hid (takeRun_succ (o := o) (xs := xs) hsk)
        have HI := Lib.hid ((insRun_end (lkGe (s0, o)) (lkEq (s0, o)) (s0, o) _ [] (insOk_locks (s0, o) (HT.out k))).trans (by rw [List.nil_append, insL_with]))
        clear hc hsk
        go_wp2_with fail
        refine (l11With_any _ _ _ (takeRun o (ss.take k) xs) (by omega) hl.out s0 o _ (lies_of_own HO.out)).mono ?_
        rintro e1 w3 ⟨g3, m3, c3, rfl, hl3, ho3, hb3⟩
        have HL3 := Lib.hid (hl3.symm.trans (congrArg List.length HI.out)).symm
        have HO3 := Lib.hid (HI.out ▸ ho3)
        clear ho3 hl3
        go_wp2
        go_roundw
        case rel => exact ⟨k + 1, g3, m3, c3, by omega, by go_num, rfl, by rw [HK.out]; exact HL3, by rw [HK.out]; exact ownsRow_base HO3.out hB.size, (by repeat' (first | (with_reducible exact Below.refl _ _) | (with_reducible assumption) | (with_reducible refine below_step (by assumption) ?_) | (with_reducible refine below_alloc ?_ _) | (with_reducible refine Below.drew ?_) | (with_reducible refine below_drewN ?_ _) | (with_reducible refine Below.setCell ?_ ?_ _) | go_size))⟩
        case measure => simp [intOf]; omega
      · obtain rfl : k = m := by omega
        have HE2 := Lib.hid (show takeRun o (ss.take k) xs = takes o ss xs by rw [List.take_of_length_le (by have := HY.out; omega), HE.out])
        go_wp2
        go_ret2
        exact ⟨g', m', c', rfl, by rw [← HE2.out]; exact hl.out, hm8, by rw [← HE2.out]; exact HO.out, hB⟩

def setRun (o : Int) (ss : List Int) (hs : List Int) : List Int := ss.foldl (fun hs s => hs.set s.toNat o) hs
theorem setRun_succ {o : Int} {ss hs : List Int} {k : Nat} {s : Int} (h : ss[k]? = some s) : setRun o (ss.take (k + 1)) hs = (setRun o (ss.take k) hs).set s.toNat o := by
  unfold setRun; rw [take_succ_of h, List.foldl_append]; rfl
theorem setRun_length (o : Int) : ∀ (ss hs : List Int), (setRun o ss hs).length = hs.length
  | [], _ => rfl
  | s :: ss, hs => by show (setRun o ss (hs.set s.toNat o)).length = _; rw [setRun_length o ss]; simp

set_option maxHeartbeats 6400000 in
theorem implTake_any (A : Option Addr) (n c : Nat) (xs : List (Int × Int)) (hn : n ≤ 1048576) (hx : xs.length = n) (o : Int) (B : Option Addr) (m d : Nat) (ss : List Int) (hm : m ≤ 1048576) (hy : ss.length = m) (w : World) (hL : Lies w 2 A n (xs.flatMap lockCells)) (hM : Lies w 1 B m (ss.flatMap intCells)) :
    Calls Try.prog 39 #[.slice A n c, .int .i64 o, .slice B m d] w fun e w' => ∃ g' m' c', e = .returned (.tuple #[.slice (some ⟨g', 0, none⟩) m' c', .bool (locksFreeB xs o ss)]) ∧ (takes o ss xs).length = m' ∧ m' ≤ 8 ∧ w'.ownsRow w.heap.size 104 2 (.slice (some ⟨g', 0, none⟩) m' c') m' ((takes o ss xs).flatMap lockCells) ∧ Below w.heap.size w w' := by
  have HX := Lib.hid hx
  have HY := Lib.hid hy
  have HL := Lib.hid hL
  have HM := Lib.hid hM
  clear hx hy hL hM
  cases E : locksFreeB xs o ss
  · have HE := Lib.hid (takes_f E)
    go_enter Try.func39, Try.ntmps39
    go_wp2_with fail
    refine (implFree_any _ _ _ xs hn HX.out o _ _ _ ss hm HY.out _ HL.out HM.out).mono ?_
    rintro e1 w1 ⟨rfl, hb1⟩
    rw [E]
    go_wp2
    go_ret2
    exact ⟨_, 0, 0, rfl, by rw [HE.out]; rfl, by omega, by rw [HE.out]; exact owns_nil' _ _ rfl hb1.size, (by repeat' (first | (with_reducible exact Below.refl _ _) | (with_reducible assumption) | (with_reducible refine below_step (by assumption) ?_) | (with_reducible refine below_alloc ?_ _) | (with_reducible refine Below.drew ?_) | (with_reducible refine below_drewN ?_ _) | (with_reducible refine Below.setCell ?_ ?_ _) | go_size))⟩
  · have HE := Lib.hid (takes_t E)
    have HV := Lib.hid (free_parts E)
    have HT := Lib.hid (take_holds o HV.out.2.1 HV.out.1 ss HV.out.2.2)
    have HW := Lib.hid (fun (x : Int × Int) (hx : x ∈ xs) => (show 0 ≤ x.1 ∧ x.1 ≤ 7 by have := locks_above HV.out.1 x hx; omega))
    obtain ⟨a0, a1, a2, a3, a4, a5, a6, a7, he⟩ := eight (holdsL_length xs)
    have HH := Lib.hid he
    clear he
    go_enter Try.func39, Try.ntmps39
    go_wp2_with fail
    refine (implFree_any _ _ _ xs hn HX.out o _ _ _ ss hm HY.out _ HL.out HM.out).mono ?_
    rintro e1 w1 ⟨rfl, hb1⟩
    rw [E]
    go_wp2_with fail
    refine (holdersOf_any _ _ _ xs hn HX.out HW.out _ _ _ _ _ _ _ _ HH.out _ (HL.out.below hb1)).mono ?_
    rintro e1 w2 ⟨rfl, hb2⟩
    have hB2 := below_step hb2 hb1
    go_wp2_with fail
    go_loopw [21] (fun i wr => ∃ k : Nat, k ≤ m ∧ i = .int .i64 k ∧ RowIs wr w2.heap.size 108 (vals (setRun o (ss.take k) (holdsL xs))) ∧ Below w.heap.size w wr) (fun i _ => m - (intOf i).toNat)
    case atStart => exact ⟨0, by omega, rfl, by rw [HH.out]; exact RowIs.new w2 _ _, (by repeat' (first | (with_reducible exact Below.refl _ _) | (with_reducible assumption) | (with_reducible refine below_step (by assumption) ?_) | (with_reducible refine below_alloc ?_ _) | (with_reducible refine Below.drew ?_) | (with_reducible refine below_drewN ?_ _) | (with_reducible refine Below.setCell ?_ ?_ _) | go_size))⟩
    case round =>
      obtain ⟨k, hk, rfl, hR, hB⟩ := hrel
      by_cases hlt : k < m
      · obtain ⟨b, o1, rfl, hb, hc⟩ := (HM.out.below hB).row (fun _ => rfl) (by omega)
        obtain ⟨s0, hsk⟩ := get_lt HY.out hlt
        have c0 : wr.cell? ⟨b, o1 + k, none⟩ = some (.int .i64 s0) := by simpa using hc k _ hsk 0 _ rfl
        obtain ⟨q0, q7⟩ := HV.out.2.2 s0 (List.mem_of_getElem? hsk)
        obtain ⟨h, hh⟩ := get_lt (xs := setRun o (ss.take k) (holdsL xs)) (n := 8) (by rw [setRun_length, holdsL_length]) (lt8 q0 q7)
        have d0 := hR.cell (vals_get hh)
        have f0 := hR.frozen s0.toNat
        have HK := Lib.hid (setRun_succ (o := o) (hs := holdsL xs) hsk)
        have hsz := hB2.size
        have HR := Lib.hid hR
        clear hc hsk hh hR
        go_wp2
        go_roundw
        case rel => exact ⟨k + 1, by omega, by go_num, by rw [HK.out, vals_set]; exact HR.out.set _ _, (by repeat' (first | (with_reducible exact Below.refl _ _) | (with_reducible assumption) | (with_reducible refine below_step (by assumption) ?_) | (with_reducible refine below_alloc ?_ _) | (with_reducible refine Below.drew ?_) | (with_reducible refine below_drewN ?_ _) | (with_reducible refine Below.setCell ?_ ?_ _) | go_size))⟩
        case measure => simp [intOf]; omega
      · obtain rfl : k = m := by omega
        rw [List.take_of_length_le (by have := HY.out; omega)] at hR
        obtain ⟨b0, b1, b2, b3, b4, b5, b6, b7, he2⟩ := eight (show (setRun o ss (holdsL xs)).length = 8 by rw [setRun_length, holdsL_length])
        have HE2 := Lib.hid (show takes o ss xs = locksArr 0 [b0, b1, b2, b3, b4, b5, b6, b7] by
          rw [HE.out, ← he2]
          have h1 := HT.out.1
          have h2 := HT.out.2
          have h3 := locks_of_holds h1
          rw [h2] at h3
          exact h3.symm)
        rw [he2] at hR
        have c0 := hR.cell (j := 0) rfl
        have c1 := hR.cell (j := 1) rfl
        have c2 := hR.cell (j := 2) rfl
        have c3 := hR.cell (j := 3) rfl
        have c4 := hR.cell (j := 4) rfl
        have c5 := hR.cell (j := 5) rfl
        have c6 := hR.cell (j := 6) rfl
        have c7 := hR.cell (j := 7) rfl
        have h8 := locksArr_le [b0, b1, b2, b3, b4, b5, b6, b7] 0
        have H8 := Lib.hid h8
        clear he2 hR h8
        go_wp2_with fail
        refine (locksOf_any _ _ _ _ _ _ _ _ _).mono ?_
        rintro e1 w4 ⟨g, m', c', rfl, hm', ho, hb4⟩
        have HO := Lib.hid ho
        have HM' := Lib.hid hm'
        clear ho hm'
        go_wp2
        go_ret2
        exact ⟨g, m', c', rfl, by rw [HE2.out]; exact HM'.out, by have h1 := HM'.out; have h2 := H8.out; simp at h2; omega, by rw [HE2.out]; exact ownsRow_base HO.out hB.size, (by repeat' (first | (with_reducible exact Below.refl _ _) | (with_reducible assumption) | (with_reducible refine below_step (by assumption) ?_) | (with_reducible refine below_alloc ?_ _) | (with_reducible refine Below.drew ?_) | (with_reducible refine below_drewN ?_ _) | (with_reducible refine Below.setCell ?_ ?_ _) | go_size))⟩

theorem specTake_at (lo hi lo' hi' : Nat) (v u : Value) (xs : List (Int × Int)) (o : Int) (ss : List Int) (w : World) (h : lockSAt w lo hi v xs) (k : intSAt w lo' hi' u ss) :
    Calls Try.prog 38 #[v, .int .i64 o, u] w fun e w' => ∃ v', e = .returned (.tuple #[v', .bool (locksFreeB xs o ss)]) ∧ lockSAt w' w.heap.size w'.heap.size v' (takes o ss xs) ∧ Below w.heap.size w w' := by
  obtain ⟨g, m, c, rfl, hx, hb, _, _, ho⟩ := h.open
  obtain ⟨g', m', c', rfl, hx', hb', _, _, ho'⟩ := k.open
  exact (specTake_any _ _ _ xs hb hx o _ _ _ ss hb' hx' w (lies_of_own ho) (lies_of_own ho')).mono fun _ _ ⟨_, _, _, he, hl, h8, hw, hB⟩ => ⟨_, he, lockSAt.made hl (by omega) hw, hB⟩
theorem implTake_at (lo hi lo' hi' : Nat) (v u : Value) (xs : List (Int × Int)) (o : Int) (ss : List Int) (w : World) (h : lockSAt w lo hi v xs) (k : intSAt w lo' hi' u ss) :
    Calls Try.prog 39 #[v, .int .i64 o, u] w fun e w' => ∃ v', e = .returned (.tuple #[v', .bool (locksFreeB xs o ss)]) ∧ lockSAt w' w.heap.size w'.heap.size v' (takes o ss xs) ∧ Below w.heap.size w w' := by
  obtain ⟨g, m, c, rfl, hx, hb, _, _, ho⟩ := h.open
  obtain ⟨g', m', c', rfl, hx', hb', _, _, ho'⟩ := k.open
  exact (implTake_any _ _ _ xs hb hx o _ _ _ ss hb' hx' w (lies_of_own ho) (lies_of_own ho')).mono fun _ _ ⟨_, _, _, he, hl, h8, hw, hB⟩ => ⟨_, he, lockSAt.made hl (by omega) hw, hB⟩
end Go.Proofs.Ytfbnpnajpkhkdaa
