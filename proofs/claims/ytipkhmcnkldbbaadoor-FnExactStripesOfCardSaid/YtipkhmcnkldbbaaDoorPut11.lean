/-
  A number put into a list by one pass with a mark: the reference's l11Put, for every slice of ints. No condition.
-/
import Derived.Test.YtipkhmcnkldbbaaDoorKInt
import Derived.Test.YtipkhmcnkldbbaaDoorPIns
namespace Go.Proofs.YtipkhmcnkldbbaaDoor
open Go.ChangeShapes Go.WideShapes Go.ChangeAt Go.RowKit

abbrev inGe (p y : Int) : Bool := decide (p ≤ y)
abbrev inEq (p y : Int) : Bool := decide (y = p)

set_option maxHeartbeats 12800000 in
theorem l11Put_any (A : Option Addr) (n c : Nat) (zs : List Int) (hn : n ≤ 1048576) (hx : zs.length = n) (p : Int) (w : World) (hL : Lies w 1 A n (zs.flatMap intCells)) :
    Calls Tryd.prog 32 #[.slice A n c, .int .i64 p] w fun e w' => ∃ g' m c', e = .returned (.slice (some ⟨g', 0, none⟩) m c') ∧ (insEnd p (insRun (inGe p) (inEq p) p (false, []) zs)).length = m ∧ w'.ownsRow w.heap.size 3 1 (.slice (some ⟨g', 0, none⟩) m c') m ((insEnd p (insRun (inGe p) (inEq p) p (false, []) zs)).flatMap intCells) ∧ Below w.heap.size w w' := by
  have HX := Lib.hid hx
  have HL := Lib.hid hL
  clear hx hL
  go_enter Tryd.func32, Tryd.ntmps32
  go_wp2
  go_loopw [5, 6, 7] (fun l d i wr => ∃ (k g m c : Nat) (D : Bool) (out : List Int), k ≤ n ∧ i = .int .i64 k ∧ d = .bool D ∧ l = .slice (some ⟨g, 0, none⟩) m c ∧ m ≤ k + 1 ∧ Hid (insRun (inGe p) (inEq p) p (false, []) (zs.take k) = (D, out)) ∧ Hid (out.length = m) ∧ Hid (D = false → m ≤ k) ∧ wr.ownsRow w.heap.size 3 1 (.slice (some ⟨g, 0, none⟩) m c) m (out.flatMap intCells) ∧ Below w.heap.size w wr) (fun _ _ i _ => n - (intOf i).toNat)
  case atStart =>
    exact ⟨0, _, 0, 0, false, [], by omega, rfl, rfl, rfl, by omega, Lib.hid rfl, Lib.hid rfl, Lib.hid (by omega), owns_nil' _ _ rfl (by omega), (by repeat' (first | (with_reducible exact Below.refl _ _) | (with_reducible assumption) | (with_reducible refine below_step (by assumption) ?_) | (with_reducible refine below_alloc ?_ _) | (with_reducible refine Below.drew ?_) | (with_reducible refine below_drewN ?_ _) | (with_reducible refine Below.setCell ?_ ?_ _) | go_size))⟩
  case round =>
    obtain ⟨k, g1, m, cc, D, out, hk, rfl, rfl, rfl, hm, hI, hl, hD, ho, hB⟩ := hrel
    have HO := Lib.hid ho
    have hgl := (owns_lt HO.out).1
    clear ho
    by_cases hlt : k < n
    · obtain ⟨b, o1, rfl, hb, hc⟩ := HL.out.row (fun _ => rfl) (by omega)
      obtain ⟨y0, hyk⟩ := get_lt HX.out hlt
      have C0 : w.cell? ⟨b, o1 + k, none⟩ = some (.int .i64 y0) := by simpa using hc k _ hyk 0 _ rfl
      have c0 := box_cell hB C0
      have HS := Lib.hid ((insRun_succ (inGe p) (inEq p) p hyk (false, [])).trans (by rw [hI.out]))
      clear hc hyk
      rcases (show y0 < p ∨ y0 = p ∨ p < y0 by omega) with hr | hr | hr
      · have hge : ¬ p ≤ y0 := by omega
        have heq : ¬ y0 = p := by omega
        clear hr
        cases D
        · skip
          have HS2 : Hid (insRun (inGe p) (inEq p) p (false, []) (zs.take (k + 1)) = (false, out ++ [y0])) := Lib.hid (HS.out.trans (by unfold insStep; simp [hge, heq]))
          have hDm := hD.out rfl
          have q0 : decide (p ≤ y0) = false := by simp; omega
          have q1 : (y0 != p) = true := by simp; omega
          clear HS hI heq hge hD
          go_wp2_with (at_builtin; refine wpList_app1 rfl _ _ 24 3 1 8 rowInt rfl w.heap.size _ _ _ _ HO.out rfl rfl rfl rfl (by unfold maxLen; omega) (by omega) hB.size ?_; intro g3 c3 w1 ho1 hg1 hz1; have hB := below_grown hB hg1 (by omega) hB.size; have HO := Lib.hid ho1; have hgl := (owns_lt HO.out).1; clear ho1 hg1)
          go_roundw
          case rel => exact ⟨k + 1, _, m + 1, _, false, out ++ [y0], by omega, by go_num, rfl, rfl, by omega, HS2, Lib.hid (by have := hl.out; simp; omega), Lib.hid (fun _ => by omega), by simpa [intCells] using HO.out, hB⟩
          case measure => simp [intOf]; omega
        · skip
          have HS2 : Hid (insRun (inGe p) (inEq p) p (false, []) (zs.take (k + 1)) = (true, out ++ [y0])) := Lib.hid (HS.out.trans (by unfold insStep; simp [heq]))
          have q0 : decide (p ≤ y0) = false := by simp; omega
          have q1 : (y0 != p) = true := by simp; omega
          clear HS hI heq hge hD
          go_wp2_with (at_builtin; refine wpList_app1 rfl _ _ 24 3 1 8 rowInt rfl w.heap.size _ _ _ _ HO.out rfl rfl rfl rfl (by unfold maxLen; omega) (by omega) hB.size ?_; intro g3 c3 w1 ho1 hg1 hz1; have hB := below_grown hB hg1 (by omega) hB.size; have HO := Lib.hid ho1; have hgl := (owns_lt HO.out).1; clear ho1 hg1)
          go_roundw
          case rel => exact ⟨k + 1, _, m + 1, _, true, out ++ [y0], by omega, by go_num, rfl, rfl, by omega, HS2, Lib.hid (by have := hl.out; simp; omega), Lib.hid (fun h => by cases h), by simpa [intCells] using HO.out, hB⟩
          case measure => simp [intOf]; omega
      · have hge : p ≤ y0 := by omega
        have heq : y0 = p := by omega
        clear hr
        cases D
        · skip
          have HS2 : Hid (insRun (inGe p) (inEq p) p (false, []) (zs.take (k + 1)) = (true, out ++ [p])) := Lib.hid (HS.out.trans (by unfold insStep; simp [heq]))
          have hDm := hD.out rfl
          have q0 : decide (p ≤ y0) = true := by simp; omega
          have q1 : (y0 != p) = false := by simp; omega
          clear HS hI heq hge hD
          go_wp2_with (at_builtin; refine wpList_app1 rfl _ _ 24 3 1 8 rowInt rfl w.heap.size _ _ _ _ HO.out rfl rfl rfl rfl (by unfold maxLen; omega) (by omega) hB.size ?_; intro g2 c2 w1 ho1 hg1 hz1; have hB := below_grown hB hg1 (by omega) hB.size; have HO := Lib.hid ho1; have hgl := (owns_lt HO.out).1; clear ho1 hg1; have c0 := box_cell hB C0)
          go_roundw
          case rel => exact ⟨k + 1, _, m + 1, _, true, out ++ [p], by omega, by go_num, rfl, rfl, by omega, HS2, Lib.hid (by have := hl.out; simp; omega), Lib.hid (fun h => by cases h), by simpa [intCells] using HO.out, hB⟩
          case measure => simp [intOf]; omega
        · skip
          have HS2 : Hid (insRun (inGe p) (inEq p) p (false, []) (zs.take (k + 1)) = (true, out)) := Lib.hid (HS.out.trans (by unfold insStep; simp [heq]))
          have q0 : decide (p ≤ y0) = true := by simp; omega
          have q1 : (y0 != p) = false := by simp; omega
          clear HS hI heq hge hD
          go_wp2
          go_roundw
          case rel => exact ⟨k + 1, _, m, _, true, out, by omega, by go_num, rfl, rfl, by omega, HS2, Lib.hid (hl.out), Lib.hid (fun h => by cases h), HO.out, hB⟩
          case measure => simp [intOf]; omega
      · have hge : p ≤ y0 := by omega
        have heq : ¬ y0 = p := by omega
        clear hr
        cases D
        · skip
          have HS2 : Hid (insRun (inGe p) (inEq p) p (false, []) (zs.take (k + 1)) = (true, out ++ [p] ++ [y0])) := Lib.hid (HS.out.trans (by unfold insStep; simp [hge, heq]))
          have hDm := hD.out rfl
          have q0 : decide (p ≤ y0) = true := by simp; omega
          have q1 : (y0 != p) = true := by simp; omega
          clear HS hI heq hge hD
          go_wp2_with (at_builtin; refine wpList_app1 rfl _ _ 24 3 1 8 rowInt rfl w.heap.size _ _ _ _ HO.out rfl rfl rfl rfl (by unfold maxLen; omega) (by omega) hB.size ?_; intro g2 c2 w1 ho1 hg1 hz1; have hB := below_grown hB hg1 (by omega) hB.size; have HO := Lib.hid ho1; have hgl := (owns_lt HO.out).1; clear ho1 hg1; have c0 := box_cell hB C0)
          go_wp2_with (at_builtin; refine wpList_app1 rfl _ _ 24 3 1 8 rowInt rfl w.heap.size _ _ _ _ HO.out rfl rfl rfl rfl (by unfold maxLen; omega) (by omega) hB.size ?_; intro g3 c3 w1 ho1 hg1 hz1; have hB := below_grown hB hg1 (by omega) hB.size; have HO := Lib.hid ho1; have hgl := (owns_lt HO.out).1; clear ho1 hg1)
          go_roundw
          case rel => exact ⟨k + 1, _, m + 1 + 1, _, true, out ++ [p] ++ [y0], by omega, by go_num, rfl, rfl, by omega, HS2, Lib.hid (by have := hl.out; simp; omega), Lib.hid (fun h => by cases h), by simpa [intCells] using HO.out, hB⟩
          case measure => simp [intOf]; omega
        · skip
          have HS2 : Hid (insRun (inGe p) (inEq p) p (false, []) (zs.take (k + 1)) = (true, out ++ [y0])) := Lib.hid (HS.out.trans (by unfold insStep; simp [heq]))
          have q0 : decide (p ≤ y0) = true := by simp; omega
          have q1 : (y0 != p) = true := by simp; omega
          clear HS hI heq hge hD
          go_wp2_with (at_builtin; refine wpList_app1 rfl _ _ 24 3 1 8 rowInt rfl w.heap.size _ _ _ _ HO.out rfl rfl rfl rfl (by unfold maxLen; omega) (by omega) hB.size ?_; intro g3 c3 w1 ho1 hg1 hz1; have hB := below_grown hB hg1 (by omega) hB.size; have HO := Lib.hid ho1; have hgl := (owns_lt HO.out).1; clear ho1 hg1)
          go_roundw
          case rel => exact ⟨k + 1, _, m + 1, _, true, out ++ [y0], by omega, by go_num, rfl, rfl, by omega, HS2, Lib.hid (by have := hl.out; simp; omega), Lib.hid (fun h => by cases h), by simpa [intCells] using HO.out, hB⟩
          case measure => simp [intOf]; omega
    · obtain rfl : k = n := by omega
      have hk := HX.out
      have HI := Lib.hid (show insRun (inGe p) (inEq p) p (false, []) zs = (D, out) by have h := hI.out; rwa [List.take_of_length_le (by omega)] at h)
      cases D
      · have HE : Hid (insEnd p (insRun (inGe p) (inEq p) p (false, []) zs) = out ++ [p]) := Lib.hid (by rw [HI.out]; rfl)
        have HK := Lib.hid hk
        clear HI hI hD hk
        go_wp2_with (at_builtin; refine wpList_app1 rfl _ _ 24 3 1 8 rowInt rfl w.heap.size _ _ _ _ HO.out rfl rfl rfl rfl (by unfold maxLen; omega) (by omega) hB.size ?_; intro g2 c2 w1 ho1 hg1 hz1; have HO1 := Lib.hid ho1; clear ho1)
        go_ret
        exact ⟨g2, m + 1, c2, rfl, by rw [HE.out, List.length_append, hl.out]; rfl, by rw [HE.out, List.flatMap_append]; exact HO1.out, below_grown hB hg1 (by omega) hB.size⟩
      · have HE : Hid (insEnd p (insRun (inGe p) (inEq p) p (false, []) zs) = out) := Lib.hid (by rw [HI.out]; rfl)
        have HK := Lib.hid hk
        clear HI hI hD hk
        go_wp2
        go_ret
        exact ⟨_, m, _, rfl, by rw [HE.out]; exact hl.out, by rw [HE.out]; exact HO.out, hB⟩
end Go.Proofs.YtipkhmcnkldbbaaDoor
