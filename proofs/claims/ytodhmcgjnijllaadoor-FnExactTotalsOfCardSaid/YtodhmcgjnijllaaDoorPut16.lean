/-
  A total put into a list of totals by one pass with a mark: the reference's l16Put. The numbers lie between 0 and 1000000.
-/
import Derived.Test.YtodhmcgjnijllaaDoorJoinI
namespace Go.Proofs.YtodhmcgjnijllaaDoor
open Go.ChangeShapes Go.WideShapes Go.ChangeAt Go.RowKit

set_option maxHeartbeats 25600000 in
theorem l16Put_any (gA oA n c : Nat) (xs : List Tot) (hn : n ≤ 1048576) (hx : xs.length = n) (t0 : ByteArray) (t1 t2 : Int) (hsx : ∀ x ∈ xs, Small x) (hst : Small (t0, t1, t2)) (w : World) (hL : Lies w 3 (some ⟨gA, oA, none⟩) n (xs.flatMap totalCells)) :
    Calls Tryd.prog 55 #[.slice (some ⟨gA, oA, none⟩) n c, .agg #[.string t0, .int .i64 t1, .int .i64 t2]] w fun e w' => ∃ g' m c', e = .returned (.slice (some ⟨g', 0, none⟩) m c') ∧ (putEnd (t0, t1, t2) (putRun (t0, t1, t2) (false, []) xs)).length = m ∧ w'.ownsRow w.heap.size 91 3 (.slice (some ⟨g', 0, none⟩) m c') m ((putEnd (t0, t1, t2) (putRun (t0, t1, t2) (false, []) xs)).flatMap totalCells) ∧ Below w.heap.size w w' := by
  have HX := Lib.hid hx
  have HL := Lib.hid hL
  have HSX := Lib.hid hsx
  obtain ⟨⟨t1a, t1b⟩, t2a, t2b⟩ := hst
  simp only at t1a t1b t2a t2b
  clear hx hL hsx
  go_enter Tryd.func55, Tryd.ntmps55
  go_wp2
  go_loopw [5, 6, 7] (fun l d i wr => ∃ (k g m c : Nat) (D : Bool) (out : List Tot), k ≤ n ∧ i = .int .i64 k ∧ d = .bool D ∧ l = .slice (some ⟨g, 0, none⟩) m c ∧ m ≤ k + 1 ∧ Hid (putRun (t0, t1, t2) (false, []) (xs.take k) = (D, out)) ∧ Hid (out.length = m) ∧ Hid (D = false → m ≤ k) ∧ RowIs wr w.heap.size 91 [.string t0, .int .i64 t1, .int .i64 t2] ∧ wr.ownsRow (w.heap.size + 1) 91 3 (.slice (some ⟨g, 0, none⟩) m c) m (out.flatMap totalCells) ∧ Below w.heap.size w wr) (fun _ _ i _ => n - (intOf i).toNat)
  case atStart =>
    exact ⟨0, _, 0, 0, false, [], by omega, rfl, rfl, rfl, by omega, Lib.hid rfl, Lib.hid rfl, Lib.hid (by omega), (RowIs.new w _ _).alloc _, owns_nil' _ _ (by simp) (by omega), (by repeat' (first | (with_reducible exact Below.refl _ _) | (with_reducible assumption) | (with_reducible refine below_step (by assumption) ?_) | (with_reducible refine below_alloc ?_ _) | (with_reducible refine Below.drew ?_) | (with_reducible refine below_drewN ?_ _) | (with_reducible refine Below.setCell ?_ ?_ _) | go_size))⟩
  case round =>
    obtain ⟨k, g1, m, cc, D, out, hk, rfl, rfl, rfl, hm, hI, hl0, hD, hR, ho, hB⟩ := hrel
    have HO := Lib.hid ho
    have HR := Lib.hid hR
    have hlt0 : w.heap.size + 1 ≤ wr.heap.size := hR.lt
    have hltw : w.heap.size < wr.heap.size := hR.lt
    have u0 := hR.cell (j := 0) rfl
    have u1 := hR.cell (j := 1) rfl
    have u2 := hR.cell (j := 2) rfl
    have hgl := (owns_lt HO.out).1
    have hgl' := (owns_lt HO.out).2
    clear ho hR
    by_cases hlt : k < n
    · obtain ⟨b, o1, e1, hb, hc⟩ := (HL.out.below hB).row (fun _ => rfl) (by omega)
      cases e1
      obtain ⟨⟨x0, x1, x2⟩, hxk⟩ := get_lt HX.out hlt
      have c0 : wr.cell? ⟨gA, oA + k * 3, none⟩ = some (.string x0) := hc k _ hxk 0 _ rfl
      have c1 : wr.cell? ⟨gA, oA + k * 3 + 1, none⟩ = some (.int .i64 x1) := hc k _ hxk 1 _ rfl
      have c2 : wr.cell? ⟨gA, oA + k * 3 + 2, none⟩ = some (.int .i64 x2) := hc k _ hxk 2 _ rfl
      obtain ⟨⟨x1a, x1b⟩, x2a, x2b⟩ := HSX.out _ (List.mem_of_getElem? hxk)
      simp only at x1a x1b x2a x2b
      have HS := Lib.hid ((putRun_succ (t := (t0, t1, t2)) hxk (false, [])).trans (by rw [hI.out]))
      clear hc hxk
      cases E1 : ltS x0 t0
      · cases E2 : ltS t0 x0
        · skip
          have heq : x0 = t0 := ltS_tri E1 E2
          have F2 : (x0.toList == t0.toList) = true := beq_toList heq
          clear E1 E2
          cases D
          · skip
            have HS2 : Hid (putRun (t0, t1, t2) (false, []) (xs.take (k + 1)) = (true, out ++ [bothT (x0, x1, x2) (t0, t1, t2)])) := Lib.hid (HS.out.trans (by unfold putStep; rw [if_pos heq]))
            have hDm := hD.out rfl
            clear HS hI hD heq
            go_wp2_with (at_builtin; refine wpList_app1n rfl _ _ 48 91 3 32 rowTotal rfl (w.heap.size + 1) _ _ _ _ (World.ownsRow.alloc HO.out _) rfl _ rfl (by simp) rfl rfl (by unfold maxLen; omega) (by omega) (by simp; omega) ?_; intro g2 c2 w1 ho1 hg1 hz1; have HR1 := Lib.hid ((HR.out.alloc _).grown hg1 (by simp; omega)); have hB1 : Below w.heap.size w w1 := below_grown (below_alloc hB _) hg1 (by omega) (by have := hB.size; simp; omega); have HO1 := Lib.hid ho1; clear ho1 hg1)
            go_roundw
            case rel => exact ⟨k + 1, _, m + 1, _, true, out ++ [bothT (x0, x1, x2) (t0, t1, t2)], by omega, by go_num, rfl, rfl, by omega, HS2, Lib.hid (by have := hl0.out; simp; omega), Lib.hid (fun h => by cases h), HR1.out, by simpa [totalCells, bothT] using HO1.out, hB1⟩
            case measure => simp [intOf]; omega
          · skip
            have HS2 : Hid (putRun (t0, t1, t2) (false, []) (xs.take (k + 1)) = (true, out ++ [bothT (x0, x1, x2) (t0, t1, t2)])) := Lib.hid (HS.out.trans (by unfold putStep; rw [if_pos heq]))
            clear HS hI hD heq
            go_wp2_with (at_builtin; refine wpList_app1n rfl _ _ 48 91 3 32 rowTotal rfl (w.heap.size + 1) _ _ _ _ (World.ownsRow.alloc HO.out _) rfl _ rfl (by simp) rfl rfl (by unfold maxLen; omega) (by omega) (by simp; omega) ?_; intro g2 c2 w1 ho1 hg1 hz1; have HR1 := Lib.hid ((HR.out.alloc _).grown hg1 (by simp; omega)); have hB1 : Below w.heap.size w w1 := below_grown (below_alloc hB _) hg1 (by omega) (by have := hB.size; simp; omega); have HO1 := Lib.hid ho1; clear ho1 hg1)
            go_roundw
            case rel => exact ⟨k + 1, _, m + 1, _, true, out ++ [bothT (x0, x1, x2) (t0, t1, t2)], by omega, by go_num, rfl, rfl, by omega, HS2, Lib.hid (by have := hl0.out; simp; omega), Lib.hid (fun h => by cases h), HR1.out, by simpa [totalCells, bothT] using HO1.out, hB1⟩
            case measure => simp [intOf]; omega
        · skip
          have heq : ¬ x0 = t0 := fun h => ltS_ne E2 h.symm
          have F2 : (x0.toList == t0.toList) = false := str_ne heq
          have F1 : Op.bytesLess x0.toList t0.toList = false := E1
          have hl : ltS t0 x0 = true := E2
          clear E1 E2
          cases D
          · skip
            have HS2 : Hid (putRun (t0, t1, t2) (false, []) (xs.take (k + 1)) = (true, out ++ [(t0, t1, t2)] ++ [(x0, x1, x2)])) := Lib.hid (HS.out.trans (by unfold putStep; rw [if_neg heq]; simp [hl]))
            have hDm := hD.out rfl
            clear HS hI hD heq hl
            go_wp2_with (first | (at_builtin; refine wpList_app1n rfl _ _ 48 91 3 32 rowTotal rfl (w.heap.size + 1) _ _ _ _ (World.ownsRow.alloc HO.out _) rfl _ rfl (by simp) rfl rfl (by unfold maxLen; omega) (by omega) (by simp; omega) ?_; intro g2 c2 w1 ho1 hg1 hz1; have HXb := Lib.hid ((RowIs.new wr #[.string x0, .int .i64 x1, .int .i64 x2] 91).grown hg1 (by simp; omega)); have HR1 := Lib.hid ((HR.out.alloc _).grown hg1 (by simp; omega)); have hB1 : Below w.heap.size w w1 := below_grown (below_alloc hB _) hg1 (by omega) (by have := hB.size; simp; omega); have HO1 := Lib.hid ho1; have hgl1 := (owns_lt HO1.out).1; clear ho1 hg1; have q0 := HXb.out.cell (j := 0) rfl; have q1 := HXb.out.cell (j := 1) rfl; have q2 := HXb.out.cell (j := 2) rfl) | (at_builtin; refine wpList_app1 rfl _ _ 48 91 3 32 rowTotal rfl (w.heap.size + 1) _ _ _ _ HO1.out rfl rfl rfl rfl (by unfold maxLen; omega) (by omega) HR1.out.lt ?_; intro g3 c3 w2 ho2 hg2 hz2; have HR2 := Lib.hid (HR1.out.grown hg2 (by simp; omega)); have hB2 : Below w.heap.size w w2 := below_grown hB1 hg2 (by omega) hB1.size; have HO2 := Lib.hid ho2; clear ho2 hg2))
            go_roundw
            case rel => exact ⟨k + 1, _, m + 1 + 1, _, true, out ++ [(t0, t1, t2)] ++ [(x0, x1, x2)], by omega, by go_num, rfl, rfl, by omega, HS2, Lib.hid (by have := hl0.out; simp; omega), Lib.hid (fun h => by cases h), HR2.out, by simpa [totalCells, bothT] using HO2.out, hB2⟩
            case measure => simp [intOf]; omega
          · skip
            have HS2 : Hid (putRun (t0, t1, t2) (false, []) (xs.take (k + 1)) = (true, out ++ [(x0, x1, x2)])) := Lib.hid (HS.out.trans (by unfold putStep; rw [if_neg heq]; simp))
            clear HS hI hD heq hl
            go_wp2_with (at_builtin; refine wpList_app1n rfl _ _ 48 91 3 32 rowTotal rfl (w.heap.size + 1) _ _ _ _ (World.ownsRow.alloc HO.out _) rfl _ rfl (by simp) rfl rfl (by unfold maxLen; omega) (by omega) (by simp; omega) ?_; intro g2 c2 w1 ho1 hg1 hz1; have HR1 := Lib.hid ((HR.out.alloc _).grown hg1 (by simp; omega)); have hB1 : Below w.heap.size w w1 := below_grown (below_alloc hB _) hg1 (by omega) (by have := hB.size; simp; omega); have HO1 := Lib.hid ho1; clear ho1 hg1)
            go_roundw
            case rel => exact ⟨k + 1, _, m + 1, _, true, out ++ [(x0, x1, x2)], by omega, by go_num, rfl, rfl, by omega, HS2, Lib.hid (by have := hl0.out; simp; omega), Lib.hid (fun h => by cases h), HR1.out, by simpa [totalCells, bothT] using HO1.out, hB1⟩
            case measure => simp [intOf]; omega
      · skip
        have heq : ¬ x0 = t0 := ltS_ne E1
        have F2 : (x0.toList == t0.toList) = false := str_ne heq
        have F1 : Op.bytesLess x0.toList t0.toList = true := E1
        have hl : ltS t0 x0 = false := ltS_asymm E1
        clear E1
        cases D
        · skip
          have HS2 : Hid (putRun (t0, t1, t2) (false, []) (xs.take (k + 1)) = (false, out ++ [(x0, x1, x2)])) := Lib.hid (HS.out.trans (by unfold putStep; rw [if_neg heq]; simp [hl]))
          have hDm := hD.out rfl
          clear HS hI hD heq hl
          go_wp2_with (at_builtin; refine wpList_app1n rfl _ _ 48 91 3 32 rowTotal rfl (w.heap.size + 1) _ _ _ _ (World.ownsRow.alloc HO.out _) rfl _ rfl (by simp) rfl rfl (by unfold maxLen; omega) (by omega) (by simp; omega) ?_; intro g2 c2 w1 ho1 hg1 hz1; have HR1 := Lib.hid ((HR.out.alloc _).grown hg1 (by simp; omega)); have hB1 : Below w.heap.size w w1 := below_grown (below_alloc hB _) hg1 (by omega) (by have := hB.size; simp; omega); have HO1 := Lib.hid ho1; clear ho1 hg1)
          go_roundw
          case rel => exact ⟨k + 1, _, m + 1, _, false, out ++ [(x0, x1, x2)], by omega, by go_num, rfl, rfl, by omega, HS2, Lib.hid (by have := hl0.out; simp; omega), Lib.hid (fun _ => by omega), HR1.out, by simpa [totalCells, bothT] using HO1.out, hB1⟩
          case measure => simp [intOf]; omega
        · skip
          have HS2 : Hid (putRun (t0, t1, t2) (false, []) (xs.take (k + 1)) = (true, out ++ [(x0, x1, x2)])) := Lib.hid (HS.out.trans (by unfold putStep; rw [if_neg heq]; simp))
          clear HS hI hD heq hl
          go_wp2_with (at_builtin; refine wpList_app1n rfl _ _ 48 91 3 32 rowTotal rfl (w.heap.size + 1) _ _ _ _ (World.ownsRow.alloc HO.out _) rfl _ rfl (by simp) rfl rfl (by unfold maxLen; omega) (by omega) (by simp; omega) ?_; intro g2 c2 w1 ho1 hg1 hz1; have HR1 := Lib.hid ((HR.out.alloc _).grown hg1 (by simp; omega)); have hB1 : Below w.heap.size w w1 := below_grown (below_alloc hB _) hg1 (by omega) (by have := hB.size; simp; omega); have HO1 := Lib.hid ho1; clear ho1 hg1)
          go_roundw
          case rel => exact ⟨k + 1, _, m + 1, _, true, out ++ [(x0, x1, x2)], by omega, by go_num, rfl, rfl, by omega, HS2, Lib.hid (by have := hl0.out; simp; omega), Lib.hid (fun h => by cases h), HR1.out, by simpa [totalCells, bothT] using HO1.out, hB1⟩
          case measure => simp [intOf]; omega
    · obtain rfl : k = n := by omega
      have hk := HX.out
      have HI := Lib.hid (show putRun (t0, t1, t2) (false, []) xs = (D, out) by have h := hI.out; rwa [List.take_of_length_le (by omega)] at h)
      cases D
      · have HE : Hid (putEnd (t0, t1, t2) (putRun (t0, t1, t2) (false, []) xs) = out ++ [(t0, t1, t2)]) := Lib.hid (by rw [HI.out]; rfl)
        have HK := Lib.hid hk
        clear HI hI hD hk
        go_wp2_with (at_builtin; refine wpList_app1 rfl _ _ 48 91 3 32 rowTotal rfl (w.heap.size + 1) _ _ _ _ HO.out rfl rfl rfl rfl (by unfold maxLen; omega) (by omega) hlt0 ?_; intro g2 c2 w1 ho1 hg1 hz1; have HO1 := Lib.hid ho1; clear ho1)
        go_ret
        exact ⟨g2, m + 1, c2, rfl, by rw [HE.out, List.length_append, hl0.out]; rfl, by rw [HE.out, List.flatMap_append]; exact ownsRow_base HO1.out (by omega), below_grown hB hg1 (by omega) hB.size⟩
      · have HE : Hid (putEnd (t0, t1, t2) (putRun (t0, t1, t2) (false, []) xs) = out) := Lib.hid (by rw [HI.out]; rfl)
        have HK := Lib.hid hk
        clear HI hI hD hk
        go_wp2
        go_ret
        exact ⟨_, m, _, rfl, by rw [HE.out]; exact hl0.out, by rw [HE.out]; exact ownsRow_base HO.out (by omega), hB⟩
end Go.Proofs.YtodhmcgjnijllaaDoor
