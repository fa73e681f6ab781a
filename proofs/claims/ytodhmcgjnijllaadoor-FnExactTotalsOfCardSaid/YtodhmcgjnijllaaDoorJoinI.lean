/-
  Totals joined by the program: the merge of two ascending lists. The numbers lie between 0 and 1000000, at most 24 totals each.
-/
import Derived.Test.YtodhmcgjnijllaaDoorPMerge
import Derived.Test.YtodhmcgjnijllaaDoorPTail
import Derived.Test.YtodhmcgjnijllaaDoorKTotal
import Derived.Deep.LoopGhost
import Derived.Deep.RegionHeld3
namespace Go.Proofs.YtodhmcgjnijllaaDoor
open Go.ChangeShapes Go.WideShapes Go.ChangeAt Go.RowKit

def Small (x : Tot) : Prop := (0 ≤ x.2.1 ∧ x.2.1 ≤ 1000000) ∧ (0 ≤ x.2.2 ∧ x.2.2 ≤ 1000000)
theorem szTotalE (w : World) : (Go.sizeOf 91).run Tryd.prog w = .ok 3 w := by kernel_rfl
theorem total_one (xs : List Tot) : ∀ u ∈ xs.flatMap totalCells, u.oneCell' = true := by
  intro u hu
  obtain ⟨x, _, hx⟩ := List.mem_flatMap.1 hu
  simp only [totalCells, List.mem_cons, List.not_mem_nil, or_false] at hx
  rcases hx with rfl | rfl | rfl <;> rfl

theorem keyT_any (a : ByteArray) (b c : Int) (w : World) : Calls Tryd.prog 77 #[.agg #[.string a, .int .i64 b, .int .i64 c]] w fun e w' => e = .returned (.string a) ∧ Below w.heap.size w w' := by
  go_enter Tryd.func77, Tryd.ntmps77
  go_wp2
  go_ret
  exact ⟨rfl, by go_grown⟩
theorem bothT_any (a : ByteArray) (b c : Int) (a' : ByteArray) (b' c' : Int) (hb : 0 ≤ b ∧ b ≤ 1000000) (hc : 0 ≤ c ∧ c ≤ 1000000) (hb' : 0 ≤ b' ∧ b' ≤ 1000000) (hc' : 0 ≤ c' ∧ c' ≤ 1000000) (w : World) :
    Calls Tryd.prog 78 #[.agg #[.string a, .int .i64 b, .int .i64 c], .agg #[.string a', .int .i64 b', .int .i64 c']] w fun e w' => e = .returned (.agg #[.string a, .int .i64 (b + b'), .int .i64 (c + c')]) ∧ Below w.heap.size w w' := by
  obtain ⟨_, _⟩ := hb
  obtain ⟨_, _⟩ := hc
  obtain ⟨_, _⟩ := hb'
  obtain ⟨_, _⟩ := hc'
  go_enter Tryd.func78, Tryd.ntmps78
  go_wp2
  go_returns
  exact ⟨rfl, by go_grown⟩

set_option maxRecDepth 8000 in
set_option maxHeartbeats 25600000 in
theorem joined_any (gA oA n c : Nat) (xs : List Tot) (hn : n ≤ 24) (hx : xs.length = n) (hnc : n ≤ c) (gB oB m d : Nat) (ys : List Tot) (hm : m ≤ 24) (hy : ys.length = m) (hmd : m ≤ d) (hbx : ∀ x ∈ xs, Small x) (hby : ∀ y ∈ ys, Small y) (w : World)
    (hL : Lies w 3 (some ⟨gA, oA, none⟩) n (xs.flatMap totalCells)) (hM : Lies w 3 (some ⟨gB, oB, none⟩) m (ys.flatMap totalCells)) :
    Calls Tryd.prog 79 #[.slice (some ⟨gA, oA, none⟩) n c, .slice (some ⟨gB, oB, none⟩) m d, .func (Fn.func 77) #[] #[], .func (Fn.func 78) #[] #[]] w fun e w' => ∃ g k cap, e = .returned (.slice (some ⟨g, 0, none⟩) k cap) ∧ (mergeT xs ys).length = k ∧ w'.ownsRow w.heap.size 91 3 (.slice (some ⟨g, 0, none⟩) k cap) k ((mergeT xs ys).flatMap totalCells) ∧ Below w.heap.size w w' := by
  obtain ⟨i0, hi, hz0, hz1, hz2⟩ := info_parts infoTotal
  have hmk0 := fun W => run_make_rowN (P := Tryd.prog) 48 91 i0 _ Tryd.underlying48 hi hz0 .i64 .i64 0 (n + m) (by omega) (by rw [hz2]; omega) (by omega) W
  rw [hz1] at hmk0
  have e1 : ((n + m : Nat) : Int) = (n : Int) + (m : Int) := by omega
  rw [e1] at hmk0
  have hmk : ∀ W, (Instr.makeSlice 48 (.int .i64 0) (.int .i64 ((n : Int) + (m : Int)))).run Tryd.prog W = .ok (.slice (some ⟨W.heap.size, 0, none⟩) 0 (n + m)) (W.alloc (.cells (madeCells (Value.agg #[.string ByteArray.empty, .int .i64 0, .int .i64 0]).cells ((n + m) * 3)) 91)) := fun W => hmk0 W
  clear hmk0
  have HX := Lib.hid hx
  have HY := Lib.hid hy
  have HL := Lib.hid hL
  have HM := Lib.hid hM
  have HBX := Lib.hid hbx
  have HBY := Lib.hid hby
  clear hx hy hL hM hbx hby hi hz0 hz1 hz2 e1
  go_enter Tryd.func79, Tryd.ntmps79
  go_wp2_with fail
  go_loopg [0, 1, 9] (n + m) (fun k a b l wr => ∃ (oa n' c' ob m' d' g j cap : Nat) (us vs out : List Tot), k = n' + m' ∧ a = .slice (some ⟨gA, oa, none⟩) n' c' ∧ b = .slice (some ⟨gB, ob, none⟩) m' d' ∧ l = .slice (some ⟨g, 0, none⟩) j cap ∧ n' ≤ c' ∧ m' ≤ d' ∧ Hid (us.length = n') ∧ Hid (vs.length = m') ∧ j + n' + m' ≤ n + m ∧ Hid (out.length = j) ∧ Hid (out ++ mergeT us vs = mergeT xs ys) ∧ Hid (∀ x ∈ us, Small x) ∧ Hid (∀ y ∈ vs, Small y) ∧ Hid (Lies w 3 (some ⟨gA, oa, none⟩) n' (us.flatMap totalCells)) ∧ Hid (Lies w 3 (some ⟨gB, ob, none⟩) m' (vs.flatMap totalCells)) ∧ Hid (wr.ownsRow w.heap.size 91 3 (.slice (some ⟨g, 0, none⟩) j cap) j (out.flatMap totalCells)) ∧ Below w.heap.size w wr)
  case atStart => exact ⟨oA, n, c, oB, m, d, _, 0, _, xs, ys, [], rfl, rfl, rfl, rfl, hnc, hmd, HX, HY, by omega, Lib.hid rfl, Lib.hid rfl, HBX, HBY, HL, HM, Lib.hid (owns_made _ _ rfl (Nat.le_refl _) (by unfold maxLen; omega) (by simp [size_madeCells])), (by repeat' (first | (with_reducible exact Below.refl _ _) | (with_reducible assumption) | (with_reducible refine below_step (by assumption) ?_) | (with_reducible refine below_alloc ?_ _) | (with_reducible refine Below.drew ?_) | (with_reducible refine below_drewN ?_ _) | (with_reducible refine Below.setCell ?_ ?_ _) | go_size))⟩
  case round =>
    obtain ⟨oa, n', c', ob, m', d', g, j, cap, us, vs, out, hk, rfl, rfl, rfl, hnc', hmd', hxl, hyl, hjn, hol, hI, hSx, hSy, HA, HBb, HO, hB⟩ := hrel
    have HK := Lib.hid hk
    have hgl := (owns_lt HO.out).1
    clear hk
    by_cases hexit : us = [] ∨ vs = []
    · have HF := Lib.hid (show mergeT xs ys = out ++ us ++ vs by
        rw [← hI.out]
        rcases hexit with rfl | rfl
        · rw [mergeT_nil_l, List.append_nil]
        · rw [mergeT_nil_r, List.append_nil])
      have hz : n' = 0 ∨ (0 < n' ∧ m' = 0) := by
        have h1 := hxl.out; have h2 := hyl.out
        rcases hexit with rfl | rfl
        · left; simpa using h1.symm
        · rcases Nat.eq_zero_or_pos n' with h | h
          · exact .inl h
          · exact .inr ⟨h, by simpa using h2.symm⟩
      clear hexit
      rcases hz with hz | ⟨hz, hz'⟩
      · have z0 : decide ((0 : Int) < (n' : Int)) = false := by simp; omega
        have z1 : decide (0 < n') = false := by simp; omega
        have HZ := Lib.hid hz
        clear hz
        go_wp2_with (first | (at_builtin; refine wpList_appS rfl _ _ 48 91 3 32 rowTotal rfl w.heap.size g j cap _ HO.out rfl gA oa n' c' _ rfl (HA.out.below hB) (total_one us) (by unfold maxLen; omega) (by omega) hB.size ?_; intro g2 c2 w2 ho2 hg2; have HO2 := Lib.hid ho2; have hB2 := below_grown hB hg2 hgl hB.size; have hgl2 := (owns_lt HO2.out).1; clear ho2 hg2) | (at_builtin; refine wpList_appS rfl _ _ 48 91 3 32 rowTotal rfl w.heap.size g2 (j + n') c2 _ HO2.out rfl gB ob m' d' _ rfl (HBb.out.below hB2) (total_one vs) (by unfold maxLen; omega) (by omega) hB2.size ?_; intro g3 c3 w3 ho3 hg3; have HO3 := Lib.hid ho3; have hB3 := below_grown hB2 hg3 hgl2 hB2.size; clear ho3 hg3))
        go_ret
        exact ⟨g3, j + n' + m', c3, rfl, by rw [HF.out, List.length_append, List.length_append, hol.out, hxl.out, hyl.out], by rw [HF.out, List.flatMap_append, List.flatMap_append]; exact HO3.out, hB3⟩
      · have z0 : decide ((0 : Int) < (n' : Int)) = true := by simp; omega
        have z1 : decide (0 < n') = true := by simp; omega
        have z2 : decide ((0 : Int) < (m' : Int)) = false := by simp; omega
        have z3 : decide (0 < m') = false := by simp; omega
        have HZ := Lib.hid hz
        have HZ' := Lib.hid hz'
        clear hz hz'
        go_wp2_with (first | (at_builtin; refine wpList_appS rfl _ _ 48 91 3 32 rowTotal rfl w.heap.size g j cap _ HO.out rfl gA oa n' c' _ rfl (HA.out.below hB) (total_one us) (by unfold maxLen; omega) (by omega) hB.size ?_; intro g2 c2 w2 ho2 hg2; have HO2 := Lib.hid ho2; have hB2 := below_grown hB hg2 hgl hB.size; have hgl2 := (owns_lt HO2.out).1; clear ho2 hg2) | (at_builtin; refine wpList_appS rfl _ _ 48 91 3 32 rowTotal rfl w.heap.size g2 (j + n') c2 _ HO2.out rfl gB ob m' d' _ rfl (HBb.out.below hB2) (total_one vs) (by unfold maxLen; omega) (by omega) hB2.size ?_; intro g3 c3 w3 ho3 hg3; have HO3 := Lib.hid ho3; have hB3 := below_grown hB2 hg3 hgl2 hB2.size; clear ho3 hg3))
        go_ret
        exact ⟨g3, j + n' + m', c3, rfl, by rw [HF.out, List.length_append, List.length_append, hol.out, hxl.out, hyl.out], by rw [HF.out, List.flatMap_append, List.flatMap_append]; exact HO3.out, hB3⟩
    · rcases us with _ | ⟨⟨x0, x1, x2⟩, us⟩
      · exact absurd (.inl rfl) hexit
      rcases vs with _ | ⟨⟨y0, y1, y2⟩, vs⟩
      · exact absurd (.inr rfl) hexit
      clear hexit
      have hp : 0 < n' := by have := hxl.out; simp at this; omega
      have hq : 0 < m' := by have := hyl.out; simp at this; omega
      have z0 : decide ((0 : Int) < (n' : Int)) = true := by simp; omega
      have z1 : decide (0 < n') = true := by simp; omega
      have z2 : decide ((0 : Int) < (m' : Int)) = true := by simp; omega
      have z3 : decide (0 < m') = true := by simp; omega
      have hsx := hSx.out (x0, x1, x2) (by simp)
      have hsy := hSy.out (y0, y1, y2) (by simp)
      obtain ⟨⟨bx1, bx2⟩, bx3, bx4⟩ := hsx
      obtain ⟨⟨by1, by2⟩, by3, by4⟩ := hsy
      obtain ⟨b, o, e, _, hc⟩ := HA.out.row (fun _ => rfl) hp
      cases e
      have A0 : w.cell? ⟨gA, oa, none⟩ = some (.string x0) := by simpa using hc 0 _ rfl 0 _ rfl
      have A1 : w.cell? ⟨gA, oa + 1, none⟩ = some (.int .i64 x1) := by simpa using hc 0 _ rfl 1 _ rfl
      have A2 : w.cell? ⟨gA, oa + 2, none⟩ = some (.int .i64 x2) := by simpa using hc 0 _ rfl 2 _ rfl
      clear hc
      obtain ⟨b, o, e, _, hc⟩ := HBb.out.row (fun _ => rfl) hq
      cases e
      have B0 : w.cell? ⟨gB, ob, none⟩ = some (.string y0) := by simpa using hc 0 _ rfl 0 _ rfl
      have B1 : w.cell? ⟨gB, ob + 1, none⟩ = some (.int .i64 y1) := by simpa using hc 0 _ rfl 1 _ rfl
      have B2 : w.cell? ⟨gB, ob + 2, none⟩ = some (.int .i64 y2) := by simpa using hc 0 _ rfl 2 _ rfl
      clear hc
      obtain ⟨oa', hslA, htA⟩ := tail_of (P := Tryd.prog) (t := 48) (e := 91) (size := 3) Tryd.underlying48 szTotalE gA oa n' c' (by omega) hnc'
      obtain ⟨ob', hslB, htB⟩ := tail_of (P := Tryd.prog) (t := 48) (e := 91) (size := 3) Tryd.underlying48 szTotalE gB ob m' d' (by omega) hmd'
      have HTA := Lib.hid (htA w (totalCells (x0, x1, x2)) (us.flatMap totalCells) rfl HA.out)
      have HTB := Lib.hid (htB w (totalCells (y0, y1, y2)) (vs.flatMap totalCells) rfl HBb.out)
      have hxl' := Lib.hid (show us.length = n' - 1 by have := hxl.out; simp at this; omega)
      have hyl' := Lib.hid (show vs.length = m' - 1 by have := hyl.out; simp at this; omega)
      have hSx' := Lib.hid (fun x hx => hSx.out x (List.mem_cons_of_mem (x0, x1, x2) hx))
      have hSy' := Lib.hid (fun x hx => hSy.out x (List.mem_cons_of_mem (y0, y1, y2) hx))
      clear htA htB
      have a0 := box_cell hB A0
      have a1 := box_cell hB A1
      have a2 := box_cell hB A2
      have b0 := box_cell hB B0
      have b1 := box_cell hB B1
      have b2 := box_cell hB B2
      have r0 := After.cell a0
      have r1 := After.cell a1
      have r2 := After.cell a2
      have s0 := After.cell b0
      have s1 := After.cell b1
      have s2 := After.cell b2
      cases E1 : ltS x0 y0
      · have F1 : Op.bytesLess x0.toList y0.toList = false := E1
        cases E2 : ltS y0 x0
        · have F2 : (x0.toList == y0.toList) = true := beq_toList (ltS_tri E1 E2)
          have HI := Lib.hid (show (out ++ [bothT (x0, x1, x2) (y0, y1, y2)]) ++ mergeT us vs = mergeT xs ys by rw [← hI.out, mergeT_eq us vs (x := (x0, x1, x2)) (y := (y0, y1, y2)) E1 E2, List.append_assoc]; rfl)
          clear E1 E2
          go_wp2_with fail
          refine wp_region_after (by kernel_rfl) (by kernel_rfl) ?_
          repeat (go_big_quiet_step (((go_at_call 77; exact after_call (keyT_any _ _ _ _)))))
          refine wpQuiet_nil ?_
          intro wn hw'
          have hwn := after_below hw'
          clear hw'
          have hB := below_step hwn hB
          have a0 := box_cell hwn a0
          have a1 := box_cell hwn a1
          have a2 := box_cell hwn a2
          have b0 := box_cell hwn b0
          have b1 := box_cell hwn b1
          have b2 := box_cell hwn b2
          have HO' := Lib.hid (owns_below HO.out hwn)
          clear r0 r1 r2 s0 s1 s2
          have r0 := After.cell a0
          have r1 := After.cell a1
          have r2 := After.cell a2
          have s0 := After.cell b0
          have s1 := After.cell b1
          have s2 := After.cell b2
          go_wp2_with fail
          refine wp_region_after (by kernel_rfl) (by kernel_rfl) ?_
          repeat (go_big_quiet_step (((go_at_call 77; exact after_call (keyT_any _ _ _ _)))))
          refine wpQuiet_nil ?_
          intro wn hw'
          have hwn := after_below hw'
          clear hw'
          have hB := below_step hwn hB
          have a0 := box_cell hwn a0
          have a1 := box_cell hwn a1
          have a2 := box_cell hwn a2
          have b0 := box_cell hwn b0
          have b1 := box_cell hwn b1
          have b2 := box_cell hwn b2
          have HO2 := Lib.hid (owns_below HO'.out hwn)
          clear r0 r1 r2 s0 s1 s2
          go_wp2_with fail
          go_region_held3 (fun wx => wx.cell? ⟨gA, oa, none⟩ = some (.string x0) ∧ wx.cell? ⟨gA, oa + 1, none⟩ = some (.int .i64 x1) ∧ wx.cell? ⟨gA, oa + 2, none⟩ = some (.int .i64 x2) ∧ wx.cell? ⟨gB, ob, none⟩ = some (.string y0) ∧ wx.cell? ⟨gB, ob + 1, none⟩ = some (.int .i64 y1) ∧ wx.cell? ⟨gB, ob + 2, none⟩ = some (.int .i64 y2) ∧ Below w.heap.size w wx) ((go_split_ands; refine ⟨?_, ?_, ?_, ?_, ?_, ?_, ?_⟩ <;> first | assumption | ((repeat' (first | (with_reducible exact Below.refl _ _) | (with_reducible assumption) | (with_reducible refine below_step (by assumption) ?_) | (with_reducible refine below_alloc ?_ _) | (with_reducible refine Below.drew ?_) | (with_reducible refine below_drewN ?_ _) | (with_reducible refine Below.setCell ?_ ?_ _) | go_size)); done) | (refine box_cell (W := w) ?_ A0; (repeat' (first | (with_reducible exact Below.refl _ _) | (with_reducible assumption) | (with_reducible refine below_step (by assumption) ?_) | (with_reducible refine below_alloc ?_ _) | (with_reducible refine Below.drew ?_) | (with_reducible refine below_drewN ?_ _) | (with_reducible refine Below.setCell ?_ ?_ _) | go_size)); done) | (refine box_cell (W := w) ?_ A1; (repeat' (first | (with_reducible exact Below.refl _ _) | (with_reducible assumption) | (with_reducible refine below_step (by assumption) ?_) | (with_reducible refine below_alloc ?_ _) | (with_reducible refine Below.drew ?_) | (with_reducible refine below_drewN ?_ _) | (with_reducible refine Below.setCell ?_ ?_ _) | go_size)); done) | (refine box_cell (W := w) ?_ A2; (repeat' (first | (with_reducible exact Below.refl _ _) | (with_reducible assumption) | (with_reducible refine below_step (by assumption) ?_) | (with_reducible refine below_alloc ?_ _) | (with_reducible refine Below.drew ?_) | (with_reducible refine below_drewN ?_ _) | (with_reducible refine Below.setCell ?_ ?_ _) | go_size)); done) | (refine box_cell (W := w) ?_ B0; (repeat' (first | (with_reducible exact Below.refl _ _) | (with_reducible assumption) | (with_reducible refine below_step (by assumption) ?_) | (with_reducible refine below_alloc ?_ _) | (with_reducible refine Below.drew ?_) | (with_reducible refine below_drewN ?_ _) | (with_reducible refine Below.setCell ?_ ?_ _) | go_size)); done) | (refine box_cell (W := w) ?_ B1; (repeat' (first | (with_reducible exact Below.refl _ _) | (with_reducible assumption) | (with_reducible refine below_step (by assumption) ?_) | (with_reducible refine below_alloc ?_ _) | (with_reducible refine Below.drew ?_) | (with_reducible refine below_drewN ?_ _) | (with_reducible refine Below.setCell ?_ ?_ _) | go_size)); done) | (refine box_cell (W := w) ?_ B2; (repeat' (first | (with_reducible exact Below.refl _ _) | (with_reducible assumption) | (with_reducible refine below_step (by assumption) ?_) | (with_reducible refine below_alloc ?_ _) | (with_reducible refine Below.drew ?_) | (with_reducible refine below_drewN ?_ _) | (with_reducible refine Below.setCell ?_ ?_ _) | go_size)); done)))
            (first | (go_at_call 78; go_split_ands; refine (bothT_any _ _ _ _ _ _ ⟨bx1, bx2⟩ ⟨bx3, bx4⟩ ⟨by1, by2⟩ ⟨by3, by4⟩ _).mono ?_; rintro e5 w5 ⟨rfl, hb5⟩; have hB5 : Below w.heap.size w w5 := below_step hb5 (by assumption); have HO5 := Lib.hid (owns_below (by exact HO2.out) hb5)) | (refine step_app1 rfl _ _ 48 91 3 32 rowTotal rfl w.heap.size g j cap _ HO5.out rfl _ rfl rfl rfl rfl (by unfold maxLen; omega) (by omega) hB5.size ?_; intro g2 c2 w6 ho6 hg6; have HO6 := Lib.hid ho6; have hB6 := below_grown hB5 hg6 hgl hB5.size; clear ho6 hg6))
          go_wp2
          go_roundg (n' - 1 + (m' - 1))
          case measure => have := HK.out; omega
          case rel => exact ⟨oa', n' - 1, c' - 1, ob', m' - 1, d' - 1, g2, j + 1, c2, us, vs, out ++ [bothT (x0, x1, x2) (y0, y1, y2)], rfl, rfl, rfl, rfl, by omega, by omega, hxl', hyl', by omega, Lib.hid (by rw [List.length_append, hol.out]; rfl), HI, hSx', hSy', HTA, HTB, by rw [List.flatMap_append]; exact HO6, hB6⟩
        · have F2 : (x0.toList == y0.toList) = false := str_ne (fun h => ltS_ne E2 h.symm)
          have HI := Lib.hid (show (out ++ [(y0, y1, y2)]) ++ mergeT ((x0, x1, x2) :: us) vs = mergeT xs ys by rw [← hI.out, mergeT_gt us vs (x := (x0, x1, x2)) (y := (y0, y1, y2)) E1 E2, List.append_assoc]; rfl)
          clear E1 E2
          go_wp2_with fail
          refine wp_region_after (by kernel_rfl) (by kernel_rfl) ?_
          repeat (go_big_quiet_step (((go_at_call 77; exact after_call (keyT_any _ _ _ _)))))
          refine wpQuiet_nil ?_
          intro wn hw'
          have hwn := after_below hw'
          clear hw'
          have hB := below_step hwn hB
          have a0 := box_cell hwn a0
          have a1 := box_cell hwn a1
          have a2 := box_cell hwn a2
          have b0 := box_cell hwn b0
          have b1 := box_cell hwn b1
          have b2 := box_cell hwn b2
          have HO' := Lib.hid (owns_below HO.out hwn)
          clear r0 r1 r2 s0 s1 s2
          have r0 := After.cell a0
          have r1 := After.cell a1
          have r2 := After.cell a2
          have s0 := After.cell b0
          have s1 := After.cell b1
          have s2 := After.cell b2
          go_wp2_with fail
          refine wp_region_after (by kernel_rfl) (by kernel_rfl) ?_
          repeat (go_big_quiet_step (((go_at_call 77; exact after_call (keyT_any _ _ _ _)))))
          refine wpQuiet_nil ?_
          intro wn hw'
          have hwn := after_below hw'
          clear hw'
          have hB := below_step hwn hB
          have a0 := box_cell hwn a0
          have a1 := box_cell hwn a1
          have a2 := box_cell hwn a2
          have b0 := box_cell hwn b0
          have b1 := box_cell hwn b1
          have b2 := box_cell hwn b2
          have HO2 := Lib.hid (owns_below HO'.out hwn)
          clear r0 r1 r2 s0 s1 s2
          go_wp2_with (at_builtin; refine wpList_app1 rfl _ _ 48 91 3 32 rowTotal rfl w.heap.size g j cap _ HO2.out rfl rfl rfl rfl (by unfold maxLen; omega) (by omega) hB.size ?_; intro g2 c2 w2 ho2 hg2 hz2; have HO3 := Lib.hid ho2; have hB2 := below_grown hB hg2 hgl hB.size; clear ho2 hg2)
          go_roundg (n' + (m' - 1))
          case measure => have := HK.out; omega
          case rel => exact ⟨oa, n', c', ob', m' - 1, d' - 1, g2, j + 1, c2, (x0, x1, x2) :: us, vs, out ++ [(y0, y1, y2)], rfl, rfl, rfl, rfl, hnc', by omega, hxl, hyl', by omega, Lib.hid (by rw [List.length_append, hol.out]; rfl), HI, hSx, hSy', HA, HTB, by rw [List.flatMap_append]; exact HO3, hB2⟩
      · have F1 : Op.bytesLess x0.toList y0.toList = true := E1
        have HI := Lib.hid (show (out ++ [(x0, x1, x2)]) ++ mergeT us ((y0, y1, y2) :: vs) = mergeT xs ys by rw [← hI.out, mergeT_lt us vs (x := (x0, x1, x2)) (y := (y0, y1, y2)) E1, List.append_assoc]; rfl)
        clear E1
        go_wp2_with fail
        refine wp_region_after (by kernel_rfl) (by kernel_rfl) ?_
        repeat (go_big_quiet_step (((go_at_call 77; exact after_call (keyT_any _ _ _ _)))))
        refine wpQuiet_nil ?_
        intro wn hw'
        have hwn := after_below hw'
        clear hw'
        have hB := below_step hwn hB
        have a0 := box_cell hwn a0
        have a1 := box_cell hwn a1
        have a2 := box_cell hwn a2
        have HO' := Lib.hid (owns_below HO.out hwn)
        clear r0 r1 r2 s0 s1 s2
        go_wp2_with (at_builtin; refine wpList_app1 rfl _ _ 48 91 3 32 rowTotal rfl w.heap.size g j cap _ HO'.out rfl rfl rfl rfl (by unfold maxLen; omega) (by omega) hB.size ?_; intro g2 c2 w2 ho2 hg2 hz2; have HO2 := Lib.hid ho2; have hB2 := below_grown hB hg2 hgl hB.size; clear ho2 hg2)
        go_roundg (n' - 1 + m')
        case measure => have := HK.out; omega
        case rel => exact ⟨oa', n' - 1, c' - 1, ob, m', d', g2, j + 1, c2, us, (y0, y1, y2) :: vs, out ++ [(x0, x1, x2)], rfl, rfl, rfl, rfl, by omega, hmd', hxl', hyl, by omega, Lib.hid (by rw [List.length_append, hol.out]; rfl), HI, hSx', hSy, HTA, HBb, by rw [List.flatMap_append]; exact HO2, hB2⟩
end Go.Proofs.YtodhmcgjnijllaaDoor
