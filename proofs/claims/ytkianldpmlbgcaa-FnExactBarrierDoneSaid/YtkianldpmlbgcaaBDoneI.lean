/-
  BarrierDone of the program. No condition.
-/
import Derived.Test.YtkianldpmlbgcaaBDoneP
namespace Go.Proofs.Ytkianldpmlbgcaa
open Go.ChangeShapes Go.WideShapes Go.ChangeAt Go.RowKit

set_option maxHeartbeats 3200000 in
theorem implBDone_no (next : Int) (g n c : Nat) (zs : List Int) (hn : n ≤ 1048576) (hx : zs.length = n) (first many : Int) (w : World) (hL : Lies w 1 (some ⟨g, 0, none⟩) n (zs.flatMap intCells)) (hno : ¬ (barrierB next zs = true ∧ inB first 0 99 = true ∧ inB many 1 24 = true)) :
    Calls Try.prog 21 #[.agg #[.int .i64 next, .slice (some ⟨g, 0, none⟩) n c], .int .i64 first, .int .i64 many] w fun e w' => e = .returned (.tuple #[.agg #[.int .i64 0, .slice none 0 0], .bool false]) ∧ Below w.heap.size w w' := by
  have HX := Lib.hid hx
  have HL := Lib.hid hL
  have HN := Lib.hid hno
  clear hx hL hno
  have fin : ∀ {w1 : World}, Below (w.heap.size + 2) ((w.alloc (.cells #[.int .i64 next, .slice (some ⟨g, 0, none⟩) n c] 33)).alloc (.cells #[.int .i64 0, .slice none 0 0] 33)) w1 →
      w1.cell? ⟨w.heap.size + 1, 0, none⟩ = some (.int .i64 0) ∧ w1.cell? ⟨w.heap.size + 1, 1, none⟩ = some (.slice none 0 0) ∧ w1.frozen? ⟨w.heap.size + 1, 0, none⟩ = false ∧ w1.frozen? ⟨w.heap.size + 1, 1, none⟩ = false := by
    intro w1 hb
    refine ⟨(hb.cell (p := ⟨w.heap.size + 1, 0, none⟩) (by simp)).trans (by go_cell), (hb.cell (p := ⟨w.heap.size + 1, 1, none⟩) (by simp)).trans (by go_cell), (hb.frozen (p := ⟨w.heap.size + 1, 0, none⟩) (by simp)).trans (by simp [go_sem]), (hb.frozen (p := ⟨w.heap.size + 1, 1, none⟩) (by simp)).trans (by simp [go_sem])⟩
  cases E1 : barrierB next zs
  · clear HN
    go_enter Try.func21, Try.ntmps21
    go_wp2_with fail
    refine (implBarrier_any next _ n c zs hn HX.out _ (HL.out.below (by repeat' (first | (with_reducible exact Below.refl _ _) | (with_reducible assumption) | (with_reducible refine below_step (by assumption) ?_) | (with_reducible refine below_alloc ?_ _) | (with_reducible refine Below.drew ?_) | (with_reducible refine below_drewN ?_ _) | (with_reducible refine Below.setCell ?_ ?_ _) | go_size)))).mono ?_
    rintro e1 w1 ⟨rfl, hb⟩
    rw [E1]
    have B1 : Below w.heap.size w w1 := (by repeat' (first | (with_reducible exact Below.refl _ _) | (with_reducible assumption) | (with_reducible refine below_step (by assumption) ?_) | (with_reducible refine below_alloc ?_ _) | (with_reducible refine Below.drew ?_) | (with_reducible refine below_drewN ?_ _) | (with_reducible refine Below.setCell ?_ ?_ _) | go_size))
    simp only [World.size_alloc] at hb
    obtain ⟨r0, r1, f0, f1⟩ := fin hb
    have hs := hb.size
    simp only [World.size_alloc] at hs
    clear hb
    go_wp2
    refine bodyPost_ret (v := .tuple #[.agg #[.int .i64 0, .slice none 0 0], .bool false]) (by simp [results, Try.results21, go_sem, r0, r1]) rfl ⟨rfl, ?_⟩
    exact Below.setCell (Below.setCell B1 (by show w.heap.size ≤ w.heap.size + 1; omega) _) (by show w.heap.size ≤ w.heap.size + 1; omega) _
  cases E3 : inB first 0 99
  · clear HN
    go_enter Try.func21, Try.ntmps21
    go_wp2_with fail
    refine (implBarrier_any next _ n c zs hn HX.out _ (HL.out.below (by repeat' (first | (with_reducible exact Below.refl _ _) | (with_reducible assumption) | (with_reducible refine below_step (by assumption) ?_) | (with_reducible refine below_alloc ?_ _) | (with_reducible refine Below.drew ?_) | (with_reducible refine below_drewN ?_ _) | (with_reducible refine Below.setCell ?_ ?_ _) | go_size)))).mono ?_
    rintro e1 w1 ⟨rfl, hb⟩
    rw [E1]
    have B1 : Below w.heap.size w w1 := (by repeat' (first | (with_reducible exact Below.refl _ _) | (with_reducible assumption) | (with_reducible refine below_step (by assumption) ?_) | (with_reducible refine below_alloc ?_ _) | (with_reducible refine Below.drew ?_) | (with_reducible refine below_drewN ?_ _) | (with_reducible refine Below.setCell ?_ ?_ _) | go_size))
    simp only [World.size_alloc] at hb
    obtain ⟨r0, r1, f0, f1⟩ := fin hb
    have hs := hb.size
    simp only [World.size_alloc] at hs
    clear hb
    go_wp2_with fail
    refine (placeValid_any _ _).mono ?_
    rintro e2 w2 ⟨rfl, rfl⟩
    rw [E3]
    go_wp2
    refine bodyPost_ret (v := .tuple #[.agg #[.int .i64 0, .slice none 0 0], .bool false]) (by simp [results, Try.results21, go_sem, r0, r1]) rfl ⟨rfl, ?_⟩
    exact Below.setCell (Below.setCell B1 (by show w.heap.size ≤ w.heap.size + 1; omega) _) (by show w.heap.size ≤ w.heap.size + 1; omega) _
  cases E2 : inB many 1 24
  · clear HN
    go_enter Try.func21, Try.ntmps21
    go_wp2_with fail
    refine (implBarrier_any next _ n c zs hn HX.out _ (HL.out.below (by repeat' (first | (with_reducible exact Below.refl _ _) | (with_reducible assumption) | (with_reducible refine below_step (by assumption) ?_) | (with_reducible refine below_alloc ?_ _) | (with_reducible refine Below.drew ?_) | (with_reducible refine below_drewN ?_ _) | (with_reducible refine Below.setCell ?_ ?_ _) | go_size)))).mono ?_
    rintro e1 w1 ⟨rfl, hb⟩
    rw [E1]
    have B1 : Below w.heap.size w w1 := (by repeat' (first | (with_reducible exact Below.refl _ _) | (with_reducible assumption) | (with_reducible refine below_step (by assumption) ?_) | (with_reducible refine below_alloc ?_ _) | (with_reducible refine Below.drew ?_) | (with_reducible refine below_drewN ?_ _) | (with_reducible refine Below.setCell ?_ ?_ _) | go_size))
    simp only [World.size_alloc] at hb
    obtain ⟨r0, r1, f0, f1⟩ := fin hb
    have hs := hb.size
    simp only [World.size_alloc] at hs
    clear hb
    go_wp2_with fail
    refine (placeValid_any _ _).mono ?_
    rintro e2 w2 ⟨rfl, rfl⟩
    rw [E3]
    go_wp2_with fail
    refine (manyValid_any _ _).mono ?_
    rintro e2 w2 ⟨rfl, rfl⟩
    rw [E2]
    go_wp2
    refine bodyPost_ret (v := .tuple #[.agg #[.int .i64 0, .slice none 0 0], .bool false]) (by simp [results, Try.results21, go_sem, r0, r1]) rfl ⟨rfl, ?_⟩
    exact Below.setCell (Below.setCell B1 (by show w.heap.size ≤ w.heap.size + 1; omega) _) (by show w.heap.size ≤ w.heap.size + 1; omega) _
  exact absurd ⟨E1, E3, E2⟩ HN.out

set_option maxHeartbeats 12800000 in
theorem implBDone_run (next : Int) (g0 n c0 : Nat) (zs : List Int) (hn : n ≤ 1048576) (hx : zs.length = n) (first : Int) (m : Nat) (w : World) (hL : Lies w 1 (some ⟨g0, 0, none⟩) n (zs.flatMap intCells)) (E1 : barrierB next zs = true) (E3 : inB first 0 99 = true) (E2 : inB (m : Int) 1 24 = true) :
    Calls Try.prog 21 #[.agg #[.int .i64 next, .slice (some ⟨g0, 0, none⟩) n c0], .int .i64 first, .int .i64 m] w fun e w' => (hasRun zs first m = false → e = .returned (.tuple #[.agg #[.int .i64 0, .slice none 0 0], .bool false])) ∧ (hasRun zs first m = true → ∃ g' m' c' : Nat, e = .returned (.tuple #[.agg #[.int .i64 next, .slice (some ⟨g', 0, none⟩) m' c'], .bool true]) ∧ (zs.filter (outside first m)).length = m' ∧ w'.ownsRow w.heap.size 3 1 (.slice (some ⟨g', 0, none⟩) m' c') m' ((zs.filter (outside first m)).flatMap intCells)) ∧ Below w.heap.size w w' := by
  obtain ⟨hm1, hm2⟩ := inB_iff.1 E2
  obtain ⟨hf1, hf2⟩ := inB_iff.1 E3
  have HX := Lib.hid hx
  have HL := Lib.hid hL
  have HASC := Lib.hid (barrier_parts E1).2
  have HRC := Lib.hid (run_count first m (barrier_parts E1).2)
  clear hx hL
  go_enter Try.func21, Try.ntmps21
  go_wp2_with fail
  refine (implBarrier_any next _ n c0 zs hn HX.out _ (HL.out.below (by repeat' (first | (with_reducible exact Below.refl _ _) | (with_reducible assumption) | (with_reducible refine below_step (by assumption) ?_) | (with_reducible refine below_alloc ?_ _) | (with_reducible refine Below.drew ?_) | (with_reducible refine below_drewN ?_ _) | (with_reducible refine Below.setCell ?_ ?_ _) | go_size)))).mono ?_
  rintro e1 w1 ⟨rfl, hb⟩
  rw [E1]
  have B1 : Below w.heap.size w w1 := (by repeat' (first | (with_reducible exact Below.refl _ _) | (with_reducible assumption) | (with_reducible refine below_step (by assumption) ?_) | (with_reducible refine below_alloc ?_ _) | (with_reducible refine Below.drew ?_) | (with_reducible refine below_drewN ?_ _) | (with_reducible refine Below.setCell ?_ ?_ _) | go_size))
  have HR0 := Lib.hid ((((RowIs.new w #[.int .i64 next, .slice (some ⟨g0, 0, none⟩) n c0] 33)).alloc _).below hb)
  have HR1 := Lib.hid ((RowIs.new (w.alloc (.cells #[.int .i64 next, .slice (some ⟨g0, 0, none⟩) n c0] 33)) #[.int .i64 0, .slice none 0 0] 33).below hb)
  simp only [World.size_alloc] at HR1
  clear hb
  go_wp2_with fail
  refine (placeValid_any _ _).mono ?_
  rintro e2 w2 ⟨rfl, rfl⟩
  rw [E3]
  go_wp2_with fail
  refine (manyValid_any _ _).mono ?_
  rintro e2 w2 ⟨rfl, rfl⟩
  rw [E2]
  have h3s : w.heap.size + 1 < w1.heap.size := HR1.out.lt
  have y1 := HR0.out.cell (j := 1) rfl
  have y1a := box_cell (below_alloc (Below.refl w1.heap.size w1) (.cells #[] 3)) y1
  have BA : Below w1.heap.size w1 (w1.alloc (.cells #[] 3)) := below_alloc (Below.refl _ _) _
  go_wp2_with fail
  refine (heapOfR_any g0 0 n c0 zs hn HX.out (ascL_of HASC.out) _ ((HL.out.below B1).below BA)).mono ?_
  rintro e3 w3 ⟨h, g, c, rfl, hp, ho, hh, hg, hb3⟩
  have HP := Lib.hid hp
  have HO := Lib.hid ho
  have HB3 := Lib.hid hb3
  clear hp ho hb3
  go_wp2_with fail
  refine (drain_any h (w1.alloc (.cells #[] 3)).heap.size g c zs n HX.out hn (ascL_of HASC.out) _ HB3.out.size hh hg HP.out HO.out).mono ?_
  rintro e4 w4 ⟨gd, cd, rfl, o4, b4⟩
  have HD := Lib.hid o4
  have HB4 := Lib.hid (HB3.out.trans b4)
  have hgd := owns_lt o4
  have hgd1 := HB3.out.size
  have HLF := Lib.hid (owns_below (owns_nil w1 3 1) (HB3.out.trans b4))
  simp only [World.size_alloc] at hgd1
  clear o4 b4
  have HBT := Lib.hid (BA.trans (HB4.out.mono (by simp)))
  go_wp2_with fail
  go_loopw [31, 8] (fun i l wr => ∃ (j g m' c : Nat), j ≤ n ∧ i = .int .i64 j ∧ l = .slice (some ⟨g, 0, none⟩) m' c ∧ m' ≤ j ∧ g ≠ gd ∧ Hid (((zs.take j).filter (outside first m)).length = m') ∧ Hid (wr.ownsRow w1.heap.size 3 1 (.slice (some ⟨g, 0, none⟩) m' c) m' (((zs.take j).filter (outside first m)).flatMap intCells)) ∧ Hid (wr.ownsRow w1.heap.size 3 1 (.slice (some ⟨gd, 0, none⟩) n cd) n (zs.flatMap intCells)) ∧ Hid (Below w1.heap.size w1 wr)) (fun i _ _ => n - (intOf i).toNat)
  case atStart => exact ⟨0, w1.heap.size, 0, 0, Nat.zero_le _, rfl, rfl, Nat.le_refl _, by omega, Lib.hid (by simp), Lib.hid (by simpa using HLF.out), Lib.hid (ownsRow_base HD.out (by omega)), HBT⟩
  case round =>
    obtain ⟨j, g, m', c, hj, rfl, rfl, hmj, hne, hlen, hO, hDr, hB⟩ := hrel
    have hgl := owns_lt hO.out
    have hws := hB.out.size
    have w6 : IntKind.i64.wrap (first + (m : Int)) = first + (m : Int) := IntWalk.i64_in _ ⟨by omega, by omega⟩
    by_cases hjn : j < n
    · obtain ⟨b', o', e', _, hc⟩ := (lies_of_own hDr.out).row (fun _ => rfl) (by omega)
      cases e'
      obtain ⟨x, hxj⟩ := get_lt HX.out hjn
      have d0 : wr.cell? ⟨gd, j, none⟩ = some (.int .i64 x) := by simpa using hc j _ hxj 0 _ rfl
      have HFS := Lib.hid (filter_snoc (p := outside first (m : Int)) hxj)
      clear hc hxj
      have HIN : outside first (m : Int) x = (decide (x < first) || decide (first + (m : Int) ≤ x)) := rfl
      cases HP0 : outside first (m : Int) x
      · have HFE := Lib.hid (show (zs.take (j + 1)).filter (outside first (m : Int)) = (zs.take j).filter (outside first (m : Int)) by rw [HFS.out, HP0]; simp)
        have t1 : decide (x < first) = false := by unfold outside at HP0; simp at HP0 ⊢; omega
        have t2 : decide (first + (m : Int) ≤ x) = false := by unfold outside at HP0; simp at HP0 ⊢; omega
        clear HIN
        go_wp2
        go_roundw
        case rel => exact ⟨j + 1, g, m', c, by omega, by go_num, rfl, by omega, hne, by rw [HFE.out]; exact hlen, by rw [HFE.out]; exact hO, hDr, hB⟩
        case measure => simp [intOf]; omega
      · have HLN := Lib.hid (show ((zs.take (j + 1)).filter (outside first (m : Int))).length = m' + 1 by rw [HFS.out, HP0, List.length_append, hlen.out]; rfl)
        have HPH := Lib.hid HP0
        rcases (show x < first ∨ (¬ x < first ∧ first + (m : Int) ≤ x) by unfold outside at HP0; simp at HP0; omega) with t1 | ⟨t0, t2⟩
        all_goals
          clear HIN HP0
          go_wp2_with (at_builtin; refine wpList_app1x rfl _ _ 29 3 1 8 rowInt rfl w1.heap.size g m' c _ hO.out rfl rfl rfl rfl (by unfold maxLen; omega) (by omega) hws ?_; intro g4 c4 w4 ho4 hg4 hat4; have HO4 := Lib.hid ho4; have HG4 := Lib.hid hg4; clear ho4 hg4)
          go_roundw
          case rel =>
            have hgdl := owns_lt hDr.out
            refine ⟨j + 1, g4, m' + 1, c4, by omega, by go_num, rfl, by omega, by omega, HLN, Lib.hid ?_, Lib.hid (owns_grown hDr.out HG4.out (fun e => by injection e; omega)), Lib.hid (below_grown hB.out HG4.out (by omega) hws)⟩
            rw [HFS.out, HPH.out, List.flatMap_append]
            exact HO4.out
          case measure => simp [intOf]; omega
    · have HFT := Lib.hid (show (zs.take j).filter (outside first (m : Int)) = zs.filter (outside first (m : Int)) by rw [List.take_of_length_le (by have := HX.out; omega)])
      have hQ0 := HR0.out.below hB.out
      have hQ1 := HR1.out.below hB.out
      have x1 := hQ0.cell (j := 1) rfl
      have x0 := hQ0.cell (j := 0) rfl
      have z0 := hQ1.cell (j := 0) rfl
      have z1 := hQ1.cell (j := 1) rfl
      have f0 := hQ1.frozen 0
      have f1 := hQ1.frozen 1
      have HZ1 := Lib.hid hQ1
      clear hQ0 hQ1
      have w8 : IntKind.i64.wrap ((n : Int) - (m : Int)) = (n : Int) - (m : Int) := IntWalk.i64_in _ ⟨by omega, by omega⟩
      cases HH : hasRun zs first m
      · have t1 : ((m' : Int) != (n : Int) - (m : Int)) = true := by
          simp only [bne_iff_ne, ne_eq]
          intro e
          have h1 := HRC.out
          rw [HH, HX.out, ← HFT.out, hlen.out] at h1
          have := h1.1 (by omega)
          cases this
        have HHH := Lib.hid HH
        clear HH
        go_wp2
        refine bodyPost_ret (v := .tuple #[.agg #[.int .i64 0, .slice none 0 0], .bool false]) (by simp [results, Try.results21, go_sem, z0, z1]) rfl ⟨fun _ => rfl, fun h => ?_, ?_⟩
        · rw [HHH.out] at h; cases h
        · exact ((B1.trans (hB.out.mono B1.size)).setCell (by show w.heap.size ≤ w.heap.size + 1; omega) _).setCell (by show w.heap.size ≤ w.heap.size + 1; omega) _
      · have t1 : ((m' : Int) != (n : Int) - (m : Int)) = false := by
          have h1 := HRC.out.2 HH
          rw [HX.out, ← HFT.out, hlen.out] at h1
          simp; omega
        have HHH := Lib.hid HH
        clear HH
        go_wp2
        refine bodyPost_ret (v := .tuple #[.agg #[.int .i64 next, .slice (some ⟨g, 0, none⟩) m' c], .bool true]) (by simp [results, Try.results21, go_sem, z0, z1]) rfl ⟨fun h => ?_, fun _ => ⟨g, m', c, rfl, ?_, ?_⟩, ?_⟩
        · rw [HHH.out] at h; cases h
        · rw [← HFT.out]; exact hlen.out
        · have hng1 := own_ne_row hO.out HZ1.out (by decide)
          rw [← HFT.out]
          exact ownsRow_other (ownsRow_other (ownsRow_base hO.out B1.size) hng1 _) hng1 _
        · exact ((B1.trans (hB.out.mono B1.size)).setCell (by show w.heap.size ≤ w.heap.size + 1; omega) _).setCell (by show w.heap.size ≤ w.heap.size + 1; omega) _
end Go.Proofs.Ytkianldpmlbgcaa
