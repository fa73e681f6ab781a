/-
  BarrierTake of the reference. No condition.
-/
import Derived.Test.YtkianldpmlbgcaaBTakeP
import Derived.Deep.Cut
namespace Go.Proofs.Ytkianldpmlbgcaa
open Go.ChangeShapes Go.WideShapes Go.ChangeAt Go.RowKit

set_option maxHeartbeats 3200000 in
theorem specBTake_no (next : Int) (g n c : Nat) (zs : List Int) (hn : n ≤ 1048576) (hx : zs.length = n) (many : Int) (w : World) (hL : Lies w 1 (some ⟨g, 0, none⟩) n (zs.flatMap intCells)) (hno : btakeB next zs many = false) :
    Calls Try.prog 14 #[.agg #[.int .i64 next, .slice (some ⟨g, 0, none⟩) n c], .int .i64 many] w fun e w' => e = .returned (.tuple #[.agg #[.int .i64 0, .slice none 0 0], .int .i64 0, .bool false]) ∧ Below w.heap.size w w' := by
  have HX := Lib.hid hx
  have HL := Lib.hid hL
  have HN := Lib.hid hno
  clear hx hL hno
  have fin : ∀ {w1 : World}, Below (w.heap.size + 2) ((w.alloc (.cells #[.int .i64 next, .slice (some ⟨g, 0, none⟩) n c] 33)).alloc (.cells #[.int .i64 0, .slice none 0 0] 33)) w1 →
      w1.cell? ⟨w.heap.size + 1, 0, none⟩ = some (.int .i64 0) ∧ w1.cell? ⟨w.heap.size + 1, 1, none⟩ = some (.slice none 0 0) ∧ w1.frozen? ⟨w.heap.size + 1, 0, none⟩ = false ∧ w1.frozen? ⟨w.heap.size + 1, 1, none⟩ = false := by
    intro w1 hb
    refine ⟨(hb.cell (p := ⟨w.heap.size + 1, 0, none⟩) (by simp)).trans (by go_cell), (hb.cell (p := ⟨w.heap.size + 1, 1, none⟩) (by simp)).trans (by go_cell), (hb.frozen (p := ⟨w.heap.size + 1, 0, none⟩) (by simp)).trans (by simp [go_sem]), (hb.frozen (p := ⟨w.heap.size + 1, 1, none⟩) (by simp)).trans (by simp [go_sem])⟩
  cases E1 : barrierB next zs
  · clear HN
    go_enter Try.func14, Try.ntmps14
    go_wp2_with fail
    refine (specBarrier_any next _ n c zs hn HX.out _ (HL.out.below (by repeat' (first | (with_reducible exact Below.refl _ _) | (with_reducible assumption) | (with_reducible refine below_step (by assumption) ?_) | (with_reducible refine below_alloc ?_ _) | (with_reducible refine Below.drew ?_) | (with_reducible refine below_drewN ?_ _) | (with_reducible refine Below.setCell ?_ ?_ _) | go_size)))).mono ?_
    rintro e1 w1 ⟨rfl, hb⟩
    rw [E1]
    have B1 : Below w.heap.size w w1 := (by repeat' (first | (with_reducible exact Below.refl _ _) | (with_reducible assumption) | (with_reducible refine below_step (by assumption) ?_) | (with_reducible refine below_alloc ?_ _) | (with_reducible refine Below.drew ?_) | (with_reducible refine below_drewN ?_ _) | (with_reducible refine Below.setCell ?_ ?_ _) | go_size))
    simp only [World.size_alloc] at hb
    obtain ⟨r0, r1, f0, f1⟩ := fin hb
    have m0 : w1.cell? ⟨w.heap.size, 0, none⟩ = some (.int .i64 next) := (hb.cell (p := ⟨w.heap.size, 0, none⟩) (by show w.heap.size < w.heap.size + 1 + 1; omega)).trans (by go_cell)
    have hs := hb.size
    simp only [World.size_alloc] at hs
    clear hb
    go_wp2
    refine bodyPost_ret (v := .tuple #[.agg #[.int .i64 0, .slice none 0 0], .int .i64 0, .bool false]) (by simp [results, Try.results14, go_sem, r0, r1]) rfl ⟨rfl, ?_⟩
    exact Below.setCell (Below.setCell B1 (by show w.heap.size ≤ w.heap.size + 1; omega) _) (by show w.heap.size ≤ w.heap.size + 1; omega) _
  cases E2 : inB many 1 24
  · clear HN
    go_enter Try.func14, Try.ntmps14
    go_wp2_with fail
    refine (specBarrier_any next _ n c zs hn HX.out _ (HL.out.below (by repeat' (first | (with_reducible exact Below.refl _ _) | (with_reducible assumption) | (with_reducible refine below_step (by assumption) ?_) | (with_reducible refine below_alloc ?_ _) | (with_reducible refine Below.drew ?_) | (with_reducible refine below_drewN ?_ _) | (with_reducible refine Below.setCell ?_ ?_ _) | go_size)))).mono ?_
    rintro e1 w1 ⟨rfl, hb⟩
    rw [E1]
    have B1 : Below w.heap.size w w1 := (by repeat' (first | (with_reducible exact Below.refl _ _) | (with_reducible assumption) | (with_reducible refine below_step (by assumption) ?_) | (with_reducible refine below_alloc ?_ _) | (with_reducible refine Below.drew ?_) | (with_reducible refine below_drewN ?_ _) | (with_reducible refine Below.setCell ?_ ?_ _) | go_size))
    simp only [World.size_alloc] at hb
    obtain ⟨r0, r1, f0, f1⟩ := fin hb
    have m0 : w1.cell? ⟨w.heap.size, 0, none⟩ = some (.int .i64 next) := (hb.cell (p := ⟨w.heap.size, 0, none⟩) (by show w.heap.size < w.heap.size + 1 + 1; omega)).trans (by go_cell)
    have hs := hb.size
    simp only [World.size_alloc] at hs
    clear hb
    go_wp2_with fail
    refine (l6In_any _ _ _ _).mono ?_
    rintro e2 w2 ⟨rfl, rfl⟩
    rw [E2]
    go_wp2
    refine bodyPost_ret (v := .tuple #[.agg #[.int .i64 0, .slice none 0 0], .int .i64 0, .bool false]) (by simp [results, Try.results14, go_sem, r0, r1]) rfl ⟨rfl, ?_⟩
    exact Below.setCell (Below.setCell B1 (by show w.heap.size ≤ w.heap.size + 1; omega) _) (by show w.heap.size ≤ w.heap.size + 1; omega) _
  have E3 := HN.out
  unfold btakeB at E3
  rw [E1, E2] at E3
  simp at E3
  obtain ⟨hm1, hm2⟩ := inB_iff.1 E2
  obtain ⟨⟨hn1, hn2⟩, _⟩ := barrier_parts E1
  · clear HN
    have d3 : decide ((100 : Int) < next + many) = true := by simp; omega
    go_enter Try.func14, Try.ntmps14
    go_wp2_with fail
    refine (specBarrier_any next _ n c zs hn HX.out _ (HL.out.below (by repeat' (first | (with_reducible exact Below.refl _ _) | (with_reducible assumption) | (with_reducible refine below_step (by assumption) ?_) | (with_reducible refine below_alloc ?_ _) | (with_reducible refine Below.drew ?_) | (with_reducible refine below_drewN ?_ _) | (with_reducible refine Below.setCell ?_ ?_ _) | go_size)))).mono ?_
    rintro e1 w1 ⟨rfl, hb⟩
    rw [E1]
    have B1 : Below w.heap.size w w1 := (by repeat' (first | (with_reducible exact Below.refl _ _) | (with_reducible assumption) | (with_reducible refine below_step (by assumption) ?_) | (with_reducible refine below_alloc ?_ _) | (with_reducible refine Below.drew ?_) | (with_reducible refine below_drewN ?_ _) | (with_reducible refine Below.setCell ?_ ?_ _) | go_size))
    simp only [World.size_alloc] at hb
    obtain ⟨r0, r1, f0, f1⟩ := fin hb
    have m0 : w1.cell? ⟨w.heap.size, 0, none⟩ = some (.int .i64 next) := (hb.cell (p := ⟨w.heap.size, 0, none⟩) (by show w.heap.size < w.heap.size + 1 + 1; omega)).trans (by go_cell)
    have hs := hb.size
    simp only [World.size_alloc] at hs
    clear hb
    go_wp2_with fail
    refine (l6In_any _ _ _ _).mono ?_
    rintro e2 w2 ⟨rfl, rfl⟩
    rw [E2]
    go_wp2
    refine bodyPost_ret (v := .tuple #[.agg #[.int .i64 0, .slice none 0 0], .int .i64 0, .bool false]) (by simp [results, Try.results14, go_sem, r0, r1]) rfl ⟨rfl, ?_⟩
    exact Below.setCell (Below.setCell B1 (by show w.heap.size ≤ w.heap.size + 1; omega) _) (by show w.heap.size ≤ w.heap.size + 1; omega) _

set_option maxHeartbeats 6400000 in
theorem specBTake_yes (next : Int) (g0 n c0 : Nat) (zs : List Int) (hn : n ≤ 1048576) (hx : zs.length = n) (m : Nat) (w : World) (hL : Lies w 1 (some ⟨g0, 0, none⟩) n (zs.flatMap intCells)) (hyes : btakeB next zs (m : Int) = true) :
    Calls Try.prog 14 #[.agg #[.int .i64 next, .slice (some ⟨g0, 0, none⟩) n c0], .int .i64 m] w fun e w' => ∃ g' c' : Nat, e = .returned (.tuple #[.agg #[.int .i64 (next + m), .slice (some ⟨g', 0, none⟩) (n + m) c'], .int .i64 next, .bool true]) ∧ w'.ownsRow w.heap.size 3 1 (.slice (some ⟨g', 0, none⟩) (n + m) c') (n + m) ((zs ++ runUp next m).flatMap intCells) ∧ Below w.heap.size w w' := by
  obtain ⟨E1, E2, h3⟩ := btake_parts hyes
  obtain ⟨hm1, hm2⟩ := inB_iff.1 E2
  obtain ⟨⟨hn1, hn2⟩, _⟩ := barrier_parts E1
  have HX := Lib.hid hx
  have HL := Lib.hid hL
  have HH := Lib.hid (show ∀ u ∈ zs.flatMap intCells, u.oneCell' = true by rw [← int_map]; exact ints_oneCell _ _)
  have d3 : decide ((100 : Int) < next + (m : Int)) = false := by simp; omega
  have wq : IntKind.i64.wrap (next + (m : Int)) = next + (m : Int) := IntWalk.i64_in _ ⟨by omega, by omega⟩
  clear hx hL hyes
  go_enter Try.func14, Try.ntmps14
  go_wp2_with fail
  refine (specBarrier_any next _ n c0 zs hn HX.out _ (HL.out.below (by repeat' (first | (with_reducible exact Below.refl _ _) | (with_reducible assumption) | (with_reducible refine below_step (by assumption) ?_) | (with_reducible refine below_alloc ?_ _) | (with_reducible refine Below.drew ?_) | (with_reducible refine below_drewN ?_ _) | (with_reducible refine Below.setCell ?_ ?_ _) | go_size)))).mono ?_
  rintro e1 w1 ⟨rfl, hb⟩
  rw [E1]
  have B1 : Below w.heap.size w w1 := (by repeat' (first | (with_reducible exact Below.refl _ _) | (with_reducible assumption) | (with_reducible refine below_step (by assumption) ?_) | (with_reducible refine below_alloc ?_ _) | (with_reducible refine Below.drew ?_) | (with_reducible refine below_drewN ?_ _) | (with_reducible refine Below.setCell ?_ ?_ _) | go_size))
  have HR0 := Lib.hid ((((RowIs.new w #[.int .i64 next, .slice (some ⟨g0, 0, none⟩) n c0] 33)).alloc _).below hb)
  have HR1 := Lib.hid ((RowIs.new (w.alloc (.cells #[.int .i64 next, .slice (some ⟨g0, 0, none⟩) n c0] 33)) #[.int .i64 0, .slice none 0 0] 33).below hb)
  simp only [World.size_alloc] at HR1
  have cc0 := HR0.out.cell (j := 0) rfl
  have cc1 := HR0.out.cell (j := 1) rfl
  clear hb
  go_wp2_with fail
  refine (l6In_any _ _ _ _).mono ?_
  rintro e2 w2 ⟨rfl, rfl⟩
  rw [E2]
  have h3s : w.heap.size + 1 < w1.heap.size := HR1.out.lt
  go_upto_region 3 with (fail)
  go_cut [7] from 9 (fun s wr => ∃ b6 g3 c3 : Nat, s = .pointer (some ⟨b6, 0, none⟩) ∧ RowIs wr b6 33 [.int .i64 (next + m), .slice (some ⟨g3, 0, none⟩) n c3] ∧ wr.ownsRow (w.heap.size + 2) 3 1 (.slice (some ⟨g3, 0, none⟩) n c3) n (zs.flatMap intCells) ∧ RowIs wr w.heap.size 33 [.int .i64 next, .slice (some ⟨g0, 0, none⟩) n c0] ∧ RowIs wr (w.heap.size + 1) 33 [.int .i64 0, .slice none 0 0] ∧ w.heap.size + 2 ≤ b6 ∧ Below w.heap.size w wr)
  case first =>
    have BR := Below.refl w1.heap.size w1
    have C0 := cc0
    have C1 := cc1
    go_region_held3 (fun wx => wx.cell? ⟨w.heap.size, 0, none⟩ = some (.int .i64 next) ∧ wx.cell? ⟨w.heap.size, 1, none⟩ = some (.slice (some ⟨g0, 0, none⟩) n c0) ∧ Below w1.heap.size w1 wx) ((go_split_ands; refine ⟨?_, ?_, ?_⟩ <;> first | assumption | (refine box_cell (by assumption) ?_; assumption) | (refine below_step (by assumption) ?_; assumption) | exact Below.drew (by assumption) | ((repeat' (first | (with_reducible exact Below.refl _ _) | (with_reducible assumption) | (with_reducible refine below_step (by assumption) ?_) | (with_reducible refine below_alloc ?_ _) | (with_reducible refine Below.drew ?_) | (with_reducible refine below_drewN ?_ _) | (with_reducible refine Below.setCell ?_ ?_ _) | go_size)); done) | (refine box_cell (W := w1) ?_ C0; (repeat' (first | (with_reducible exact Below.refl _ _) | (with_reducible assumption) | (with_reducible refine below_step (by assumption) ?_) | (with_reducible refine below_alloc ?_ _) | (with_reducible refine Below.drew ?_) | (with_reducible refine below_drewN ?_ _) | (with_reducible refine Below.setCell ?_ ?_ _) | go_size)); done) | (refine box_cell (W := w1) ?_ C1; (repeat' (first | (with_reducible exact Below.refl _ _) | (with_reducible assumption) | (with_reducible refine below_step (by assumption) ?_) | (with_reducible refine below_alloc ?_ _) | (with_reducible refine Below.drew ?_) | (with_reducible refine below_drewN ?_ _) | (with_reducible refine Below.setCell ?_ ?_ _) | go_size)); done)))
      (first | (refine step_copy ?_ ?_ ?_ 29 3 1 8 rowInt ?_ ?_ g0 0 n c0 (zs.flatMap intCells) ?_ ?_ HH.out ?_ ?_ ?_; rfl; rotate_left 2; exact rfl; exact rfl; exact rfl; exact HL.out.below B1; (unfold maxLen; omega); omega; intro g3 c3 w3 ho3 hS3 hz3; have HO := Lib.hid ho3; clear ho3; all_goals skip) | (refine step_copy2 ?_ ?_ ?_ 29 3 1 8 rowInt ?_ ?_ g0 0 n c0 (zs.flatMap intCells) ?_ ?_ HH.out ?_ ?_ ?_; rfl; rotate_left 2; exact rfl; exact rfl; exact rfl; exact HL.out.below B1; (unfold maxLen; omega); omega; intro g3 c3 w3 ho3 hS3 hz3 hr3; have HO := Lib.hid ho3; have HR6 := Lib.hid hr3; have d0 := cell_of_row w3 (w1.heap.size + 1) 0 _ _ (0, 0) hr3; have d1 := cell_of_row w3 (w1.heap.size + 1) 1 _ _ (0, 0) hr3; have e0 := frozen_of_row w3 (w1.heap.size + 1) 0 _ _ hr3; have e1 := frozen_of_row w3 (w1.heap.size + 1) 1 _ _ hr3; simp at d0 d1; clear ho3 hr3; all_goals skip) | (refine step_copy3 ?_ ?_ ?_ 29 3 1 8 rowInt ?_ ?_ g0 0 n c0 (zs.flatMap intCells) ?_ ?_ HH.out ?_ ?_ ?_; rfl; rotate_left 2; exact rfl; exact rfl; exact rfl; exact HL.out.below B1; (unfold maxLen; omega); omega; intro g3 c3 w3 ho3 hS3 hz3 hr3; have HO := Lib.hid ho3; have HR6 := Lib.hid hr3; have d0 := cell_of_row w3 (w1.heap.size) 0 _ _ (0, 0) hr3; have d1 := cell_of_row w3 (w1.heap.size) 1 _ _ (0, 0) hr3; have e0 := frozen_of_row w3 (w1.heap.size) 0 _ _ hr3; have e1 := frozen_of_row w3 (w1.heap.size) 1 _ _ hr3; simp at d0 d1; clear ho3 hr3; all_goals skip))
    · go_wp2
      go_meet
      case rel => exact ⟨_, g3, c3, rfl, RowIs.new _ _ _, World.ownsRow.alloc (ownsRow_base HO.out (by omega)) _, (HR0.out.below hS3).alloc _, (HR1.out.below hS3).alloc _, by omega, below_alloc (below_step hS3 B1) _⟩
    · go_wp2
      go_meet
      case rel =>
        have hR6 : RowIs w3 (w1.heap.size + 1) 33 [.int .i64 0, .slice none 0 0] := HR6.out
        have hng := own_ne_row HO.out hR6 (by decide)
        exact ⟨_, g3, c3, rfl, (hR6.set 0 _).set 1 _, ownsRow_other (ownsRow_other (ownsRow_base HO.out (by omega)) hng _) hng _, ((HR0.out.below hS3).other (by show w.heap.size ≠ w1.heap.size + 1; omega) _).other (by show w.heap.size ≠ w1.heap.size + 1; omega) _, ((HR1.out.below hS3).other (by show w.heap.size + 1 ≠ w1.heap.size + 1; omega) _).other (by show w.heap.size + 1 ≠ w1.heap.size + 1; omega) _, by omega, ((below_step hS3 B1).setCell (by show w.heap.size ≤ w1.heap.size + 1; omega) _).setCell (by show w.heap.size ≤ w1.heap.size + 1; omega) _⟩
    · go_wp2
      go_meet
      case rel =>
        have hR6 : RowIs w3 w1.heap.size 33 [.int .i64 0, .slice none 0 0] := HR6.out
        have hng := own_ne_row HO.out hR6 (by decide)
        exact ⟨_, g3, c3, rfl, (hR6.set 0 _).set 1 _, ownsRow_other (ownsRow_other (ownsRow_base HO.out (by omega)) hng _) hng _, ((HR0.out.below hS3).other (by show w.heap.size ≠ w1.heap.size; omega) _).other (by show w.heap.size ≠ w1.heap.size; omega) _, ((HR1.out.below hS3).other (by show w.heap.size + 1 ≠ w1.heap.size; omega) _).other (by show w.heap.size + 1 ≠ w1.heap.size; omega) _, by omega, ((below_step hS3 B1).setCell (by show w.heap.size ≤ w1.heap.size; omega) _).setCell (by show w.heap.size ≤ w1.heap.size; omega) _⟩
  case rest =>
    obtain ⟨b6, g3, c3, rfl, hR6, hO3, hR0, hR1, hb6, hB3⟩ := hcut
    have HO3 := Lib.hid hO3
    have HR6 := Lib.hid hR6
    have HQ0 := Lib.hid hR0
    have HQ1 := Lib.hid hR1
    clear hO3 hR6 hR0 hR1 HR0 HR1 cc0 cc1 HL HH
    go_wp2_with fail
    go_loopw [8] (fun i wr => ∃ (k g m' c : Nat), k ≤ m ∧ i = .int .i64 k ∧ Hid (m' = n + k) ∧ Hid (RowIs wr b6 33 [.int .i64 (next + m), .slice (some ⟨g, 0, none⟩) m' c]) ∧ Hid (wr.ownsRow (w.heap.size + 2) 3 1 (.slice (some ⟨g, 0, none⟩) m' c) m' ((zs ++ runUp next k).flatMap intCells)) ∧ Hid (RowIs wr w.heap.size 33 [.int .i64 next, .slice (some ⟨g0, 0, none⟩) n c0]) ∧ Hid (RowIs wr (w.heap.size + 1) 33 [.int .i64 0, .slice none 0 0]) ∧ Below w.heap.size w wr) (fun i _ => m - (intOf i).toNat)
    case atStart => exact ⟨0, g3, n, c3, Nat.zero_le _, rfl, Lib.hid rfl, HR6, Lib.hid (by simpa [runUp] using HO3.out), HQ0, HQ1, hB3⟩
    case round =>
      obtain ⟨k, g, m', c, hk, rfl, hm', hR6, hO, hQ0, hQ1, hB⟩ := hrel
      have x0 := hR6.out.cell (j := 0) rfl
      have x1 := hR6.out.cell (j := 1) rfl
      have y0 := hQ0.out.cell (j := 0) rfl
      have z0 := hQ1.out.cell (j := 0) rfl
      have z1 := hQ1.out.cell (j := 1) rfl
      have hgl := owns_lt hO.out
      have hBz := hQ1.out.lt
      have hne6 := own_ne_row hO.out hR6.out (by decide)
      have hmb : m' ≤ 1048576 + 24 := by have := hm'.out; omega
      by_cases hlt : k < m
      · have wk : IntKind.i64.wrap (next + (k : Int)) = next + (k : Int) := IntWalk.i64_in _ ⟨by omega, by omega⟩
        clear z0 z1
        go_wp2_with (at_builtin; refine wpList_app1 rfl _ _ 29 3 1 8 rowInt rfl (w.heap.size + 2) g m' c _ hO.out rfl rfl rfl rfl (by unfold maxLen; omega) (by omega) (by omega) ?_; intro g4 c4 w4 ho4 hg4 hz4; have HO4 := Lib.hid ho4; have HG4 := Lib.hid hg4; have hp4 := hR6.out.grown hg4 (fun e => hne6 (by injection e)); have HP4 := Lib.hid hp4; have q0 := hp4.cell (j := 0) rfl; have q1 := hp4.cell (j := 1) rfl; have q2 := hp4.frozen 1; clear ho4 hg4 hp4)
        go_roundw
        case rel =>
          have hne4 := own_ne_row HO4.out HP4.out (by decide)
          refine ⟨k + 1, g4, m' + 1, c4, by omega, by go_num, Lib.hid (by have := hm'.out; omega), Lib.hid (HP4.out.set 1 _), Lib.hid ?_, Lib.hid ((hQ0.out.grown HG4.out (fun e => by injection e; omega)).other (by show w.heap.size ≠ b6; omega) _), Lib.hid ((hQ1.out.grown HG4.out (fun e => by injection e; omega)).other (by show w.heap.size + 1 ≠ b6; omega) _), (below_grown hB HG4.out (by omega) hB.size).setCell (by show w.heap.size ≤ b6; omega) _⟩
          have e : zs ++ runUp next (k + 1) = (zs ++ runUp next k) ++ [next + (k : Int)] := by rw [runUp, List.append_assoc]
          rw [e, List.flatMap_append]
          exact ownsRow_other HO4.out hne4 _
        case measure => simp [intOf]; omega
      · obtain rfl : k = m := by omega
        have f0 := hQ1.out.frozen 0
        have f1 := hQ1.out.frozen 1
        have hn6 : b6 ≠ w.heap.size + 1 := by omega
        obtain rfl := hm'.out
        go_wp2_with fail
        go_region
        all_goals
          go_wp2
          refine bodyPost_ret (v := .tuple #[.agg #[.int .i64 (next + k), .slice (some ⟨g, 0, none⟩) (n + k) c], .int .i64 next, .bool true]) (by simp [results, Try.results14, go_sem, z0, z1]) rfl ?_
          have hng1 := own_ne_row hO.out hQ1.out (by decide)
          exact ⟨g, c, rfl, ownsRow_other (ownsRow_other (ownsRow_base hO.out (by omega)) hng1 _) hng1 _, (((hB.setCell (by show w.heap.size ≤ w.heap.size + 1; omega) _)).setCell (by show w.heap.size ≤ w.heap.size + 1; omega) _).drew⟩
end Go.Proofs.Ytkianldpmlbgcaa
