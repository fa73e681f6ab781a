/-
  BarrierTake of the program. No condition.
-/
import Derived.Test.YtkianldpmlbgcaaBTakeP
import Derived.Deep.RegionLaw
namespace Go.Proofs.Ytkianldpmlbgcaa
open Go.ChangeShapes Go.WideShapes Go.ChangeAt Go.RowKit

theorem manyValid_any (n : Int) (w : World) : Calls Try.prog 42 #[.int .i64 n] w fun e w' => e = .returned (.bool (inB n 1 24)) ∧ w = w' := by
  by_cases h1 : 1 ≤ n
  · by_cases h2 : n ≤ 24
    · rw [inB_t ⟨h1, h2⟩]
      go_enter Try.func42, Try.ntmps42
      go_wp2
      go_ret
      exact ⟨by simp, rfl⟩
    · rw [inB_f (by omega)]
      go_enter Try.func42, Try.ntmps42
      go_wp2
      go_ret
      exact ⟨by simp, rfl⟩
  · rw [inB_f (by omega)]
    go_enter Try.func42, Try.ntmps42
    go_wp2
    go_ret
    exact ⟨by simp, rfl⟩
theorem placeValid_any (n : Int) (w : World) : Calls Try.prog 47 #[.int .i64 n] w fun e w' => e = .returned (.bool (inB n 0 99)) ∧ w = w' := by
  by_cases h1 : 0 ≤ n
  · by_cases h2 : n ≤ 99
    · rw [inB_t ⟨h1, h2⟩]
      go_enter Try.func47, Try.ntmps47
      go_wp2
      go_ret
      exact ⟨by simp, rfl⟩
    · rw [inB_f (by omega)]
      go_enter Try.func47, Try.ntmps47
      go_wp2
      go_ret
      exact ⟨by simp, rfl⟩
  · rw [inB_f (by omega)]
    go_enter Try.func47, Try.ntmps47
    go_wp2
    go_ret
    exact ⟨by simp, rfl⟩

set_option maxHeartbeats 3200000 in
theorem implBTake_no (next : Int) (g n c : Nat) (zs : List Int) (hn : n ≤ 1048576) (hx : zs.length = n) (many : Int) (w : World) (hL : Lies w 1 (some ⟨g, 0, none⟩) n (zs.flatMap intCells)) (hno : btakeB next zs many = false) :
    Calls Try.prog 16 #[.agg #[.int .i64 next, .slice (some ⟨g, 0, none⟩) n c], .int .i64 many] w fun e w' => e = .returned (.tuple #[.agg #[.int .i64 0, .slice none 0 0], .int .i64 0, .bool false]) ∧ Below w.heap.size w w' := by
  have HX := Lib.hid hx
  have HL := Lib.hid hL
  have HN := Lib.hid hno
  clear hx hL hno
  have fin : ∀ {w1 : World}, Below (w.heap.size + 2) ((w.alloc (.cells #[.int .i64 next, .slice (some ⟨g, 0, none⟩) n c] 33)).alloc (.cells #[.int .i64 0, .slice none 0 0] 33)) w1 →
      w1.cell? ⟨w.heap.size + 1, 0, none⟩ = some (.int .i64 0) ∧ w1.cell? ⟨w.heap.size + 1, 1, none⟩ = some (.slice none 0 0) ∧ w1.frozen? ⟨w.heap.size + 1, 0, none⟩ = false ∧ w1.frozen? ⟨w.heap.size + 1, 1, none⟩ = false := by
    intro w1 hb
    refine ⟨(hb.cell (p := ⟨w.heap.size + 1, 0, none⟩) (by simp)).trans (by go_cell), (hb.cell (p := ⟨w.heap.size + 1, 1, none⟩) (by simp)).trans (by go_cell), (hb.frozen (p := ⟨w.heap.size + 1, 0, none⟩) (by simp)).trans (by simp [go_sem]), (hb.frozen (p := ⟨w.heap.size + 1, 1, none⟩) (by simp)).trans (by simp [go_sem])⟩
  cases E1 : barrierB next zs
  · clear HN
    go_enter Try.func16, Try.ntmps16
    go_wp2_with fail
    refine (implBarrier_any next _ n c zs hn HX.out _ (HL.out.below (by repeat' (first | (with_reducible exact Below.refl _ _) | (with_reducible assumption) | (with_reducible refine below_step (by assumption) ?_) | (with_reducible refine below_alloc ?_ _) | (with_reducible refine Below.drew ?_) | (with_reducible refine below_drewN ?_ _) | (with_reducible refine Below.setCell ?_ ?_ _) | go_size)))).mono ?_
    rintro e1 w1 ⟨rfl, hb⟩
    rw [E1]
    have B1 : Below w.heap.size w w1 := (by repeat' (first | (with_reducible exact Below.refl _ _) | (with_reducible assumption) | (with_reducible refine below_step (by assumption) ?_) | (with_reducible refine below_alloc ?_ _) | (with_reducible refine Below.drew ?_) | (with_reducible refine below_drewN ?_ _) | (with_reducible refine Below.setCell ?_ ?_ _) | go_size))
    simp only [World.size_alloc] at hb
    obtain ⟨r0, r1, f0, f1⟩ := fin hb
    have m0 : w1.cell? ⟨w.heap.size, 0, none⟩ = some (.int .i64 next) := (hb.cell (p := ⟨w.heap.size, 0, none⟩) (by show w.heap.size < w.heap.size + 1 + 1; omega)).trans (by go_cell)
    have hs := hb.size
    simp only [World.size_alloc] at hs
    clear hb
    go_wp2
    refine bodyPost_ret (v := .tuple #[.agg #[.int .i64 0, .slice none 0 0], .int .i64 0, .bool false]) (by simp [results, Try.results16, go_sem, r0, r1]) rfl ⟨rfl, ?_⟩
    exact Below.setCell (Below.setCell B1 (by show w.heap.size ≤ w.heap.size + 1; omega) _) (by show w.heap.size ≤ w.heap.size + 1; omega) _
  cases E2 : inB many 1 24
  · clear HN
    go_enter Try.func16, Try.ntmps16
    go_wp2_with fail
    refine (implBarrier_any next _ n c zs hn HX.out _ (HL.out.below (by repeat' (first | (with_reducible exact Below.refl _ _) | (with_reducible assumption) | (with_reducible refine below_step (by assumption) ?_) | (with_reducible refine below_alloc ?_ _) | (with_reducible refine Below.drew ?_) | (with_reducible refine below_drewN ?_ _) | (with_reducible refine Below.setCell ?_ ?_ _) | go_size)))).mono ?_
    rintro e1 w1 ⟨rfl, hb⟩
    rw [E1]
    have B1 : Below w.heap.size w w1 := (by repeat' (first | (with_reducible exact Below.refl _ _) | (with_reducible assumption) | (with_reducible refine below_step (by assumption) ?_) | (with_reducible refine below_alloc ?_ _) | (with_reducible refine Below.drew ?_) | (with_reducible refine below_drewN ?_ _) | (with_reducible refine Below.setCell ?_ ?_ _) | go_size))
    simp only [World.size_alloc] at hb
    obtain ⟨r0, r1, f0, f1⟩ := fin hb
    have m0 : w1.cell? ⟨w.heap.size, 0, none⟩ = some (.int .i64 next) := (hb.cell (p := ⟨w.heap.size, 0, none⟩) (by show w.heap.size < w.heap.size + 1 + 1; omega)).trans (by go_cell)
    have hs := hb.size
    simp only [World.size_alloc] at hs
    clear hb
    go_wp2_with fail
    refine (manyValid_any _ _).mono ?_
    rintro e2 w2 ⟨rfl, rfl⟩
    rw [E2]
    go_wp2
    refine bodyPost_ret (v := .tuple #[.agg #[.int .i64 0, .slice none 0 0], .int .i64 0, .bool false]) (by simp [results, Try.results16, go_sem, r0, r1]) rfl ⟨rfl, ?_⟩
    exact Below.setCell (Below.setCell B1 (by show w.heap.size ≤ w.heap.size + 1; omega) _) (by show w.heap.size ≤ w.heap.size + 1; omega) _
  have E3 := HN.out
  unfold btakeB at E3
  rw [E1, E2] at E3
  simp at E3
  obtain ⟨hm1, hm2⟩ := inB_iff.1 E2
  obtain ⟨⟨hn1, hn2⟩, _⟩ := barrier_parts E1
  · clear HN
    have d3 : decide ((100 : Int) < next + many) = true := by simp; omega
    go_enter Try.func16, Try.ntmps16
    go_wp2_with fail
    refine (implBarrier_any next _ n c zs hn HX.out _ (HL.out.below (by repeat' (first | (with_reducible exact Below.refl _ _) | (with_reducible assumption) | (with_reducible refine below_step (by assumption) ?_) | (with_reducible refine below_alloc ?_ _) | (with_reducible refine Below.drew ?_) | (with_reducible refine below_drewN ?_ _) | (with_reducible refine Below.setCell ?_ ?_ _) | go_size)))).mono ?_
    rintro e1 w1 ⟨rfl, hb⟩
    rw [E1]
    have B1 : Below w.heap.size w w1 := (by repeat' (first | (with_reducible exact Below.refl _ _) | (with_reducible assumption) | (with_reducible refine below_step (by assumption) ?_) | (with_reducible refine below_alloc ?_ _) | (with_reducible refine Below.drew ?_) | (with_reducible refine below_drewN ?_ _) | (with_reducible refine Below.setCell ?_ ?_ _) | go_size))
    simp only [World.size_alloc] at hb
    obtain ⟨r0, r1, f0, f1⟩ := fin hb
    have m0 : w1.cell? ⟨w.heap.size, 0, none⟩ = some (.int .i64 next) := (hb.cell (p := ⟨w.heap.size, 0, none⟩) (by show w.heap.size < w.heap.size + 1 + 1; omega)).trans (by go_cell)
    have hs := hb.size
    simp only [World.size_alloc] at hs
    clear hb
    go_wp2_with fail
    refine (manyValid_any _ _).mono ?_
    rintro e2 w2 ⟨rfl, rfl⟩
    rw [E2]
    go_wp2
    refine bodyPost_ret (v := .tuple #[.agg #[.int .i64 0, .slice none 0 0], .int .i64 0, .bool false]) (by simp [results, Try.results16, go_sem, r0, r1]) rfl ⟨rfl, ?_⟩
    exact Below.setCell (Below.setCell B1 (by show w.heap.size ≤ w.heap.size + 1; omega) _) (by show w.heap.size ≤ w.heap.size + 1; omega) _

set_option maxHeartbeats 6400000 in
theorem implBTake_yes (next : Int) (g0 n c0 : Nat) (zs : List Int) (hn : n ≤ 100) (hx : zs.length = n) (m : Nat) (w : World) (hL : Lies w 1 (some ⟨g0, 0, none⟩) n (zs.flatMap intCells)) (hyes : btakeB next zs (m : Int) = true) :
    Calls Try.prog 16 #[.agg #[.int .i64 next, .slice (some ⟨g0, 0, none⟩) n c0], .int .i64 m] w fun e w' => ∃ g' c' : Nat, e = .returned (.tuple #[.agg #[.int .i64 (next + m), .slice (some ⟨g', 0, none⟩) (n + m) c'], .int .i64 next, .bool true]) ∧ w'.ownsRow w.heap.size 3 1 (.slice (some ⟨g', 0, none⟩) (n + m) c') (n + m) ((zs ++ runUp next m).flatMap intCells) ∧ Below w.heap.size w w' := by
  obtain ⟨E1, E2, h3⟩ := btake_parts hyes
  obtain ⟨hm1, hm2⟩ := inB_iff.1 E2
  obtain ⟨⟨hn1, hn2⟩, hasc⟩ := barrier_parts E1
  have HX := Lib.hid hx
  have HL := Lib.hid hL
  have HRUN := Lib.hid (asc_run hasc hn1)
  have HZA := Lib.hid (ascL_of hasc)
  have d3 : decide ((100 : Int) < next + (m : Int)) = false := by simp; omega
  have wq : IntKind.i64.wrap (next + (m : Int)) = next + (m : Int) := IntWalk.i64_in _ ⟨by omega, by omega⟩
  clear hx hL hyes hasc
  go_enter Try.func16, Try.ntmps16
  go_wp2_with fail
  refine (implBarrier_any next _ n c0 zs (by omega) HX.out _ (HL.out.below (by repeat' (first | (with_reducible exact Below.refl _ _) | (with_reducible assumption) | (with_reducible refine below_step (by assumption) ?_) | (with_reducible refine below_alloc ?_ _) | (with_reducible refine Below.drew ?_) | (with_reducible refine below_drewN ?_ _) | (with_reducible refine Below.setCell ?_ ?_ _) | go_size)))).mono ?_
  rintro e1 w1 ⟨rfl, hb⟩
  rw [E1]
  have B1 : Below w.heap.size w w1 := (by repeat' (first | (with_reducible exact Below.refl _ _) | (with_reducible assumption) | (with_reducible refine below_step (by assumption) ?_) | (with_reducible refine below_alloc ?_ _) | (with_reducible refine Below.drew ?_) | (with_reducible refine below_drewN ?_ _) | (with_reducible refine Below.setCell ?_ ?_ _) | go_size))
  have HR0 := Lib.hid ((((RowIs.new w #[.int .i64 next, .slice (some ⟨g0, 0, none⟩) n c0] 33)).alloc _).below hb)
  have HR1 := Lib.hid ((RowIs.new (w.alloc (.cells #[.int .i64 next, .slice (some ⟨g0, 0, none⟩) n c0] 33)) #[.int .i64 0, .slice none 0 0] 33).below hb)
  simp only [World.size_alloc] at HR1
  have cc0 := HR0.out.cell (j := 0) rfl
  have cc1 := HR0.out.cell (j := 1) rfl
  clear hb
  go_wp2_with fail
  refine (manyValid_any _ _).mono ?_
  rintro e2 w2 ⟨rfl, rfl⟩
  rw [E2]
  have h3s : w.heap.size + 1 < w1.heap.size := HR1.out.lt
  go_wp2_with fail
  refine (heapOfR_any g0 0 n c0 zs (by omega) HX.out HZA.out _ (HL.out.below B1)).mono ?_
  rintro e3 w3 ⟨h, g, c, rfl, hp, ho, hh, hg, hb3⟩
  have HP := Lib.hid hp
  have HO := Lib.hid ho
  have cc0 := box_cell hb3 cc0
  have HB3 := Lib.hid hb3
  clear hp ho hb3
  go_wp2_with fail
  go_loopw [8] (fun i wr => ∃ (k g c n' : Nat), k ≤ m ∧ i = .int .i64 (next + (k : Int)) ∧ Hid (n' = n + k) ∧ Hid (RowIs wr h 78 [.slice (some ⟨g, 0, none⟩) n' c]) ∧ Hid (wr.ownsRow w1.heap.size 3 1 (.slice (some ⟨g, 0, none⟩) n' c) n' ((zs ++ runUp next k).flatMap intCells)) ∧ Hid (Below w1.heap.size w1 wr)) (fun i _ => (next + (m : Int) - intOf i).toNat)
  case atStart => exact ⟨0, g, c, n, Nat.zero_le _, by simp, Lib.hid rfl, HP, Lib.hid (by simpa [runUp] using HO.out), HB3⟩
  case round =>
    obtain ⟨k, g, c, n', hk, rfl, hn', hP, hO, hB⟩ := hrel
    have hR0 := HR0.out.below hB.out
    have y0 := hR0.cell (j := 0) rfl
    have hR1 := HR1.out.below hB.out
    have hmb : n' ≤ 200 := by have := hn'.out; omega
    have hgl := owns_lt hO.out
    have hsz := hB.out.size
    have HQ0 := Lib.hid hR0
    have HQ1 := Lib.hid hR1
    clear hR0 hR1
    by_cases hlt : k < m
    · have z : decide (next + (k : Int) < next + (m : Int)) = true := by simp; omega
      have HLN := Lib.hid (show (zs ++ runUp next k).length = n' by rw [List.length_append, runUp_length, HX.out, hn'.out])
      go_wp2_with fail
      refine (heapPush_any h w1.heap.size g c n' (zs ++ runUp next k) (next + (k : Int)) HLN.out (by omega) (fun y hy => by have := asc_below _ _ _ (HRUN.out k) y hy; omega) _ hsz hP.out hO.out).mono ?_
      rintro e4 w4 ⟨rfl, g4, c4, p4, o4, t4⟩
      have HP4 := Lib.hid p4
      have HO4 := Lib.hid (show w4.ownsRow w1.heap.size 3 1 (.slice (some ⟨g4, 0, none⟩) (n' + 1) c4) (n' + 1) ((zs ++ runUp next (k + 1)).flatMap intCells) by rw [runUp, ← List.append_assoc]; exact o4)
      have HB4 := Lib.hid (Two.below hB.out t4 hgl.1 hh hsz)
      clear p4 o4 t4
      have wk : IntKind.i64.wrap (next + (k : Int) + 1) = next + (k : Int) + 1 := IntWalk.i64_in _ ⟨by omega, by omega⟩
      go_wp2
      go_roundw
      case rel => exact ⟨k + 1, g4, c4, n' + 1, by omega, by go_num, Lib.hid (by have := hn'.out; omega), HP4, HO4, HB4⟩
      case measure => simp [intOf]; omega
    · obtain rfl : k = m := by omega
      have z : decide (next + (k : Int) < next + (k : Int)) = false := by simp
      obtain rfl := hn'.out
      have HLN := Lib.hid (show (zs ++ runUp next k).length = n + k by rw [List.length_append, runUp_length, HX.out])
      have z0 := HQ1.out.cell (j := 0) rfl
      have z1 := HQ1.out.cell (j := 1) rfl
      have f0 := HQ1.out.frozen 0
      have f1 := HQ1.out.frozen 1
      have hwl : w.heap.size < w1.heap.size := by omega
      go_wp2_with fail
      go_region_held3 (fun wx => wx.cell? ⟨w.heap.size, 0, none⟩ = some (.int .i64 next)) ((go_split_ands; first | assumption | (simp [go_sem]; assumption)))
        (first | (go_at_call 45; refine (drain_any h w1.heap.size g c (zs ++ runUp next k) (n + k) HLN.out (by omega) (ascL_of (HRUN.out k)) _ ?_ hh hgl.1 ?_ ?_).mono ?_; exact hsz; exact hP.out; exact hO.out; rintro e5 w5 ⟨g5, c5, rfl, o5, b5⟩; have y5 : w5.cell? ⟨w.heap.size, 0, none⟩ = some (.int .i64 next) := (b5.cell (p := ⟨w.heap.size, 0, none⟩) hwl).trans y0; have z50 : w5.cell? ⟨w.heap.size + 1, 0, none⟩ = some (.int .i64 0) := (b5.cell (p := ⟨w.heap.size + 1, 0, none⟩) h3s).trans z0; have z51 : w5.cell? ⟨w.heap.size + 1, 1, none⟩ = some (.slice none 0 0) := (b5.cell (p := ⟨w.heap.size + 1, 1, none⟩) h3s).trans z1; have f50 : w5.frozen? ⟨w.heap.size + 1, 0, none⟩ = false := (b5.frozen (p := ⟨w.heap.size + 1, 0, none⟩) h3s).trans f0; have f51 : w5.frozen? ⟨w.heap.size + 1, 1, none⟩ = false := (b5.frozen (p := ⟨w.heap.size + 1, 1, none⟩) h3s).trans f1; have HO5 := Lib.hid o5; have HB5 := Lib.hid b5; clear o5 b5))
      all_goals
        go_wp2
        refine bodyPost_ret (v := .tuple #[.agg #[.int .i64 (next + k), .slice (some ⟨g5, 0, none⟩) (n + k) c5], .int .i64 next, .bool true]) (by simp [results, Try.results16, go_sem, z50, z51]) rfl ?_
        have hb5 : Below w1.heap.size wr w5 := by
          first
            | exact HB5.out
            | exact (Below.drew (Below.refl _ _)).trans HB5.out
        have hq5 : RowIs w5 (w.heap.size + 1) 33 [.int .i64 0, .slice none 0 0] := (hb5.block (w.heap.size + 1) h3s).trans HQ1.out
        have hng1 := own_ne_row HO5.out hq5 (by decide)
        have hbw : Below w.heap.size w w5 := B1.trans ((hB.out.trans hb5).mono B1.size)
        exact ⟨g5, c5, rfl, ownsRow_other (ownsRow_other (ownsRow_base HO5.out (by show w.heap.size ≤ wr.heap.size; omega)) hng1 _) hng1 _, ((hbw.setCell (by show w.heap.size ≤ w.heap.size + 1; omega) _)).setCell (by show w.heap.size ≤ w.heap.size + 1; omega) _⟩
end Go.Proofs.Ytkianldpmlbgcaa
