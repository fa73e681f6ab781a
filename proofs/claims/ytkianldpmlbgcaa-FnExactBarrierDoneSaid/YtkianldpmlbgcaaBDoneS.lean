/-
  BarrierDone of the reference. No condition.
-/
import Derived.Test.YtkianldpmlbgcaaBDoneP
import Derived.Deep.RegionLaw
namespace Go.Proofs.Ytkianldpmlbgcaa
open Go.ChangeShapes Go.WideShapes Go.ChangeAt Go.RowKit

set_option maxHeartbeats 1600000 in
theorem l12Has_any (next : Int) (A : Option Addr) (n c : Nat) (zs : List Int) (x : Int) (hn : n ≤ 1048576) (hx : zs.length = n) (w : World) (hL : Lies w 1 A n (zs.flatMap intCells)) :
    Calls Try.prog 46 #[.agg #[.int .i64 next, .slice A n c], .int .i64 x] w fun e w' => e = .returned (.bool (decide (x ∈ zs))) ∧ Below w.heap.size w w' := by
  have HX := Lib.hid hx
  have HL := Lib.hid (hL.below (below_alloc (Below.refl _ w) (.cells #[.int .i64 next, .slice A n c] 33)))
  clear hx hL
  go_enter Try.func46, Try.ntmps46
  go_wp2
  go_loop [5] (fun i => ∃ k : Nat, k ≤ n ∧ i = .int .i64 k ∧ Hid (x ∉ zs.take k)) (fun i => n - (intOf i).toNat)
  case atStart => exact ⟨0, Nat.zero_le _, rfl, Lib.hid (by simp)⟩
  case round =>
    obtain ⟨k, hk, rfl, hT⟩ := hrel
    by_cases hlt : k < n
    · obtain ⟨b, o, hA, hb, hc⟩ := HL.out.row (fun _ => rfl) (by omega)
      obtain ⟨y, hyk⟩ := get_lt HX.out hlt
      have c0 := hc k _ hyk 0 _ rfl
      simp only [Nat.mul_one, Nat.add_zero] at c0
      have HY := Lib.hid hyk
      subst hA
      clear hyk hc
      by_cases he : y = x
      · have HE := Lib.hid (show decide (x ∈ zs) = true from decide_eq_true (by rw [← he]; exact List.mem_of_getElem? HY.out))
        have E : (y == x) = true := by simp [he]
        clear he
        go_wp2
        go_ret
        exact ⟨ret_bool HE.out.symm, (by repeat' (first | (with_reducible exact Below.refl _ _) | (with_reducible assumption) | (with_reducible refine below_step (by assumption) ?_) | (with_reducible refine below_alloc ?_ _) | (with_reducible refine Below.drew ?_) | (with_reducible refine below_drewN ?_ _) | (with_reducible refine Below.setCell ?_ ?_ _) | go_size))⟩
      · have HE := Lib.hid (show x ∉ zs.take (k + 1) by
          rw [take_succ_of HY.out, List.mem_append, List.mem_singleton]
          exact fun h => h.elim hT.out (fun h => he h.symm))
        have E : (y == x) = false := by simp [he]
        clear he
        go_wp2
        go_round
        case rel => exact ⟨k + 1, by omega, by go_num, HE⟩
        case measure => simp [intOf]; omega
    · have HE := Lib.hid (show decide (x ∈ zs) = false from decide_eq_false (by
        have h := hT.out
        rwa [List.take_of_length_le (by have := HX.out; omega)] at h))
      go_wp2
      go_ret
      exact ⟨ret_bool HE.out.symm, (by repeat' (first | (with_reducible exact Below.refl _ _) | (with_reducible assumption) | (with_reducible refine below_step (by assumption) ?_) | (with_reducible refine below_alloc ?_ _) | (with_reducible refine Below.drew ?_) | (with_reducible refine below_drewN ?_ _) | (with_reducible refine Below.setCell ?_ ?_ _) | go_size))⟩

set_option maxHeartbeats 3200000 in
theorem specBDone_no (next : Int) (g n c : Nat) (zs : List Int) (hn : n ≤ 1048576) (hx : zs.length = n) (first many : Int) (w : World) (hL : Lies w 1 (some ⟨g, 0, none⟩) n (zs.flatMap intCells)) (hno : ¬ (barrierB next zs = true ∧ inB first 0 99 = true ∧ inB many 1 24 = true)) :
    Calls Try.prog 20 #[.agg #[.int .i64 next, .slice (some ⟨g, 0, none⟩) n c], .int .i64 first, .int .i64 many] w fun e w' => e = .returned (.tuple #[.agg #[.int .i64 0, .slice none 0 0], .bool false]) ∧ Below w.heap.size w w' := by
  have HX := Lib.hid hx
  have HL := Lib.hid hL
  have HN := Lib.hid hno
  clear hx hL hno
  have fin : ∀ {w1 : World}, Below (w.heap.size + 2) ((w.alloc (.cells #[.int .i64 next, .slice (some ⟨g, 0, none⟩) n c] 33)).alloc (.cells #[.int .i64 0, .slice none 0 0] 33)) w1 →
      w1.cell? ⟨w.heap.size + 1, 0, none⟩ = some (.int .i64 0) ∧ w1.cell? ⟨w.heap.size + 1, 1, none⟩ = some (.slice none 0 0) ∧ w1.frozen? ⟨w.heap.size + 1, 0, none⟩ = false ∧ w1.frozen? ⟨w.heap.size + 1, 1, none⟩ = false := by
    intro w1 hb
    refine ⟨(hb.cell (p := ⟨w.heap.size + 1, 0, none⟩) (by simp)).trans (by go_cell), (hb.cell (p := ⟨w.heap.size + 1, 1, none⟩) (by simp)).trans (by go_cell), (hb.frozen (p := ⟨w.heap.size + 1, 0, none⟩) (by simp)).trans (by simp [go_sem]), (hb.frozen (p := ⟨w.heap.size + 1, 1, none⟩) (by simp)).trans (by simp [go_sem])⟩
  cases E1 : barrierB next zs
  · clear HN
    go_enter Try.func20, Try.ntmps20
    go_wp2_with fail
    refine (specBarrier_any next _ n c zs hn HX.out _ (HL.out.below (by repeat' (first | (with_reducible exact Below.refl _ _) | (with_reducible assumption) | (with_reducible refine below_step (by assumption) ?_) | (with_reducible refine below_alloc ?_ _) | (with_reducible refine Below.drew ?_) | (with_reducible refine below_drewN ?_ _) | (with_reducible refine Below.setCell ?_ ?_ _) | go_size)))).mono ?_
    rintro e1 w1 ⟨rfl, hb⟩
    rw [E1]
    have B1 : Below w.heap.size w w1 := (by repeat' (first | (with_reducible exact Below.refl _ _) | (with_reducible assumption) | (with_reducible refine below_step (by assumption) ?_) | (with_reducible refine below_alloc ?_ _) | (with_reducible refine Below.drew ?_) | (with_reducible refine below_drewN ?_ _) | (with_reducible refine Below.setCell ?_ ?_ _) | go_size))
    simp only [World.size_alloc] at hb
    obtain ⟨r0, r1, f0, f1⟩ := fin hb
    have hs := hb.size
    simp only [World.size_alloc] at hs
    clear hb
    go_wp2
    refine bodyPost_ret (v := .tuple #[.agg #[.int .i64 0, .slice none 0 0], .bool false]) (by simp [results, Try.results20, go_sem, r0, r1]) rfl ⟨rfl, ?_⟩
    exact Below.setCell (Below.setCell B1 (by show w.heap.size ≤ w.heap.size + 1; omega) _) (by show w.heap.size ≤ w.heap.size + 1; omega) _
  cases E2 : inB many 1 24
  · clear HN
    go_enter Try.func20, Try.ntmps20
    go_wp2_with fail
    refine (specBarrier_any next _ n c zs hn HX.out _ (HL.out.below (by repeat' (first | (with_reducible exact Below.refl _ _) | (with_reducible assumption) | (with_reducible refine below_step (by assumption) ?_) | (with_reducible refine below_alloc ?_ _) | (with_reducible refine Below.drew ?_) | (with_reducible refine below_drewN ?_ _) | (with_reducible refine Below.setCell ?_ ?_ _) | go_size)))).mono ?_
    rintro e1 w1 ⟨rfl, hb⟩
    rw [E1]
    have B1 : Below w.heap.size w w1 := (by repeat' (first | (with_reducible exact Below.refl _ _) | (with_reducible assumption) | (with_reducible refine below_step (by assumption) ?_) | (with_reducible refine below_alloc ?_ _) | (with_reducible refine Below.drew ?_) | (with_reducible refine below_drewN ?_ _) | (with_reducible refine Below.setCell ?_ ?_ _) | go_size))
    simp only [World.size_alloc] at hb
    obtain ⟨r0, r1, f0, f1⟩ := fin hb
    have hs := hb.size
    simp only [World.size_alloc] at hs
    clear hb
    go_wp2_with fail
    refine (l6In_any _ _ _ _).mono ?_
    rintro e2 w2 ⟨rfl, rfl⟩
    rw [E2]
    go_wp2
    refine bodyPost_ret (v := .tuple #[.agg #[.int .i64 0, .slice none 0 0], .bool false]) (by simp [results, Try.results20, go_sem, r0, r1]) rfl ⟨rfl, ?_⟩
    exact Below.setCell (Below.setCell B1 (by show w.heap.size ≤ w.heap.size + 1; omega) _) (by show w.heap.size ≤ w.heap.size + 1; omega) _
  cases E3 : inB first 0 99
  · clear HN
    go_enter Try.func20, Try.ntmps20
    go_wp2_with fail
    refine (specBarrier_any next _ n c zs hn HX.out _ (HL.out.below (by repeat' (first | (with_reducible exact Below.refl _ _) | (with_reducible assumption) | (with_reducible refine below_step (by assumption) ?_) | (with_reducible refine below_alloc ?_ _) | (with_reducible refine Below.drew ?_) | (with_reducible refine below_drewN ?_ _) | (with_reducible refine Below.setCell ?_ ?_ _) | go_size)))).mono ?_
    rintro e1 w1 ⟨rfl, hb⟩
    rw [E1]
    have B1 : Below w.heap.size w w1 := (by repeat' (first | (with_reducible exact Below.refl _ _) | (with_reducible assumption) | (with_reducible refine below_step (by assumption) ?_) | (with_reducible refine below_alloc ?_ _) | (with_reducible refine Below.drew ?_) | (with_reducible refine below_drewN ?_ _) | (with_reducible refine Below.setCell ?_ ?_ _) | go_size))
    simp only [World.size_alloc] at hb
    obtain ⟨r0, r1, f0, f1⟩ := fin hb
    have hs := hb.size
    simp only [World.size_alloc] at hs
    clear hb
    go_wp2_with fail
    refine (l6In_any _ _ _ _).mono ?_
    rintro e2 w2 ⟨rfl, rfl⟩
    rw [E2]
    go_wp2_with fail
    refine (l6In_any _ _ _ _).mono ?_
    rintro e2 w2 ⟨rfl, rfl⟩
    rw [E3]
    go_wp2
    refine bodyPost_ret (v := .tuple #[.agg #[.int .i64 0, .slice none 0 0], .bool false]) (by simp [results, Try.results20, go_sem, r0, r1]) rfl ⟨rfl, ?_⟩
    exact Below.setCell (Below.setCell B1 (by show w.heap.size ≤ w.heap.size + 1; omega) _) (by show w.heap.size ≤ w.heap.size + 1; omega) _
  exact absurd ⟨E1, E3, E2⟩ HN.out

theorem dec_mem {x : Int} {zs : List Int} {b : Bool} (h : decide (x ∈ zs) = b) : decide (x ∈ zs) = b := h
set_option maxHeartbeats 12800000 in
theorem specBDone_run (next : Int) (g0 n c0 : Nat) (zs : List Int) (hn : n ≤ 1048576) (hx : zs.length = n) (first : Int) (m : Nat) (w : World) (hL : Lies w 1 (some ⟨g0, 0, none⟩) n (zs.flatMap intCells)) (E1 : barrierB next zs = true) (E3 : inB first 0 99 = true) (E2 : inB (m : Int) 1 24 = true) :
    Calls Try.prog 20 #[.agg #[.int .i64 next, .slice (some ⟨g0, 0, none⟩) n c0], .int .i64 first, .int .i64 m] w fun e w' => (hasRun zs first m = false → e = .returned (.tuple #[.agg #[.int .i64 0, .slice none 0 0], .bool false])) ∧ (hasRun zs first m = true → ∃ g' m' c' : Nat, e = .returned (.tuple #[.agg #[.int .i64 next, .slice (some ⟨g', 0, none⟩) m' c'], .bool true]) ∧ (zs.filter (outside first m)).length = m' ∧ w'.ownsRow w.heap.size 3 1 (.slice (some ⟨g', 0, none⟩) m' c') m' ((zs.filter (outside first m)).flatMap intCells)) ∧ Below w.heap.size w w' := by
  obtain ⟨hm1, hm2⟩ := inB_iff.1 E2
  obtain ⟨hf1, hf2⟩ := inB_iff.1 E3
  have HX := Lib.hid hx
  have HL := Lib.hid hL
  clear hx hL
  go_enter Try.func20, Try.ntmps20
  go_wp2_with fail
  refine (specBarrier_any next _ n c0 zs hn HX.out _ (HL.out.below (by repeat' (first | (with_reducible exact Below.refl _ _) | (with_reducible assumption) | (with_reducible refine below_step (by assumption) ?_) | (with_reducible refine below_alloc ?_ _) | (with_reducible refine Below.drew ?_) | (with_reducible refine below_drewN ?_ _) | (with_reducible refine Below.setCell ?_ ?_ _) | go_size)))).mono ?_
  rintro e1 w1 ⟨rfl, hb⟩
  rw [E1]
  have B1 : Below w.heap.size w w1 := (by repeat' (first | (with_reducible exact Below.refl _ _) | (with_reducible assumption) | (with_reducible refine below_step (by assumption) ?_) | (with_reducible refine below_alloc ?_ _) | (with_reducible refine Below.drew ?_) | (with_reducible refine below_drewN ?_ _) | (with_reducible refine Below.setCell ?_ ?_ _) | go_size))
  have HR0 := Lib.hid ((((RowIs.new w #[.int .i64 next, .slice (some ⟨g0, 0, none⟩) n c0] 33)).alloc _).below hb)
  have HR1 := Lib.hid ((RowIs.new (w.alloc (.cells #[.int .i64 next, .slice (some ⟨g0, 0, none⟩) n c0] 33)) #[.int .i64 0, .slice none 0 0] 33).below hb)
  simp only [World.size_alloc] at HR1
  clear hb
  go_wp2_with fail
  refine (l6In_any _ _ _ _).mono ?_
  rintro e2 w2 ⟨rfl, rfl⟩
  rw [E2]
  go_wp2_with fail
  refine (l6In_any _ _ _ _).mono ?_
  rintro e2 w2 ⟨rfl, rfl⟩
  rw [E3]
  have h3s : w.heap.size + 1 < w1.heap.size := HR1.out.lt
  go_wp2_with fail
  go_loopw [8] (fun i wr => ∃ k : Nat, k ≤ m ∧ i = .int .i64 k ∧ Hid (hasRun zs first k = true) ∧ Hid (Below w1.heap.size w1 wr)) (fun i _ => m - (intOf i).toNat)
  case atStart => exact ⟨0, Nat.zero_le _, rfl, Lib.hid rfl, Lib.hid (Below.refl _ _)⟩
  case round =>
    obtain ⟨k, hk, rfl, hRun, hB⟩ := hrel
    have hQ0 := HR0.out.below hB.out
    have hQ1 := HR1.out.below hB.out
    have y0 := hQ0.cell (j := 0) rfl
    have y1 := hQ0.cell (j := 1) rfl
    have HQ0 := Lib.hid hQ0
    have HQ1 := Lib.hid hQ1
    have HBW := Lib.hid (B1.trans (hB.out.mono B1.size))
    have hwz := hB.out.size
    clear hQ0 hQ1
    by_cases hlt : k < m
    · have wk : IntKind.i64.wrap (first + (k : Int)) = first + (k : Int) := IntWalk.i64_in _ ⟨by omega, by omega⟩
      cases EM : decide (first + (k : Int) ∈ zs)
      · have HE := Lib.hid (show hasRun zs first m = false by
          rw [Bool.eq_false_iff]
          intro h
          have := hasRun_all.1 h k hlt
          exact of_decide_eq_false EM this)
        have HEM := Lib.hid EM
        clear EM
        go_wp2_with fail
        refine (l12Has_any next _ n c0 zs (first + (k : Int)) hn HX.out _ (HL.out.below HBW.out)).mono ?_
        rintro e5 w5 ⟨rfl, hb5⟩
        rw [HEM.out]
        have hq5 := HQ1.out.below hb5
        have r0 := hq5.cell (j := 0) rfl
        have r1 := hq5.cell (j := 1) rfl
        have f0 := hq5.frozen 0
        have f1 := hq5.frozen 1
        have hltx := hq5.lt
        have HB5 := Lib.hid (below_step hb5 HBW.out)
        clear hq5 hb5
        go_wp2
        refine bodyPost_ret (v := .tuple #[.agg #[.int .i64 0, .slice none 0 0], .bool false]) (by simp [results, Try.results20, go_sem, r0, r1]) rfl ⟨fun _ => rfl, fun h => ?_, ?_⟩
        · rw [HE.out] at h; cases h
        · exact Below.setCell (Below.setCell HB5.out (by show w.heap.size ≤ w.heap.size + 1; omega) _) (by show w.heap.size ≤ w.heap.size + 1; omega) _
      · have HE := Lib.hid (show hasRun zs first (k + 1) = true by rw [hasRun, hRun.out, EM]; rfl)
        have HEM := Lib.hid EM
        clear EM
        go_wp2_with fail
        refine (l12Has_any next _ n c0 zs (first + (k : Int)) hn HX.out _ (HL.out.below HBW.out)).mono ?_
        rintro e5 w5 ⟨rfl, hb5⟩
        rw [HEM.out]
        have HB5 := Lib.hid (hB.out.trans (hb5.mono hwz))
        clear hb5
        go_wp2
        go_roundw
        case rel => exact ⟨k + 1, by omega, by go_num, HE, HB5⟩
        case measure => simp [intOf]; omega
    · obtain rfl : k = m := by omega
      have hq1lt := HQ1.out.lt
      go_wp2_with fail
      obtain ⟨wo, hwo⟩ : ∃ wo, wo = wr := ⟨_, rfl⟩
      subst hwo
      go_loopw [10] (fun i wr => ∃ (j g m' c : Nat), j ≤ n ∧ i = .int .i64 j ∧ m' ≤ j ∧ Hid (((zs.take j).filter (outside first k)).length = m') ∧ Hid (RowIs wr (wo.heap.size + 1) 33 [.int .i64 next, .slice (some ⟨g, 0, none⟩) m' c]) ∧ Hid (wr.ownsRow wo.heap.size 3 1 (.slice (some ⟨g, 0, none⟩) m' c) m' (((zs.take j).filter (outside first k)).flatMap intCells)) ∧ Hid (Below wo.heap.size wo wr)) (fun i _ => n - (intOf i).toNat)
      case atStart =>
        have h6 := RowIs.new (wo.alloc (.cells #[] 3)) #[.int .i64 next, .slice (some ⟨wo.heap.size, 0, none⟩) 0 0] 33
        rw [World.size_alloc] at h6
        exact ⟨0, wo.heap.size, 0, 0, Nat.zero_le _, rfl, Nat.le_refl _, Lib.hid (by simp), Lib.hid h6, Lib.hid (World.ownsRow.alloc (by simpa using owns_nil wo 3 1) _), Lib.hid (below_alloc (below_alloc (Below.refl _ _) _) _)⟩
      case round =>
        obtain ⟨j, g, m', c, hj, rfl, hmj, hlen, hR6, hO, hB2⟩ := hrel
        have hQ0 := HQ0.out.below hB2.out
        have hQ1 := HQ1.out.below hB2.out
        have y0 := hQ0.cell (j := 0) rfl
        have y1 := hQ0.cell (j := 1) rfl
        have x0 := hR6.out.cell (j := 0) rfl
        have x1 := hR6.out.cell (j := 1) rfl
        have hgl := owns_lt hO.out
        have hne6 := own_ne_row hO.out hR6.out (by decide)
        have hws := hB2.out.size
        have w6 : IntKind.i64.wrap (first + (k : Int)) = first + (k : Int) := IntWalk.i64_in _ ⟨by omega, by omega⟩
        have w7 : IntKind.i64.wrap (first + (k : Int) - 1) = first + (k : Int) - 1 := IntWalk.i64_in _ ⟨by omega, by omega⟩
        by_cases hjn : j < n
        · obtain ⟨b', o', e', _, hc⟩ := ((HL.out.below HBW.out).below hB2.out).row (fun _ => rfl) (by omega)
          cases e'
          obtain ⟨x, hxj⟩ := get_lt HX.out hjn
          have d0 : wr.cell? ⟨g0, j, none⟩ = some (.int .i64 x) := by simpa using hc j _ hxj 0 _ rfl
          have HFS := Lib.hid (filter_snoc (p := outside first (k : Int)) hxj)
          clear hc hxj
          cases EI : inB x first (first + (k : Int) - 1)
          · have HP := Lib.hid (show outside first (k : Int) x = true by
              unfold inB at EI; unfold outside; simp at EI ⊢; omega)
            have HLN := Lib.hid (show ((zs.take (j + 1)).filter (outside first (k : Int))).length = m' + 1 by rw [HFS.out, HP.out, List.length_append, hlen.out]; rfl)
            have hg0 := HL.out.arg_lt (by omega) rfl
            have hnw : w.heap.size ≠ g := by omega
            have x1a := box_cell (below_alloc (Below.refl wr.heap.size wr) (.cells #[.int .i64 x] 3)) x1
            have hng0 : g0 ≠ g := by omega
            go_wp2_with fail
            refine (l6In_any _ _ _ _).mono ?_
            rintro e6 w6' ⟨rfl, rfl⟩
            rw [EI]
            go_wp2_with fail
            go_region_law (first | (refine step_app1d ?_ ?_ ?_ 29 3 1 8 rowInt ?_ wo.heap.size g m' c (((zs.take j).filter (outside first (k : Int))).flatMap intCells) ?_ ?_ ?_ ?_ ?_ ?_ ?_ ?_ ?_; rfl; rotate_left 2; exact rfl; exact hO.out; exact rfl; exact rfl; exact rfl; exact rfl; (unfold maxLen; omega); omega; exact hws; intro g4 c4 w4 ho4 hg4; have HO4 := Lib.hid ho4; have HG4 := Lib.hid hg4; have hp4 := hR6.out.grown hg4 (fun e => hne6 (by injection e)); have HP4 := Lib.hid hp4; have q0 := hp4.cell (j := 0) rfl; have q1 := hp4.cell (j := 1) rfl; have q2 := hp4.frozen 1; have y41 := only_cell hg4 hnw y1; have d40 := only_cell hg4 hng0 d0; clear ho4 hg4 hp4; all_goals skip))
            all_goals
              go_wp2
              go_roundw
              case rel =>
                have hne4 := own_ne_row HO4.out HP4.out (by decide)
                refine ⟨j + 1, g4, m' + 1, c4, by omega, by go_num, by omega, HLN, Lib.hid (HP4.out.set 1 _), Lib.hid ?_, Lib.hid ((below_grown hB2.out HG4.out (by omega) hws).setCell (by show wo.heap.size ≤ wo.heap.size + 1; omega) _)⟩
                rw [HFS.out, HP.out, List.flatMap_append]
                exact ownsRow_other HO4.out hne4 _
              case measure => simp [intOf]; omega
          · have HP := Lib.hid (show outside first (k : Int) x = false by
              unfold inB at EI; unfold outside; simp at EI ⊢; omega)
            have HFE := Lib.hid (show (zs.take (j + 1)).filter (outside first (k : Int)) = (zs.take j).filter (outside first (k : Int)) by rw [HFS.out, HP.out]; simp)
            go_wp2_with fail
            refine (l6In_any _ _ _ _).mono ?_
            rintro e6 w6' ⟨rfl, rfl⟩
            rw [EI]
            go_wp2
            go_roundw
            case rel => exact ⟨j + 1, g, m', c, by omega, by go_num, by omega, by rw [HFE.out]; exact hlen, hR6, by rw [HFE.out]; exact hO, hB2⟩
            case measure => simp [intOf]; omega
        · have HFT := Lib.hid (show (zs.take j).filter (outside first (k : Int)) = zs.filter (outside first (k : Int)) by rw [List.take_of_length_le (by have := HX.out; omega)])
          have z0 := hQ1.cell (j := 0) rfl
          have z1 := hQ1.cell (j := 1) rfl
          have f0 := hQ1.frozen 0
          have f1 := hQ1.frozen 1
          have hn6 : wo.heap.size + 1 ≠ w.heap.size + 1 := by omega
          have HZ1 := Lib.hid hQ1
          clear hQ0 hQ1
          go_wp2
          refine bodyPost_ret (v := .tuple #[.agg #[.int .i64 next, .slice (some ⟨g, 0, none⟩) m' c], .bool true]) (by simp [results, Try.results20, go_sem, z0, z1]) rfl ⟨fun h => ?_, fun _ => ⟨g, m', c, rfl, ?_, ?_⟩, ?_⟩
          · rw [hRun.out] at h; cases h
          · rw [← HFT.out]; exact hlen.out
          · have hng1 := own_ne_row hO.out HZ1.out (by decide)
            rw [← HFT.out]
            exact ownsRow_other (ownsRow_other (ownsRow_base hO.out (by have := HBW.out.size; omega)) hng1 _) hng1 _
          · exact ((below_step hB2.out HBW.out).setCell (by show w.heap.size ≤ w.heap.size + 1; omega) _).setCell (by show w.heap.size ≤ w.heap.size + 1; omega) _
end Go.Proofs.Ytkianldpmlbgcaa
