/-
  EntryFrom of both: what each returns, for every text. No condition beyond what the row lists.
-/
import Derived.Test.YtmnmaibhjhhakaaGreatDoorEntI
namespace Go.Proofs.YtmnmaibhjhhakaaGreatDoor
open Go.ChangeShapes Go.WideShapes Go.ChangeAt Go.RowKit

def enR (r : EnR) : Value := .tuple #[enV r.1, .bool r.2]
theorem words_five {s n i k d c : ByteArray} (h : wordsB s = [n, i, k, d, c]) : n.size ≤ s.size ∧ i.size ≤ s.size ∧ k.size ≤ s.size ∧ d.size ≤ s.size := by
  have h1 := words_data h
  simp only [List.map_cons, List.map_nil] at h1
  obtain ⟨l1, r1, _, e1, e2, h2⟩ := cutF_cons h1
  obtain ⟨l2, r2, _, e3, e4, h3⟩ := cutF_cons h2
  obtain ⟨l3, r3, _, e5, e6, h4⟩ := cutF_cons h3
  obtain ⟨l4, r4, _, e7, e8, h5⟩ := cutF_cons h4
  simp only [List.nil_append] at e2 e4 e6 e8
  have hl := congrArg List.length e1
  rw [e3, e5, e7, ← e2, ← e4, ← e6, ← e8] at hl
  simp at hl
  omega

set_option maxRecDepth 8000 in
set_option maxHeartbeats 6400000 in
theorem specEntFrom_any (s : ByteArray) (hs : s.size ≤ 1048576) (w : World) :
    Calls Tryz.prog 10 #[.string s] w fun e w' => e = .returned (enR (entR s)) ∧ Below w.heap.size w w' := by
  by_cases h5 : (wordsB s).length = 5
  · obtain ⟨n, i, k, d, c, habc⟩ := five_of h5
    obtain ⟨q1, q2, q3, q4⟩ := words_five habc
    have hi : i.size ≤ maxLen := by unfold maxLen; omega
    have hd : d.size ≤ maxLen := by unfold maxLen; omega
    have hn1 : n.size ≤ 1048576 := by omega
    have hk1 : k.size ≤ 1048576 := by omega
    have HE := Lib.hid (entR_five habc)
    have HW := Lib.hid habc
    clear h5 habc q1 q2 q3 q4
    obtain ⟨va, hva⟩ : ∃ va, fiveV i = va := ⟨_, rfl⟩
    obtain ⟨vc, hvc⟩ : ∃ vc, fiveV d = vc := ⟨_, rfl⟩
    rw [hva, hvc] at HE
    have HVA := Lib.hid hva
    have HVC := Lib.hid hvc
    clear hva hvc
    go_enter Tryz.func10, Tryz.ntmps10
    go_wp2_with fail
    refine (l1Cut_any s hs _).mono ?_
    rintro e1 w1 ⟨g, m, cp, rfl, hl, ho, hb1⟩
    rw [HW.out] at hl ho
    obtain rfl : 5 = m := hl
    have HO := Lib.hid ho
    have R0 := Lib.hid ((RowIs.new w #[.string ⟨#[]⟩, .int .i64 0, .string ⟨#[]⟩, .int .i64 0] 32).below hb1)
    have x0 : w1.cell? ⟨g, 0, none⟩ = some (.string n) := (HO.out.cellAt 0 (by omega)).trans rfl
    have x1 : w1.cell? ⟨g, 1, none⟩ = some (.string i) := (HO.out.cellAt 1 (by omega)).trans rfl
    have x2 : w1.cell? ⟨g, 2, none⟩ = some (.string k) := (HO.out.cellAt 2 (by omega)).trans rfl
    have x3 : w1.cell? ⟨g, 3, none⟩ = some (.string d) := (HO.out.cellAt 3 (by omega)).trans rfl
    have hB := below_step hb1 (below_alloc (Below.refl _ _) _)
    have hwz : w.heap.size < w1.heap.size := R0.out.lt
    have hgz : g < w1.heap.size := (owns_lt HO.out).2
    clear ho
    have X0 := x0
    have X1 := x1
    have X2 := x2
    have X3 := x3
    go_upto_region 4 with (fail)
    go_cut [5] from 12 (fun p wr => p = .pointer (some ⟨w1.heap.size, 0, none⟩) ∧ RowIs wr w1.heap.size 32 [.string n, .int .i64 va, .string k, .int .i64 vc] ∧ Below w1.heap.size w1 wr)
    case first =>
      have BR := Below.refl w1.heap.size w1
      go_region_held3 (fun wx => wx.cell? ⟨g, 0, none⟩ = some (.string n) ∧ wx.cell? ⟨g, 1, none⟩ = some (.string i) ∧ wx.cell? ⟨g, 2, none⟩ = some (.string k) ∧ wx.cell? ⟨g, 3, none⟩ = some (.string d)) ((go_split_ands; refine ⟨?_, ?_, ?_, ?_⟩ <;> first | assumption | (refine box_cell (below_alloc (Below.refl _ _) _) ?_; assumption) | (refine box_cell (W := w1) ?_ X0; (repeat' (first | (with_reducible exact Below.refl _ _) | (with_reducible assumption) | (with_reducible refine below_step (by assumption) ?_) | (with_reducible refine below_alloc ?_ _) | (with_reducible refine Below.drew ?_) | (with_reducible refine below_drewN ?_ _) | (with_reducible refine Below.setCell ?_ ?_ _) | go_size)); done) | (refine box_cell (W := w1) ?_ X1; (repeat' (first | (with_reducible exact Below.refl _ _) | (with_reducible assumption) | (with_reducible refine below_step (by assumption) ?_) | (with_reducible refine below_alloc ?_ _) | (with_reducible refine Below.drew ?_) | (with_reducible refine below_drewN ?_ _) | (with_reducible refine Below.setCell ?_ ?_ _) | go_size)); done) | (refine box_cell (W := w1) ?_ X2; (repeat' (first | (with_reducible exact Below.refl _ _) | (with_reducible assumption) | (with_reducible refine below_step (by assumption) ?_) | (with_reducible refine below_alloc ?_ _) | (with_reducible refine Below.drew ?_) | (with_reducible refine below_drewN ?_ _) | (with_reducible refine Below.setCell ?_ ?_ _) | go_size)); done) | (refine box_cell (W := w1) ?_ X3; (repeat' (first | (with_reducible exact Below.refl _ _) | (with_reducible assumption) | (with_reducible refine below_step (by assumption) ?_) | (with_reducible refine below_alloc ?_ _) | (with_reducible refine Below.drew ?_) | (with_reducible refine below_drewN ?_ _) | (with_reducible refine Below.setCell ?_ ?_ _) | go_size)); done)))
        (first
          | (go_at_call_of 20 (Value.string i); refine (l1Number_any i hi _).mono ?_; rintro e2 w2 ⟨rfl, rfl⟩; rw [HVA.out])
          | (go_at_call_of 20 (Value.string d); refine (l1Number_any d hd _).mono ?_; rintro e2 w2 ⟨rfl, rfl⟩; rw [HVC.out]))
      all_goals
        go_wp2
        go_meet
        case rel =>
          first
            | exact ⟨rfl, RowIs.new _ _ _, below_alloc (Below.refl _ _) _⟩
            | exact ⟨rfl, (RowIs.new w1 #[.string n, .int .i64 va, .string k, .int .i64 vc] 32 : RowIs (w1.alloc (.cells #[.string n, .int .i64 va, .string k, .int .i64 vc] 32)) _ _ _), Below.drew (below_alloc (Below.refl _ _) _)⟩
            | exact ⟨rfl, ((((RowIs.new w1 #[.string ⟨#[]⟩, .int .i64 0, .string ⟨#[]⟩, .int .i64 0] 32).set 0 _).set 1 _).set 2 _).set 3 _, ((((below_alloc (Below.refl _ _) _).setCell (Nat.le_refl _) _).setCell (Nat.le_refl _) _).setCell (Nat.le_refl _) _).setCell (Nat.le_refl _) _⟩
    case rest =>
      obtain ⟨rfl, hR, hBc⟩ := hcut
      have Y0 := Lib.hid hR
      have R1 := Lib.hid (R0.out.below hBc)
      have hB2 := below_step hBc hB
      have y0 := hR.cell (j := 0) rfl
      have y1 := hR.cell (j := 1) rfl
      have y2 := hR.cell (j := 2) rfl
      have y3 := hR.cell (j := 3) rfl
      clear hR x0 x1 x2 x3 X0 X1 X2 X3 hBc R0
      go_wp2_with fail
      refine (specLine_any n va k vc hn1 hk1 _).mono ?_
      rintro e4 w4 ⟨rfl, hb4⟩
      have R4 := Lib.hid (R1.out.below hb4)
      have Y4 := Lib.hid (Y0.out.below hb4)
      have hB4 := below_step hb4 hB2
      have z0 := R4.out.cell (j := 0) rfl
      have z1 := R4.out.cell (j := 1) rfl
      have z2 := R4.out.cell (j := 2) rfl
      have z3 := R4.out.cell (j := 3) rfl
      have fz0 := R4.out.frozen 0
      have fz1 := R4.out.frozen 1
      have fz2 := R4.out.frozen 2
      have fz3 := R4.out.frozen 3
      have hwz4 : w.heap.size < w4.heap.size := R4.out.lt
      obtain ⟨T, hT⟩ : ∃ T, outL (n, va, k, vc) = T := ⟨_, rfl⟩
      rw [hT]
      rw [hT] at HE
      clear hT y0 y1 y2 y3 R1 Y0
      by_cases he : T = s
      · have HF := Lib.hid (show entR s = ((n, va, k, vc), true) by rw [HE.out, if_pos he])
        have e2 : (T.toList == s.toList) = true := beq_toList' he
        have e3 : (T.toList != s.toList) = false := by unfold bne; rw [e2]; rfl
        have y0 := Y4.out.cell (j := 0) rfl
        have y1 := Y4.out.cell (j := 1) rfl
        have y2 := Y4.out.cell (j := 2) rfl
        have y3 := Y4.out.cell (j := 3) rfl
        clear he HE
        go_wp2
        refine bodyPost_ret (v := enR (entR s)) (by rw [HF.out]; simp [results, Tryz.results10, go_sem, enR, enV, *]) rfl ⟨rfl, ?_⟩
        refine Below.setCell (Below.setCell (Below.setCell (Below.setCell hB4 ?_ _) ?_ _) ?_ _) ?_ _ <;> exact Nat.le_refl _
      · have HF := Lib.hid (show entR s = (zE, false) by rw [HE.out, if_neg he])
        have e2 : (T.toList == s.toList) = false := str_ne he
        have e3 : (T.toList != s.toList) = true := by unfold bne; rw [e2]; rfl
        clear he HE
        go_wp2
        refine bodyPost_ret (v := enR (entR s)) (by rw [HF.out]; simp [results, Tryz.results10, go_sem, enR, enV, zE, *]) rfl ⟨rfl, ?_⟩
        refine Below.setCell (Below.setCell (Below.setCell (Below.setCell hB4 ?_ _) ?_ _) ?_ _) ?_ _ <;> exact Nat.le_refl _
  · have HE := Lib.hid (entR_not h5)
    have H5 := Lib.hid h5
    clear h5
    go_enter Tryz.func10, Tryz.ntmps10
    go_wp2_with fail
    refine (l1Cut_any s hs _).mono ?_
    rintro e1 w1 ⟨g, m, cp, rfl, hl, ho, hb1⟩
    have hm : m ≠ 5 := by rw [← hl]; exact H5.out
    have g1 : ((m : Int) == 5) = false := by simp; omega
    have g2 : ((m : Int) != 5) = true := by unfold bne; rw [g1]; rfl
    have R0 := Lib.hid ((RowIs.new w #[.string ⟨#[]⟩, .int .i64 0, .string ⟨#[]⟩, .int .i64 0] 32).below hb1)
    have z0 := R0.out.cell (j := 0) rfl
    have z1 := R0.out.cell (j := 1) rfl
    have z2 := R0.out.cell (j := 2) rfl
    have z3 := R0.out.cell (j := 3) rfl
    have fz0 := R0.out.frozen 0
    have fz1 := R0.out.frozen 1
    have fz2 := R0.out.frozen 2
    have fz3 := R0.out.frozen 3
    have hB := below_step hb1 (below_alloc (Below.refl _ _) _)
    clear ho hl
    go_wp2
    refine bodyPost_ret (v := enR (entR s)) (by rw [HE.out]; simp [results, Tryz.results10, go_sem, enR, enV, zE, *]) rfl ⟨rfl, ?_⟩
    refine Below.setCell (Below.setCell (Below.setCell (Below.setCell hB ?_ _) ?_ _) ?_ _) ?_ _ <;> exact Nat.le_refl _
theorem specEntFrom_as (s : ByteArray) (d0 : ByteArray) (d1 : Int) (d2 : ByteArray) (d3 : Int) (bb : Bool) (h : entR s = ((d0, d1, d2, d3), bb)) (hs : s.size ≤ 1048576) (w : World) :
    Calls Tryz.prog 10 #[.string s] w fun e w' => e = .returned (.tuple #[.agg #[.string d0, .int .i64 d1, .string d2, .int .i64 d3], .bool bb]) ∧ Below w.heap.size w w' :=
  (specEntFrom_any s hs w).mono fun _ _ ⟨he, hb⟩ => ⟨by rw [he, h]; rfl, hb⟩
end Go.Proofs.YtmnmaibhjhhakaaGreatDoor
