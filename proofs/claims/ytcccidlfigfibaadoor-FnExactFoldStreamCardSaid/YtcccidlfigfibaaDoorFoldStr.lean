/-
  A fold over a stream: what the reference's and the program's functions return. No condition beyond what the rows list.
-/
import Derived.Test.YtcccidlfigfibaaDoorFoldI
import Derived.Test.YtcccidlfigfibaaDoorRead
import Derived.Deep.Cut
import Derived.Deep.LoopGhost
namespace Go.Proofs.YtcccidlfigfibaaDoor
open Go.ChangeShapes Go.WideShapes Go.ChangeAt Go.RowKit

abbrev FsR := Fd × Int × Bool
def fsZero : FsR := (fdZero, 0, false)
def fsV (r : FsR) : Value := .tuple #[.agg #[.int .i64 r.1.1, .int .i64 r.1.2.1, .string r.1.2.2], .int .i64 r.2.1, .bool r.2.2]
/-- What FoldStream answers. -/
def foldStr (xs : List EnT) (s : ByteArray) (f : Fd) : FsR :=
  if storeB xs && nameB s && foldB f.1 f.2.1 f.2.2 then
    (if ((evOf s xs).length : Int) < f.1 + 1 then fsZero
     else if foldB (foldOver f ((evOf s xs).drop (f.1 + 1).toNat)).1 (foldOver f ((evOf s xs).drop (f.1 + 1).toNat)).2.1 (foldOver f ((evOf s xs).drop (f.1 + 1).toNat)).2.2 then (foldOver f ((evOf s xs).drop (f.1 + 1).toNat), ((evOf s xs).length : Int) - f.1 - 1, true)
     else fsZero)
  else fsZero
theorem foldStr_no {xs : List EnT} {s : ByteArray} {f : Fd} (h : (storeB xs && nameB s && foldB f.1 f.2.1 f.2.2) = false) : foldStr xs s f = fsZero := by unfold foldStr; rw [h]; rfl
theorem foldStr_short {xs : List EnT} {s : ByteArray} {f : Fd} (h : ((evOf s xs).length : Int) < f.1 + 1) : foldStr xs s f = fsZero := by
  unfold foldStr
  split
  · first
      | rfl
      | rw [if_pos h]
  · rfl
theorem foldStr_yes {xs : List EnT} {s : ByteArray} {f : Fd} (h1 : storeB xs = true) (h2 : nameB s = true) (h3 : foldB f.1 f.2.1 f.2.2 = true) (h : ¬ ((evOf s xs).length : Int) < f.1 + 1) {q : Nat} (hq : f.1 + 1 = (q : Int)) :
    foldStr xs s f = (if foldB (foldOver f ((evOf s xs).drop q)).1 (foldOver f ((evOf s xs).drop q)).2.1 (foldOver f ((evOf s xs).drop q)).2.2 then (foldOver f ((evOf s xs).drop q), ((evOf s xs).length : Int) - f.1 - 1, true) else fsZero) := by
  unfold foldStr
  rw [h1, h2, h3, if_neg h, hq]
  rfl
theorem stream_ok {xs : List EnT} (h : storeB xs = true) (s : ByteArray) : eventsB (evOf s xs) = true := by
  cases e : eventsB (evOf s xs)
  · rw [store_stream e] at h; cases h
  · rfl
theorem events_drop {ys : List EvT} (h : eventsB ys = true) (k : Nat) : eventsB (ys.drop k) = true := by
  obtain ⟨h1, h2, h3⟩ := (events_iff ys).1 h
  exact (events_iff _).2 ⟨by rw [List.length_drop]; omega, fun x hx => h2 x (List.mem_of_mem_drop hx), h3.sublist (List.drop_sublist _ _)⟩
theorem fold_str_ok {f : Fd} {ys : List EvT} (hl : StrOk f.2.2) (hk : ∀ y ∈ ys, eventOk y) : StrOk (foldOver f ys).2.2 := by
  rcases List.eq_nil_or_concat ys with h0 | ⟨zs, y, h0⟩
  · rw [h0]; exact hl
  · rw [List.concat_eq_append] at h0
    have hy := (hk y (by rw [h0]; simp)).2.1
    rw [h0]; unfold foldOver; rw [List.foldl_append]
    exact hy

theorem box3_row {w : World} {b : Nat} {ty : TypeId} {u0 u1 u2 : Value} (h : RowIs w b ty [u0, u1, u2]) : Box3 w b u0 u1 u2 :=
  ⟨h.cell (j := 0) rfl, h.cell (j := 1) rfl, h.cell (j := 2) rfl, h.frozen 0, h.frozen 1, h.frozen 2⟩

set_option maxHeartbeats 12800000 in
theorem specFoldStr_any (A : Option Addr) (n c : Nat) (xs : List EnT) (t : ByteArray) (f : Fd) (hn : n ≤ 1048576) (hx : xs.length = n) (hok : StOk xs) (ht : t.size ≤ 1048576) (hf : IntOk f.1) (hl : StrOk f.2.2) (w : World) (hL : Lies w 4 A n (xs.flatMap entryCells)) :
    Calls Tryd.prog 20 #[.slice A n c, .string t, .agg #[.int .i64 f.1, .int .i64 f.2.1, .string f.2.2]] w fun e w' => e = .returned (fsV (foldStr xs t f)) ∧ Below w.heap.size w w' := by
  obtain ⟨v, s, l⟩ := f
  have HX := Lib.hid hx
  obtain ⟨w0, hw0⟩ : ∃ w0, w0 = (w.alloc (.cells #[.int .i64 v, .int .i64 s, .string l] 42)).alloc (.cells #[.int .i64 0, .int .i64 0, .string ⟨#[]⟩] 42) := ⟨_, rfl⟩
  have B0 : Below w.heap.size w w0 := by rw [hw0]; exact below_alloc (below_alloc (Below.refl _ _) _) _
  have hp : Box3 w0 w.heap.size (.int .i64 v) (.int .i64 s) (.string l) := by rw [hw0]; exact (Box3.new w _ _ _ _).below (below_alloc (Below.refl _ _) _)
  have hq : Box3 w0 (w.heap.size + 1) (.int .i64 0) (.int .i64 0) (.string ⟨#[]⟩) := by rw [hw0]; have h := Box3.new (w.alloc (.cells #[.int .i64 v, .int .i64 s, .string l] 42)) 42 (.int .i64 0) (.int .i64 0) (.string ⟨#[]⟩); rw [World.size_alloc] at h; exact h
  have hz0 : w0.heap.size = w.heap.size + 2 := by rw [hw0]; simp
  have HZ0 := Lib.hid hz0
  have HW0 := Lib.hid hw0
  have HP := Lib.hid hp
  have HQ := Lib.hid hq
  have hL0 := Lib.hid (hL.below B0)
  clear hw0 hL hx hq hp hz0
  cases E1 : storeB xs
  · have HE : Hid (foldStr xs t (v, s, l) = fsZero) := Lib.hid (foldStr_no (by rw [E1]; rfl))
    go_enter Tryd.func20, Tryd.ntmps20
    go_wp2_with fail
    rw [← HW0.out]
    refine (specStore_any A n c xs hn HX.out hok.small _ hL0.out).mono ?_
    rintro e1 w1 ⟨rfl, hb1⟩
    rw [E1]
    obtain ⟨a0, a1, a2, f0, f1, f2⟩ := HQ.out.below hb1
    have hBw : Below w.heap.size w w1 := below_step hb1 B0
    go_wp2
    refine bodyPost_ret (v := fsV (foldStr xs t (v, s, l))) (by rw [HE.out]; simp [results, Tryd.results20, go_sem, fsV, fsZero, fdZero, *]; try rfl) rfl ⟨rfl, ?_⟩
    exact (by repeat' (first | (with_reducible exact Below.refl _ _) | (with_reducible assumption) | (with_reducible refine below_step (by assumption) ?_) | (with_reducible refine below_alloc ?_ _) | (with_reducible refine Below.drew ?_) | (with_reducible refine below_drewN ?_ _) | (with_reducible refine Below.setCell ?_ ?_ _) | go_size))
  cases E2 : nameB t
  · have HE : Hid (foldStr xs t (v, s, l) = fsZero) := Lib.hid (foldStr_no (by rw [E1, E2]; rfl))
    go_enter Tryd.func20, Tryd.ntmps20
    go_wp2_with fail
    rw [← HW0.out]
    refine (specStore_any A n c xs hn HX.out hok.small _ hL0.out).mono ?_
    rintro e1 w1 ⟨rfl, hb1⟩
    rw [E1]
    go_wp2_with fail
    refine (specNameValid_any t ht _).mono ?_
    rintro e2 w2 ⟨rfl, hb2⟩
    rw [E2]
    obtain ⟨a0, a1, a2, f0, f1, f2⟩ := (HQ.out.below hb1).below hb2
    have hBw : Below w.heap.size w w2 := below_step hb2 (below_step hb1 B0)
    go_wp2
    refine bodyPost_ret (v := fsV (foldStr xs t (v, s, l))) (by rw [HE.out]; simp [results, Tryd.results20, go_sem, fsV, fsZero, fdZero, *]; try rfl) rfl ⟨rfl, ?_⟩
    exact (by repeat' (first | (with_reducible exact Below.refl _ _) | (with_reducible assumption) | (with_reducible refine below_step (by assumption) ?_) | (with_reducible refine below_alloc ?_ _) | (with_reducible refine Below.drew ?_) | (with_reducible refine below_drewN ?_ _) | (with_reducible refine Below.setCell ?_ ?_ _) | go_size))
  cases E3 : foldB v s l
  · have HE : Hid (foldStr xs t (v, s, l) = fsZero) := Lib.hid (foldStr_no (by simp only [E1, E2, E3]; rfl))
    go_enter Tryd.func20, Tryd.ntmps20
    go_wp2_with fail
    rw [← HW0.out]
    refine (specStore_any A n c xs hn HX.out hok.small _ hL0.out).mono ?_
    rintro e1 w1 ⟨rfl, hb1⟩
    rw [E1]
    go_wp2_with fail
    refine (specNameValid_any t ht _).mono ?_
    rintro e2 w2 ⟨rfl, hb2⟩
    rw [E2]
    obtain ⟨k0, k1, k2, -, -, -⟩ := (HP.out.below hb1).below hb2
    go_wp2_with fail
    refine (specFold_any _ _ _ hf hl _).mono ?_
    rintro e3 w3 ⟨rfl, hb3⟩
    rw [E3]
    obtain ⟨a0, a1, a2, f0, f1, f2⟩ := ((HQ.out.below hb1).below hb2).below hb3
    have hBw : Below w.heap.size w w3 := below_step hb3 (below_step hb2 (below_step hb1 B0))
    clear k0 k1 k2
    go_wp2
    refine bodyPost_ret (v := fsV (foldStr xs t (v, s, l))) (by rw [HE.out]; simp [results, Tryd.results20, go_sem, fsV, fsZero, fdZero, *]; try rfl) rfl ⟨rfl, ?_⟩
    exact (by repeat' (first | (with_reducible exact Below.refl _ _) | (with_reducible assumption) | (with_reducible refine below_step (by assumption) ?_) | (with_reducible refine below_alloc ?_ _) | (with_reducible refine Below.drew ?_) | (with_reducible refine below_drewN ?_ _) | (with_reducible refine Below.setCell ?_ ?_ _) | go_size))
  have hfb := fold_bounds (f := (v, s, l)) E3
  obtain ⟨⟨fb1, fb2⟩, fb3, fb4⟩ := id hfb
  simp only at fb1 fb2 fb3 fb4
  have HFB := Lib.hid hfb
  obtain ⟨q, hqv⟩ := Int.eq_ofNat_of_zero_le (show (0 : Int) ≤ v + 1 by omega)
  have HQV := Lib.hid hqv
  have hq24 : q ≤ 24 := by omega
  have hn24 : n ≤ 24 := by have := ((store_iff xs).1 E1).1; have := HX.out; omega
  obtain rfl : v = (q : Int) - 1 := by omega
  have hq1 : ((q : Int) - 1 + 1) = (q : Int) := by omega
  clear hqv hfb HQV
  by_cases hsh : ((evOf t xs).length : Int) < (q : Int) - 1 + 1
  · have HE : Hid (foldStr xs t ((q : Int) - 1, s, l) = fsZero) := Lib.hid (foldStr_short hsh)
    have HSH := Lib.hid hsh
    clear hsh
    go_enter Tryd.func20, Tryd.ntmps20
    go_wp2_with fail
    rw [← HW0.out]
    refine (specStore_any A n c xs hn HX.out hok.small _ hL0.out).mono ?_
    rintro e1 w1 ⟨rfl, hb1⟩
    rw [E1]
    go_wp2_with fail
    refine (specNameValid_any t ht _).mono ?_
    rintro e2 w2 ⟨rfl, hb2⟩
    rw [E2]
    obtain ⟨k0, k1, k2, -, -, -⟩ := (HP.out.below hb1).below hb2
    go_wp2_with fail
    refine (specFold_any _ _ _ hf hl _).mono ?_
    rintro e3 w3 ⟨rfl, hb3⟩
    rw [E3]
    have hBw : Below w.heap.size w w3 := below_step hb3 (below_step hb2 (below_step hb1 B0))
    have HL3 := Lib.hid (((hL0.out.below hb1).below hb2).below hb3)
    clear k0 k1 k2
    go_wp2_with fail
    refine (l4Events_any A n c xs t hn HX.out _ HL3.out).mono ?_
    rintro e4 w4 ⟨ga, m, c4, rfl, hm, hEv, hb4⟩
    have HM := Lib.hid hm
    have hm24 : m ≤ 24 := by have := evOf_length t xs; have := HM.out; have := HX.out; omega
    obtain ⟨k0, k1, k2, -, -, -⟩ := (((HP.out.below hb1).below hb2).below hb3).below hb4
    obtain ⟨a0, a1, a2, f0, f1, f2⟩ := (((HQ.out.below hb1).below hb2).below hb3).below hb4
    have hmlt : m < q := by have := HSH.out; have := HM.out; omega
    have E4 : decide ((m : Int) < (q : Int)) = true := by simp; omega
    have E5 : (m : Int) < (q : Int) := by omega
    have hBx : Below w.heap.size w w4 := below_step hb4 hBw
    clear hm hEv
    go_wp2
    refine bodyPost_ret (v := fsV (foldStr xs t ((q : Int) - 1, s, l))) (by rw [HE.out]; simp [results, Tryd.results20, go_sem, fsV, fsZero, fdZero, *]; try rfl) rfl ⟨rfl, ?_⟩
    exact (by repeat' (first | (with_reducible exact Below.refl _ _) | (with_reducible assumption) | (with_reducible refine below_step (by assumption) ?_) | (with_reducible refine below_alloc ?_ _) | (with_reducible refine Below.drew ?_) | (with_reducible refine below_drewN ?_ _) | (with_reducible refine Below.setCell ?_ ?_ _) | go_size))
  have HSH := Lib.hid hsh
  obtain ⟨ys, hys⟩ : ∃ ys, ys = (evOf t xs).drop q := ⟨_, rfl⟩
  obtain ⟨⟨v', s', l'⟩, hg⟩ : ∃ g, g = foldOver ((q : Int) - 1, s, l) ys := ⟨_, rfl⟩
  have HE0 := Lib.hid (foldStr_yes (f := ((q : Int) - 1, s, l)) E1 E2 E3 hsh hq1)
  rw [← hys, ← hg] at HE0
  have hev := events_all (by rw [hys]; exact events_drop (stream_ok E1 t) q : eventsB ys = true)
  have HA := Lib.hid (fun x hx => (hev.2 x hx).2.2)
  have HYO := Lib.hid (show ∀ y ∈ ys, eventOk y by rw [hys]; exact fun y hy => hok.evs t y (List.mem_of_mem_drop hy))
  have hv' : IntOk v' := by
    have := fold_range HFB.out hev.1 HA.out ys.length
    rw [List.take_length, ← hg] at this
    exact ⟨by simp only at this; omega, by simp only at this; omega⟩
  have hl' : StrOk l' := by
    have := fold_str_ok (f := ((q : Int) - 1, s, l)) hl HYO.out
    rw [← hg] at this
    exact this
  have HV' := Lib.hid hv'
  have HG := Lib.hid hg
  have HYS := Lib.hid hys
  clear hg hev hv' hys hsh
  cases E6 : foldB v' s' l'
  all_goals
    have HE := HE0
    simp only [E6, Bool.false_eq_true, if_false, if_true] at HE
    go_enter Tryd.func20, Tryd.ntmps20
    go_wp2_with fail
    rw [← HW0.out]
    refine (specStore_any A n c xs hn HX.out hok.small _ hL0.out).mono ?_
    rintro e1 w1 ⟨rfl, hb1⟩
    rw [E1]
    go_wp2_with fail
    refine (specNameValid_any t ht _).mono ?_
    rintro e2 w2 ⟨rfl, hb2⟩
    rw [E2]
    obtain ⟨k0, k1, k2, -, -, -⟩ := (HP.out.below hb1).below hb2
    go_wp2_with fail
    refine (specFold_any _ _ _ hf hl _).mono ?_
    rintro e3 w3 ⟨rfl, hb3⟩
    rw [E3]
    have hBw : Below w.heap.size w w3 := below_step hb3 (below_step hb2 (below_step hb1 B0))
    have HL3 := Lib.hid (((hL0.out.below hb1).below hb2).below hb3)
    have HP3 := Lib.hid (((HP.out.below hb1).below hb2).below hb3)
    have HQ3 := Lib.hid (((HQ.out.below hb1).below hb2).below hb3)
    have hz3 : w.heap.size + 1 < w3.heap.size := HQ3.out.lt
    clear k0 k1 k2
    go_wp2_with fail
    refine (l4Events_any A n c xs t hn HX.out _ HL3.out).mono ?_
    rintro e4 w4 ⟨ga, m, c4, rfl, hm, hEv, hb4⟩
    have HM := Lib.hid hm
    have hqm : q ≤ m := by have := HSH.out; have := HM.out; omega
    have E4 : decide ((m : Int) < (q : Int)) = false := by simp; omega
    have E5 : ¬ (m : Int) < (q : Int) := by omega
    have i0 : (0 : Int) ≤ (q : Int) := by omega
    have i1 : (q : Int) ≤ (m : Int) := by omega
    have hm24 : m ≤ 24 := by have := evOf_length t xs; have := HM.out; have := HX.out; omega
    have hBx : Below w.heap.size w w4 := below_step hb4 hBw
    have HEv := Lib.hid hEv
    have hmc : m ≤ c4 := (owns_cap hEv).2
    have i2 : (q : Int) ≤ (c4 : Int) := by omega
    have i3 : q ≤ c4 := by omega
    have hw1 : IntKind.i64.wrap (q : Int) = (q : Int) := IntWalk.i64_in _ ⟨by omega, by omega⟩
    have hw2 : IntKind.i64.wrap ((q : Int) - 1 + 1) = (q : Int) := by rw [hq1]; exact hw1
    have HLY := Lib.hid (show ys.length = m - q by rw [HYS.out, List.length_drop, HM.out])
    obtain ⟨o', mA, HLP⟩ : ∃ o', (if c4 = q then (some ⟨ga, 0, none⟩ : Option Addr) else some ⟨ga, q * 3, none⟩) = some ⟨ga, o', none⟩ ∧ Hid (Lies w4 3 (some ⟨ga, o', none⟩) (m - q) (ys.flatMap eventCells)) := by
      have h := lies_piece (f := eventCells) (K := 3) (fun x => rfl) HM.out (lies_of_own HEv.out) q (m - q) (by omega)
      rw [← HYS.out, List.take_of_length_le (by rw [HLY.out]; omega)] at h
      by_cases hc : c4 = q
      · refine ⟨0, by rw [if_pos hc], Lib.hid ⟨h.1, fun h0 => ?_⟩⟩
        omega
      · exact ⟨_, by rw [if_neg hc], Lib.hid (by simpa using h)⟩
    have HP4 := Lib.hid (HP3.out.below hb4)
    have HQ4 := Lib.hid (HQ3.out.below hb4)
    obtain ⟨k0, k1, k2, -, -, -⟩ := HP4.out
    have hz4 : w.heap.size + 1 < w4.heap.size := HQ4.out.lt
    have BR := Below.refl w4.heap.size w4
    clear hm hEv hb1 hb2 hb3 hb4 HP3 HQ3 HL3
    go_upto_region 6 with (fail)
    go_cut [10] from 11 (fun u wr => ∃ b6 : Nat, u = .pointer (some ⟨b6, 0, none⟩) ∧ Hid (Box3 wr b6 (.int .i64 v') (.int .i64 s') (.string l')) ∧ Hid (Box3 wr (w.heap.size + 1) (.int .i64 0) (.int .i64 0) (.string ⟨#[]⟩)) ∧ Hid (Box3 wr w.heap.size (.int .i64 ((q : Int) - 1)) (.int .i64 s) (.string l)) ∧ b6 ≠ w.heap.size + 1 ∧ Below w.heap.size w wr)
    case first =>
      go_region_held3 (fun wx => wx.cell? ⟨w.heap.size, 0, none⟩ = some (.int .i64 ((q : Int) - 1)) ∧ wx.cell? ⟨w.heap.size, 1, none⟩ = some (.int .i64 s) ∧ wx.cell? ⟨w.heap.size, 2, none⟩ = some (.string l) ∧ Below w4.heap.size w4 wx) ((go_split_ands; refine ⟨?_, ?_, ?_, ?_⟩ <;> first | assumption | (refine box_cell (by assumption) ?_; assumption) | (refine below_step (by assumption) ?_; assumption) | exact Below.drew (by assumption) | ((repeat' (first | (with_reducible exact Below.refl _ _) | (with_reducible assumption) | (with_reducible refine below_step (by assumption) ?_) | (with_reducible refine below_alloc ?_ _) | (with_reducible refine Below.drew ?_) | (with_reducible refine below_drewN ?_ _) | (with_reducible refine Below.setCell ?_ ?_ _) | go_size)); done) | (refine box_cell (W := w4) ?_ k0; (repeat' (first | (with_reducible exact Below.refl _ _) | (with_reducible assumption) | (with_reducible refine below_step (by assumption) ?_) | (with_reducible refine below_alloc ?_ _) | (with_reducible refine Below.drew ?_) | (with_reducible refine below_drewN ?_ _) | (with_reducible refine Below.setCell ?_ ?_ _) | go_size)); done) | (refine box_cell (W := w4) ?_ k1; (repeat' (first | (with_reducible exact Below.refl _ _) | (with_reducible assumption) | (with_reducible refine below_step (by assumption) ?_) | (with_reducible refine below_alloc ?_ _) | (with_reducible refine Below.drew ?_) | (with_reducible refine below_drewN ?_ _) | (with_reducible refine Below.setCell ?_ ?_ _) | go_size)); done) | (refine box_cell (W := w4) ?_ k2; (repeat' (first | (with_reducible exact Below.refl _ _) | (with_reducible assumption) | (with_reducible refine below_step (by assumption) ?_) | (with_reducible refine below_alloc ?_ _) | (with_reducible refine Below.drew ?_) | (with_reducible refine below_drewN ?_ _) | (with_reducible refine Below.setCell ?_ ?_ _) | go_size)); done)))
        (first
          | (go_at_call 49; go_split_ands; refine (l21On_any ((q : Int) - 1, s, l) (some ⟨ga, o', none⟩) (m - q) _ ys HLY.out (by omega) HFB.out HA.out _ (HLP.out.below (show Below w4.heap.size w4 _ by assumption))).mono ?_; rintro e5 w5 ⟨rfl, hb5⟩; rw [← HG.out]; have BW5 : Below w4.heap.size w4 w5 := below_step hb5 (show Below w4.heap.size w4 _ by assumption); obtain ⟨q1, q2, q3⟩ := bcell hb5))
      all_goals
        have hz5 := BW5.size
        have hne0 : w.heap.size ≠ w4.heap.size := by omega
        have hne1 : w.heap.size + 1 ≠ w4.heap.size := by omega
        have hBy := below_step BW5 hBx
        have HQ5 := HQ4.out.below BW5
        have HP5 := HP4.out.below BW5
        go_wp2
        go_meet
        case rel =>
          first
            | exact ⟨_, rfl, Lib.hid (Box3.new _ _ _ _ _), Lib.hid (HQ5.below (below_alloc (Below.refl _ _) _)), Lib.hid (HP5.below (below_alloc (Below.refl _ _) _)), by omega, below_alloc hBy _⟩
            | (have hR6 : RowIs w5 w4.heap.size 42 [.int .i64 0, .int .i64 0, .string ⟨#[]⟩] := RowIs.below (by exact RowIs.new w4 #[.int .i64 0, .int .i64 0, .string ⟨#[]⟩] 42) hb5
               exact ⟨_, rfl, Lib.hid (box3_row (((hR6.set 0 _).set 1 _).set 2 _)), Lib.hid (((HQ5.setOther hne1 _).setOther hne1 _).setOther hne1 _), Lib.hid (((HP5.setOther hne0 _).setOther hne0 _).setOther hne0 _), fun e => hne1 e.symm, ((hBy.setCell (by show w.heap.size ≤ w4.heap.size; omega) _).setCell (by show w.heap.size ≤ w4.heap.size; omega) _).setCell (by show w.heap.size ≤ w4.heap.size; omega) _⟩)
    case rest =>
      obtain ⟨b6, rfl, HB6, HQ6, HP6, hne6, hB6⟩ := hcut
      obtain ⟨r0, r1, r2, -, -, -⟩ := HB6.out
      try rw [HM.out] at HE
      go_wp2_with fail
      refine (specFold_any _ _ _ HV'.out hl' _).mono ?_
      rintro e7 w7 ⟨rfl, hb7⟩
      rw [E6]
      obtain ⟨r0, r1, r2, -, -, -⟩ := HB6.out.below hb7
      obtain ⟨a0, a1, a2, f0, f1, f2⟩ := HQ6.out.below hb7
      obtain ⟨k0, k1, k2, -, -, -⟩ := HP6.out.below hb7
      have hB7 : Below w.heap.size w w7 := below_step hb7 hB6
      first
        | (go_wp2
           refine bodyPost_ret (v := fsV (foldStr xs t ((q : Int) - 1, s, l))) (by rw [HE.out]; simp [results, Tryd.results20, go_sem, fsV, fsZero, fdZero, *]; try rfl) rfl ⟨rfl, ?_⟩
           exact (by repeat' (first | (with_reducible exact Below.refl _ _) | (with_reducible assumption) | (with_reducible refine below_step (by assumption) ?_) | (with_reducible refine below_alloc ?_ _) | (with_reducible refine Below.drew ?_) | (with_reducible refine below_drewN ?_ _) | (with_reducible refine Below.setCell ?_ ?_ _) | go_size)))
        | (go_wp2_with fail
           go_region
           all_goals
             go_wp2
             refine bodyPost_ret (v := fsV (foldStr xs t ((q : Int) - 1, s, l))) (by rw [HE.out]; simp [results, Tryd.results20, go_sem, fsV, *]; try rfl) rfl ⟨rfl, ?_⟩
             exact (by repeat' (first | (with_reducible exact Below.refl _ _) | (with_reducible assumption) | (with_reducible refine below_step (by assumption) ?_) | (with_reducible refine below_alloc ?_ _) | (with_reducible refine Below.drew ?_) | (with_reducible refine below_drewN ?_ _) | (with_reducible refine Below.setCell ?_ ?_ _) | go_size)))
end Go.Proofs.YtcccidlfigfibaaDoor
