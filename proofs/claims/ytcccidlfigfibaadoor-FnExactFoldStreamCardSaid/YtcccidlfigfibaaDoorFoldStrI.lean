/-
  A fold over a stream: what the program's function returns. No condition beyond what the rows list.
-/
import Derived.Test.YtcccidlfigfibaaDoorFoldStr
namespace Go.Proofs.YtcccidlfigfibaaDoor
open Go.ChangeShapes Go.WideShapes Go.ChangeAt Go.RowKit

theorem ver_str {xs : List EnT} {t : ByteArray} {m : Nat} (h1 : storeB xs = true) (h2 : nameB t = true) (hm : (evOf t xs).length = m) : storeVer xs t = (m : Int) - 1 := by rw [ver_yes h1 h2, hm]
theorem read_str {xs : List EnT} {t : ByteArray} {q : Nat} (h1 : storeB xs = true) (h2 : nameB t = true) (hq : q ≤ 24) : readL xs t (q : Int) 99 = (evOf t xs).drop q := by
  rw [read_yes h1 h2 (inB_iff.2 ⟨by omega, by omega⟩) (by decide)]
  have hl : xs.length ≤ 24 := ((store_iff xs).1 h1).1
  have := evOf_length t xs
  show ((evOf t xs).drop q).take 99 = _
  exact List.take_of_length_le (by rw [List.length_drop]; omega)
theorem on_str {f : Fd} {ys : List EvT} (h1 : foldB f.1 f.2.1 f.2.2 = true) (h2 : eventsB ys = true) : foldOn f ys = (if foldB (foldOver f ys).1 (foldOver f ys).2.1 (foldOver f ys).2.2 then (foldOver f ys, true) else (fdZero, false)) := by unfold foldOn; rw [h1, h2]; rfl

set_option maxHeartbeats 12800000 in
theorem implFoldStr_any (A : Option Addr) (n c : Nat) (xs : List EnT) (t : ByteArray) (f : Fd) (hn : n ≤ 1048576) (hx : xs.length = n) (hok : StOk xs) (ht : t.size ≤ 1048576) (hf : IntOk f.1) (hl : StrOk f.2.2) (w : World) (a : Addr) (hS : Sent a w) (hM : MaxL w) (hL : Lies w 4 A n (xs.flatMap entryCells)) :
    Calls Tryd.prog 22 #[.slice A n c, .string t, .agg #[.int .i64 f.1, .int .i64 f.2.1, .string f.2.2]] w fun e w' => e = .returned (fsV (foldStr xs t f)) ∧ Below w.heap.size w w' := by
  obtain ⟨v, s, l⟩ := f
  have HX := Lib.hid hx
  obtain ⟨w0, hw0⟩ : ∃ w0, w0 = (w.alloc (.cells #[.int .i64 v, .int .i64 s, .string l] 42)).alloc (.cells #[.int .i64 0, .int .i64 0, .string ⟨#[]⟩] 42) := ⟨_, rfl⟩
  have B0 : Below w.heap.size w w0 := by rw [hw0]; exact below_alloc (below_alloc (Below.refl _ _) _) _
  have hp : Box3 w0 w.heap.size (.int .i64 v) (.int .i64 s) (.string l) := by rw [hw0]; exact (Box3.new w _ _ _ _).below (below_alloc (Below.refl _ _) _)
  have hq : Box3 w0 (w.heap.size + 1) (.int .i64 0) (.int .i64 0) (.string ⟨#[]⟩) := by rw [hw0]; have h := Box3.new (w.alloc (.cells #[.int .i64 v, .int .i64 s, .string l] 42)) 42 (.int .i64 0) (.int .i64 0) (.string ⟨#[]⟩); rw [World.size_alloc] at h; exact h
  have HW0 := Lib.hid hw0
  have HP := Lib.hid hp
  have HQ := Lib.hid hq
  have hL0 := Lib.hid (hL.below B0)
  have hS0 := hS.below B0 (Nat.le_refl _)
  have hM0 := hM.below B0
  have hzS : w0.heap.size ≤ w0.heap.size := Nat.le_refl _
  clear hw0 hL hx hq
  have p0 := After.cell hp.1
  have p1 := After.cell hp.2.1
  have p2 := After.cell hp.2.2.1
  obtain ⟨u0, u1, u2, -, -, -⟩ := hp
  cases E1 : storeB xs
  · have HE : Hid (foldStr xs t (v, s, l) = fsZero) := Lib.hid (foldStr_no (by rw [E1]; rfl))
    go_enter Tryd.func22, Tryd.ntmps22
    go_wp2_with fail
    rw [← HW0.out]
    refine wp_region_after (by kernel_rfl) (by kernel_rfl) ?_
    repeat (go_big_quiet_step (((go_at_call 38; exact after_bool E1 (implStore_any A n c xs hn HX.out hok.small hok.ints _ a (hS0.below (After.h _) hzS) (hM0.below (After.h _)) (hL0.out.below (After.h _)))))))
    refine wpQuiet_nil ?_
    intro wn hw'
    have hwn := after_below hw'
    clear hw'
    obtain ⟨a0, a1, a2, f0, f1, f2⟩ := HQ.out.below hwn
    have hBw : Below w.heap.size w wn := below_step hwn B0
    clear p0 p1 p2 u0 u1 u2
    go_wp2
    refine bodyPost_ret (v := fsV (foldStr xs t (v, s, l))) (by rw [HE.out]; simp [results, Tryd.results22, go_sem, fsV, fsZero, fdZero, *]; try rfl) rfl ⟨rfl, ?_⟩
    exact (by repeat' (first | (with_reducible exact Below.refl _ _) | (with_reducible assumption) | (with_reducible refine below_step (by assumption) ?_) | (with_reducible refine below_alloc ?_ _) | (with_reducible refine Below.drew ?_) | (with_reducible refine below_drewN ?_ _) | (with_reducible refine Below.setCell ?_ ?_ _) | go_size))
  cases E2 : nameB t
  · have HE : Hid (foldStr xs t (v, s, l) = fsZero) := Lib.hid (foldStr_no (by rw [E1, E2]; rfl))
    go_enter Tryd.func22, Tryd.ntmps22
    go_wp2_with fail
    rw [← HW0.out]
    refine wp_region_after (by kernel_rfl) (by kernel_rfl) ?_
    repeat (go_big_quiet_step ((first | (go_at_call 38; exact after_bool E1 (implStore_any A n c xs hn HX.out hok.small hok.ints _ a (hS0.below (After.h _) hzS) (hM0.below (After.h _)) (hL0.out.below (After.h _)))) | (go_at_call 50; exact after_bool E2 (implNameValid_any t ht a _ (hS0.below (After.h _) hzS) (hM0.below (After.h _)))))))
    refine wpQuiet_nil ?_
    intro wn hw'
    have hwn := after_below hw'
    clear hw'
    obtain ⟨a0, a1, a2, f0, f1, f2⟩ := HQ.out.below hwn
    have hBw : Below w.heap.size w wn := below_step hwn B0
    clear p0 p1 p2 u0 u1 u2
    go_wp2
    refine bodyPost_ret (v := fsV (foldStr xs t (v, s, l))) (by rw [HE.out]; simp [results, Tryd.results22, go_sem, fsV, fsZero, fdZero, *]; try rfl) rfl ⟨rfl, ?_⟩
    exact (by repeat' (first | (with_reducible exact Below.refl _ _) | (with_reducible assumption) | (with_reducible refine below_step (by assumption) ?_) | (with_reducible refine below_alloc ?_ _) | (with_reducible refine Below.drew ?_) | (with_reducible refine below_drewN ?_ _) | (with_reducible refine Below.setCell ?_ ?_ _) | go_size))
  cases E3 : foldB v s l
  · have HE : Hid (foldStr xs t (v, s, l) = fsZero) := Lib.hid (foldStr_no (by simp only [E1, E2, E3]; rfl))
    go_enter Tryd.func22, Tryd.ntmps22
    go_wp2_with fail
    rw [← HW0.out]
    refine wp_region_after (by kernel_rfl) (by kernel_rfl) ?_
    repeat (go_big_quiet_step ((first | (go_at_call 38; exact after_bool E1 (implStore_any A n c xs hn HX.out hok.small hok.ints _ a (hS0.below (After.h _) hzS) (hM0.below (After.h _)) (hL0.out.below (After.h _)))) | (go_at_call 50; exact after_bool E2 (implNameValid_any t ht a _ (hS0.below (After.h _) hzS) (hM0.below (After.h _)))) | (go_at_call 51; exact after_bool E3 (implFold_any _ _ _ hf hl _)))))
    refine wpQuiet_nil ?_
    intro wn hw'
    have hwn := after_below hw'
    clear hw'
    obtain ⟨a0, a1, a2, f0, f1, f2⟩ := HQ.out.below hwn
    have hBw : Below w.heap.size w wn := below_step hwn B0
    clear p0 p1 p2 u0 u1 u2
    go_wp2
    refine bodyPost_ret (v := fsV (foldStr xs t (v, s, l))) (by rw [HE.out]; simp [results, Tryd.results22, go_sem, fsV, fsZero, fdZero, *]; try rfl) rfl ⟨rfl, ?_⟩
    exact (by repeat' (first | (with_reducible exact Below.refl _ _) | (with_reducible assumption) | (with_reducible refine below_step (by assumption) ?_) | (with_reducible refine below_alloc ?_ _) | (with_reducible refine Below.drew ?_) | (with_reducible refine below_drewN ?_ _) | (with_reducible refine Below.setCell ?_ ?_ _) | go_size))
  have hfb := fold_bounds (f := (v, s, l)) E3
  obtain ⟨⟨fb1, fb2⟩, fb3, fb4⟩ := hfb
  simp only at fb1 fb2 fb3 fb4
  obtain ⟨q, hqv⟩ := Int.eq_ofNat_of_zero_le (show (0 : Int) ≤ v + 1 by omega)
  have hq24 : q ≤ 24 := by omega
  have hn24 : n ≤ 24 := by have := ((store_iff xs).1 E1).1; have := HX.out; omega
  obtain rfl : v = (q : Int) - 1 := by omega
  have hq1 : ((q : Int) - 1 + 1) = (q : Int) := by omega
  obtain ⟨m, hm⟩ : ∃ m, (evOf t xs).length = m := ⟨_, rfl⟩
  have hm24 : m ≤ 24 := by have := evOf_length t xs; have := HX.out; omega
  have HVER := Lib.hid (ver_str E1 E2 hm)
  have HM := Lib.hid hm
  clear hqv hm
  by_cases hsh : (m : Int) - 1 < (q : Int) - 1
  · have HE : Hid (foldStr xs t ((q : Int) - 1, s, l) = fsZero) := Lib.hid (foldStr_short (by show ((evOf t xs).length : Int) < (q : Int) - 1 + 1; rw [HM.out]; omega))
    have E4 : decide ((m : Int) - 1 < (q : Int) - 1) = true := by simp; omega
    have E5 : m < q := by omega
    clear hsh
    go_enter Tryd.func22, Tryd.ntmps22
    go_wp2_with fail
    rw [← HW0.out]
    refine wp_region_after (by kernel_rfl) (by kernel_rfl) ?_
    repeat (go_big_quiet_step ((first | (go_at_call 38; exact after_bool E1 (implStore_any A n c xs hn HX.out hok.small hok.ints _ a (hS0.below (After.h _) hzS) (hM0.below (After.h _)) (hL0.out.below (After.h _)))) | (go_at_call 50; exact after_bool E2 (implNameValid_any t ht a _ (hS0.below (After.h _) hzS) (hM0.below (After.h _)))) | (go_at_call 51; exact after_bool E3 (implFold_any _ _ _ hf hl _)) | (go_at_call 52; exact after_call (v := .int .i64 ((m : Int) - 1)) (by rw [← HVER.out]; exact implVer_any A n c xs t hn HX.out hok ht _ a (hS0.below (After.h _) hzS) (hM0.below (After.h _)) (hL0.out.below (After.h _)))))))
    refine wpQuiet_nil ?_
    intro wn hw'
    have hwn := after_below hw'
    clear hw'
    obtain ⟨a0, a1, a2, f0, f1, f2⟩ := HQ.out.below hwn
    have hBw : Below w.heap.size w wn := below_step hwn B0
    clear p0 p1 p2 u0 u1 u2
    go_wp2
    refine bodyPost_ret (v := fsV (foldStr xs t ((q : Int) - 1, s, l))) (by rw [HE.out]; simp [results, Tryd.results22, go_sem, fsV, fsZero, fdZero, *]; try rfl) rfl ⟨rfl, ?_⟩
    exact (by repeat' (first | (with_reducible exact Below.refl _ _) | (with_reducible assumption) | (with_reducible refine below_step (by assumption) ?_) | (with_reducible refine below_alloc ?_ _) | (with_reducible refine Below.drew ?_) | (with_reducible refine below_drewN ?_ _) | (with_reducible refine Below.setCell ?_ ?_ _) | go_size))
  have hqm : q ≤ m := by omega
  have E4 : decide ((m : Int) - 1 < (q : Int) - 1) = false := by simp; omega
  have E5 : ¬ m < q := by omega
  obtain ⟨ys, hys⟩ : ∃ ys, ys = (evOf t xs).drop q := ⟨_, rfl⟩
  obtain ⟨⟨v', s', l'⟩, hg⟩ : ∃ g, g = foldOver ((q : Int) - 1, s, l) ys := ⟨_, rfl⟩
  have HE0 := Lib.hid (foldStr_yes (f := ((q : Int) - 1, s, l)) E1 E2 E3 (by show ¬ ((evOf t xs).length : Int) < (q : Int) - 1 + 1; rw [HM.out]; omega) hq1)
  have HON := Lib.hid (on_str (f := ((q : Int) - 1, s, l)) E3 (by rw [hys]; exact events_drop (stream_ok E1 t) q : eventsB ys = true))
  have HRD := Lib.hid (read_str E1 E2 hq24)
  rw [← hys, ← hg, HM.out] at HE0
  rw [← hg] at HON
  rw [← hys] at HRD
  have HYO := Lib.hid (show ∀ y ∈ ys, eventOk y by rw [hys]; exact fun y hy => hok.evs t y (List.mem_of_mem_drop hy))
  have HLY := Lib.hid (show ys.length = m - q by rw [hys, List.length_drop, HM.out])
  have hrm : ((m - q : Nat) : Int) = (m : Int) - ((q : Int) - 1) - 1 := by omega
  have HRM := Lib.hid hrm
  have hq9 : (q : Int) ≤ 24 := by omega
  clear hg hys hsh hrm
  cases E6 : foldB v' s' l'
  all_goals
    have HE := HE0
    have HO := HON
    simp only [E6, Bool.false_eq_true, if_false, if_true] at HE HO
    go_enter Tryd.func22, Tryd.ntmps22
    go_wp2_with fail
    rw [← HW0.out]
    refine wp_region_after (by kernel_rfl) (by kernel_rfl) ?_
    repeat (go_big_quiet_step ((first | (go_at_call 38; exact after_bool E1 (implStore_any A n c xs hn HX.out hok.small hok.ints _ a (hS0.below (After.h _) hzS) (hM0.below (After.h _)) (hL0.out.below (After.h _)))) | (go_at_call 50; exact after_bool E2 (implNameValid_any t ht a _ (hS0.below (After.h _) hzS) (hM0.below (After.h _)))) | (go_at_call 51; exact after_bool E3 (implFold_any _ _ _ hf hl _)) | (go_at_call 52; exact after_call (v := .int .i64 ((m : Int) - 1)) (by rw [← HVER.out]; exact implVer_any A n c xs t hn HX.out hok ht _ a (hS0.below (After.h _) hzS) (hM0.below (After.h _)) (hL0.out.below (After.h _)))))))
    refine wpQuiet_nil ?_
    intro wn hw'
    have hwn := after_below hw'
    clear hw'
    have HQn := Lib.hid (HQ.out.below hwn)
    have HPn := Lib.hid (HP.out.below hwn)
    obtain ⟨k0, k1, k2, -, -, -⟩ := HPn.out
    have hBw : Below w.heap.size w wn := below_step hwn B0
    have HLn := Lib.hid (hL0.out.below hwn)
    clear p0 p1 p2 u0 u1 u2
    go_wp2_with fail
    refine (implRead_any A n c xs t (q : Int) 99 hn HX.out hok ht _ a (hS.below hBw (Nat.le_refl _)) (hM.below hBw) HLn.out).mono ?_
    rintro e5 w5 ⟨g5, k5, c5, rfl, hl5, ho5, hb5⟩
    rw [HRD.out] at hl5 ho5
    obtain rfl : k5 = m - q := by have := HLY.out; omega
    have HO5 := Lib.hid ho5
    have HQ5 := Lib.hid (HQn.out.below hb5)
    obtain ⟨k0, k1, k2, -, -, -⟩ := HPn.out.below hb5
    have hB5 : Below w.heap.size w w5 := below_step hb5 hBw
    clear hl5 ho5
    go_wp2_with fail
    refine (implFoldOn_any ((q : Int) - 1, s, l) hf hl _ _ _ ys (by omega) (owns_cap HO5.out).2 HLY.out HYO.out _ (lies_of_own HO5.out)).mono ?_
    rintro e6 w6 ⟨rfl, hb6⟩
    rw [HO.out]
    unfold fdV
    have HQ6 := Lib.hid (HQ5.out.below hb6)
    have hB6 : Below w.heap.size w w6 := below_step hb6 hB5
    obtain ⟨a0, a1, a2, f0, f1, f2⟩ := HQ6.out
    have hz6 : w.heap.size + 1 < w6.heap.size := HQ6.out.lt
    try rw [← HRM.out] at HE
    go_wp2
    refine bodyPost_ret (v := fsV (foldStr xs t ((q : Int) - 1, s, l))) (by rw [HE.out]; simp [results, Tryd.results22, go_sem, fsV, fsZero, fdZero, *]; try rfl) rfl ⟨rfl, ?_⟩
    exact (by repeat' (first | (with_reducible exact Below.refl _ _) | (with_reducible assumption) | (with_reducible refine below_step (by assumption) ?_) | (with_reducible refine below_alloc ?_ _) | (with_reducible refine Below.drew ?_) | (with_reducible refine below_drewN ?_ _) | (with_reducible refine Below.setCell ?_ ?_ _) | go_size))

theorem specFoldStr_at (lo hi : Nat) (v : Value) (xs : List EnT) (t : ByteArray) (f : Fd) (hok : StOk xs) (ht : t.size ≤ 1048576) (hf : IntOk f.1) (hl : StrOk f.2.2) (w : World) (h : entrySAt w lo hi v xs) :
    Calls Tryd.prog 20 #[v, .string t, .agg #[.int .i64 f.1, .int .i64 f.2.1, .string f.2.2]] w fun e w' => e = .returned (fsV (foldStr xs t f)) ∧ Below w.heap.size w w' := by
  obtain ⟨g, m, c, rfl, hx, hb, _, _, ho⟩ := h.open
  exact specFoldStr_any _ _ _ xs t f hb hx hok ht hf hl w (lies_of_own ho)
theorem implFoldStr_at (lo hi : Nat) (v : Value) (xs : List EnT) (t : ByteArray) (f : Fd) (hok : StOk xs) (ht : t.size ≤ 1048576) (hf : IntOk f.1) (hl : StrOk f.2.2) (w : World) (a : Addr) (hS : Sent a w) (hM : MaxL w) (h : entrySAt w lo hi v xs) :
    Calls Tryd.prog 22 #[v, .string t, .agg #[.int .i64 f.1, .int .i64 f.2.1, .string f.2.2]] w fun e w' => e = .returned (fsV (foldStr xs t f)) ∧ Below w.heap.size w w' := by
  obtain ⟨g, m, c, rfl, hx, hb, _, _, ho⟩ := h.open
  exact implFoldStr_any _ _ _ xs t f hb hx hok ht hf hl w a hS hM (lies_of_own ho)
theorem specFoldStr_as (lo hi : Nat) (v : Value) (xs : List EnT) (t : ByteArray) (f : Fd) (d0 d1 : Int) (d2 : ByteArray) (k : Int) (b : Bool) (hr : foldStr xs t f = ((d0, d1, d2), k, b)) (hok : StOk xs) (ht : t.size ≤ 1048576) (hf : IntOk f.1) (hl : StrOk f.2.2) (w : World) (h : entrySAt w lo hi v xs) :
    Calls Tryd.prog 20 #[v, .string t, .agg #[.int .i64 f.1, .int .i64 f.2.1, .string f.2.2]] w fun e w' => e = .returned (.tuple #[.agg #[.int .i64 d0, .int .i64 d1, .string d2], .int .i64 k, .bool b]) ∧ Below w.heap.size w w' := by
  have h2 := specFoldStr_at lo hi v xs t f hok ht hf hl w h
  rw [hr] at h2
  exact h2
theorem implFoldStr_as (lo hi : Nat) (v : Value) (xs : List EnT) (t : ByteArray) (f : Fd) (d0 d1 : Int) (d2 : ByteArray) (k : Int) (b : Bool) (hr : foldStr xs t f = ((d0, d1, d2), k, b)) (hok : StOk xs) (ht : t.size ≤ 1048576) (hf : IntOk f.1) (hl : StrOk f.2.2) (w : World) (a : Addr) (hS : Sent a w) (hM : MaxL w) (h : entrySAt w lo hi v xs) :
    Calls Tryd.prog 22 #[v, .string t, .agg #[.int .i64 f.1, .int .i64 f.2.1, .string f.2.2]] w fun e w' => e = .returned (.tuple #[.agg #[.int .i64 d0, .int .i64 d1, .string d2], .int .i64 k, .bool b]) ∧ Below w.heap.size w w' := by
  have h2 := implFoldStr_at lo hi v xs t f hok ht hf hl w a hS hM h
  rw [hr] at h2
  exact h2
end Go.Proofs.YtcccidlfigfibaaDoor
