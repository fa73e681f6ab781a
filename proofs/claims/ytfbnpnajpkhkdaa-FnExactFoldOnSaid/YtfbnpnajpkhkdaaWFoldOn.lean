/-
  FnExactFoldOn returns true at every fold and every slice of events: the program's FoldOn is the reference's, and leaves its arguments as they were. No condition.
-/
import Derived.Test.YtfbnpnajpkhkdaaFoldF
import Derived.Test.YtfbnpnajpkhkdaaEFold
import Derived.Test.YtfbnpnajpkhkdaaEEvent
namespace Go.Proofs.Ytfbnpnajpkhkdaa.lawFoldOn
open Go.ChangeShapes Go.WideShapes Go.ChangeAt Go.RowKit

set_option maxHeartbeats 3200000 in
theorem walk (w : World) (v : Int) (hv : IntOk v) (s : Int) (_hs : IntOk s) (l : ByteArray) (hl : StrOk l) (A : Option Addr) (n c : Nat) (xs : List (Int × ByteArray × Int)) (hnc : n ≤ c) (hcm : c ≤ maxLen) (hx : xs.length = n) (hL : Lies w 3 A n (xs.flatMap eventCells)) (hok : ∀ x ∈ xs, eventOk x) :
    Calls Try.prog 5 #[.agg #[.int .i64 v, .int .i64 s, .string l], .slice A n c] w fun e w' => e = .returned (.bool true) ∧ Below w.heap.size w w' := by
  have hm : n ≤ maxLen := Nat.le_trans hnc hcm
  have HX := Lib.hid hx
  have HK := Lib.hid hok
  have HL := Lib.hid hL
  have HV := Lib.hid hv
  clear hx hok hL hv
  by_cases cl : (1048576 : Int) < l.size
  · have e : Hid (szN 1048576 l.size = -1) := Lib.hid (by unfold szN; rw [if_pos cl])
    go_enter Try.func5, Try.ntmps5
    go_wp2_with fail
    refine (szFold_any _ _ _ _ (by omega) (by omega) hl _).mono ?_
    rintro e1 w1 ⟨rfl, hb1⟩
    rw [e.out]
    go_wp2
    go_ret
    exact ⟨rfl, (by repeat' (first | (with_reducible exact Below.refl _ _) | (with_reducible assumption) | (with_reducible refine below_step (by assumption) ?_) | (with_reducible refine below_alloc ?_ _) | (with_reducible refine Below.drew ?_) | (with_reducible refine below_drewN ?_ _) | (with_reducible refine Below.setCell ?_ ?_ _) | go_size))⟩
  have el : szN 1048576 l.size = 1048576 - l.size := by unfold szN; rw [if_neg cl]
  obtain ⟨left, hleft⟩ : ∃ left : Int, left = 1048576 - l.size := ⟨_, rfl⟩
  rw [← hleft] at el
  have hl0 : 0 ≤ left := by omega
  have hl1 : left ≤ 1048576 := by omega
  have EL := Lib.hid el
  clear el hleft cl
  by_cases c0 : szR left n (xs.flatMap eventTexts) < 0
  · have e : szR left n (xs.flatMap eventTexts) = -1 := szR_neg c0
    clear c0
    go_enter Try.func5, Try.ntmps5
    go_wp2_with fail
    refine (szFold_any _ _ _ _ (by omega) (by omega) hl _).mono ?_
    rintro e1 w1 ⟨rfl, hb1⟩
    rw [EL.out]
    have B1 : Below w.heap.size w w1 := (by repeat' (first | (with_reducible exact Below.refl _ _) | (with_reducible assumption) | (with_reducible refine below_step (by assumption) ?_) | (with_reducible refine below_alloc ?_ _) | (with_reducible refine Below.drew ?_) | (with_reducible refine below_drewN ?_ _) | (with_reducible refine Below.setCell ?_ ?_ _) | go_size))
    go_wp2_with fail
    refine (szEventS_any _ _ _ hm xs HX.out HK.out _ hl0 hl1 _ (HL.out.below B1)).mono ?_
    rintro e1 w2 ⟨rfl, hb2⟩
    rw [e]
    go_wp2
    go_ret
    exact ⟨rfl, (by repeat' (first | (with_reducible exact Below.refl _ _) | (with_reducible assumption) | (with_reducible refine below_step (by assumption) ?_) | (with_reducible refine below_alloc ?_ _) | (with_reducible refine Below.drew ?_) | (with_reducible refine below_drewN ?_ _) | (with_reducible refine Below.setCell ?_ ?_ _) | go_size))⟩
  · have hn : n ≤ 1048576 := szR_len_of hl1 c0
    have c1 : 0 ≤ szR left n (xs.flatMap eventTexts) := by omega
    obtain ⟨r, hr⟩ : ∃ r, r = szR left n (xs.flatMap eventTexts) := ⟨_, rfl⟩
    rw [← hr] at c1
    have HR := Lib.hid hr
    clear c0 hr
    go_enter Try.func5, Try.ntmps5
    go_wp2_with fail
    refine (szFold_any _ _ _ _ (by omega) (by omega) hl _).mono ?_
    rintro e1 w1 ⟨rfl, hb1⟩
    rw [EL.out]
    have B1 : Below w.heap.size w w1 := (by repeat' (first | (with_reducible exact Below.refl _ _) | (with_reducible assumption) | (with_reducible refine below_step (by assumption) ?_) | (with_reducible refine below_alloc ?_ _) | (with_reducible refine Below.drew ?_) | (with_reducible refine below_drewN ?_ _) | (with_reducible refine Below.setCell ?_ ?_ _) | go_size))
    have c0 := box_cell hb1 (b := w.heap.size) (o := 0) (u := .int .i64 v) (by first | assumption | exact box_cell (below_alloc (Below.refl _ _) _) (by assumption) | go_cell); have c1 := box_cell hb1 (b := w.heap.size) (o := 1) (u := .int .i64 s) (by first | assumption | exact box_cell (below_alloc (Below.refl _ _) _) (by assumption) | go_cell); have c2 := box_cell hb1 (b := w.heap.size) (o := 2) (u := .string l) (by first | assumption | exact box_cell (below_alloc (Below.refl _ _) _) (by assumption) | go_cell)
    go_wp2_with fail
    refine (szEventS_any _ _ _ hm xs HX.out HK.out _ hl0 hl1 _ (HL.out.below B1)).mono ?_
    rintro e1 w2 ⟨rfl, hb1⟩
    rw [← HR.out]
    have c0 := box_cell hb1 (b := w.heap.size) (o := 0) (u := .int .i64 v) (by first | assumption | exact box_cell (below_alloc (Below.refl _ _) _) (by assumption) | go_cell); have c1 := box_cell hb1 (b := w.heap.size) (o := 1) (u := .int .i64 s) (by first | assumption | exact box_cell (below_alloc (Below.refl _ _) _) (by assumption) | go_cell); have c2 := box_cell hb1 (b := w.heap.size) (o := 2) (u := .string l) (by first | assumption | exact box_cell (below_alloc (Below.refl _ _) _) (by assumption) | go_cell)
    have B2 : Below w.heap.size w w2 := below_step hb1 B1
    go_wp2_with fail
    refine (toFold_any _ _ _ _).mono ?_
    rintro e1 w2' ⟨rfl, hb1⟩
    have c0 := box_cell hb1 (b := w.heap.size) (o := 0) (u := .int .i64 v) (by first | assumption | exact box_cell (below_alloc (Below.refl _ _) _) (by assumption) | go_cell); have c1 := box_cell hb1 (b := w.heap.size) (o := 1) (u := .int .i64 s) (by first | assumption | exact box_cell (below_alloc (Below.refl _ _) _) (by assumption) | go_cell); have c2 := box_cell hb1 (b := w.heap.size) (o := 2) (u := .string l) (by first | assumption | exact box_cell (below_alloc (Below.refl _ _) _) (by assumption) | go_cell)
    have B2' : Below w.heap.size w w2' := below_step hb1 B2
    go_wp2_with fail
    refine (toEventS_any A n c xs hn HX.out _ (HL.out.below B2')).mono ?_
    rintro e1 w2'' ⟨g2, rfl, o2, hb1⟩
    have HO := Lib.hid o2
    have c0 := box_cell hb1 (b := w.heap.size) (o := 0) (u := .int .i64 v) (by first | assumption | exact box_cell (below_alloc (Below.refl _ _) _) (by assumption) | go_cell); have c1 := box_cell hb1 (b := w.heap.size) (o := 1) (u := .int .i64 s) (by first | assumption | exact box_cell (below_alloc (Below.refl _ _) _) (by assumption) | go_cell); have c2 := box_cell hb1 (b := w.heap.size) (o := 2) (u := .string l) (by first | assumption | exact box_cell (below_alloc (Below.refl _ _) _) (by assumption) | go_cell)
    have B2'' : Below w.heap.size w w2'' := below_step hb1 B2'
    clear o2
    go_wp2_with fail
    refine (specFoldOn_any (v, s, l) HV.out hl _ _ _ xs hn HX.out HK.out _ (lies_of_own HO.out)).mono ?_
    rintro e1 w3 ⟨rfl, hb1⟩
    clear HO
    have c0 := box_cell hb1 (b := w.heap.size) (o := 0) (u := .int .i64 v) (by first | assumption | exact box_cell (below_alloc (Below.refl _ _) _) (by assumption) | go_cell); have c1 := box_cell hb1 (b := w.heap.size) (o := 1) (u := .int .i64 s) (by first | assumption | exact box_cell (below_alloc (Below.refl _ _) _) (by assumption) | go_cell); have c2 := box_cell hb1 (b := w.heap.size) (o := 2) (u := .string l) (by first | assumption | exact box_cell (below_alloc (Below.refl _ _) _) (by assumption) | go_cell)
    obtain ⟨R, hR⟩ : ∃ R, R = foldOn (v, s, l) xs := ⟨_, rfl⟩
    rw [← hR]
    have HRR := Lib.hid hR
    clear hR
    obtain ⟨⟨r0, r1, r2⟩, r3⟩ := R
    have B3 : Below w.heap.size w w3 := below_step hb1 B2''
    unfold fdV
    go_wp2_with fail
    refine (toEventS_any A n c xs hn HX.out _ (HL.out.below (below_alloc B3 _))).mono ?_
    rintro e1 w4' ⟨g4, rfl, o4, hb1⟩
    have HO' := Lib.hid o4
    have m0' := box_cell hb1 (b := w3.heap.size) (o := 0) (u := .int .i64 r0) (by go_cell)
    have m1' := box_cell hb1 (b := w3.heap.size) (o := 1) (u := .int .i64 r1) (by go_cell)
    have m2' := box_cell hb1 (b := w3.heap.size) (o := 2) (u := .string r2) (by go_cell)
    have B4' : Below w.heap.size w w4' := below_step hb1 (below_alloc B3 _)
    have c0 := box_cell hb1 (b := w.heap.size) (o := 0) (u := .int .i64 v) (by first | assumption | exact box_cell (below_alloc (Below.refl _ _) _) (by assumption) | go_cell); have c1 := box_cell hb1 (b := w.heap.size) (o := 1) (u := .int .i64 s) (by first | assumption | exact box_cell (below_alloc (Below.refl _ _) _) (by assumption) | go_cell); have c2 := box_cell hb1 (b := w.heap.size) (o := 2) (u := .string l) (by first | assumption | exact box_cell (below_alloc (Below.refl _ _) _) (by assumption) | go_cell)
    clear o4
    go_wp2_with fail
    refine (toFold_any _ _ _ _).mono ?_
    rintro e1 w4 ⟨rfl, b4⟩
    have m0 := box_cell b4 m0'
    have m1 := box_cell b4 m1'
    have m2 := box_cell b4 m2'
    have B4 : Below w.heap.size w w4 := below_step b4 B4'
    have HO := Lib.hid ((lies_of_own HO'.out).below b4)
    clear m0' m1' m2' c0 c1 c2
    go_wp2_with fail
    refine (implFoldOn_any (v, s, l) HV.out hl _ _ _ xs hn (Nat.le_refl _) HX.out HK.out _ HO.out).mono ?_
    rintro e1 w5 ⟨rfl, b5⟩
    rw [← HRR.out]
    unfold fdV
    obtain ⟨wb, hwb⟩ : ∃ wb, wb = w5.alloc (.cells #[.int .i64 r0, .int .i64 r1, .string r2] 30) := ⟨_, rfl⟩
    have HWB := Lib.hid hwb
    have b5b : Below w4.heap.size w4 wb := by rw [hwb]; exact below_alloc b5 _
    clear hwb
    have BWB : Below w.heap.size w wb := below_step b5b B4
    have u0 : (w5.alloc (.cells #[.int .i64 r0, .int .i64 r1, .string r2] 30)).cell? ⟨w3.heap.size, 0, none⟩ = some (.int .i64 r0) := by rw [← HWB.out]; exact box_cell b5b m0
    have u1 : (w5.alloc (.cells #[.int .i64 r0, .int .i64 r1, .string r2] 30)).cell? ⟨w3.heap.size, 1, none⟩ = some (.int .i64 r1) := by rw [← HWB.out]; exact box_cell b5b m1
    have u2 : (w5.alloc (.cells #[.int .i64 r0, .int .i64 r1, .string r2] 30)).cell? ⟨w3.heap.size, 2, none⟩ = some (.string r2) := by rw [← HWB.out]; exact box_cell b5b m2
    have HP := Lib.hid (HO.out.below b5b)
    have HL5 := Lib.hid (HL.out.below BWB)
    clear m0 m1 m2 HO
    go_wp2_with fail
    rw [← HWB.out]
    refine (eqFold_any (r0, r1, r2) (r0, r1, r2) _).mono ?_
    rintro e1 w8 ⟨rfl, hwn⟩
    rw [dec_self]
    go_wp2_with fail
    refine (toEventS_any A n c xs hn HX.out _ (HL5.out.below hwn)).mono ?_
    rintro e1 w6 ⟨g6, rfl, o6, b6⟩
    have HQ := Lib.hid o6
    clear o6
    go_wp2_with fail
    refine (eqEventS_any _ _ _ _ _ _ xs xs hn HX.out HX.out _ ((HP.out.below hwn).below b6) (lies_of_own HQ.out)).mono ?_
    rintro e1 w7 ⟨rfl, b7⟩
    rw [dec_self]
    go_wp2
    go_ret
    exact ⟨rfl, (by repeat' (first | (with_reducible exact Below.refl _ _) | (with_reducible assumption) | (with_reducible refine below_step (by assumption) ?_) | (with_reducible refine below_alloc ?_ _) | (with_reducible refine Below.drew ?_) | (with_reducible refine below_drewN ?_ _) | (with_reducible refine Below.setCell ?_ ?_ _) | go_size))⟩



set_option maxRecDepth 100000 in
theorem opened {H : Type} {enc : TypeId × Value → H} (W : World) (base : Nat) (args : Array Value) (ds : List (DataW H)) (ps : List MemPlace)
    (hval : ∀ (j : Nat) t v, (#[34, 22] : Array TypeId)[j]? = some t → args[j]? = some v → Value.okWide Try.prog W .any base t v)
    (hA : DataW.TrodAll enc Try.prog W 0 (fun _ => true) true [34, 22] args.toList ds ps) :
    Calls Try.prog 5 args W fun e W' => e = .returned (.bool true) ∧ Below W.heap.size W W' := by
  obtain ⟨v0, vs0, d0, ds0, p0, q0, hargs, rfl, rfl, h0, r0⟩ := trodAll_cons hA
  obtain ⟨v1, vs1, d1, ds1, p1, q1, rfl, rfl, rfl, h1, r1⟩ := trodAll_cons r0
  obtain ⟨rfl, rfl, rfl⟩ := trodAll_nil r1
  obtain rfl : args = #[v0, v1] := by cases args; simp_all
  obtain ⟨cs0, rfl, hc0⟩ := open_cells (ks := [0, 0, 1]) Try.underlying34 (by kernel_rfl) (hval 0 34 v0 rfl rfl) h0
  obtain ⟨c0_0, c0_1, c0_2, rfl⟩ : ∃ c0_0 c0_1 c0_2 : Value, cs0 = [c0_0, c0_1, c0_2] := by
    have hl := hc0.length
    match cs0, hl with
    | [c0_0, c0_1, c0_2], _ => exact ⟨_, _, _, rfl⟩
  obtain ⟨⟨x0_0, rfl, o0_0⟩, ⟨x0_1, rfl, o0_1⟩, ⟨x0_2, rfl, o0_2⟩, _⟩ := hc0
  obtain ⟨A1, n1, k1, xs1, rfl, nc1, cm1, xl1, xL1, xo1⟩ := open_rows (ks := [0, 1, 0]) eventCells eventOk (eventDec W) Try.underlying22 (by kernel_rfl) (by kernel_rfl) (by decide) (fun _ => rfl) (hval 1 22 v1 rfl rfl) h1
  exact walk W x0_0 o0_0 x0_1 o0_1 x0_2 o0_2 A1 n1 k1 xs1 nc1 cm1 xl1 xL1 xo1
end Go.Proofs.Ytfbnpnajpkhkdaa.lawFoldOn
