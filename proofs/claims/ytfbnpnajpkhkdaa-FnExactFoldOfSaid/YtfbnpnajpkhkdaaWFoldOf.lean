/-
  FnExactFoldOf returns true at every slice of events: the program's FoldOf is the reference's, and leaves its argument as it was. No condition.
-/
import Derived.Test.YtfbnpnajpkhkdaaFoldF
import Derived.Test.YtfbnpnajpkhkdaaEFold
import Derived.Test.YtfbnpnajpkhkdaaEEvent
namespace Go.Proofs.Ytfbnpnajpkhkdaa.lawFoldOf
open Go.ChangeShapes Go.WideShapes Go.ChangeAt Go.RowKit

set_option maxHeartbeats 3200000 in
theorem walk (w : World) (A : Option Addr) (n c : Nat) (xs : List (Int × ByteArray × Int)) (hnc : n ≤ c) (hcm : c ≤ maxLen) (hx : xs.length = n) (hL : Lies w 3 A n (xs.flatMap eventCells)) (hok : ∀ x ∈ xs, eventOk x) :
    Calls Try.prog 4 #[.slice A n c] w fun e w' => e = .returned (.bool true) ∧ Below w.heap.size w w' := by
  have hm : n ≤ maxLen := Nat.le_trans hnc hcm
  have HX := Lib.hid hx
  have HK := Lib.hid hok
  have HL := Lib.hid hL
  clear hx hok hL
  by_cases c0 : szR 1048576 n (xs.flatMap eventTexts) < 0
  · have e : szR 1048576 n (xs.flatMap eventTexts) = -1 := szR_neg c0
    clear c0
    go_enter Try.func4, Try.ntmps4
    go_wp2_with fail
    refine (szEventS_any _ _ _ hm xs HX.out HK.out _ (by omega) (by omega) _ HL.out).mono ?_
    rintro e1 w1 ⟨rfl, hb1⟩
    rw [e]
    go_wp2
    go_ret
    exact ⟨rfl, (by repeat' (first | (with_reducible exact Below.refl _ _) | (with_reducible assumption) | (with_reducible refine below_step (by assumption) ?_) | (with_reducible refine below_alloc ?_ _) | (with_reducible refine Below.drew ?_) | (with_reducible refine below_drewN ?_ _) | (with_reducible refine Below.setCell ?_ ?_ _) | go_size))⟩
  · have hn : n ≤ 1048576 := szR_len c0
    have c1 : 0 ≤ szR 1048576 n (xs.flatMap eventTexts) := by omega
    obtain ⟨r, hr⟩ : ∃ r, r = szR 1048576 n (xs.flatMap eventTexts) := ⟨_, rfl⟩
    rw [← hr] at c1
    have HR := Lib.hid hr
    clear c0 hr
    go_enter Try.func4, Try.ntmps4
    go_wp2_with fail
    refine (szEventS_any _ _ _ hm xs HX.out HK.out _ (by omega) (by omega) _ HL.out).mono ?_
    rintro e1 w1 ⟨rfl, b1⟩
    rw [← HR.out]
    go_wp2_with fail
    refine (toEventS_any A n c xs hn HX.out _ (HL.out.below b1)).mono ?_
    rintro e1 w2 ⟨g2, rfl, o2, b2⟩
    have HO := Lib.hid o2
    clear o2
    go_wp2_with fail
    refine (specFoldOf_any _ _ _ xs hn HX.out HK.out _ (lies_of_own HO.out)).mono ?_
    rintro e1 w3 ⟨rfl, b3⟩
    clear HO
    obtain ⟨R, hR⟩ : ∃ R, R = foldOf xs := ⟨_, rfl⟩
    rw [← hR]
    have HRR := Lib.hid hR
    clear hR
    obtain ⟨⟨r0, r1, r2⟩, r3⟩ := R
    have B3 : Below w.heap.size w w3 := (by repeat' (first | (with_reducible exact Below.refl _ _) | (with_reducible assumption) | (with_reducible refine below_step (by assumption) ?_) | (with_reducible refine below_alloc ?_ _) | (with_reducible refine Below.drew ?_) | (with_reducible refine below_drewN ?_ _) | (with_reducible refine Below.setCell ?_ ?_ _) | go_size))
    unfold fdV
    go_wp2_with fail
    refine (toEventS_any A n c xs hn HX.out _ (HL.out.below (below_alloc B3 _))).mono ?_
    rintro e1 w4 ⟨g4, rfl, o4, b4⟩
    have HO := Lib.hid o4
    have m0 := box_cell b4 (b := w3.heap.size) (o := 0) (u := .int .i64 r0) (by go_cell)
    have m1 := box_cell b4 (b := w3.heap.size) (o := 1) (u := .int .i64 r1) (by go_cell)
    have m2 := box_cell b4 (b := w3.heap.size) (o := 2) (u := .string r2) (by go_cell)
    have B4 : Below w.heap.size w w4 := below_step b4 (below_alloc B3 _)
    clear o4 b1 b2 b3 b4 B3
    go_wp2_with fail
    refine (implFoldOf_any _ _ _ xs hn (Nat.le_refl _) HX.out HK.out _ (lies_of_own HO.out)).mono ?_
    rintro e1 w5 ⟨rfl, b5⟩
    rw [← HRR.out]
    unfold fdV
    obtain ⟨wb, hwb⟩ : ∃ wb, wb = w5.alloc (.cells #[.int .i64 r0, .int .i64 r1, .string r2] 30) := ⟨_, rfl⟩
    have HWB := Lib.hid hwb
    have b5b : Below w4.heap.size w4 wb := by rw [hwb]; exact below_alloc b5 _
    clear hwb
    have BWB : Below w.heap.size w wb := below_step b5b B4
    have u0 : (w5.alloc (.cells #[.int .i64 r0, .int .i64 r1, .string r2] 30)).cell? ⟨w3.heap.size, 0, none⟩ = some (.int .i64 r0) := by rw [← HWB.out]; exact box_cell b5b m0
    have u1 : (w5.alloc (.cells #[.int .i64 r0, .int .i64 r1, .string r2] 30)).cell? ⟨w3.heap.size, 1, none⟩ = some (.int .i64 r1) := by rw [← HWB.out]; exact box_cell b5b m1
    have u2 : (w5.alloc (.cells #[.int .i64 r0, .int .i64 r1, .string r2] 30)).cell? ⟨w3.heap.size, 2, none⟩ = some (.string r2) := by rw [← HWB.out]; exact box_cell b5b m2
    have HP := Lib.hid ((lies_of_own HO.out).below b5b)
    have HL5 := Lib.hid (HL.out.below BWB)
    clear m0 m1 m2 HO
    go_wp2_with fail
    rw [← HWB.out]
    refine (eqFold_any (r0, r1, r2) (r0, r1, r2) _).mono ?_
    rintro e1 w8 ⟨rfl, hwn⟩
    rw [dec_self]
    go_wp2_with fail
    refine (toEventS_any A n c xs hn HX.out _ (HL5.out.below hwn)).mono ?_
    rintro e1 w6 ⟨g6, rfl, o6, b6⟩
    have HQ := Lib.hid o6
    clear o6
    go_wp2_with fail
    refine (eqEventS_any _ _ _ _ _ _ xs xs hn HX.out HX.out _ ((HP.out.below hwn).below b6) (lies_of_own HQ.out)).mono ?_
    rintro e1 w7 ⟨rfl, b7⟩
    rw [dec_self]
    go_wp2
    go_ret
    exact ⟨rfl, (by repeat' (first | (with_reducible exact Below.refl _ _) | (with_reducible assumption) | (with_reducible refine below_step (by assumption) ?_) | (with_reducible refine below_alloc ?_ _) | (with_reducible refine Below.drew ?_) | (with_reducible refine below_drewN ?_ _) | (with_reducible refine Below.setCell ?_ ?_ _) | go_size))⟩


set_option maxRecDepth 100000 in
theorem opened {H : Type} {enc : TypeId × Value → H} (W : World) (base : Nat) (args : Array Value) (ds : List (DataW H)) (ps : List MemPlace)
    (hval : ∀ (j : Nat) t v, (#[22] : Array TypeId)[j]? = some t → args[j]? = some v → Value.okWide Try.prog W .any base t v)
    (hA : DataW.TrodAll enc Try.prog W 0 (fun _ => true) true [22] args.toList ds ps) :
    Calls Try.prog 4 args W fun e W' => e = .returned (.bool true) ∧ Below W.heap.size W W' := by
  obtain ⟨v0, vs0, d0, ds0, p0, q0, hargs, rfl, rfl, h0, r0⟩ := trodAll_cons hA
  obtain ⟨rfl, rfl, rfl⟩ := trodAll_nil r0
  obtain rfl : args = #[v0] := by cases args; simp_all
  obtain ⟨A0, n0, k0, xs0, rfl, nc0, cm0, xl0, xL0, xo0⟩ := open_rows (ks := [0, 1, 0]) eventCells eventOk (eventDec W) Try.underlying22 (by kernel_rfl) (by kernel_rfl) (by decide) (fun _ => rfl) (hval 0 22 v0 rfl rfl) h0
  exact walk W A0 n0 k0 xs0 nc0 cm0 xl0 xL0 xo0
end Go.Proofs.Ytfbnpnajpkhkdaa.lawFoldOf
