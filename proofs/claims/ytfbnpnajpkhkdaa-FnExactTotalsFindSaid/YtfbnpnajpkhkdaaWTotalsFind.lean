/-
  FnExactTotalsFind returns true at every slice of totals and every text: the program's TotalsFind is the reference's, and leaves its argument as it was. No condition.
-/
import Derived.Test.YtfbnpnajpkhkdaaTFind
import Derived.Test.YtfbnpnajpkhkdaaETotal
import Derived.ChangeMaps5
namespace Go.Proofs.Ytfbnpnajpkhkdaa.lawTotalsFind
open Go.ChangeShapes Go.WideShapes Go.ChangeAt Go.RowKit

set_option maxHeartbeats 3200000 in
theorem walk (w : World) (A : Option Addr) (n c : Nat) (xs : List (ByteArray × Int × Int)) (hnc : n ≤ c) (hcm : c ≤ maxLen) (hx : xs.length = n) (hL : Lies w 3 A n (xs.flatMap totalCells)) (hok : ∀ x ∈ xs, totalOk x) (cat : ByteArray) (_hcat : StrOk cat) :
    Calls Try.prog 13 #[.slice A n c, .string cat] w fun e w' => e = .returned (.bool true) ∧ Below w.heap.size w w' := by
  have hm : n ≤ maxLen := Nat.le_trans hnc hcm
  have HX := Lib.hid hx
  have HK := Lib.hid hok
  have HL := Lib.hid hL
  clear hx hok hL
  by_cases hct : (1048576 : Int) < cat.size
  · go_enter Try.func13, Try.ntmps13
    go_wp2
    go_ret
    exact ⟨rfl, (by repeat' (first | (with_reducible exact Below.refl _ _) | (with_reducible assumption) | (with_reducible refine below_step (by assumption) ?_) | (with_reducible refine below_alloc ?_ _) | (with_reducible refine Below.drew ?_) | (with_reducible refine below_drewN ?_ _) | (with_reducible refine Below.setCell ?_ ?_ _) | go_size))⟩
  by_cases c0 : szR 1048576 n (xs.flatMap totalTexts) < 0
  · have e : szR 1048576 n (xs.flatMap totalTexts) = -1 := szR_neg c0
    clear c0
    go_enter Try.func13, Try.ntmps13
    go_wp2_with fail
    refine (szTotalS_any _ _ _ hm xs HX.out HK.out _ (by omega) (by omega) _ HL.out).mono ?_
    rintro e1 w1 ⟨rfl, hb1⟩
    rw [e]
    go_wp2
    go_ret
    exact ⟨rfl, (by repeat' (first | (with_reducible exact Below.refl _ _) | (with_reducible assumption) | (with_reducible refine below_step (by assumption) ?_) | (with_reducible refine below_alloc ?_ _) | (with_reducible refine Below.drew ?_) | (with_reducible refine below_drewN ?_ _) | (with_reducible refine Below.setCell ?_ ?_ _) | go_size))⟩
  · have hn : n ≤ 1048576 := szR_len c0
    have c1 : 0 ≤ szR 1048576 n (xs.flatMap totalTexts) := by omega
    obtain ⟨r, hr⟩ : ∃ r, r = szR 1048576 n (xs.flatMap totalTexts) := ⟨_, rfl⟩
    rw [← hr] at c1
    have HR := Lib.hid hr
    clear c0 hr
    go_enter Try.func13, Try.ntmps13
    go_wp2_with fail
    refine (szTotalS_any _ _ _ hm xs HX.out HK.out _ (by omega) (by omega) _ HL.out).mono ?_
    rintro e1 w1 ⟨rfl, b1⟩
    rw [← HR.out]
    go_wp2_with fail
    refine (toTotalS_any A n c xs hn HX.out _ (HL.out.below b1)).mono ?_
    rintro e1 w2 ⟨g2, rfl, o2, b2⟩
    have HO := Lib.hid o2
    clear o2
    go_wp2_with fail
    refine (specTFind_any _ _ _ xs cat hn HX.out HK.out _ (lies_of_own HO.out)).mono ?_
    rintro e1 w3 ⟨rfl, b3⟩
    clear HO
    obtain ⟨R, hR⟩ : ∃ R, R = totalFind xs cat := ⟨_, rfl⟩
    rw [← hR]
    have HRR := Lib.hid hR
    clear hR
    obtain ⟨⟨r0, r1, r2⟩, r3⟩ := R
    have HL3 := Lib.hid (((HL.out.below b1).below b2).below b3)
    unfold totV
    go_wp2_with fail
    refine (toTotalS_any A n c xs hn HX.out _ (HL3.out.below (below_alloc (Below.refl _ _) _))).mono ?_
    rintro e1 w4 ⟨g4, rfl, o4, b4⟩
    have HO := Lib.hid o4
    have HL4 := Lib.hid ((HL3.out.below (below_alloc (Below.refl _ _) _)).below b4)
    have m0 := box_cell b4 (b := w3.heap.size) (o := 0) (u := .string r0) (by go_cell)
    have m1 := box_cell b4 (b := w3.heap.size) (o := 1) (u := .int .i64 r1) (by go_cell)
    have m2 := box_cell b4 (b := w3.heap.size) (o := 2) (u := .int .i64 r2) (by go_cell)
    have B4 : Below w.heap.size w w4 := (by repeat' (first | (with_reducible exact Below.refl _ _) | (with_reducible assumption) | (with_reducible refine below_step (by assumption) ?_) | (with_reducible refine below_alloc ?_ _) | (with_reducible refine Below.drew ?_) | (with_reducible refine below_drewN ?_ _) | (with_reducible refine Below.setCell ?_ ?_ _) | go_size))
    clear o4 b1 b2 b3 b4
    go_wp2_with fail
    refine (implTFind_any _ _ _ xs cat hn HX.out HK.out _ (lies_of_own HO.out)).mono ?_
    rintro e1 w5 ⟨rfl, b5⟩
    rw [← HRR.out]
    unfold totV
    obtain ⟨wb, hwb⟩ : ∃ wb, wb = w5.alloc (.cells #[.string r0, .int .i64 r1, .int .i64 r2] 78) := ⟨_, rfl⟩
    have HWB := Lib.hid hwb
    have BWB : Below w.heap.size w wb := by rw [hwb]; exact below_alloc (below_step b5 B4) _
    have b5b : Below w4.heap.size w4 wb := by rw [hwb]; exact below_alloc b5 _
    clear hwb
    have k0 := box_cell b5b m0
    have k1 := box_cell b5b m1
    have k2 := box_cell b5b m2
    have q0 : wb.cell? ⟨w5.heap.size, 0, none⟩ = some (.string r0) := by rw [HWB.out]; go_cell
    have q1 : wb.cell? ⟨w5.heap.size, 1, none⟩ = some (.int .i64 r1) := by rw [HWB.out]; go_cell
    have q2 : wb.cell? ⟨w5.heap.size, 2, none⟩ = some (.int .i64 r2) := by rw [HWB.out]; go_cell
    have HP := Lib.hid ((lies_of_own HO.out).below b5b)
    have HL5 := Lib.hid (HL4.out.below b5b)
    have HB5 := Lib.hid b5b
    clear m0 m1 m2 b5b HO
    have u0 : (w5.alloc (.cells #[.string r0, .int .i64 r1, .int .i64 r2] 78)).cell? ⟨w3.heap.size, 0, none⟩ = some (.string r0) := by rw [← HWB.out]; exact k0
    have u1 : (w5.alloc (.cells #[.string r0, .int .i64 r1, .int .i64 r2] 78)).cell? ⟨w3.heap.size, 1, none⟩ = some (.int .i64 r1) := by rw [← HWB.out]; exact k1
    have u2 : (w5.alloc (.cells #[.string r0, .int .i64 r1, .int .i64 r2] 78)).cell? ⟨w3.heap.size, 2, none⟩ = some (.int .i64 r2) := by rw [← HWB.out]; exact k2
    go_wp2_with fail
    rw [← HWB.out]
    refine (eqTotal_any (r0, r1, r2) (r0, r1, r2) _).mono ?_
    rintro e1 w8 ⟨rfl, hwn⟩
    rw [dec_self]
    go_wp2_with fail
    refine (toTotalS_any A n c xs hn HX.out _ (HL5.out.below hwn)).mono ?_
    rintro e1 w6 ⟨g6, rfl, o6, b6⟩
    have HQ := Lib.hid o6
    clear o6
    go_wp2_with fail
    refine (eqTotalS_any _ _ _ _ _ _ xs xs hn HX.out HX.out _ ((HP.out.below hwn).below b6) (lies_of_own HQ.out)).mono ?_
    rintro e1 w7 ⟨rfl, b7⟩
    rw [dec_self]
    go_wp2
    go_ret
    exact ⟨rfl, (by repeat' (first | (with_reducible exact Below.refl _ _) | (with_reducible assumption) | (with_reducible refine below_step (by assumption) ?_) | (with_reducible refine below_alloc ?_ _) | (with_reducible refine Below.drew ?_) | (with_reducible refine below_drewN ?_ _) | (with_reducible refine Below.setCell ?_ ?_ _) | go_size))⟩


set_option maxRecDepth 100000 in
theorem opened {H : Type} {enc : TypeId × Value → H} (W : World) (base : Nat) (args : Array Value) (ds : List (DataW H)) (ps : List MemPlace)
    (hval : ∀ (j : Nat) t v, (#[75, 9] : Array TypeId)[j]? = some t → args[j]? = some v → Value.okWide Try.prog W .any base t v)
    (hA : DataW.TrodAll enc Try.prog W 0 (fun _ => true) true [75, 9] args.toList ds ps) :
    Calls Try.prog 13 args W fun e W' => e = .returned (.bool true) ∧ Below W.heap.size W W' := by
  obtain ⟨v0, vs0, d0, ds0, p0, q0, hargs, rfl, rfl, h0, r0⟩ := trodAll_cons hA
  obtain ⟨v1, vs1, d1, ds1, p1, q1, rfl, rfl, rfl, h1, r1⟩ := trodAll_cons r0
  obtain ⟨rfl, rfl, rfl⟩ := trodAll_nil r1
  obtain rfl : args = #[v0, v1] := by cases args; simp_all
  obtain ⟨A0, n0, k0, xs0, rfl, nc0, cm0, xl0, xL0, xo0⟩ := open_rows (ks := [1, 0, 0]) totalCells totalOk (totalDec W) Try.underlying75 (by kernel_rfl) (by kernel_rfl) (by decide) (fun _ => rfl) (hval 0 75 v0 rfl rfl) h0
  obtain ⟨a1, rfl, rfl, rfl, w1⟩ := Go.ChangeMaps.open_string Try.underlying9 (hval 1 9 v1 rfl rfl) h1
  exact walk W A0 n0 k0 xs0 nc0 cm0 xl0 xL0 xo0 a1 w1
end Go.Proofs.Ytfbnpnajpkhkdaa.lawTotalsFind
