/-
  FnExactStoreValid returns true at every slice: the program's StoreValid is the reference's, and leaves its argument as it was. No condition.
-/
import Derived.Test.YtopifljjadmjjaaDoorStoreF
namespace Go.Proofs.YtopifljjadmjjaaDoor.lawStoreValid
open Go.ChangeShapes Go.WideShapes Go.ChangeAt Go.RowKit

set_option maxHeartbeats 1600000 in
theorem walk (w : World) (A : Option Addr) (n c : Nat) (xs : List EnT) (hnc : n ≤ c) (hcm : c ≤ maxLen) (hx : xs.length = n) (hL : Lies w 4 A n (xs.flatMap entryCells)) (hok : ∀ x ∈ xs, entryOk x) (hQ : (∃ a, Sent a w) ∧ MaxL w) :
    Calls Tryd.prog 3 #[.slice A n c] w fun e w' => e = .returned (.bool true) ∧ Below w.heap.size w w' := by
  obtain ⟨⟨a, hS⟩, hM⟩ := hQ
  have hm : n ≤ maxLen := Nat.le_trans hnc hcm
  have HX := Lib.hid hx
  have HK := Lib.hid hok
  have HL := Lib.hid hL
  clear hx hok hL
  by_cases c0 : szR 1048576 n (xs.flatMap entryTexts) < 0
  · have e : szR 1048576 n (xs.flatMap entryTexts) = -1 := szR_neg c0
    clear c0
    go_enter Tryd.func3, Tryd.ntmps3
    go_wp2_with fail
    refine (szEntryS_any _ _ _ hm xs HX.out HK.out _ (by omega) (by omega) _ HL.out).mono ?_
    rintro e1 w1 ⟨rfl, hb1⟩
    rw [e]
    go_wp2
    go_ret
    exact ⟨rfl, (by repeat' (first | (with_reducible exact Below.refl _ _) | (with_reducible assumption) | (with_reducible refine below_step (by assumption) ?_) | (with_reducible refine below_alloc ?_ _) | (with_reducible refine Below.drew ?_) | (with_reducible refine below_drewN ?_ _) | (with_reducible refine Below.setCell ?_ ?_ _) | go_size))⟩
  · have hn : n ≤ 1048576 := szR_len c0
    have HC := Lib.hid c0
    have HKS := Lib.hid (enS_ok (Int.le_refl _) (show 0 ≤ szR 1048576 n (xs.flatMap entryTexts) by omega))
    have HKE := Lib.hid (enE_ok HK.out)
    have c1 : 0 ≤ szR 1048576 n (xs.flatMap entryTexts) := by omega
    obtain ⟨r, hr⟩ : ∃ r, r = szR 1048576 n (xs.flatMap entryTexts) := ⟨_, rfl⟩
    rw [← hr] at c1
    have HR := Lib.hid hr
    clear c0 hr
    go_enter Tryd.func3, Tryd.ntmps3
    go_wp2_with fail
    refine (szEntryS_any _ _ _ hm xs HX.out HK.out _ (by omega) (by omega) _ HL.out).mono ?_
    rintro e1 w1 ⟨rfl, b1⟩
    rw [← HR.out]
    go_wp2_with fail
    refine (toEntryS_any A n c xs hn HX.out _ (HL.out.below b1)).mono ?_
    rintro e1 w2 ⟨g2, rfl, o2, b2⟩
    have HO := Lib.hid o2
    clear o2
    go_wp2_with fail
    refine (specStore_any _ _ _ xs hn HX.out HKS.out _ (lies_of_own HO.out)).mono ?_
    rintro e1 w3 ⟨rfl, b3⟩
    clear HO
    have HL3 := Lib.hid (((HL.out.below b1).below b2).below b3)
    go_wp2_with fail
    refine (toEntryS_any A n c xs hn HX.out _ HL3.out).mono ?_
    rintro e1 w4 ⟨g4, rfl, o4, b4⟩
    have HO := Lib.hid o4
    clear o4
    go_wp2_with fail
    refine (implStore_any _ _ _ xs hn HX.out HKS.out HKE.out _ a (hS.below (show Below w.heap.size w w4 by (repeat' (first | (with_reducible exact Below.refl _ _) | (with_reducible assumption) | (with_reducible refine below_step (by assumption) ?_) | (with_reducible refine below_alloc ?_ _) | (with_reducible refine Below.drew ?_) | (with_reducible refine below_drewN ?_ _) | (with_reducible refine Below.setCell ?_ ?_ _) | go_size))) (Nat.le_refl _)) (hM.below (show Below w.heap.size w w4 by (repeat' (first | (with_reducible exact Below.refl _ _) | (with_reducible assumption) | (with_reducible refine below_step (by assumption) ?_) | (with_reducible refine below_alloc ?_ _) | (with_reducible refine Below.drew ?_) | (with_reducible refine below_drewN ?_ _) | (with_reducible refine Below.setCell ?_ ?_ _) | go_size)))) (lies_of_own HO.out)).mono ?_
    rintro e1 w5 ⟨rfl, b5⟩
    go_wp2_with fail
    refine (toEntryS_any A n c xs hn HX.out _ ((HL3.out.below b4).below b5)).mono ?_
    rintro e1 w6 ⟨g6, rfl, o6, b6⟩
    have HP := Lib.hid o6
    clear o6
    go_wp2_with fail
    refine (eqEntryS_any _ _ _ _ _ _ xs xs hn HX.out HX.out _ (((lies_of_own HO.out).below b5).below b6) (lies_of_own HP.out)).mono ?_
    rintro e1 w7 ⟨rfl, b7⟩
    rw [dec_self]
    go_wp2
    go_ret
    exact ⟨rfl, (by repeat' (first | (with_reducible exact Below.refl _ _) | (with_reducible assumption) | (with_reducible refine below_step (by assumption) ?_) | (with_reducible refine below_alloc ?_ _) | (with_reducible refine Below.drew ?_) | (with_reducible refine below_drewN ?_ _) | (with_reducible refine Below.setCell ?_ ?_ _) | go_size))⟩



set_option maxRecDepth 100000 in
theorem opened {H : Type} {enc : TypeId × Value → H} (W : World) (base : Nat) (args : Array Value) (ds : List (DataW H)) (ps : List MemPlace)
    (hval : ∀ (j : Nat) t v, (#[22] : Array TypeId)[j]? = some t → args[j]? = some v → Value.okWide Tryd.prog W .any base t v)
    (hA : DataW.TrodAll enc Tryd.prog W 0 (fun _ => true) true [22] args.toList ds ps) (hL : (∃ a, Sent a W) ∧ MaxL W) :
    Calls Tryd.prog 3 args W fun e W' => e = .returned (.bool true) ∧ Below W.heap.size W W' := by
  obtain ⟨v0, vs0, d0, ds0, p0, q0, hargs, rfl, rfl, h0, r0⟩ := trodAll_cons hA
  obtain ⟨rfl, rfl, rfl⟩ := trodAll_nil r0
  obtain rfl : args = #[v0] := by cases args; simp_all
  obtain ⟨A0, n0, k0, xs0, rfl, nc0, cm0, xl0, xL0, xo0⟩ := open_rows (ks := [1, 0, 1, 0]) entryCells entryOk (entryDec W) Tryd.underlying22 (by kernel_rfl) (by kernel_rfl) (by decide) (fun _ => rfl) (hval 0 22 v0 rfl rfl) h0
  exact walk W A0 n0 k0 xs0 nc0 cm0 xl0 xL0 xo0 hL
end Go.Proofs.YtopifljjadmjjaaDoor.lawStoreValid
