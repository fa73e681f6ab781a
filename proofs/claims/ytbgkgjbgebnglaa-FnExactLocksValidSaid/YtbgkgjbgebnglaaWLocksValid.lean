/-
  FnExactLocksValid returns true at every slice of locks: the program's LocksValid is the reference's, and leaves its argument as it was. No condition.
-/
import Derived.Test.YtbgkgjbgebnglaaLocks
import Derived.Test.YtbgkgjbgebnglaaELock
namespace Go.Proofs.Ytbgkgjbgebnglaa.lawLocksValid
open Go.ChangeShapes Go.WideShapes Go.ChangeAt Go.RowKit

set_option maxHeartbeats 1600000 in
theorem walk (w : World) (A : Option Addr) (n c : Nat) (xs : List (Int × Int)) (hnc : n ≤ c) (hcm : c ≤ maxLen) (hx : xs.length = n) (hL : Lies w 2 A n (xs.flatMap lockCells)) (_ho : ∀ x ∈ xs, lockOk x) :
    Calls Try.prog 9 #[.slice A n c] w fun e w' => e = .returned (.bool true) ∧ Below w.heap.size w w' := by
  have hm : n ≤ maxLen := Nat.le_trans hnc hcm
  by_cases c0 : (1048576 : Int) < n
  · have e : Hid (szN 1048576 n = -1) := Lib.hid (by unfold szN; rw [if_pos c0])
    clear hL hx
    go_enter Try.func9, Try.ntmps9
    go_wp2_with (go_at_call 31; refine (szLockS_any _ _ _ hm _ (by omega) (by omega) _).mono ?_; rintro e1 w1 ⟨rfl, rfl⟩; rw [e.out])
    go_ret
    exact ⟨rfl, (by repeat' (first | (with_reducible exact Below.refl _ _) | (with_reducible assumption) | (with_reducible refine below_step (by assumption) ?_) | (with_reducible refine below_alloc ?_ _) | (with_reducible refine Below.drew ?_) | (with_reducible refine below_drewN ?_ _) | (with_reducible refine Below.setCell ?_ ?_ _) | go_size))⟩
  · have e : Hid (szN 1048576 n = 1048576 - n) := Lib.hid (by unfold szN; rw [if_neg c0])
    have hn : n ≤ 1048576 := by omega
    have HX := Lib.hid hx
    have HL := Lib.hid hL
    clear hx hL
    go_enter Try.func9, Try.ntmps9
    go_wp2_with fail
    refine (szLockS_any _ _ _ hm _ (by omega) (by omega) _).mono ?_
    rintro e1 w1 ⟨rfl, rfl⟩
    rw [e.out]
    go_wp2_with fail
    refine (toLockS_any A n c xs hn HX.out _ HL.out).mono ?_
    rintro e1 w1 ⟨g1, rfl, o1, b1⟩
    have HO := Lib.hid o1
    clear o1
    go_wp2_with fail
    refine (specLocks_any _ _ _ xs hn HX.out _ (lies_of_own HO.out)).mono ?_
    rintro e1 w2 ⟨rfl, b2⟩
    clear HO
    go_wp2_with fail
    refine (toLockS_any A n c xs hn HX.out _ ((HL.out.below b1).below b2)).mono ?_
    rintro e1 w3 ⟨g3, rfl, o3, b3⟩
    have HO := Lib.hid o3
    clear o3
    go_wp2_with fail
    refine (implLocks_any _ _ _ xs hn HX.out _ (lies_of_own HO.out)).mono ?_
    rintro e1 w4 ⟨rfl, b4⟩
    go_wp2_with fail
    refine (toLockS_any A n c xs hn HX.out _ ((((HL.out.below b1).below b2).below b3).below b4)).mono ?_
    rintro e1 w5 ⟨g5, rfl, o5, b5⟩
    have HP := Lib.hid o5
    clear o5
    go_wp2_with fail
    refine (eqLockS_any _ _ _ _ _ _ xs xs hn HX.out HX.out _ (((lies_of_own HO.out).below b4).below b5) (lies_of_own HP.out)).mono ?_
    rintro e1 w6 ⟨rfl, b6⟩
    rw [dec_self]
    go_wp2
    go_ret
    exact ⟨rfl, (by repeat' (first | (with_reducible exact Below.refl _ _) | (with_reducible assumption) | (with_reducible refine below_step (by assumption) ?_) | (with_reducible refine below_alloc ?_ _) | (with_reducible refine Below.drew ?_) | (with_reducible refine below_drewN ?_ _) | (with_reducible refine Below.setCell ?_ ?_ _) | go_size))⟩


set_option maxRecDepth 100000 in
theorem opened {H : Type} {enc : TypeId × Value → H} (W : World) (base : Nat) (args : Array Value) (ds : List (DataW H)) (ps : List MemPlace)
    (hval : ∀ (j : Nat) t v, (#[46] : Array TypeId)[j]? = some t → args[j]? = some v → Value.okWide Try.prog W .any base t v)
    (hA : DataW.TrodAll enc Try.prog W 0 (fun _ => true) true [46] args.toList ds ps) :
    Calls Try.prog 9 args W fun e W' => e = .returned (.bool true) ∧ Below W.heap.size W W' := by
  obtain ⟨v0, vs0, d0, ds0, p0, q0, hargs, rfl, rfl, h0, r0⟩ := trodAll_cons hA
  obtain ⟨rfl, rfl, rfl⟩ := trodAll_nil r0
  obtain rfl : args = #[v0] := by cases args; simp_all
  obtain ⟨A0, n0, k0, xs0, rfl, nc0, cm0, xl0, xL0, xo0⟩ := open_rows (ks := [0, 0]) lockCells lockOk (lockDec W) Try.underlying46 (by kernel_rfl) (by kernel_rfl) (by decide) (fun _ => rfl) (hval 0 46 v0 rfl rfl) h0
  exact walk W A0 n0 k0 xs0 nc0 cm0 xl0 xL0 xo0
end Go.Proofs.Ytbgkgjbgebnglaa.lawLocksValid
