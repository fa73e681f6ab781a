/-
  FnExactLocksGive returns true at every input: the program's LocksGive is the reference's, leaves its arguments as they were, and its result is its own. No condition.
-/
import Derived.Test.YtfbnpnajpkhkdaaGive
import Derived.Test.YtfbnpnajpkhkdaaKLock
namespace Go.Proofs.Ytfbnpnajpkhkdaa.lawLocksGive
open Go.ChangeShapes Go.WideShapes Go.ChangeAt Go.RowKit

set_option maxHeartbeats 6400000 in
theorem walk (w : World) (Axs : Option Addr) (nxs cxs : Nat) (xs : List (Int × Int)) (hncxs : nxs ≤ cxs) (hcmxs : cxs ≤ maxLen) (hxxs : xs.length = nxs) (hLxs : Lies w 2 Axs nxs (xs.flatMap lockCells)) (hoxs : ∀ x ∈ xs, lockOk x) (owner : Int) (_howner : IntOk owner) :
    Calls Try.prog 6 #[.slice Axs nxs cxs, .int .i64 owner] w fun e w' => e = .returned (.bool true) ∧ Below w.heap.size w w' := by
  have hmxs : nxs ≤ maxLen := Nat.le_trans hncxs hcmxs
  have HXxs := Lib.hid hxxs
  have HLxs := Lib.hid hLxs
  have HOxs := Lib.hid hoxs
  clear hxxs hLxs hoxs
  by_cases cs0 : (1048576 : Int) < nxs
  · have es := Lib.hid (show szN (1048576) nxs = -1 by unfold szN; rw [if_pos cs0])
    go_enter Try.func6, Try.ntmps6
    go_wp2_with fail
    refine (szLockS_any _ _ _ hmxs _ (by omega) (by omega) _).mono ?_
    rintro e1 w1 ⟨rfl, rfl⟩
    rw [es.out]
    go_wp2
    go_ret
    exact ⟨rfl, (by repeat' (first | (with_reducible exact Below.refl _ _) | (with_reducible assumption) | (with_reducible refine below_step (by assumption) ?_) | (with_reducible refine below_alloc ?_ _) | (with_reducible refine Below.drew ?_) | (with_reducible refine below_drewN ?_ _) | (with_reducible refine Below.setCell ?_ ?_ _) | go_size))⟩
  have es0 := Lib.hid (show szN (1048576) nxs = 1048576 - nxs by unfold szN; rw [if_neg cs0])
  have hnxs : nxs ≤ 1048576 := by omega
  have QAxs := Lib.hid (ArgAt.mk' HLxs.out)
  have HB : Below w.heap.size w w := Below.refl _ _
  go_enter Try.func6, Try.ntmps6
  go_wp2_with fail
  refine (szLockS_any _ _ _ hmxs _ (by omega) (by omega) _).mono ?_
  rintro e1 w1 ⟨rfl, rfl⟩
  rw [es0.out]
  go_wp2_with fail
  refine (toLockS_at _ _ _ _ xs hnxs HXxs.out _ QAxs.out).mono ?_
  rintro e1 w1 ⟨v1, rfl, f1, b1⟩
  have HB := below_step b1 HB
  have zz1 := b1.size
  replace QAxs := Lib.hid (QAxs.out.keepB b1)
  have TaList0 := Lib.hid f1
  clear f1
  go_wp2_with fail
  refine (specGive_at _ _ _ xs owner _ TaList0.out).mono ?_
  rintro e1 w2 ⟨v2_0, rfl, f2_0, b2⟩
  have HB := below_step b2 HB
  have zz2 := b2.size
  replace QAxs := Lib.hid (QAxs.out.keepB b2)
  replace TaList0 := Lib.hid (TaList0.out.keepB b2)
  have Rw0 := Lib.hid f2_0
  clear f2_0
  clear TaList0
  go_wp2_with fail
  refine (toLockS_at _ _ _ _ xs hnxs HXxs.out _ QAxs.out).mono ?_
  rintro e1 w3 ⟨v3, rfl, f3, b3⟩
  have HB := below_step b3 HB
  have zz3 := b3.size
  replace QAxs := Lib.hid (QAxs.out.keepB b3)
  replace Rw0 := Lib.hid (Rw0.out.keepB b3)
  have Xx0 := Lib.hid f3
  clear f3
  go_wp2_with fail
  refine (implGive_at _ _ _ xs owner _ Xx0.out).mono ?_
  rintro e1 w4 ⟨v4_0, rfl, f4_0, b4⟩
  have HB := below_step b4 HB
  have zz4 := b4.size
  replace QAxs := Lib.hid (QAxs.out.keepB b4)
  replace Rw0 := Lib.hid (Rw0.out.keepB b4)
  replace Xx0 := Lib.hid (Xx0.out.keepB b4)
  have Rg0 := Lib.hid f4_0
  clear f4_0
  go_wp2_with fail
  refine (eqLockS_at _ _ _ _ _ _ _ _ _ Rg0.out Rw0.out).mono ?_
  rintro e1 w5 ⟨rfl, b5⟩
  rw [dec_self]
  have HB := below_step b5 HB
  have zz5 := b5.size
  replace QAxs := Lib.hid (QAxs.out.keepB b5)
  replace Rw0 := Lib.hid (Rw0.out.keepB b5)
  replace Xx0 := Lib.hid (Xx0.out.keepB b5)
  replace Rg0 := Lib.hid (Rg0.out.keepB b5)
  go_wp2_with fail
  refine (toLockS_at _ _ _ _ xs hnxs HXxs.out _ QAxs.out).mono ?_
  rintro e1 w6 ⟨v6, rfl, f6, b6⟩
  have HB := below_step b6 HB
  have zz6 := b6.size
  replace QAxs := Lib.hid (QAxs.out.keepB b6)
  replace Rw0 := Lib.hid (Rw0.out.keepB b6)
  replace Xx0 := Lib.hid (Xx0.out.keepB b6)
  replace Rg0 := Lib.hid (Rg0.out.keepB b6)
  have TE := Lib.hid f6
  clear f6
  go_wp2_with fail
  refine (eqLockS_at _ _ _ _ _ _ _ _ _ Xx0.out TE.out).mono ?_
  rintro e1 w7 ⟨rfl, b7⟩
  rw [dec_self]
  have HB := below_step b7 HB
  have zz7 := b7.size
  replace QAxs := Lib.hid (QAxs.out.keepB b7)
  replace Rw0 := Lib.hid (Rw0.out.keepB b7)
  replace Xx0 := Lib.hid (Xx0.out.keepB b7)
  replace Rg0 := Lib.hid (Rg0.out.keepB b7)
  replace TE := Lib.hid (TE.out.keepB b7)
  clear TE
  have hl7 := Xx0.out.1
  have LF := Xx0
  clear Xx0
  go_wp2_with fail
  refine (markLockS_at _ _ _ _ _ _ (by omega) (by omega) LF.out.1 _ LF.out.2).mono ?_
  rintro e1 w8 ⟨rfl, _, b8⟩
  have zz8 := b8.size
  have HB := Within.below HB b8 (by omega) HB.size
  replace QAxs := Lib.hid (QAxs.out.keep b8 (by omega))
  replace Rw0 := Lib.hid (Rw0.out.keep b8 (by omega))
  replace Rg0 := Lib.hid (Rg0.out.keep b8 (by omega))
  clear LF
  go_wp2_with fail
  refine (eqLockS_at _ _ _ _ _ _ _ _ _ Rg0.out Rw0.out).mono ?_
  rintro e1 w9 ⟨rfl, b9⟩
  rw [dec_self]
  have HB := below_step b9 HB
  have zz9 := b9.size
  replace QAxs := Lib.hid (QAxs.out.keepB b9)
  replace Rw0 := Lib.hid (Rw0.out.keepB b9)
  replace Rg0 := Lib.hid (Rg0.out.keepB b9)
  have hl9 := Rg0.out.1
  have LF := Rg0
  clear Rg0
  go_wp2_with fail
  refine (markLockS_at _ _ _ _ _ _ (by omega) (by omega) LF.out.1 _ LF.out.2).mono ?_
  rintro e1 w10 ⟨rfl, f10, b10⟩
  have zz10 := b10.size
  have HB := Within.below HB b10 (by omega) HB.size
  replace QAxs := Lib.hid (QAxs.out.keep b10 (by omega))
  replace Rw0 := Lib.hid (Rw0.out.keep b10 (by omega))
  have Hg0 := Lib.hid f10
  clear f10
  clear LF
  go_wp2_with fail
  refine (heldLockS_at _ _ _ _ _ (by omega) (by omega) _ Hg0.out).mono ?_
  rintro e1 w11 ⟨rfl, b11⟩
  have HB := below_step b11 HB
  have zz11 := b11.size
  replace QAxs := Lib.hid (QAxs.out.keepB b11)
  replace Rw0 := Lib.hid (Rw0.out.keepB b11)
  replace Hg0 := Lib.hid (Hg0.out.keepB b11)
  go_wp2_with fail
  refine (toLockS_at _ _ _ _ xs hnxs HXxs.out _ QAxs.out).mono ?_
  rintro e1 w12 ⟨v12, rfl, f12, b12⟩
  have HB := below_step b12 HB
  have zz12 := b12.size
  replace QAxs := Lib.hid (QAxs.out.keepB b12)
  replace Rw0 := Lib.hid (Rw0.out.keepB b12)
  replace Hg0 := Lib.hid (Hg0.out.keepB b12)
  have TaList11 := Lib.hid f12
  clear f12
  go_wp2_with fail
  refine (implGive_at _ _ _ xs owner _ TaList11.out).mono ?_
  rintro e1 w13 ⟨v13_0, rfl, f13_0, b13⟩
  have HB := below_step b13 HB
  have zz13 := b13.size
  replace QAxs := Lib.hid (QAxs.out.keepB b13)
  replace Rw0 := Lib.hid (Rw0.out.keepB b13)
  replace Hg0 := Lib.hid (Hg0.out.keepB b13)
  replace TaList11 := Lib.hid (TaList11.out.keepB b13)
  have Rh0 := Lib.hid f13_0
  clear f13_0
  clear TaList11
  go_wp2_with fail
  refine (eqLockS_at _ _ _ _ _ _ _ _ _ Rh0.out Rw0.out).mono ?_
  rintro e1 w14 ⟨rfl, b14⟩
  rw [dec_self]
  have HB := below_step b14 HB
  have zz14 := b14.size
  replace QAxs := Lib.hid (QAxs.out.keepB b14)
  replace Rw0 := Lib.hid (Rw0.out.keepB b14)
  replace Hg0 := Lib.hid (Hg0.out.keepB b14)
  replace Rh0 := Lib.hid (Rh0.out.keepB b14)
  go_wp2_with fail
  refine (heldLockS_at _ _ _ _ _ (by omega) (by omega) _ Hg0.out).mono ?_
  rintro e1 w15 ⟨rfl, b15⟩
  have HB := below_step b15 HB
  have zz15 := b15.size
  replace QAxs := Lib.hid (QAxs.out.keepB b15)
  replace Rw0 := Lib.hid (Rw0.out.keepB b15)
  replace Hg0 := Lib.hid (Hg0.out.keepB b15)
  replace Rh0 := Lib.hid (Rh0.out.keepB b15)
  go_wp2
  go_ret
  exact ⟨rfl, HB⟩


set_option maxRecDepth 100000 in
theorem opened {H : Type} {enc : TypeId × Value → H} (W : World) (base : Nat) (args : Array Value) (ds : List (DataW H)) (ps : List MemPlace)
    (hval : ∀ (j : Nat) t v, (#[39, 3] : Array TypeId)[j]? = some t → args[j]? = some v → Value.okWide Try.prog W .any base t v)
    (hA : DataW.TrodAll enc Try.prog W 0 (fun _ => true) true [39, 3] args.toList ds ps) :
    Calls Try.prog 6 args W fun e W' => e = .returned (.bool true) ∧ Below W.heap.size W W' := by
  obtain ⟨v0, vs0, d0, ds0, p0, q0, hargs, rfl, rfl, h0, r0⟩ := trodAll_cons hA
  obtain ⟨v1, vs1, d1, ds1, p1, q1, rfl, rfl, rfl, h1, r1⟩ := trodAll_cons r0
  obtain ⟨rfl, rfl, rfl⟩ := trodAll_nil r1
  obtain rfl : args = #[v0, v1] := by cases args; simp_all
  obtain ⟨A0, n0, k0, xs0, rfl, nc0, cm0, xl0, xL0, xo0⟩ := open_rows (ks := [0, 0]) lockCells lockOk (lockDec W) Try.underlying39 (by kernel_rfl) (by kernel_rfl) (by decide) (fun _ => rfl) (hval 0 39 v0 rfl rfl) h0
  obtain ⟨a1, rfl, rfl, rfl, w1⟩ := open_int Try.underlying3 (hval 1 3 v1 rfl rfl) h1
  exact walk W A0 n0 k0 xs0 nc0 cm0 xl0 xL0 xo0 a1 (bounds_i64 w1)
end Go.Proofs.Ytfbnpnajpkhkdaa.lawLocksGive
