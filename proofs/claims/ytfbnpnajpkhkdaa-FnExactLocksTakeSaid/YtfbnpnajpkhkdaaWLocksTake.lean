/-
  FnExactLocksTake returns true at every input: the program's LocksTake is the reference's, leaves its arguments as they were, and its result is its own. No condition.
-/
import Derived.Test.YtfbnpnajpkhkdaaTake
import Derived.Test.YtfbnpnajpkhkdaaKLock
import Derived.Test.YtfbnpnajpkhkdaaKInt
namespace Go.Proofs.Ytfbnpnajpkhkdaa.lawLocksTake
open Go.ChangeShapes Go.WideShapes Go.ChangeAt Go.RowKit

set_option maxHeartbeats 6400000 in
theorem walk (w : World) (Axs : Option Addr) (nxs cxs : Nat) (xs : List (Int × Int)) (hncxs : nxs ≤ cxs) (hcmxs : cxs ≤ maxLen) (hxxs : xs.length = nxs) (hLxs : Lies w 2 Axs nxs (xs.flatMap lockCells)) (hoxs : ∀ x ∈ xs, lockOk x) (owner : Int) (_howner : IntOk owner) (Ass : Option Addr) (nss css : Nat) (ss : List (Int)) (hncss : nss ≤ css) (hcmss : css ≤ maxLen) (hxss : ss.length = nss) (hLss : Lies w 1 Ass nss (ss.flatMap intCells)) (hoss : ∀ x ∈ ss, intOk x) :
    Calls Try.prog 8 #[.slice Axs nxs cxs, .int .i64 owner, .slice Ass nss css] w fun e w' => e = .returned (.bool true) ∧ Below w.heap.size w w' := by
  have hmxs : nxs ≤ maxLen := Nat.le_trans hncxs hcmxs
  have HXxs := Lib.hid hxxs
  have HLxs := Lib.hid hLxs
  have HOxs := Lib.hid hoxs
  clear hxxs hLxs hoxs
  have hmss : nss ≤ maxLen := Nat.le_trans hncss hcmss
  have HXss := Lib.hid hxss
  have HLss := Lib.hid hLss
  have HOss := Lib.hid hoss
  clear hxss hLss hoss
  by_cases cs0 : (1048576 : Int) < nss
  · skip
    go_enter Try.func8, Try.ntmps8
    go_wp2
    go_ret
    exact ⟨rfl, (by repeat' (first | (with_reducible exact Below.refl _ _) | (with_reducible assumption) | (with_reducible refine below_step (by assumption) ?_) | (with_reducible refine below_alloc ?_ _) | (with_reducible refine Below.drew ?_) | (with_reducible refine below_drewN ?_ _) | (with_reducible refine Below.setCell ?_ ?_ _) | go_size))⟩
  by_cases cs1 : (1048576 : Int) < nxs
  · have es := Lib.hid (show szN (1048576) nxs = -1 by unfold szN; rw [if_pos cs1])
    go_enter Try.func8, Try.ntmps8
    go_wp2_with fail
    refine (szLockS_any _ _ _ hmxs _ (by omega) (by omega) _).mono ?_
    rintro e1 w1 ⟨rfl, rfl⟩
    rw [es.out]
    go_wp2
    go_ret
    exact ⟨rfl, (by repeat' (first | (with_reducible exact Below.refl _ _) | (with_reducible assumption) | (with_reducible refine below_step (by assumption) ?_) | (with_reducible refine below_alloc ?_ _) | (with_reducible refine Below.drew ?_) | (with_reducible refine below_drewN ?_ _) | (with_reducible refine Below.setCell ?_ ?_ _) | go_size))⟩
  have es1 := Lib.hid (show szN (1048576) nxs = 1048576 - nxs by unfold szN; rw [if_neg cs1])
  have hnxs : nxs ≤ 1048576 := by omega
  have hnss : nss ≤ 1048576 := by omega
  cases EB0 : locksFreeB xs owner ss
  all_goals
    have QAxs := Lib.hid (ArgAt.mk' HLxs.out)
    have QAss := Lib.hid (ArgAt.mk' HLss.out)
    have HB : Below w.heap.size w w := Below.refl _ _
    go_enter Try.func8, Try.ntmps8
    go_wp2_with fail
    refine (szLockS_any _ _ _ hmxs _ (by omega) (by omega) _).mono ?_
    rintro e1 w1 ⟨rfl, rfl⟩
    rw [es1.out]
    go_wp2_with fail
    refine (toLockS_at _ _ _ _ xs hnxs HXxs.out _ QAxs.out).mono ?_
    rintro e1 w1 ⟨v1, rfl, f1, b1⟩
    have HB := below_step b1 HB
    have zz1 := b1.size
    replace QAxs := Lib.hid (QAxs.out.keepB b1)
    replace QAss := Lib.hid (QAss.out.keepB b1)
    have TaList0 := Lib.hid f1
    clear f1
    go_wp2_with fail
    refine (toIntS_at _ _ _ _ ss hnss HXss.out _ QAss.out).mono ?_
    rintro e1 w2 ⟨v2, rfl, f2, b2⟩
    have HB := below_step b2 HB
    have zz2 := b2.size
    replace QAxs := Lib.hid (QAxs.out.keepB b2)
    replace QAss := Lib.hid (QAss.out.keepB b2)
    replace TaList0 := Lib.hid (TaList0.out.keepB b2)
    have TaStripes1 := Lib.hid f2
    clear f2
    go_wp2_with fail
    refine (specTake_at _ _ _ _ _ _ xs owner ss _ TaList0.out TaStripes1.out).mono ?_
    rintro e1 w3 ⟨v3_0, rfl, f3_0, b3⟩
    rw [EB0]
    have HB := below_step b3 HB
    have zz3 := b3.size
    replace QAxs := Lib.hid (QAxs.out.keepB b3)
    replace QAss := Lib.hid (QAss.out.keepB b3)
    replace TaList0 := Lib.hid (TaList0.out.keepB b3)
    replace TaStripes1 := Lib.hid (TaStripes1.out.keepB b3)
    have Rw0 := Lib.hid f3_0
    clear f3_0
    clear TaList0
    clear TaStripes1
    go_wp2_with fail
    refine (toLockS_at _ _ _ _ xs hnxs HXxs.out _ QAxs.out).mono ?_
    rintro e1 w4 ⟨v4, rfl, f4, b4⟩
    have HB := below_step b4 HB
    have zz4 := b4.size
    replace QAxs := Lib.hid (QAxs.out.keepB b4)
    replace QAss := Lib.hid (QAss.out.keepB b4)
    replace Rw0 := Lib.hid (Rw0.out.keepB b4)
    have Xx0 := Lib.hid f4
    clear f4
    go_wp2_with fail
    refine (toIntS_at _ _ _ _ ss hnss HXss.out _ QAss.out).mono ?_
    rintro e1 w5 ⟨v5, rfl, f5, b5⟩
    have HB := below_step b5 HB
    have zz5 := b5.size
    replace QAxs := Lib.hid (QAxs.out.keepB b5)
    replace QAss := Lib.hid (QAss.out.keepB b5)
    replace Rw0 := Lib.hid (Rw0.out.keepB b5)
    replace Xx0 := Lib.hid (Xx0.out.keepB b5)
    have Xx2 := Lib.hid f5
    clear f5
    go_wp2_with fail
    refine (implTake_at _ _ _ _ _ _ xs owner ss _ Xx0.out Xx2.out).mono ?_
    rintro e1 w6 ⟨v6_0, rfl, f6_0, b6⟩
    rw [EB0]
    have HB := below_step b6 HB
    have zz6 := b6.size
    replace QAxs := Lib.hid (QAxs.out.keepB b6)
    replace QAss := Lib.hid (QAss.out.keepB b6)
    replace Rw0 := Lib.hid (Rw0.out.keepB b6)
    replace Xx0 := Lib.hid (Xx0.out.keepB b6)
    replace Xx2 := Lib.hid (Xx2.out.keepB b6)
    have Rg0 := Lib.hid f6_0
    clear f6_0
    go_wp2_with fail
    refine (eqLockS_at _ _ _ _ _ _ _ _ _ Rg0.out Rw0.out).mono ?_
    rintro e1 w7 ⟨rfl, b7⟩
    rw [dec_self]
    have HB := below_step b7 HB
    have zz7 := b7.size
    replace QAxs := Lib.hid (QAxs.out.keepB b7)
    replace QAss := Lib.hid (QAss.out.keepB b7)
    replace Rw0 := Lib.hid (Rw0.out.keepB b7)
    replace Xx0 := Lib.hid (Xx0.out.keepB b7)
    replace Xx2 := Lib.hid (Xx2.out.keepB b7)
    replace Rg0 := Lib.hid (Rg0.out.keepB b7)
    go_wp2_with fail
    refine (toLockS_at _ _ _ _ xs hnxs HXxs.out _ QAxs.out).mono ?_
    rintro e1 w8 ⟨v8, rfl, f8, b8⟩
    have HB := below_step b8 HB
    have zz8 := b8.size
    replace QAxs := Lib.hid (QAxs.out.keepB b8)
    replace QAss := Lib.hid (QAss.out.keepB b8)
    replace Rw0 := Lib.hid (Rw0.out.keepB b8)
    replace Xx0 := Lib.hid (Xx0.out.keepB b8)
    replace Xx2 := Lib.hid (Xx2.out.keepB b8)
    replace Rg0 := Lib.hid (Rg0.out.keepB b8)
    have TE := Lib.hid f8
    clear f8
    go_wp2_with fail
    refine (eqLockS_at _ _ _ _ _ _ _ _ _ Xx0.out TE.out).mono ?_
    rintro e1 w9 ⟨rfl, b9⟩
    rw [dec_self]
    have HB := below_step b9 HB
    have zz9 := b9.size
    replace QAxs := Lib.hid (QAxs.out.keepB b9)
    replace QAss := Lib.hid (QAss.out.keepB b9)
    replace Rw0 := Lib.hid (Rw0.out.keepB b9)
    replace Xx0 := Lib.hid (Xx0.out.keepB b9)
    replace Xx2 := Lib.hid (Xx2.out.keepB b9)
    replace Rg0 := Lib.hid (Rg0.out.keepB b9)
    replace TE := Lib.hid (TE.out.keepB b9)
    clear TE
    go_wp2_with fail
    refine (toIntS_at _ _ _ _ ss hnss HXss.out _ QAss.out).mono ?_
    rintro e1 w10 ⟨v10, rfl, f10, b10⟩
    have HB := below_step b10 HB
    have zz10 := b10.size
    replace QAxs := Lib.hid (QAxs.out.keepB b10)
    replace QAss := Lib.hid (QAss.out.keepB b10)
    replace Rw0 := Lib.hid (Rw0.out.keepB b10)
    replace Xx0 := Lib.hid (Xx0.out.keepB b10)
    replace Xx2 := Lib.hid (Xx2.out.keepB b10)
    replace Rg0 := Lib.hid (Rg0.out.keepB b10)
    have TE := Lib.hid f10
    clear f10
    go_wp2_with fail
    refine (eqIntS_at _ _ _ _ _ _ _ _ _ Xx2.out TE.out).mono ?_
    rintro e1 w11 ⟨rfl, b11⟩
    rw [dec_self]
    have HB := below_step b11 HB
    have zz11 := b11.size
    replace QAxs := Lib.hid (QAxs.out.keepB b11)
    replace QAss := Lib.hid (QAss.out.keepB b11)
    replace Rw0 := Lib.hid (Rw0.out.keepB b11)
    replace Xx0 := Lib.hid (Xx0.out.keepB b11)
    replace Xx2 := Lib.hid (Xx2.out.keepB b11)
    replace Rg0 := Lib.hid (Rg0.out.keepB b11)
    replace TE := Lib.hid (TE.out.keepB b11)
    clear TE
    have hl11 := Xx0.out.1
    have LF := Xx0
    clear Xx0
    go_wp2_with fail
    refine (markLockS_at _ _ _ _ _ _ (by omega) (by omega) LF.out.1 _ LF.out.2).mono ?_
    rintro e1 w12 ⟨rfl, _, b12⟩
    have zz12 := b12.size
    have HB := Within.below HB b12 (by omega) HB.size
    replace QAxs := Lib.hid (QAxs.out.keep b12 (by omega))
    replace QAss := Lib.hid (QAss.out.keep b12 (by omega))
    replace Rw0 := Lib.hid (Rw0.out.keep b12 (by omega))
    replace Xx2 := Lib.hid (Xx2.out.keep b12 (by omega))
    replace Rg0 := Lib.hid (Rg0.out.keep b12 (by omega))
    clear LF
    have hl12 := Xx2.out.1
    have LF := Xx2
    clear Xx2
    go_wp2_with fail
    refine (markIntS_at _ _ _ _ _ _ (by omega) (by omega) LF.out.1 _ LF.out.2).mono ?_
    rintro e1 w13 ⟨rfl, _, b13⟩
    have zz13 := b13.size
    have HB := Within.below HB b13 (by omega) HB.size
    replace QAxs := Lib.hid (QAxs.out.keep b13 (by omega))
    replace QAss := Lib.hid (QAss.out.keep b13 (by omega))
    replace Rw0 := Lib.hid (Rw0.out.keep b13 (by omega))
    replace Rg0 := Lib.hid (Rg0.out.keep b13 (by omega))
    clear LF
    go_wp2_with fail
    refine (eqLockS_at _ _ _ _ _ _ _ _ _ Rg0.out Rw0.out).mono ?_
    rintro e1 w14 ⟨rfl, b14⟩
    rw [dec_self]
    have HB := below_step b14 HB
    have zz14 := b14.size
    replace QAxs := Lib.hid (QAxs.out.keepB b14)
    replace QAss := Lib.hid (QAss.out.keepB b14)
    replace Rw0 := Lib.hid (Rw0.out.keepB b14)
    replace Rg0 := Lib.hid (Rg0.out.keepB b14)
    have hl14 := Rg0.out.1
    have LF := Rg0
    clear Rg0
    go_wp2_with fail
    refine (markLockS_at _ _ _ _ _ _ (by omega) (by omega) LF.out.1 _ LF.out.2).mono ?_
    rintro e1 w15 ⟨rfl, f15, b15⟩
    have zz15 := b15.size
    have HB := Within.below HB b15 (by omega) HB.size
    replace QAxs := Lib.hid (QAxs.out.keep b15 (by omega))
    replace QAss := Lib.hid (QAss.out.keep b15 (by omega))
    replace Rw0 := Lib.hid (Rw0.out.keep b15 (by omega))
    have Hg0 := Lib.hid f15
    clear f15
    clear LF
    go_wp2_with fail
    refine (heldLockS_at _ _ _ _ _ (by omega) (by omega) _ Hg0.out).mono ?_
    rintro e1 w16 ⟨rfl, b16⟩
    have HB := below_step b16 HB
    have zz16 := b16.size
    replace QAxs := Lib.hid (QAxs.out.keepB b16)
    replace QAss := Lib.hid (QAss.out.keepB b16)
    replace Rw0 := Lib.hid (Rw0.out.keepB b16)
    replace Hg0 := Lib.hid (Hg0.out.keepB b16)
    go_wp2_with fail
    refine (toLockS_at _ _ _ _ xs hnxs HXxs.out _ QAxs.out).mono ?_
    rintro e1 w17 ⟨v17, rfl, f17, b17⟩
    have HB := below_step b17 HB
    have zz17 := b17.size
    replace QAxs := Lib.hid (QAxs.out.keepB b17)
    replace QAss := Lib.hid (QAss.out.keepB b17)
    replace Rw0 := Lib.hid (Rw0.out.keepB b17)
    replace Hg0 := Lib.hid (Hg0.out.keepB b17)
    have TaList16 := Lib.hid f17
    clear f17
    go_wp2_with fail
    refine (toIntS_at _ _ _ _ ss hnss HXss.out _ QAss.out).mono ?_
    rintro e1 w18 ⟨v18, rfl, f18, b18⟩
    have HB := below_step b18 HB
    have zz18 := b18.size
    replace QAxs := Lib.hid (QAxs.out.keepB b18)
    replace QAss := Lib.hid (QAss.out.keepB b18)
    replace Rw0 := Lib.hid (Rw0.out.keepB b18)
    replace Hg0 := Lib.hid (Hg0.out.keepB b18)
    replace TaList16 := Lib.hid (TaList16.out.keepB b18)
    have TaStripes17 := Lib.hid f18
    clear f18
    go_wp2_with fail
    refine (implTake_at _ _ _ _ _ _ xs owner ss _ TaList16.out TaStripes17.out).mono ?_
    rintro e1 w19 ⟨v19_0, rfl, f19_0, b19⟩
    rw [EB0]
    have HB := below_step b19 HB
    have zz19 := b19.size
    replace QAxs := Lib.hid (QAxs.out.keepB b19)
    replace QAss := Lib.hid (QAss.out.keepB b19)
    replace Rw0 := Lib.hid (Rw0.out.keepB b19)
    replace Hg0 := Lib.hid (Hg0.out.keepB b19)
    replace TaList16 := Lib.hid (TaList16.out.keepB b19)
    replace TaStripes17 := Lib.hid (TaStripes17.out.keepB b19)
    have Rh0 := Lib.hid f19_0
    clear f19_0
    clear TaList16
    clear TaStripes17
    go_wp2_with fail
    refine (eqLockS_at _ _ _ _ _ _ _ _ _ Rh0.out Rw0.out).mono ?_
    rintro e1 w20 ⟨rfl, b20⟩
    rw [dec_self]
    have HB := below_step b20 HB
    have zz20 := b20.size
    replace QAxs := Lib.hid (QAxs.out.keepB b20)
    replace QAss := Lib.hid (QAss.out.keepB b20)
    replace Rw0 := Lib.hid (Rw0.out.keepB b20)
    replace Hg0 := Lib.hid (Hg0.out.keepB b20)
    replace Rh0 := Lib.hid (Rh0.out.keepB b20)
    go_wp2_with fail
    refine (heldLockS_at _ _ _ _ _ (by omega) (by omega) _ Hg0.out).mono ?_
    rintro e1 w21 ⟨rfl, b21⟩
    have HB := below_step b21 HB
    have zz21 := b21.size
    replace QAxs := Lib.hid (QAxs.out.keepB b21)
    replace QAss := Lib.hid (QAss.out.keepB b21)
    replace Rw0 := Lib.hid (Rw0.out.keepB b21)
    replace Hg0 := Lib.hid (Hg0.out.keepB b21)
    replace Rh0 := Lib.hid (Rh0.out.keepB b21)
    go_wp2
    go_ret
    exact ⟨rfl, HB⟩


set_option maxRecDepth 100000 in
theorem opened {H : Type} {enc : TypeId × Value → H} (W : World) (base : Nat) (args : Array Value) (ds : List (DataW H)) (ps : List MemPlace)
    (hval : ∀ (j : Nat) t v, (#[39, 3, 47] : Array TypeId)[j]? = some t → args[j]? = some v → Value.okWide Try.prog W .any base t v)
    (hA : DataW.TrodAll enc Try.prog W 0 (fun _ => true) true [39, 3, 47] args.toList ds ps) :
    Calls Try.prog 8 args W fun e W' => e = .returned (.bool true) ∧ Below W.heap.size W W' := by
  obtain ⟨v0, vs0, d0, ds0, p0, q0, hargs, rfl, rfl, h0, r0⟩ := trodAll_cons hA
  obtain ⟨v1, vs1, d1, ds1, p1, q1, rfl, rfl, rfl, h1, r1⟩ := trodAll_cons r0
  obtain ⟨v2, vs2, d2, ds2, p2, q2, rfl, rfl, rfl, h2, r2⟩ := trodAll_cons r1
  obtain ⟨rfl, rfl, rfl⟩ := trodAll_nil r2
  obtain rfl : args = #[v0, v1, v2] := by cases args; simp_all
  obtain ⟨A0, n0, k0, xs0, rfl, nc0, cm0, xl0, xL0, xo0⟩ := open_rows (ks := [0, 0]) lockCells lockOk (lockDec W) Try.underlying39 (by kernel_rfl) (by kernel_rfl) (by decide) (fun _ => rfl) (hval 0 39 v0 rfl rfl) h0
  obtain ⟨a1, rfl, rfl, rfl, w1⟩ := open_int Try.underlying3 (hval 1 3 v1 rfl rfl) h1
  obtain ⟨A2, n2, k2, xs2, rfl, nc2, cm2, xl2, xL2, xo2⟩ := open_rows (ks := [0]) intCells intOk (intDec W) Try.underlying47 (by kernel_rfl) (by kernel_rfl) (by decide) (fun _ => rfl) (hval 2 47 v2 rfl rfl) h2
  exact walk W A0 n0 k0 xs0 nc0 cm0 xl0 xL0 xo0 a1 (bounds_i64 w1) A2 n2 k2 xs2 nc2 cm2 xl2 xL2 xo2
end Go.Proofs.Ytfbnpnajpkhkdaa.lawLocksTake
