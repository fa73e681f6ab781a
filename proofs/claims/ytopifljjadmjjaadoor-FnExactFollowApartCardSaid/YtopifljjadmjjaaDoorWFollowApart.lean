/-
  FnExactFollowApart returns true at every input: the program's FollowApart is the reference's, leaves its arguments as they were, and its result is its own. No condition.
-/
import Derived.Test.YtopifljjadmjjaaDoorFollow
import Derived.Test.YtopifljjadmjjaaDoorKEntry
namespace Go.Proofs.YtopifljjadmjjaaDoor.lawFollowApart
open Go.ChangeShapes Go.WideShapes Go.ChangeAt Go.RowKit

set_option maxHeartbeats 6400000 in
theorem walk (w : World) (Axs : Option Addr) (nxs cxs : Nat) (xs : List (ByteArray × Int × ByteArray × Int)) (hncxs : nxs ≤ cxs) (hcmxs : cxs ≤ maxLen) (hxxs : xs.length = nxs) (hLxs : Lies w 4 Axs nxs (xs.flatMap entryCells)) (hoxs : ∀ x ∈ xs, entryOk x) (Ays : Option Addr) (nys cys : Nat) (ys : List (ByteArray × Int × ByteArray × Int)) (hncys : nys ≤ cys) (hcmys : cys ≤ maxLen) (hxys : ys.length = nys) (hLys : Lies w 4 Ays nys (ys.flatMap entryCells)) (hoys : ∀ x ∈ ys, entryOk x) (hQ : (∃ a, Sent a w) ∧ MaxL w) :
    Calls Tryd.prog 6 #[.slice Axs nxs cxs, .slice Ays nys cys] w fun e w' => e = .returned (.bool true) ∧ Below w.heap.size w w' := by
  obtain ⟨⟨aS, hS⟩, hM⟩ := hQ
  have hmxs : nxs ≤ maxLen := Nat.le_trans hncxs hcmxs
  have HXxs := Lib.hid hxxs
  have HLxs := Lib.hid hLxs
  have HOxs := Lib.hid hoxs
  clear hxxs hLxs hoxs
  have hmys : nys ≤ maxLen := Nat.le_trans hncys hcmys
  have HXys := Lib.hid hxys
  have HLys := Lib.hid hLys
  have HOys := Lib.hid hoys
  clear hxys hLys hoys
  by_cases cs0 : szR (1048576) nxs (xs.flatMap entryTexts) < 0
  · have es := Lib.hid (szR_neg cs0)
    clear cs0
    have QAxs := Lib.hid (ArgAt.mk' HLxs.out)
    have QAys := Lib.hid (ArgAt.mk' HLys.out)
    have HB : Below w.heap.size w w := Below.refl _ _
    go_enter Tryd.func6, Tryd.ntmps6
    go_wp2_with fail
    refine (szEntryS_any _ _ _ hmxs xs HXxs.out HOxs.out _ (by omega) (by omega) _ QAxs.out.1).mono ?_
    rintro e1 w1 ⟨rfl, b1⟩
    rw [es.out]
    have HB := below_step b1 HB
    have zz1 := b1.size
    replace QAxs := Lib.hid (QAxs.out.keepB b1)
    replace QAys := Lib.hid (QAys.out.keepB b1)
    go_wp2
    go_ret
    exact ⟨rfl, HB⟩
  have hnxs := szR_len_of (by omega) cs0
  obtain ⟨r0, hr0, hra0, hrb0⟩ := szR_pos (by omega) cs0
  have es0 := Lib.hid hr0
  clear hr0 cs0
  by_cases cs1 : szR (r0) nys (ys.flatMap entryTexts) < 0
  · have es := Lib.hid (szR_neg cs1)
    clear cs1
    have QAxs := Lib.hid (ArgAt.mk' HLxs.out)
    have QAys := Lib.hid (ArgAt.mk' HLys.out)
    have HB : Below w.heap.size w w := Below.refl _ _
    go_enter Tryd.func6, Tryd.ntmps6
    go_wp2_with fail
    refine (szEntryS_any _ _ _ hmxs xs HXxs.out HOxs.out _ (by omega) (by omega) _ QAxs.out.1).mono ?_
    rintro e1 w1 ⟨rfl, b1⟩
    rw [es0.out]
    have HB := below_step b1 HB
    have zz1 := b1.size
    replace QAxs := Lib.hid (QAxs.out.keepB b1)
    replace QAys := Lib.hid (QAys.out.keepB b1)
    go_wp2_with fail
    refine (szEntryS_any _ _ _ hmys ys HXys.out HOys.out _ (by omega) (by omega) _ QAys.out.1).mono ?_
    rintro e1 w2 ⟨rfl, b2⟩
    rw [es.out]
    have HB := below_step b2 HB
    have zz2 := b2.size
    replace QAxs := Lib.hid (QAxs.out.keepB b2)
    replace QAys := Lib.hid (QAys.out.keepB b2)
    go_wp2
    go_ret
    exact ⟨rfl, HB⟩
  have hnys := szR_len_of (by omega) cs1
  obtain ⟨r1, hr1, hra1, hrb1⟩ := szR_pos (by omega) cs1
  have es1 := Lib.hid hr1
  clear hr1 cs1
  have HSTxs := Lib.hid (show StOk xs from ⟨enS_ok (Int.le_refl _) (by rw [es0.out]; exact hra0), enE_ok HOxs.out⟩)
  have HSTys := Lib.hid (show StOk ys from ⟨enS_ok (by omega) (by rw [es1.out]; exact hra1), enE_ok HOys.out⟩)
  have QAxs := Lib.hid (ArgAt.mk' HLxs.out)
  have QAys := Lib.hid (ArgAt.mk' HLys.out)
  have HB : Below w.heap.size w w := Below.refl _ _
  go_enter Tryd.func6, Tryd.ntmps6
  go_wp2_with fail
  refine (szEntryS_any _ _ _ hmxs xs HXxs.out HOxs.out _ (by omega) (by omega) _ QAxs.out.1).mono ?_
  rintro e1 w1 ⟨rfl, b1⟩
  rw [es0.out]
  have HB := below_step b1 HB
  have zz1 := b1.size
  replace QAxs := Lib.hid (QAxs.out.keepB b1)
  replace QAys := Lib.hid (QAys.out.keepB b1)
  go_wp2_with fail
  refine (szEntryS_any _ _ _ hmys ys HXys.out HOys.out _ (by omega) (by omega) _ QAys.out.1).mono ?_
  rintro e1 w2 ⟨rfl, b2⟩
  rw [es1.out]
  have HB := below_step b2 HB
  have zz2 := b2.size
  replace QAxs := Lib.hid (QAxs.out.keepB b2)
  replace QAys := Lib.hid (QAys.out.keepB b2)
  go_wp2_with fail
  refine (toEntryS_at _ _ _ _ xs hnxs HXxs.out _ (QAxs.out)).mono ?_
  rintro e1 w3 ⟨v3, rfl, f3, b3⟩
  have HB := below_step b3 HB
  have zz3 := b3.size
  replace QAxs := Lib.hid (QAxs.out.keepB b3)
  replace QAys := Lib.hid (QAys.out.keepB b3)
  have TaA2 := Lib.hid f3
  clear f3
  go_wp2_with fail
  refine (toEntryS_at _ _ _ _ ys hnys HXys.out _ (QAys.out)).mono ?_
  rintro e1 w4 ⟨v4, rfl, f4, b4⟩
  have HB := below_step b4 HB
  have zz4 := b4.size
  replace QAxs := Lib.hid (QAxs.out.keepB b4)
  replace QAys := Lib.hid (QAys.out.keepB b4)
  replace TaA2 := Lib.hid (TaA2.out.keepB b4)
  have TaB3 := Lib.hid f4
  clear f4
  go_wp2_with fail
  refine (specApart_at _ _ _ _ _ _ xs ys HSTxs.out HSTys.out _ (TaA2.out) (TaB3.out)).mono ?_
  rintro e1 w5 ⟨rfl, b5⟩
  have HB := below_step b5 HB
  have zz5 := b5.size
  replace QAxs := Lib.hid (QAxs.out.keepB b5)
  replace QAys := Lib.hid (QAys.out.keepB b5)
  replace TaA2 := Lib.hid (TaA2.out.keepB b5)
  replace TaB3 := Lib.hid (TaB3.out.keepB b5)
  clear TaA2
  clear TaB3
  go_wp2_with fail
  refine (toEntryS_at _ _ _ _ xs hnxs HXxs.out _ (QAxs.out)).mono ?_
  rintro e1 w6 ⟨v6, rfl, f6, b6⟩
  have HB := below_step b6 HB
  have zz6 := b6.size
  replace QAxs := Lib.hid (QAxs.out.keepB b6)
  replace QAys := Lib.hid (QAys.out.keepB b6)
  have Xx0 := Lib.hid f6
  clear f6
  go_wp2_with fail
  refine (toEntryS_at _ _ _ _ ys hnys HXys.out _ (QAys.out)).mono ?_
  rintro e1 w7 ⟨v7, rfl, f7, b7⟩
  have HB := below_step b7 HB
  have zz7 := b7.size
  replace QAxs := Lib.hid (QAxs.out.keepB b7)
  replace QAys := Lib.hid (QAys.out.keepB b7)
  replace Xx0 := Lib.hid (Xx0.out.keepB b7)
  have Xx1 := Lib.hid f7
  clear f7
  go_wp2_with fail
  refine (implApart_at _ _ _ _ _ _ xs ys HSTxs.out HSTys.out _ aS (hS.below HB (Nat.le_refl _)) (hM.below HB) (Xx0.out) (Xx1.out)).mono ?_
  rintro e1 w8 ⟨rfl, b8⟩
  have HB := below_step b8 HB
  have zz8 := b8.size
  replace QAxs := Lib.hid (QAxs.out.keepB b8)
  replace QAys := Lib.hid (QAys.out.keepB b8)
  replace Xx0 := Lib.hid (Xx0.out.keepB b8)
  replace Xx1 := Lib.hid (Xx1.out.keepB b8)
  go_wp2_with fail
  refine (toEntryS_at _ _ _ _ xs hnxs HXxs.out _ (QAxs.out)).mono ?_
  rintro e1 w9 ⟨v9, rfl, f9, b9⟩
  have HB := below_step b9 HB
  have zz9 := b9.size
  replace QAxs := Lib.hid (QAxs.out.keepB b9)
  replace QAys := Lib.hid (QAys.out.keepB b9)
  replace Xx0 := Lib.hid (Xx0.out.keepB b9)
  replace Xx1 := Lib.hid (Xx1.out.keepB b9)
  have TE := Lib.hid f9
  clear f9
  go_wp2_with fail
  refine (eqEntryS_at _ _ _ _ _ _ _ _ _ (Xx0.out) (TE.out)).mono ?_
  rintro e1 w10 ⟨rfl, b10⟩
  rw [dec_self]
  have HB := below_step b10 HB
  have zz10 := b10.size
  replace QAxs := Lib.hid (QAxs.out.keepB b10)
  replace QAys := Lib.hid (QAys.out.keepB b10)
  replace Xx0 := Lib.hid (Xx0.out.keepB b10)
  replace Xx1 := Lib.hid (Xx1.out.keepB b10)
  replace TE := Lib.hid (TE.out.keepB b10)
  clear TE
  go_wp2_with fail
  refine (toEntryS_at _ _ _ _ ys hnys HXys.out _ (QAys.out)).mono ?_
  rintro e1 w11 ⟨v11, rfl, f11, b11⟩
  have HB := below_step b11 HB
  have zz11 := b11.size
  replace QAxs := Lib.hid (QAxs.out.keepB b11)
  replace QAys := Lib.hid (QAys.out.keepB b11)
  replace Xx0 := Lib.hid (Xx0.out.keepB b11)
  replace Xx1 := Lib.hid (Xx1.out.keepB b11)
  have TE := Lib.hid f11
  clear f11
  go_wp2_with fail
  refine (eqEntryS_at _ _ _ _ _ _ _ _ _ (Xx1.out) (TE.out)).mono ?_
  rintro e1 w12 ⟨rfl, b12⟩
  rw [dec_self]
  have HB := below_step b12 HB
  have zz12 := b12.size
  replace QAxs := Lib.hid (QAxs.out.keepB b12)
  replace QAys := Lib.hid (QAys.out.keepB b12)
  replace Xx0 := Lib.hid (Xx0.out.keepB b12)
  replace Xx1 := Lib.hid (Xx1.out.keepB b12)
  replace TE := Lib.hid (TE.out.keepB b12)
  clear TE
  go_wp2
  go_ret
  exact ⟨rfl, HB⟩



set_option maxRecDepth 100000 in
theorem opened {H : Type} {enc : TypeId × Value → H} (W : World) (base : Nat) (args : Array Value) (ds : List (DataW H)) (ps : List MemPlace)
    (hval : ∀ (j : Nat) t v, (#[22, 22] : Array TypeId)[j]? = some t → args[j]? = some v → Value.okWide Tryd.prog W .any base t v)
    (hA : DataW.TrodAll enc Tryd.prog W 0 (fun _ => true) true [22, 22] args.toList ds ps) (hL : (∃ a, Sent a W) ∧ MaxL W) :
    Calls Tryd.prog 6 args W fun e W' => e = .returned (.bool true) ∧ Below W.heap.size W W' := by
  obtain ⟨v0, vs0, d0, ds0, p0, q0, hargs, rfl, rfl, h0, r0⟩ := trodAll_cons hA
  obtain ⟨v1, vs1, d1, ds1, p1, q1, rfl, rfl, rfl, h1, r1⟩ := trodAll_cons r0
  obtain ⟨rfl, rfl, rfl⟩ := trodAll_nil r1
  obtain rfl : args = #[v0, v1] := by cases args; simp_all
  obtain ⟨A0, n0, k0, xs0, rfl, nc0, cm0, xl0, xL0, xo0⟩ := open_rows (ks := [1, 0, 1, 0]) entryCells entryOk (entryDec W) Tryd.underlying22 (by kernel_rfl) (by kernel_rfl) (by decide) (fun _ => rfl) (hval 0 22 v0 rfl rfl) h0
  obtain ⟨A1, n1, k1, xs1, rfl, nc1, cm1, xl1, xL1, xo1⟩ := open_rows (ks := [1, 0, 1, 0]) entryCells entryOk (entryDec W) Tryd.underlying22 (by kernel_rfl) (by kernel_rfl) (by decide) (fun _ => rfl) (hval 1 22 v1 rfl rfl) h1
  exact walk W A0 n0 k0 xs0 nc0 cm0 xl0 xL0 xo0 A1 n1 k1 xs1 nc1 cm1 xl1 xL1 xo1 hL
end Go.Proofs.YtopifljjadmjjaaDoor.lawFollowApart
