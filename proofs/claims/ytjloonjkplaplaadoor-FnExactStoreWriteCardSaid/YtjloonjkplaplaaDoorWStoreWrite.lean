/-
  FnExactStoreWrite returns true at every input: the program's StoreWrite is the reference's, leaves its arguments as they were, and its result is its own. No condition.
-/
import Derived.Test.YtjloonjkplaplaaDoorWrite
import Derived.Test.YtjloonjkplaplaaDoorKEvent
import Derived.Test.YtjloonjkplaplaaDoorKEntry
namespace Go.Proofs.YtjloonjkplaplaaDoor.lawStoreWrite
open Go.ChangeShapes Go.WideShapes Go.ChangeAt Go.RowKit

set_option maxHeartbeats 6400000 in
theorem walk (w : World) (Axs : Option Addr) (nxs cxs : Nat) (xs : List (ByteArray × Int × ByteArray × Int)) (hncxs : nxs ≤ cxs) (hcmxs : cxs ≤ maxLen) (hxxs : xs.length = nxs) (hLxs : Lies w 4 Axs nxs (xs.flatMap entryCells)) (hoxs : ∀ x ∈ xs, entryOk x) (s : ByteArray) (_hs : StrOk s) (e0 : Int) (_he0 : IntOk e0) (Ays : Option Addr) (nys cys : Nat) (ys : List (Int × ByteArray × Int)) (hncys : nys ≤ cys) (hcmys : cys ≤ maxLen) (hxys : ys.length = nys) (hLys : Lies w 3 Ays nys (ys.flatMap eventCells)) (hoys : ∀ x ∈ ys, eventOk x) (hQ : (∃ a, Sent a w) ∧ MaxL w) :
    Calls Tryd.prog 5 #[.slice Axs nxs cxs, .string s, .int .i64 e0, .slice Ays nys cys] w fun e w' => e = .returned (.bool true) ∧ Below w.heap.size w w' := by
  obtain ⟨⟨aS, hS⟩, hM⟩ := hQ
  have hmxs : nxs ≤ maxLen := Nat.le_trans hncxs hcmxs
  have HXxs := Lib.hid hxxs
  have HLxs := Lib.hid hLxs
  have HOxs := Lib.hid hoxs
  clear hxxs hLxs hoxs
  have hmys : nys ≤ maxLen := Nat.le_trans hncys hcmys
  have HXys := Lib.hid hxys
  have HLys := Lib.hid hLys
  have HOys := Lib.hid hoys
  clear hxys hLys hoys
  by_cases cs0 : (1048576 : Int) < s.size
  · skip
    have QAxs := Lib.hid (ArgAt.mk' HLxs.out)
    have QAys := Lib.hid (ArgAt.mk' HLys.out)
    have HB : Below w.heap.size w w := Below.refl _ _
    go_enter Tryd.func5, Tryd.ntmps5
    go_wp2
    go_ret
    exact ⟨rfl, (by repeat' (first | (with_reducible exact Below.refl _ _) | (with_reducible assumption) | (with_reducible refine below_step (by assumption) ?_) | (with_reducible refine below_alloc ?_ _) | (with_reducible refine Below.drew ?_) | (with_reducible refine below_drewN ?_ _) | (with_reducible refine Below.setCell ?_ ?_ _) | go_size))⟩
  have hns : s.size ≤ 1048576 := by omega
  by_cases cs1 : szR (1048576) nxs (xs.flatMap entryTexts) < 0
  · have es := Lib.hid (szR_neg cs1)
    clear cs1
    have QAxs := Lib.hid (ArgAt.mk' HLxs.out)
    have QAys := Lib.hid (ArgAt.mk' HLys.out)
    have HB : Below w.heap.size w w := Below.refl _ _
    go_enter Tryd.func5, Tryd.ntmps5
    go_wp2_with fail
    refine (szEntryS_any _ _ _ hmxs xs HXxs.out HOxs.out _ (by omega) (by omega) _ QAxs.out.1).mono ?_
    rintro e1 w1 ⟨rfl, b1⟩
    rw [es.out]
    have HB := below_step b1 HB
    have zz1 := b1.size
    replace QAxs := Lib.hid (QAxs.out.keepB b1)
    replace QAys := Lib.hid (QAys.out.keepB b1)
    go_wp2
    go_ret
    exact ⟨rfl, HB⟩
  have hnxs := szR_len_of (by omega) cs1
  obtain ⟨r1, hr1, hra1, hrb1⟩ := szR_pos (by omega) cs1
  have es1 := Lib.hid hr1
  clear hr1 cs1
  by_cases cs2 : szR (r1) nys (ys.flatMap eventTexts) < 0
  · have es := Lib.hid (szR_neg cs2)
    clear cs2
    have QAxs := Lib.hid (ArgAt.mk' HLxs.out)
    have QAys := Lib.hid (ArgAt.mk' HLys.out)
    have HB : Below w.heap.size w w := Below.refl _ _
    go_enter Tryd.func5, Tryd.ntmps5
    go_wp2_with fail
    refine (szEntryS_any _ _ _ hmxs xs HXxs.out HOxs.out _ (by omega) (by omega) _ QAxs.out.1).mono ?_
    rintro e1 w1 ⟨rfl, b1⟩
    rw [es1.out]
    have HB := below_step b1 HB
    have zz1 := b1.size
    replace QAxs := Lib.hid (QAxs.out.keepB b1)
    replace QAys := Lib.hid (QAys.out.keepB b1)
    go_wp2_with fail
    refine (szEventS_any _ _ _ hmys ys HXys.out HOys.out _ (by omega) (by omega) _ QAys.out.1).mono ?_
    rintro e1 w2 ⟨rfl, b2⟩
    rw [es.out]
    have HB := below_step b2 HB
    have zz2 := b2.size
    replace QAxs := Lib.hid (QAxs.out.keepB b2)
    replace QAys := Lib.hid (QAys.out.keepB b2)
    go_wp2
    go_ret
    exact ⟨rfl, HB⟩
  have hnys := szR_len_of (by omega) cs2
  obtain ⟨r2, hr2, hra2, hrb2⟩ := szR_pos (by omega) cs2
  have es2 := Lib.hid hr2
  clear hr2 cs2
  have HSTxs := Lib.hid (show StOk xs from ⟨enS_ok (left := 1048576) (by omega) (by rw [es1.out]; exact hra1), enE_ok HOxs.out⟩)
  have hey : ∀ y ∈ ys, eventOk y ∧ y.2.1.size ≤ 1048576 := ev_ok (left := r1) (by omega) (by rw [es2.out]; exact hra2) HOys.out
  have QAxs := Lib.hid (ArgAt.mk' HLxs.out)
  have QAys := Lib.hid (ArgAt.mk' HLys.out)
  have HB : Below w.heap.size w w := Below.refl _ _
  go_enter Tryd.func5, Tryd.ntmps5
  go_wp2_with fail
  refine (szEntryS_any _ _ _ hmxs xs HXxs.out HOxs.out _ (by omega) (by omega) _ QAxs.out.1).mono ?_
  rintro e1 w1 ⟨rfl, b1⟩
  rw [es1.out]
  have HB := below_step b1 HB
  have zz1 := b1.size
  replace QAxs := Lib.hid (QAxs.out.keepB b1)
  replace QAys := Lib.hid (QAys.out.keepB b1)
  go_wp2_with fail
  refine (szEventS_any _ _ _ hmys ys HXys.out HOys.out _ (by omega) (by omega) _ QAys.out.1).mono ?_
  rintro e1 w2 ⟨rfl, b2⟩
  rw [es2.out]
  have HB := below_step b2 HB
  have zz2 := b2.size
  replace QAxs := Lib.hid (QAxs.out.keepB b2)
  replace QAys := Lib.hid (QAys.out.keepB b2)
  go_wp2_with fail
  refine (toEntryS_at _ _ _ _ xs hnxs HXxs.out _ (QAxs.out)).mono ?_
  rintro e1 w3 ⟨v3, rfl, f3, b3⟩
  have HB := below_step b3 HB
  have zz3 := b3.size
  replace QAxs := Lib.hid (QAxs.out.keepB b3)
  replace QAys := Lib.hid (QAys.out.keepB b3)
  have TaList2 := Lib.hid f3
  clear f3
  go_wp2_with fail
  refine (toEventS_at _ _ _ _ ys hnys HXys.out _ (QAys.out)).mono ?_
  rintro e1 w4 ⟨v4, rfl, f4, b4⟩
  have HB := below_step b4 HB
  have zz4 := b4.size
  replace QAxs := Lib.hid (QAxs.out.keepB b4)
  replace QAys := Lib.hid (QAys.out.keepB b4)
  replace TaList2 := Lib.hid (TaList2.out.keepB b4)
  have TaEvents3 := Lib.hid f4
  clear f4
  go_wp2_with fail
  refine (specWrite_at _ _ _ _ _ _ xs s e0 ys HSTxs.out hns hey _ (TaList2.out) (TaEvents3.out)).mono ?_
  rintro e1 w5 ⟨v5_0, rfl, f5_0, b5⟩
  have HB := below_step b5 HB
  have zz5 := b5.size
  replace QAxs := Lib.hid (QAxs.out.keepB b5)
  replace QAys := Lib.hid (QAys.out.keepB b5)
  replace TaList2 := Lib.hid (TaList2.out.keepB b5)
  replace TaEvents3 := Lib.hid (TaEvents3.out.keepB b5)
  have Rw0 := Lib.hid f5_0
  clear f5_0
  clear TaList2
  clear TaEvents3
  go_wp2_with fail
  refine (toEntryS_at _ _ _ _ xs hnxs HXxs.out _ (QAxs.out)).mono ?_
  rintro e1 w6 ⟨v6, rfl, f6, b6⟩
  have HB := below_step b6 HB
  have zz6 := b6.size
  replace QAxs := Lib.hid (QAxs.out.keepB b6)
  replace QAys := Lib.hid (QAys.out.keepB b6)
  replace Rw0 := Lib.hid (Rw0.out.keepB b6)
  have Xx0 := Lib.hid f6
  clear f6
  go_wp2_with fail
  refine (toEventS_at _ _ _ _ ys hnys HXys.out _ (QAys.out)).mono ?_
  rintro e1 w7 ⟨v7, rfl, f7, b7⟩
  have HB := below_step b7 HB
  have zz7 := b7.size
  replace QAxs := Lib.hid (QAxs.out.keepB b7)
  replace QAys := Lib.hid (QAys.out.keepB b7)
  replace Rw0 := Lib.hid (Rw0.out.keepB b7)
  replace Xx0 := Lib.hid (Xx0.out.keepB b7)
  have Xx3 := Lib.hid f7
  clear f7
  go_wp2_with fail
  refine (implWrite_at _ _ _ _ _ _ xs s e0 ys HSTxs.out hns hey _ aS (hS.below HB (Nat.le_refl _)) (hM.below HB) (Xx0.out) (Xx3.out)).mono ?_
  rintro e1 w8 ⟨v8_0, rfl, f8_0, b8⟩
  have HB := below_step b8 HB
  have zz8 := b8.size
  replace QAxs := Lib.hid (QAxs.out.keepB b8)
  replace QAys := Lib.hid (QAys.out.keepB b8)
  replace Rw0 := Lib.hid (Rw0.out.keepB b8)
  replace Xx0 := Lib.hid (Xx0.out.keepB b8)
  replace Xx3 := Lib.hid (Xx3.out.keepB b8)
  have Rg0 := Lib.hid f8_0
  clear f8_0
  go_wp2_with fail
  refine (eqEntryS_at _ _ _ _ _ _ _ _ _ (Rg0.out) (Rw0.out)).mono ?_
  rintro e1 w9 ⟨rfl, b9⟩
  rw [dec_self]
  have HB := below_step b9 HB
  have zz9 := b9.size
  replace QAxs := Lib.hid (QAxs.out.keepB b9)
  replace QAys := Lib.hid (QAys.out.keepB b9)
  replace Rw0 := Lib.hid (Rw0.out.keepB b9)
  replace Xx0 := Lib.hid (Xx0.out.keepB b9)
  replace Xx3 := Lib.hid (Xx3.out.keepB b9)
  replace Rg0 := Lib.hid (Rg0.out.keepB b9)
  go_wp2_with fail
  refine (toEntryS_at _ _ _ _ xs hnxs HXxs.out _ (QAxs.out)).mono ?_
  rintro e1 w10 ⟨v10, rfl, f10, b10⟩
  have HB := below_step b10 HB
  have zz10 := b10.size
  replace QAxs := Lib.hid (QAxs.out.keepB b10)
  replace QAys := Lib.hid (QAys.out.keepB b10)
  replace Rw0 := Lib.hid (Rw0.out.keepB b10)
  replace Xx0 := Lib.hid (Xx0.out.keepB b10)
  replace Xx3 := Lib.hid (Xx3.out.keepB b10)
  replace Rg0 := Lib.hid (Rg0.out.keepB b10)
  have TE := Lib.hid f10
  clear f10
  go_wp2_with fail
  refine (eqEntryS_at _ _ _ _ _ _ _ _ _ (Xx0.out) (TE.out)).mono ?_
  rintro e1 w11 ⟨rfl, b11⟩
  rw [dec_self]
  have HB := below_step b11 HB
  have zz11 := b11.size
  replace QAxs := Lib.hid (QAxs.out.keepB b11)
  replace QAys := Lib.hid (QAys.out.keepB b11)
  replace Rw0 := Lib.hid (Rw0.out.keepB b11)
  replace Xx0 := Lib.hid (Xx0.out.keepB b11)
  replace Xx3 := Lib.hid (Xx3.out.keepB b11)
  replace Rg0 := Lib.hid (Rg0.out.keepB b11)
  replace TE := Lib.hid (TE.out.keepB b11)
  clear TE
  go_wp2_with fail
  refine (toEventS_at _ _ _ _ ys hnys HXys.out _ (QAys.out)).mono ?_
  rintro e1 w12 ⟨v12, rfl, f12, b12⟩
  have HB := below_step b12 HB
  have zz12 := b12.size
  replace QAxs := Lib.hid (QAxs.out.keepB b12)
  replace QAys := Lib.hid (QAys.out.keepB b12)
  replace Rw0 := Lib.hid (Rw0.out.keepB b12)
  replace Xx0 := Lib.hid (Xx0.out.keepB b12)
  replace Xx3 := Lib.hid (Xx3.out.keepB b12)
  replace Rg0 := Lib.hid (Rg0.out.keepB b12)
  have TE := Lib.hid f12
  clear f12
  go_wp2_with fail
  refine (eqEventS_at _ _ _ _ _ _ _ _ _ (Xx3.out) (TE.out)).mono ?_
  rintro e1 w13 ⟨rfl, b13⟩
  rw [dec_self]
  have HB := below_step b13 HB
  have zz13 := b13.size
  replace QAxs := Lib.hid (QAxs.out.keepB b13)
  replace QAys := Lib.hid (QAys.out.keepB b13)
  replace Rw0 := Lib.hid (Rw0.out.keepB b13)
  replace Xx0 := Lib.hid (Xx0.out.keepB b13)
  replace Xx3 := Lib.hid (Xx3.out.keepB b13)
  replace Rg0 := Lib.hid (Rg0.out.keepB b13)
  replace TE := Lib.hid (TE.out.keepB b13)
  clear TE
  have hl13 := Xx0.out.1
  have LF := Xx0
  clear Xx0
  go_wp2_with fail
  refine (markEntryS_at _ _ _ _ _ _ (by omega) (by omega) LF.out.1 _ LF.out.2).mono ?_
  rintro e1 w14 ⟨rfl, _, b14⟩
  have zz14 := b14.size
  have HB := Within.below HB b14 (by omega) HB.size
  replace QAxs := Lib.hid (QAxs.out.keep b14 (by omega))
  replace QAys := Lib.hid (QAys.out.keep b14 (by omega))
  replace Rw0 := Lib.hid (Rw0.out.keep b14 (by omega))
  replace Xx3 := Lib.hid (Xx3.out.keep b14 (by omega))
  replace Rg0 := Lib.hid (Rg0.out.keep b14 (by omega))
  clear LF
  have hl14 := Xx3.out.1
  have LF := Xx3
  clear Xx3
  go_wp2_with fail
  refine (markEventS_at _ _ _ _ _ _ (by omega) (by omega) LF.out.1 _ LF.out.2).mono ?_
  rintro e1 w15 ⟨rfl, _, b15⟩
  have zz15 := b15.size
  have HB := Within.below HB b15 (by omega) HB.size
  replace QAxs := Lib.hid (QAxs.out.keep b15 (by omega))
  replace QAys := Lib.hid (QAys.out.keep b15 (by omega))
  replace Rw0 := Lib.hid (Rw0.out.keep b15 (by omega))
  replace Rg0 := Lib.hid (Rg0.out.keep b15 (by omega))
  clear LF
  go_wp2_with fail
  refine (eqEntryS_at _ _ _ _ _ _ _ _ _ (Rg0.out) (Rw0.out)).mono ?_
  rintro e1 w16 ⟨rfl, b16⟩
  rw [dec_self]
  have HB := below_step b16 HB
  have zz16 := b16.size
  replace QAxs := Lib.hid (QAxs.out.keepB b16)
  replace QAys := Lib.hid (QAys.out.keepB b16)
  replace Rw0 := Lib.hid (Rw0.out.keepB b16)
  replace Rg0 := Lib.hid (Rg0.out.keepB b16)
  have hl16 := Rg0.out.1
  have LF := Rg0
  clear Rg0
  go_wp2_with fail
  refine (markEntryS_at _ _ _ _ _ _ (by omega) (by omega) LF.out.1 _ LF.out.2).mono ?_
  rintro e1 w17 ⟨rfl, f17, b17⟩
  have zz17 := b17.size
  have HB := Within.below HB b17 (by omega) HB.size
  replace QAxs := Lib.hid (QAxs.out.keep b17 (by omega))
  replace QAys := Lib.hid (QAys.out.keep b17 (by omega))
  replace Rw0 := Lib.hid (Rw0.out.keep b17 (by omega))
  have Hg0 := Lib.hid f17
  clear f17
  clear LF
  go_wp2_with fail
  refine (heldEntryS_at _ _ _ _ _ (by omega) (by omega) _ (Hg0.out)).mono ?_
  rintro e1 w18 ⟨rfl, b18⟩
  have HB := below_step b18 HB
  have zz18 := b18.size
  replace QAxs := Lib.hid (QAxs.out.keepB b18)
  replace QAys := Lib.hid (QAys.out.keepB b18)
  replace Rw0 := Lib.hid (Rw0.out.keepB b18)
  replace Hg0 := Lib.hid (Hg0.out.keepB b18)
  go_wp2_with fail
  refine (toEntryS_at _ _ _ _ xs hnxs HXxs.out _ (QAxs.out)).mono ?_
  rintro e1 w19 ⟨v19, rfl, f19, b19⟩
  have HB := below_step b19 HB
  have zz19 := b19.size
  replace QAxs := Lib.hid (QAxs.out.keepB b19)
  replace QAys := Lib.hid (QAys.out.keepB b19)
  replace Rw0 := Lib.hid (Rw0.out.keepB b19)
  replace Hg0 := Lib.hid (Hg0.out.keepB b19)
  have TaList18 := Lib.hid f19
  clear f19
  go_wp2_with fail
  refine (toEventS_at _ _ _ _ ys hnys HXys.out _ (QAys.out)).mono ?_
  rintro e1 w20 ⟨v20, rfl, f20, b20⟩
  have HB := below_step b20 HB
  have zz20 := b20.size
  replace QAxs := Lib.hid (QAxs.out.keepB b20)
  replace QAys := Lib.hid (QAys.out.keepB b20)
  replace Rw0 := Lib.hid (Rw0.out.keepB b20)
  replace Hg0 := Lib.hid (Hg0.out.keepB b20)
  replace TaList18 := Lib.hid (TaList18.out.keepB b20)
  have TaEvents19 := Lib.hid f20
  clear f20
  go_wp2_with fail
  refine (implWrite_at _ _ _ _ _ _ xs s e0 ys HSTxs.out hns hey _ aS (hS.below HB (Nat.le_refl _)) (hM.below HB) (TaList18.out) (TaEvents19.out)).mono ?_
  rintro e1 w21 ⟨v21_0, rfl, f21_0, b21⟩
  have HB := below_step b21 HB
  have zz21 := b21.size
  replace QAxs := Lib.hid (QAxs.out.keepB b21)
  replace QAys := Lib.hid (QAys.out.keepB b21)
  replace Rw0 := Lib.hid (Rw0.out.keepB b21)
  replace Hg0 := Lib.hid (Hg0.out.keepB b21)
  replace TaList18 := Lib.hid (TaList18.out.keepB b21)
  replace TaEvents19 := Lib.hid (TaEvents19.out.keepB b21)
  have Rh0 := Lib.hid f21_0
  clear f21_0
  clear TaList18
  clear TaEvents19
  go_wp2_with fail
  refine (eqEntryS_at _ _ _ _ _ _ _ _ _ (Rh0.out) (Rw0.out)).mono ?_
  rintro e1 w22 ⟨rfl, b22⟩
  rw [dec_self]
  have HB := below_step b22 HB
  have zz22 := b22.size
  replace QAxs := Lib.hid (QAxs.out.keepB b22)
  replace QAys := Lib.hid (QAys.out.keepB b22)
  replace Rw0 := Lib.hid (Rw0.out.keepB b22)
  replace Hg0 := Lib.hid (Hg0.out.keepB b22)
  replace Rh0 := Lib.hid (Rh0.out.keepB b22)
  go_wp2_with fail
  refine (heldEntryS_at _ _ _ _ _ (by omega) (by omega) _ (Hg0.out)).mono ?_
  rintro e1 w23 ⟨rfl, b23⟩
  have HB := below_step b23 HB
  have zz23 := b23.size
  replace QAxs := Lib.hid (QAxs.out.keepB b23)
  replace QAys := Lib.hid (QAys.out.keepB b23)
  replace Rw0 := Lib.hid (Rw0.out.keepB b23)
  replace Hg0 := Lib.hid (Hg0.out.keepB b23)
  replace Rh0 := Lib.hid (Rh0.out.keepB b23)
  go_wp2
  go_ret
  exact ⟨rfl, HB⟩



set_option maxRecDepth 100000 in
theorem opened {H : Type} {enc : TypeId × Value → H} (W : World) (base : Nat) (args : Array Value) (ds : List (DataW H)) (ps : List MemPlace)
    (hval : ∀ (j : Nat) t v, (#[22, 9, 3, 23] : Array TypeId)[j]? = some t → args[j]? = some v → Value.okWide Tryd.prog W .any base t v)
    (hA : DataW.TrodAll enc Tryd.prog W 0 (fun _ => true) true [22, 9, 3, 23] args.toList ds ps) (hL : (∃ a, Sent a W) ∧ MaxL W) :
    Calls Tryd.prog 5 args W fun e W' => e = .returned (.bool true) ∧ Below W.heap.size W W' := by
  obtain ⟨v0, vs0, d0, ds0, p0, q0, hargs, rfl, rfl, h0, r0⟩ := trodAll_cons hA
  obtain ⟨v1, vs1, d1, ds1, p1, q1, rfl, rfl, rfl, h1, r1⟩ := trodAll_cons r0
  obtain ⟨v2, vs2, d2, ds2, p2, q2, rfl, rfl, rfl, h2, r2⟩ := trodAll_cons r1
  obtain ⟨v3, vs3, d3, ds3, p3, q3, rfl, rfl, rfl, h3, r3⟩ := trodAll_cons r2
  obtain ⟨rfl, rfl, rfl⟩ := trodAll_nil r3
  obtain rfl : args = #[v0, v1, v2, v3] := by cases args; simp_all
  obtain ⟨A0, n0, k0, xs0, rfl, nc0, cm0, xl0, xL0, xo0⟩ := open_rows (ks := [1, 0, 1, 0]) entryCells entryOk (entryDec W) Tryd.underlying22 (by kernel_rfl) (by kernel_rfl) (by decide) (fun _ => rfl) (hval 0 22 v0 rfl rfl) h0
  obtain ⟨a1, rfl, rfl, rfl, w1⟩ := Go.ChangeMaps.open_string Tryd.underlying9 (hval 1 9 v1 rfl rfl) h1
  obtain ⟨a2, rfl, rfl, rfl, w2⟩ := open_int Tryd.underlying3 (hval 2 3 v2 rfl rfl) h2
  obtain ⟨A3, n3, k3, xs3, rfl, nc3, cm3, xl3, xL3, xo3⟩ := open_rows (ks := [0, 1, 0]) eventCells eventOk (eventDec W) Tryd.underlying23 (by kernel_rfl) (by kernel_rfl) (by decide) (fun _ => rfl) (hval 3 23 v3 rfl rfl) h3
  exact walk W A0 n0 k0 xs0 nc0 cm0 xl0 xL0 xo0 a1 w1 a2 (bounds_i64 w2) A3 n3 k3 xs3 nc3 cm3 xl3 xL3 xo3 hL
end Go.Proofs.YtjloonjkplaplaaDoor.lawStoreWrite
