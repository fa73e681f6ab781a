/-
  FnExactIndexKinds returns true at every input: the program's IndexKinds is the reference's, leaves its arguments as they were, and its result is its own. No condition.
-/
import Derived.Test.YtipkhmcnkldbbaaDoorKinds
import Derived.Test.YtipkhmcnkldbbaaDoorKEntry
import Derived.Test.YtipkhmcnkldbbaaDoorKRow
namespace Go.Proofs.YtipkhmcnkldbbaaDoor.lawIndexKinds
open Go.ChangeShapes Go.WideShapes Go.ChangeAt Go.RowKit

set_option maxHeartbeats 6400000 in
theorem walk (w : World) (Axs : Option Addr) (nxs cxs : Nat) (xs : List (ByteArray × Int × ByteArray × Int)) (hncxs : nxs ≤ cxs) (hcmxs : cxs ≤ maxLen) (hxxs : xs.length = nxs) (hLxs : Lies w 4 Axs nxs (xs.flatMap entryCells)) (hoxs : ∀ x ∈ xs, entryOk x) (hQ : (∃ a, Sent a w) ∧ MaxL w) :
    Calls Tryd.prog 6 #[.slice Axs nxs cxs] w fun e w' => e = .returned (.bool true) ∧ Below w.heap.size w w' := by
  obtain ⟨⟨aS, hS⟩, hM⟩ := hQ
  have hmxs : nxs ≤ maxLen := Nat.le_trans hncxs hcmxs
  have HXxs := Lib.hid hxxs
  have HLxs := Lib.hid hLxs
  have HOxs := Lib.hid hoxs
  clear hxxs hLxs hoxs
  by_cases cs0 : szR (1048576) nxs (xs.flatMap entryTexts) < 0
  · have es := Lib.hid (szR_neg cs0)
    clear cs0
    have QAxs := Lib.hid (ArgAt.mk' HLxs.out)
    have HB : Below w.heap.size w w := Below.refl _ _
    go_enter Tryd.func6, Tryd.ntmps6
    go_wp2_with fail
    refine (szEntryS_any _ _ _ hmxs xs HXxs.out HOxs.out _ (by omega) (by omega) _ QAxs.out.1).mono ?_
    rintro e1 w1 ⟨rfl, b1⟩
    rw [es.out]
    have HB := below_step b1 HB
    have zz1 := b1.size
    replace QAxs := Lib.hid (QAxs.out.keepB b1)
    go_wp2
    go_ret
    exact ⟨rfl, HB⟩
  have hnxs := szR_len_of (by omega) cs0
  obtain ⟨r0, hr0, hra0, hrb0⟩ := szR_pos (by omega) cs0
  have es0 := Lib.hid hr0
  clear hr0 cs0
  have HSTxs := Lib.hid (show StOk xs from ⟨enS_ok (left := 1048576) (by omega) (by rw [es0.out]; exact hra0), enE_ok HOxs.out⟩)
  have QAxs := Lib.hid (ArgAt.mk' HLxs.out)
  have HB : Below w.heap.size w w := Below.refl _ _
  go_enter Tryd.func6, Tryd.ntmps6
  go_wp2_with fail
  refine (szEntryS_any _ _ _ hmxs xs HXxs.out HOxs.out _ (by omega) (by omega) _ QAxs.out.1).mono ?_
  rintro e1 w1 ⟨rfl, b1⟩
  rw [es0.out]
  have HB := below_step b1 HB
  have zz1 := b1.size
  replace QAxs := Lib.hid (QAxs.out.keepB b1)
  go_wp2_with fail
  refine (toEntryS_at _ _ _ _ xs hnxs HXxs.out _ (QAxs.out)).mono ?_
  rintro e1 w2 ⟨v2, rfl, f2, b2⟩
  have HB := below_step b2 HB
  have zz2 := b2.size
  replace QAxs := Lib.hid (QAxs.out.keepB b2)
  have TaList1 := Lib.hid f2
  clear f2
  go_wp2_with fail
  refine (specKinds_at _ _ _ xs HSTxs.out _ (TaList1.out)).mono ?_
  rintro e1 w3 ⟨v3_0, rfl, f3_0, b3⟩
  have HB := below_step b3 HB
  have zz3 := b3.size
  replace QAxs := Lib.hid (QAxs.out.keepB b3)
  replace TaList1 := Lib.hid (TaList1.out.keepB b3)
  have Rw0 := Lib.hid f3_0
  clear f3_0
  clear TaList1
  go_wp2_with fail
  refine (toEntryS_at _ _ _ _ xs hnxs HXxs.out _ (QAxs.out)).mono ?_
  rintro e1 w4 ⟨v4, rfl, f4, b4⟩
  have HB := below_step b4 HB
  have zz4 := b4.size
  replace QAxs := Lib.hid (QAxs.out.keepB b4)
  replace Rw0 := Lib.hid (Rw0.out.keepB b4)
  have Xx0 := Lib.hid f4
  clear f4
  go_wp2_with fail
  refine (implKinds_at _ _ _ xs HSTxs.out _ aS (hS.below HB (Nat.le_refl _)) (hM.below HB) (Xx0.out)).mono ?_
  rintro e1 w5 ⟨v5_0, rfl, f5_0, b5⟩
  have HB := below_step b5 HB
  have zz5 := b5.size
  replace QAxs := Lib.hid (QAxs.out.keepB b5)
  replace Rw0 := Lib.hid (Rw0.out.keepB b5)
  replace Xx0 := Lib.hid (Xx0.out.keepB b5)
  have Rg0 := Lib.hid f5_0
  clear f5_0
  go_wp2_with fail
  refine (eqRowS_at _ _ _ _ _ _ _ _ (Rg0.out) (Rw0.out)).mono ?_
  rintro e1 w6 ⟨rfl, b6⟩
  have HB := below_step b6 HB
  have zz6 := b6.size
  replace QAxs := Lib.hid (QAxs.out.keepB b6)
  replace Rw0 := Lib.hid (Rw0.out.keepB b6)
  replace Xx0 := Lib.hid (Xx0.out.keepB b6)
  replace Rg0 := Lib.hid (Rg0.out.keepB b6)
  go_wp2_with fail
  refine (toEntryS_at _ _ _ _ xs hnxs HXxs.out _ (QAxs.out)).mono ?_
  rintro e1 w7 ⟨v7, rfl, f7, b7⟩
  have HB := below_step b7 HB
  have zz7 := b7.size
  replace QAxs := Lib.hid (QAxs.out.keepB b7)
  replace Rw0 := Lib.hid (Rw0.out.keepB b7)
  replace Xx0 := Lib.hid (Xx0.out.keepB b7)
  replace Rg0 := Lib.hid (Rg0.out.keepB b7)
  have TE := Lib.hid f7
  clear f7
  go_wp2_with fail
  refine (eqEntryS_at _ _ _ _ _ _ _ _ _ (Xx0.out) (TE.out)).mono ?_
  rintro e1 w8 ⟨rfl, b8⟩
  rw [dec_self]
  have HB := below_step b8 HB
  have zz8 := b8.size
  replace QAxs := Lib.hid (QAxs.out.keepB b8)
  replace Rw0 := Lib.hid (Rw0.out.keepB b8)
  replace Xx0 := Lib.hid (Xx0.out.keepB b8)
  replace Rg0 := Lib.hid (Rg0.out.keepB b8)
  replace TE := Lib.hid (TE.out.keepB b8)
  clear TE
  have hl8 := Xx0.out.1
  have LF := Xx0
  clear Xx0
  go_wp2_with fail
  refine (markEntryS_at _ _ _ _ _ _ (by omega) (by omega) LF.out.1 _ LF.out.2).mono ?_
  rintro e1 w9 ⟨rfl, _, b9⟩
  have zz9 := b9.size
  have HB := Within.below HB b9 (by omega) HB.size
  replace QAxs := Lib.hid (QAxs.out.keep b9 (by omega))
  replace Rw0 := Lib.hid (Rw0.out.keep b9 (by omega))
  replace Rg0 := Lib.hid (Rg0.out.keep b9 (by omega))
  clear LF
  go_wp2_with fail
  refine (eqRowS_at _ _ _ _ _ _ _ _ (Rg0.out) (Rw0.out)).mono ?_
  rintro e1 w10 ⟨rfl, b10⟩
  have HB := below_step b10 HB
  have zz10 := b10.size
  replace QAxs := Lib.hid (QAxs.out.keepB b10)
  replace Rw0 := Lib.hid (Rw0.out.keepB b10)
  replace Rg0 := Lib.hid (Rg0.out.keepB b10)
  have hl10 := Rg0.out.1.1
  have LF := Rg0
  clear Rg0
  go_wp2_with fail
  refine (markRowS_at _ _ _ _ _ (by omega) (by omega) _ LF.out).mono ?_
  rintro e1 w11 ⟨rfl, f11, b11⟩
  have zz11 := b11.size
  have HB := Within.below HB b11 (by omega) HB.size
  replace QAxs := Lib.hid (QAxs.out.keep b11 (by omega))
  replace Rw0 := Lib.hid (Rw0.out.keep b11 (by omega))
  have Hg0 := Lib.hid f11
  clear f11
  clear LF
  go_wp2_with fail
  refine (heldRowS_at _ _ _ _ _ (by omega) (by omega) _ (Hg0.out)).mono ?_
  rintro e1 w12 ⟨rfl, b12⟩
  have HB := below_step b12 HB
  have zz12 := b12.size
  replace QAxs := Lib.hid (QAxs.out.keepB b12)
  replace Rw0 := Lib.hid (Rw0.out.keepB b12)
  replace Hg0 := Lib.hid (Hg0.out.keepB b12)
  go_wp2_with fail
  refine (toEntryS_at _ _ _ _ xs hnxs HXxs.out _ (QAxs.out)).mono ?_
  rintro e1 w13 ⟨v13, rfl, f13, b13⟩
  have HB := below_step b13 HB
  have zz13 := b13.size
  replace QAxs := Lib.hid (QAxs.out.keepB b13)
  replace Rw0 := Lib.hid (Rw0.out.keepB b13)
  replace Hg0 := Lib.hid (Hg0.out.keepB b13)
  have TaList12 := Lib.hid f13
  clear f13
  go_wp2_with fail
  refine (implKinds_at _ _ _ xs HSTxs.out _ aS (hS.below HB (Nat.le_refl _)) (hM.below HB) (TaList12.out)).mono ?_
  rintro e1 w14 ⟨v14_0, rfl, f14_0, b14⟩
  have HB := below_step b14 HB
  have zz14 := b14.size
  replace QAxs := Lib.hid (QAxs.out.keepB b14)
  replace Rw0 := Lib.hid (Rw0.out.keepB b14)
  replace Hg0 := Lib.hid (Hg0.out.keepB b14)
  replace TaList12 := Lib.hid (TaList12.out.keepB b14)
  have Rh0 := Lib.hid f14_0
  clear f14_0
  clear TaList12
  go_wp2_with fail
  refine (eqRowS_at _ _ _ _ _ _ _ _ (Rh0.out) (Rw0.out)).mono ?_
  rintro e1 w15 ⟨rfl, b15⟩
  have HB := below_step b15 HB
  have zz15 := b15.size
  replace QAxs := Lib.hid (QAxs.out.keepB b15)
  replace Rw0 := Lib.hid (Rw0.out.keepB b15)
  replace Hg0 := Lib.hid (Hg0.out.keepB b15)
  replace Rh0 := Lib.hid (Rh0.out.keepB b15)
  go_wp2_with fail
  refine (heldRowS_at _ _ _ _ _ (by omega) (by omega) _ (Hg0.out)).mono ?_
  rintro e1 w16 ⟨rfl, b16⟩
  have HB := below_step b16 HB
  have zz16 := b16.size
  replace QAxs := Lib.hid (QAxs.out.keepB b16)
  replace Rw0 := Lib.hid (Rw0.out.keepB b16)
  replace Hg0 := Lib.hid (Hg0.out.keepB b16)
  replace Rh0 := Lib.hid (Rh0.out.keepB b16)
  go_wp2
  go_ret
  exact ⟨rfl, HB⟩



set_option maxRecDepth 100000 in
theorem opened {H : Type} {enc : TypeId × Value → H} (W : World) (base : Nat) (args : Array Value) (ds : List (DataW H)) (ps : List MemPlace)
    (hval : ∀ (j : Nat) t v, (#[42] : Array TypeId)[j]? = some t → args[j]? = some v → Value.okWide Tryd.prog W .any base t v)
    (hA : DataW.TrodAll enc Tryd.prog W 0 (fun _ => true) true [42] args.toList ds ps) (hL : (∃ a, Sent a W) ∧ MaxL W) :
    Calls Tryd.prog 6 args W fun e W' => e = .returned (.bool true) ∧ Below W.heap.size W W' := by
  obtain ⟨v0, vs0, d0, ds0, p0, q0, hargs, rfl, rfl, h0, r0⟩ := trodAll_cons hA
  obtain ⟨rfl, rfl, rfl⟩ := trodAll_nil r0
  obtain rfl : args = #[v0] := by cases args; simp_all
  obtain ⟨A0, n0, k0, xs0, rfl, nc0, cm0, xl0, xL0, xo0⟩ := open_rows (ks := [1, 0, 1, 0]) entryCells entryOk (entryDec W) Tryd.underlying42 (by kernel_rfl) (by kernel_rfl) (by decide) (fun _ => rfl) (hval 0 42 v0 rfl rfl) h0
  exact walk W A0 n0 k0 xs0 nc0 cm0 xl0 xL0 xo0 hL
end Go.Proofs.YtipkhmcnkldbbaaDoor.lawIndexKinds
