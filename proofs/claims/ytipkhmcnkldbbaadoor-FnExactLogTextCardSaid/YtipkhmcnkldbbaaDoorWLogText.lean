/-
  FnExactLogText returns true at every input: the program's LogText is the reference's, leaves its arguments as they were, and its result is its own. No condition.
-/
import Derived.Test.YtipkhmcnkldbbaaDoorLogT
import Derived.Test.YtipkhmcnkldbbaaDoorKEntry
import Derived.Test.YtipkhmcnkldbbaaDoorFrameTS
namespace Go.Proofs.YtipkhmcnkldbbaaDoor.lawLogText
open Go.ChangeShapes Go.WideShapes Go.ChangeAt Go.RowKit

set_option maxHeartbeats 6400000 in
theorem walk (w : World) (Axs : Option Addr) (nxs cxs : Nat) (xs : List (ByteArray × Int × ByteArray × Int)) (hncxs : nxs ≤ cxs) (hcmxs : cxs ≤ maxLen) (hxxs : xs.length = nxs) (hLxs : Lies w 4 Axs nxs (xs.flatMap entryCells)) (hoxs : ∀ x ∈ xs, entryOk x) (hQ : (∃ a, Sent a w) ∧ MaxL w ∧ HasTab w) :
    Calls Tryd.prog 5 #[.slice Axs nxs cxs] w fun e w' => e = .returned (.bool true) ∧ Below w.heap.size w w' := by
  obtain ⟨⟨aS, hS⟩, hM, hT⟩ := hQ
  have hmxs : nxs ≤ maxLen := Nat.le_trans hncxs hcmxs
  have HXxs := Lib.hid hxxs
  have HLxs := Lib.hid hLxs
  have HOxs := Lib.hid hoxs
  clear hxxs hLxs hoxs
  by_cases cs0 : szR (1048576) nxs (xs.flatMap entryTexts) < 0
  · have es := Lib.hid (szR_neg cs0)
    clear cs0
    have QAxs := Lib.hid (ArgAt.mk' HLxs.out)
    have HB : Below w.heap.size w w := Below.refl _ _
    go_enter Tryd.func5, Tryd.ntmps5
    go_wp2_with fail
    refine (szEntryS_any _ _ _ hmxs xs HXxs.out HOxs.out _ (by omega) (by omega) _ QAxs.out.1).mono ?_
    rintro e1 w1 ⟨rfl, b1⟩
    rw [es.out]
    have HB := below_step b1 HB
    have zz1 := b1.size
    replace QAxs := Lib.hid (QAxs.out.keepB b1)
    go_wp2
    go_ret
    exact ⟨rfl, HB⟩
  have hnxs := szR_len_of (by omega) cs0
  obtain ⟨r0, hr0, hra0, hrb0⟩ := szR_pos (by omega) cs0
  have es0 := Lib.hid hr0
  clear hr0 cs0
  have HSTxs := Lib.hid (show StOk xs from ⟨enS_ok (left := 1048576) (by omega) (by rw [es0.out]; exact hra0), enE_ok HOxs.out⟩)
  have QAxs := Lib.hid (ArgAt.mk' HLxs.out)
  have HB : Below w.heap.size w w := Below.refl _ _
  go_enter Tryd.func5, Tryd.ntmps5
  go_wp2_with fail
  refine (szEntryS_any _ _ _ hmxs xs HXxs.out HOxs.out _ (by omega) (by omega) _ QAxs.out.1).mono ?_
  rintro e1 w1 ⟨rfl, b1⟩
  rw [es0.out]
  have HB := below_step b1 HB
  have zz1 := b1.size
  replace QAxs := Lib.hid (QAxs.out.keepB b1)
  go_wp2_with fail
  refine (toEntryS_at _ _ _ _ xs hnxs HXxs.out _ (QAxs.out)).mono ?_
  rintro e1 w2 ⟨v2, rfl, f2, b2⟩
  have HB := below_step b2 HB
  have zz2 := b2.size
  replace QAxs := Lib.hid (QAxs.out.keepB b2)
  have TaList1 := Lib.hid f2
  clear f2
  go_wp2_with fail
  refine (specLog_at _ _ _ xs HSTxs.out _ (TaList1.out)).mono ?_
  rintro e1 w3 ⟨rfl, b3⟩
  have HB := below_step b3 HB
  have zz3 := b3.size
  replace QAxs := Lib.hid (QAxs.out.keepB b3)
  replace TaList1 := Lib.hid (TaList1.out.keepB b3)
  clear TaList1
  go_wp2_with fail
  refine (toEntryS_at _ _ _ _ xs hnxs HXxs.out _ (QAxs.out)).mono ?_
  rintro e1 w4 ⟨v4, rfl, f4, b4⟩
  have HB := below_step b4 HB
  have zz4 := b4.size
  replace QAxs := Lib.hid (QAxs.out.keepB b4)
  have Xx0 := Lib.hid f4
  clear f4
  go_wp2_with fail
  refine (implLog_at _ _ _ xs HSTxs.out _ aS (hS.below HB (Nat.le_refl _)) (hM.below HB) (hT.below HB (Nat.le_refl _)) (Xx0.out)).mono ?_
  rintro e1 w5 ⟨rfl, b5⟩
  have HB := below_step b5 HB
  have zz5 := b5.size
  replace QAxs := Lib.hid (QAxs.out.keepB b5)
  replace Xx0 := Lib.hid (Xx0.out.keepB b5)
  go_wp2_with fail
  refine (toEntryS_at _ _ _ _ xs hnxs HXxs.out _ (QAxs.out)).mono ?_
  rintro e1 w6 ⟨v6, rfl, f6, b6⟩
  have HB := below_step b6 HB
  have zz6 := b6.size
  replace QAxs := Lib.hid (QAxs.out.keepB b6)
  replace Xx0 := Lib.hid (Xx0.out.keepB b6)
  have TE := Lib.hid f6
  clear f6
  go_wp2_with fail
  refine (eqEntryS_at _ _ _ _ _ _ _ _ _ (Xx0.out) (TE.out)).mono ?_
  rintro e1 w7 ⟨rfl, b7⟩
  rw [dec_self]
  have HB := below_step b7 HB
  have zz7 := b7.size
  replace QAxs := Lib.hid (QAxs.out.keepB b7)
  replace Xx0 := Lib.hid (Xx0.out.keepB b7)
  replace TE := Lib.hid (TE.out.keepB b7)
  clear TE
  go_wp2
  go_ret
  exact ⟨rfl, HB⟩



set_option maxRecDepth 100000 in
theorem opened {H : Type} {enc : TypeId × Value → H} (W : World) (base : Nat) (args : Array Value) (ds : List (DataW H)) (ps : List MemPlace)
    (hval : ∀ (j : Nat) t v, (#[42] : Array TypeId)[j]? = some t → args[j]? = some v → Value.okWide Tryd.prog W .any base t v)
    (hA : DataW.TrodAll enc Tryd.prog W 0 (fun _ => true) true [42] args.toList ds ps) (hL : (∃ a, Sent a W) ∧ MaxL W ∧ HasTab W) :
    Calls Tryd.prog 5 args W fun e W' => e = .returned (.bool true) ∧ Below W.heap.size W W' := by
  obtain ⟨v0, vs0, d0, ds0, p0, q0, hargs, rfl, rfl, h0, r0⟩ := trodAll_cons hA
  obtain ⟨rfl, rfl, rfl⟩ := trodAll_nil r0
  obtain rfl : args = #[v0] := by cases args; simp_all
  obtain ⟨A0, n0, k0, xs0, rfl, nc0, cm0, xl0, xL0, xo0⟩ := open_rows (ks := [1, 0, 1, 0]) entryCells entryOk (entryDec W) Tryd.underlying42 (by kernel_rfl) (by kernel_rfl) (by decide) (fun _ => rfl) (hval 0 42 v0 rfl rfl) h0
  exact walk W A0 n0 k0 xs0 nc0 cm0 xl0 xL0 xo0 hL
end Go.Proofs.YtipkhmcnkldbbaaDoor.lawLogText
