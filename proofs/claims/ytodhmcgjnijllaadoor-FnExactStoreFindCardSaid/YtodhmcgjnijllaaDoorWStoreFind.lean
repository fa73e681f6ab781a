/-
  FnExactStoreFind returns true at every input: the program's StoreFind is the reference's, leaves its arguments as they were, and its result is its own. No condition.
-/
import Derived.Test.YtodhmcgjnijllaaDoorFind
import Derived.Test.YtodhmcgjnijllaaDoorKEntry
namespace Go.Proofs.YtodhmcgjnijllaaDoor.lawStoreFind
open Go.ChangeShapes Go.WideShapes Go.ChangeAt Go.RowKit

set_option maxHeartbeats 6400000 in
theorem walk (w : World) (Axs : Option Addr) (nxs cxs : Nat) (xs : List (ByteArray × Int × ByteArray × Int)) (hncxs : nxs ≤ cxs) (hcmxs : cxs ≤ maxLen) (hxxs : xs.length = nxs) (hLxs : Lies w 4 Axs nxs (xs.flatMap entryCells)) (hoxs : ∀ x ∈ xs, entryOk x) (s : ByteArray) (_hs : StrOk s) (p : Int) (_hp : IntOk p) (hQ : (∃ a, Sent a w) ∧ MaxL w) :
    Calls Tryd.prog 3 #[.slice Axs nxs cxs, .string s, .int .i64 p] w fun e w' => e = .returned (.bool true) ∧ Below w.heap.size w w' := by
  obtain ⟨⟨aS, hS⟩, hM⟩ := hQ
  have hmxs : nxs ≤ maxLen := Nat.le_trans hncxs hcmxs
  have HXxs := Lib.hid hxxs
  have HLxs := Lib.hid hLxs
  have HOxs := Lib.hid hoxs
  clear hxxs hLxs hoxs
  by_cases cs0 : (1048576 : Int) < s.size
  · skip
    have QAxs := Lib.hid (ArgAt.mk' HLxs.out)
    have HB : Below w.heap.size w w := Below.refl _ _
    go_enter Tryd.func3, Tryd.ntmps3
    go_wp2
    go_ret
    exact ⟨rfl, (by repeat' (first | (with_reducible exact Below.refl _ _) | (with_reducible assumption) | (with_reducible refine below_step (by assumption) ?_) | (with_reducible refine below_alloc ?_ _) | (with_reducible refine Below.drew ?_) | (with_reducible refine below_drewN ?_ _) | (with_reducible refine Below.setCell ?_ ?_ _) | go_size))⟩
  have hns : s.size ≤ 1048576 := by omega
  by_cases cs1 : szR (1048576) nxs (xs.flatMap entryTexts) < 0
  · have es := Lib.hid (szR_neg cs1)
    clear cs1
    have QAxs := Lib.hid (ArgAt.mk' HLxs.out)
    have HB : Below w.heap.size w w := Below.refl _ _
    go_enter Tryd.func3, Tryd.ntmps3
    go_wp2_with fail
    refine (szEntryS_any _ _ _ hmxs xs HXxs.out HOxs.out _ (by omega) (by omega) _ QAxs.out.1).mono ?_
    rintro e1 w1 ⟨rfl, b1⟩
    rw [es.out]
    have HB := below_step b1 HB
    have zz1 := b1.size
    replace QAxs := Lib.hid (QAxs.out.keepB b1)
    go_wp2
    go_ret
    exact ⟨rfl, HB⟩
  have hnxs := szR_len_of (by omega) cs1
  obtain ⟨r1, hr1, hra1, hrb1⟩ := szR_pos (by omega) cs1
  have es1 := Lib.hid hr1
  clear hr1 cs1
  have HSTxs := Lib.hid (show StOk xs from ⟨enS_ok (left := 1048576) (by omega) (by rw [es1.out]; exact hra1), enE_ok HOxs.out⟩)
  have QAxs := Lib.hid (ArgAt.mk' HLxs.out)
  have HB : Below w.heap.size w w := Below.refl _ _
  go_enter Tryd.func3, Tryd.ntmps3
  go_wp2_with fail
  refine (szEntryS_any _ _ _ hmxs xs HXxs.out HOxs.out _ (by omega) (by omega) _ QAxs.out.1).mono ?_
  rintro e1 w1 ⟨rfl, b1⟩
  rw [es1.out]
  have HB := below_step b1 HB
  have zz1 := b1.size
  replace QAxs := Lib.hid (QAxs.out.keepB b1)
  go_wp2_with fail
  refine (toEntryS_at _ _ _ _ xs hnxs HXxs.out _ (QAxs.out)).mono ?_
  rintro e1 w2 ⟨v2, rfl, f2, b2⟩
  have HB := below_step b2 HB
  have zz2 := b2.size
  replace QAxs := Lib.hid (QAxs.out.keepB b2)
  have TaList1 := Lib.hid f2
  clear f2
  go_wp2_with fail
  refine (specFind_at _ _ _ xs s p HSTxs.out hns _ (TaList1.out)).mono ?_
  rintro e1 w3 ⟨rfl, b3⟩
  have HB := below_step b3 HB
  have zz3 := b3.size
  replace QAxs := Lib.hid (QAxs.out.keepB b3)
  replace TaList1 := Lib.hid (TaList1.out.keepB b3)
  clear TaList1
  go_wp2_with fail
  refine (toEntryS_at _ _ _ _ xs hnxs HXxs.out _ (QAxs.out)).mono ?_
  rintro e1 w4 ⟨v4, rfl, f4, b4⟩
  have HB := below_step b4 HB
  have zz4 := b4.size
  replace QAxs := Lib.hid (QAxs.out.keepB b4)
  have Xx0 := Lib.hid f4
  clear f4
  go_wp2_with fail
  refine (implFind_at _ _ _ xs s p HSTxs.out hns _ aS (hS.below HB (Nat.le_refl _)) (hM.below HB) (Xx0.out)).mono ?_
  rintro e1 w5 ⟨rfl, b5⟩
  have HB := below_step b5 HB
  have zz5 := b5.size
  replace QAxs := Lib.hid (QAxs.out.keepB b5)
  replace Xx0 := Lib.hid (Xx0.out.keepB b5)
  go_wp2_with fail
  refine (toEntryS_at _ _ _ _ xs hnxs HXxs.out _ (QAxs.out)).mono ?_
  rintro e1 w6 ⟨v6, rfl, f6, b6⟩
  have HB := below_step b6 HB
  have zz6 := b6.size
  replace QAxs := Lib.hid (QAxs.out.keepB b6)
  replace Xx0 := Lib.hid (Xx0.out.keepB b6)
  have TE := Lib.hid f6
  clear f6
  go_wp2_with fail
  refine (eqEntryS_at _ _ _ _ _ _ _ _ _ (Xx0.out) (TE.out)).mono ?_
  rintro e1 w7 ⟨rfl, b7⟩
  rw [dec_self]
  have HB := below_step b7 HB
  have zz7 := b7.size
  replace QAxs := Lib.hid (QAxs.out.keepB b7)
  replace Xx0 := Lib.hid (Xx0.out.keepB b7)
  replace TE := Lib.hid (TE.out.keepB b7)
  clear TE
  go_wp2
  go_ret
  exact ⟨rfl, HB⟩



set_option maxRecDepth 100000 in
theorem opened {H : Type} {enc : TypeId × Value → H} (W : World) (base : Nat) (args : Array Value) (ds : List (DataW H)) (ps : List MemPlace)
    (hval : ∀ (j : Nat) t v, (#[22, 9, 3] : Array TypeId)[j]? = some t → args[j]? = some v → Value.okWide Tryd.prog W .any base t v)
    (hA : DataW.TrodAll enc Tryd.prog W 0 (fun _ => true) true [22, 9, 3] args.toList ds ps) (hL : (∃ a, Sent a W) ∧ MaxL W) :
    Calls Tryd.prog 3 args W fun e W' => e = .returned (.bool true) ∧ Below W.heap.size W W' := by
  obtain ⟨v0, vs0, d0, ds0, p0, q0, hargs, rfl, rfl, h0, r0⟩ := trodAll_cons hA
  obtain ⟨v1, vs1, d1, ds1, p1, q1, rfl, rfl, rfl, h1, r1⟩ := trodAll_cons r0
  obtain ⟨v2, vs2, d2, ds2, p2, q2, rfl, rfl, rfl, h2, r2⟩ := trodAll_cons r1
  obtain ⟨rfl, rfl, rfl⟩ := trodAll_nil r2
  obtain rfl : args = #[v0, v1, v2] := by cases args; simp_all
  obtain ⟨A0, n0, k0, xs0, rfl, nc0, cm0, xl0, xL0, xo0⟩ := open_rows (ks := [1, 0, 1, 0]) entryCells entryOk (entryDec W) Tryd.underlying22 (by kernel_rfl) (by kernel_rfl) (by decide) (fun _ => rfl) (hval 0 22 v0 rfl rfl) h0
  obtain ⟨a1, rfl, rfl, rfl, w1⟩ := Go.ChangeMaps.open_string Tryd.underlying9 (hval 1 9 v1 rfl rfl) h1
  obtain ⟨a2, rfl, rfl, rfl, w2⟩ := open_int Tryd.underlying3 (hval 2 3 v2 rfl rfl) h2
  exact walk W A0 n0 k0 xs0 nc0 cm0 xl0 xL0 xo0 a1 w1 a2 (bounds_i64 w2) hL
end Go.Proofs.YtodhmcgjnijllaaDoor.lawStoreFind
