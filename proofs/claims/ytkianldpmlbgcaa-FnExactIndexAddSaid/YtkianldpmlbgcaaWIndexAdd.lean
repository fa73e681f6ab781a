/-
  FnExactIndexAdd returns true at every input: the program's IndexAdd is the reference's, leaves its arguments as they were, and its result is its own. No condition.
-/
import Derived.Test.YtkianldpmlbgcaaIdxT
import Derived.Test.YtkianldpmlbgcaaKRow
namespace Go.Proofs.Ytkianldpmlbgcaa.lawIndexAdd
open Go.ChangeShapes Go.WideShapes Go.ChangeAt Go.RowKit

set_option maxHeartbeats 6400000 in
theorem walk (w : World) (Axs : Option Addr) (nxs cxs : Nat) (xs : List RowX) (hncxs : nxs ≤ cxs) (hcmxs : cxs ≤ maxLen) (hxxs : xs.length = nxs) (hLxs : Lies w 2 Axs nxs (xs.flatMap rowCells)) (hoxs : ∀ x ∈ xs, RowOk w x) (key : ByteArray) (_hkey : StrOk key) (p : Int) (_hp : IntOk p) :
    Calls Try.prog 7 #[.slice Axs nxs cxs, .string key, .int .i64 p] w fun e w' => e = .returned (.bool true) ∧ Below w.heap.size w w' := by
  have hmxs : nxs ≤ maxLen := Nat.le_trans hncxs hcmxs
  have HXxs := Lib.hid hxxs
  have HLxs := Lib.hid hLxs
  have HOxs := Lib.hid hoxs
  clear hxxs hLxs hoxs
  by_cases cs0 : (1048576 : Int) < key.size
  · skip
    have QAxs := Lib.hid (ArgR.mk' HLxs.out HOxs.out)
    have HB : Below w.heap.size w w := Below.refl _ _
    go_enter Try.func7, Try.ntmps7
    go_wp2
    go_ret
    exact ⟨rfl, (by repeat' (first | (with_reducible exact Below.refl _ _) | (with_reducible assumption) | (with_reducible refine below_step (by assumption) ?_) | (with_reducible refine below_alloc ?_ _) | (with_reducible refine Below.drew ?_) | (with_reducible refine below_drewN ?_ _) | (with_reducible refine Below.setCell ?_ ?_ _) | go_size))⟩
  have hnkey : key.size ≤ 1048576 := by omega
  cases EB0 : addB (xs.map rowVal) key p
  all_goals
    have QAxs := Lib.hid (ArgR.mk' HLxs.out HOxs.out)
    have HB : Below w.heap.size w w := Below.refl _ _
    go_enter Try.func7, Try.ntmps7
    go_wp2_with fail
    refine (szRowS_arg _ _ _ _ hmxs xs HXxs.out _ (by omega) (by omega) _ QAxs.out).mono ?_
    rintro e1 w1 ⟨⟨rz, rfl, hrz⟩, b1⟩
    rcases hrz with rfl | ⟨hrz0, hft⟩
    · go_wp2
      go_ret
      exact ⟨rfl, below_step b1 HB⟩
    have FTxs := Lib.hid hft
    clear hft
    have hnxs : nxs ≤ 1048576 := by have h1 := FTxs.out.len; have h2 := HXxs.out; omega
    have HOVxs := Lib.hid (OkV.of QAxs.out FTxs.out)
    have hflxs : rowLen (xs.map rowVal) ≤ 1048576 := FTxs.out.sum
    have HB := below_step b1 HB
    have zz1 := b1.size
    replace QAxs := Lib.hid (QAxs.out.keepB b1)
    go_wp2_with fail
    refine (toRowS_at _ _ _ _ xs HXxs.out FTxs.out _ (QAxs.out)).mono ?_
    rintro e1 w2 ⟨v2, rfl, f2, b2⟩
    have HB := below_step b2 HB
    have zz2 := b2.size
    replace QAxs := Lib.hid (QAxs.out.keepB b2)
    have TaRows1 := Lib.hid f2
    clear f2
    go_wp2_with fail
    refine (specAddI_at _ _ _ (xs.map rowVal) key p hnkey HOVxs.out hflxs _ (TaRows1.out)).mono ?_
    rintro e1 w3 ⟨v3_0, rfl, f3_0, b3⟩
    rw [EB0]
    have HB := below_step b3 HB
    have zz3 := b3.size
    replace QAxs := Lib.hid (QAxs.out.keepB b3)
    replace TaRows1 := Lib.hid (TaRows1.out.keepB b3)
    have Rw0 := Lib.hid f3_0
    clear f3_0
    clear TaRows1
    go_wp2_with fail
    refine (toRowS_at _ _ _ _ xs HXxs.out FTxs.out _ (QAxs.out)).mono ?_
    rintro e1 w4 ⟨v4, rfl, f4, b4⟩
    have HB := below_step b4 HB
    have zz4 := b4.size
    replace QAxs := Lib.hid (QAxs.out.keepB b4)
    replace Rw0 := Lib.hid (Rw0.out.keepB b4)
    have Xx0 := Lib.hid f4
    clear f4
    go_wp2_with fail
    refine (implAddI_at _ _ _ (xs.map rowVal) key p hnkey HOVxs.out hflxs _ (Xx0.out)).mono ?_
    rintro e1 w5 ⟨v5_0, rfl, f5_0, b5⟩
    rw [EB0]
    have HB := below_step b5 HB
    have zz5 := b5.size
    replace QAxs := Lib.hid (QAxs.out.keepB b5)
    replace Rw0 := Lib.hid (Rw0.out.keepB b5)
    replace Xx0 := Lib.hid (Xx0.out.keepB b5)
    have Rg0 := Lib.hid f5_0
    clear f5_0
    go_wp2_with fail
    refine (eqRowS_at _ _ _ _ _ _ _ _ (Rg0.out) (Rw0.out)).mono ?_
    rintro e1 w6 ⟨rfl, b6⟩
    have HB := below_step b6 HB
    have zz6 := b6.size
    replace QAxs := Lib.hid (QAxs.out.keepB b6)
    replace Rw0 := Lib.hid (Rw0.out.keepB b6)
    replace Xx0 := Lib.hid (Xx0.out.keepB b6)
    replace Rg0 := Lib.hid (Rg0.out.keepB b6)
    go_wp2_with fail
    refine (toRowS_at _ _ _ _ xs HXxs.out FTxs.out _ (QAxs.out)).mono ?_
    rintro e1 w7 ⟨v7, rfl, f7, b7⟩
    have HB := below_step b7 HB
    have zz7 := b7.size
    replace QAxs := Lib.hid (QAxs.out.keepB b7)
    replace Rw0 := Lib.hid (Rw0.out.keepB b7)
    replace Xx0 := Lib.hid (Xx0.out.keepB b7)
    replace Rg0 := Lib.hid (Rg0.out.keepB b7)
    have TE := Lib.hid f7
    clear f7
    go_wp2_with fail
    refine (eqRowS_at _ _ _ _ _ _ _ _ (Xx0.out) (TE.out)).mono ?_
    rintro e1 w8 ⟨rfl, b8⟩
    have HB := below_step b8 HB
    have zz8 := b8.size
    replace QAxs := Lib.hid (QAxs.out.keepB b8)
    replace Rw0 := Lib.hid (Rw0.out.keepB b8)
    replace Xx0 := Lib.hid (Xx0.out.keepB b8)
    replace Rg0 := Lib.hid (Rg0.out.keepB b8)
    replace TE := Lib.hid (TE.out.keepB b8)
    clear TE
    have hl8 := Xx0.out.1
    have LF := Xx0
    clear Xx0
    go_wp2_with fail
    refine (markRowS_at _ _ _ _ _ (by omega) (by omega) _ LF.out).mono ?_
    rintro e1 w9 ⟨rfl, _, b9⟩
    have zz9 := b9.size
    have HB := Within.below HB b9 (by omega) HB.size
    replace QAxs := Lib.hid (QAxs.out.keep b9 (by omega))
    replace Rw0 := Lib.hid (Rw0.out.keep b9 (by omega))
    replace Rg0 := Lib.hid (Rg0.out.keep b9 (by omega))
    clear LF
    go_wp2_with fail
    refine (eqRowS_at _ _ _ _ _ _ _ _ (Rg0.out) (Rw0.out)).mono ?_
    rintro e1 w10 ⟨rfl, b10⟩
    have HB := below_step b10 HB
    have zz10 := b10.size
    replace QAxs := Lib.hid (QAxs.out.keepB b10)
    replace Rw0 := Lib.hid (Rw0.out.keepB b10)
    replace Rg0 := Lib.hid (Rg0.out.keepB b10)
    have hl10 := Rg0.out.1.1
    have LF := Rg0
    clear Rg0
    go_wp2_with fail
    refine (markRowS_at _ _ _ _ _ (by omega) (by omega) _ LF.out).mono ?_
    rintro e1 w11 ⟨rfl, f11, b11⟩
    have zz11 := b11.size
    have HB := Within.below HB b11 (by omega) HB.size
    replace QAxs := Lib.hid (QAxs.out.keep b11 (by omega))
    replace Rw0 := Lib.hid (Rw0.out.keep b11 (by omega))
    have Hg0 := Lib.hid f11
    clear f11
    clear LF
    go_wp2_with fail
    refine (heldRowS_at _ _ _ _ _ (by omega) (by omega) _ (Hg0.out)).mono ?_
    rintro e1 w12 ⟨rfl, b12⟩
    have HB := below_step b12 HB
    have zz12 := b12.size
    replace QAxs := Lib.hid (QAxs.out.keepB b12)
    replace Rw0 := Lib.hid (Rw0.out.keepB b12)
    replace Hg0 := Lib.hid (Hg0.out.keepB b12)
    go_wp2_with fail
    refine (toRowS_at _ _ _ _ xs HXxs.out FTxs.out _ (QAxs.out)).mono ?_
    rintro e1 w13 ⟨v13, rfl, f13, b13⟩
    have HB := below_step b13 HB
    have zz13 := b13.size
    replace QAxs := Lib.hid (QAxs.out.keepB b13)
    replace Rw0 := Lib.hid (Rw0.out.keepB b13)
    replace Hg0 := Lib.hid (Hg0.out.keepB b13)
    have TaRows12 := Lib.hid f13
    clear f13
    go_wp2_with fail
    refine (implAddI_at _ _ _ (xs.map rowVal) key p hnkey HOVxs.out hflxs _ (TaRows12.out)).mono ?_
    rintro e1 w14 ⟨v14_0, rfl, f14_0, b14⟩
    rw [EB0]
    have HB := below_step b14 HB
    have zz14 := b14.size
    replace QAxs := Lib.hid (QAxs.out.keepB b14)
    replace Rw0 := Lib.hid (Rw0.out.keepB b14)
    replace Hg0 := Lib.hid (Hg0.out.keepB b14)
    replace TaRows12 := Lib.hid (TaRows12.out.keepB b14)
    have Rh0 := Lib.hid f14_0
    clear f14_0
    clear TaRows12
    go_wp2_with fail
    refine (eqRowS_at _ _ _ _ _ _ _ _ (Rh0.out) (Rw0.out)).mono ?_
    rintro e1 w15 ⟨rfl, b15⟩
    have HB := below_step b15 HB
    have zz15 := b15.size
    replace QAxs := Lib.hid (QAxs.out.keepB b15)
    replace Rw0 := Lib.hid (Rw0.out.keepB b15)
    replace Hg0 := Lib.hid (Hg0.out.keepB b15)
    replace Rh0 := Lib.hid (Rh0.out.keepB b15)
    go_wp2_with fail
    refine (heldRowS_at _ _ _ _ _ (by omega) (by omega) _ (Hg0.out)).mono ?_
    rintro e1 w16 ⟨rfl, b16⟩
    have HB := below_step b16 HB
    have zz16 := b16.size
    replace QAxs := Lib.hid (QAxs.out.keepB b16)
    replace Rw0 := Lib.hid (Rw0.out.keepB b16)
    replace Hg0 := Lib.hid (Hg0.out.keepB b16)
    replace Rh0 := Lib.hid (Rh0.out.keepB b16)
    go_wp2
    go_ret
    exact ⟨rfl, HB⟩


set_option maxRecDepth 100000 in
theorem opened {H : Type} {enc : TypeId × Value → H} (W : World) (base : Nat) (args : Array Value) (ds : List (DataW H)) (ps : List MemPlace)
    (hval : ∀ (j : Nat) t v, (#[22, 9, 3] : Array TypeId)[j]? = some t → args[j]? = some v → Value.okWide Try.prog W .any base t v)
    (hA : DataW.TrodAll enc Try.prog W 0 (fun _ => true) true [22, 9, 3] args.toList ds ps) :
    Calls Try.prog 7 args W fun e W' => e = .returned (.bool true) ∧ Below W.heap.size W W' := by
  obtain ⟨v0, vs0, d0, ds0, p0, q0, hargs, rfl, rfl, h0, r0⟩ := trodAll_cons hA
  obtain ⟨v1, vs1, d1, ds1, p1, q1, rfl, rfl, rfl, h1, r1⟩ := trodAll_cons r0
  obtain ⟨v2, vs2, d2, ds2, p2, q2, rfl, rfl, rfl, h2, r2⟩ := trodAll_cons r1
  obtain ⟨rfl, rfl, rfl⟩ := trodAll_nil r2
  obtain rfl : args = #[v0, v1, v2] := by cases args; simp_all
  obtain ⟨A0, n0, k0, xs0, rfl, nc0, cm0, xl0, xL0, xo0⟩ := open_rows (ks := [1, 3]) rowCells (RowOk W) (rowDec W) Try.underlying22 (by kernel_rfl) (by kernel_rfl) (by decide) (fun _ => rfl) (hval 0 22 v0 rfl rfl) h0
  obtain ⟨a1, rfl, rfl, rfl, w1⟩ := Go.ChangeMaps.open_string Try.underlying9 (hval 1 9 v1 rfl rfl) h1
  obtain ⟨a2, rfl, rfl, rfl, w2⟩ := open_int Try.underlying3 (hval 2 3 v2 rfl rfl) h2
  exact walk W A0 n0 k0 xs0 nc0 cm0 xl0 xL0 xo0 a1 w1 a2 (bounds_i64 w2)
end Go.Proofs.Ytkianldpmlbgcaa.lawIndexAdd
