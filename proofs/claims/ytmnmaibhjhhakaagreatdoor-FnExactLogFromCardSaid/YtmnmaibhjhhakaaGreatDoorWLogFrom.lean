/-
  FnExactLogFrom returns true at every input: the program's LogFrom is the reference's, leaves its arguments as they were, and its result is its own. No condition.
-/
import Derived.Test.YtmnmaibhjhhakaaGreatDoorLogV
import Derived.Test.YtmnmaibhjhhakaaGreatDoorKEntry
namespace Go.Proofs.YtmnmaibhjhhakaaGreatDoor.lawLogFrom
open Go.ChangeShapes Go.WideShapes Go.ChangeAt Go.RowKit

set_option maxHeartbeats 6400000 in
theorem walk (s : ByteArray) (_hs : StrOk s) (w : World) (hQ : (∃ a, Sent a w) ∧ MaxL w ∧ HasTab w ∧ HandE w) :
    Calls Tryz.prog 3 #[.string s] w fun e w' => e = .returned (.bool true) ∧ Below w.heap.size w w' := by
  obtain ⟨⟨aS, hS⟩, hM, hT, hE⟩ := hQ
  by_cases cs0 : (1048576 : Int) < s.size
  · skip
    have HB : Below w.heap.size w w := Below.refl _ _
    go_enter Tryz.func3, Tryz.ntmps3
    go_wp2
    go_ret
    exact ⟨rfl, (by repeat' (first | (with_reducible exact Below.refl _ _) | (with_reducible assumption) | (with_reducible refine below_step (by assumption) ?_) | (with_reducible refine below_alloc ?_ _) | (with_reducible refine Below.drew ?_) | (with_reducible refine below_drewN ?_ _) | (with_reducible refine Below.setCell ?_ ?_ _) | go_size))⟩
  have hns : s.size ≤ 1048576 := by omega
  obtain ⟨lx, p1, p2, hres⟩ : ∃ a b c, logR s = (a, b, c) := ⟨_, _, _, rfl⟩
  have HRS := Lib.hid hres
  clear hres
  have HB : Below w.heap.size w w := Below.refl _ _
  go_enter Tryz.func3, Tryz.ntmps3
  go_wp2_with fail
  refine (specLogF_as s lx p1 p2 HRS.out hns _).mono ?_
  rintro e1 w1 ⟨v1_0, rfl, f1_0, b1⟩
  have HB := below_step b1 HB
  have zz1 := b1.size
  have Rw0 := Lib.hid f1_0
  clear f1_0
  go_wp2_with fail
  refine (implLogF_as s lx p1 p2 HRS.out hns _ aS (hS.below HB (Nat.le_refl _)) (hM.below HB) (hT.below HB (Nat.le_refl _)) (hE.below HB)).mono ?_
  rintro e1 w2 ⟨v2_0, rfl, f2_0, b2⟩
  have HB := below_step b2 HB
  have zz2 := b2.size
  replace Rw0 := Lib.hid (Rw0.out.keepB b2)
  have Rg0 := Lib.hid f2_0
  clear f2_0
  go_wp2_with fail
  refine (eqEntryS_at _ _ _ _ _ _ _ _ _ (Rg0.out) (Rw0.out)).mono ?_
  rintro e1 w3 ⟨rfl, b3⟩
  rw [dec_self]
  have HB := below_step b3 HB
  have zz3 := b3.size
  replace Rw0 := Lib.hid (Rw0.out.keepB b3)
  replace Rg0 := Lib.hid (Rg0.out.keepB b3)
  have hl3 := Rg0.out.1
  have LF := Rg0
  clear Rg0
  go_wp2_with fail
  refine (markEntryS_at _ _ _ _ _ _ (by omega) (by omega) LF.out.1 _ LF.out.2).mono ?_
  rintro e1 w4 ⟨rfl, f4, b4⟩
  have zz4 := b4.size
  have HB := Within.below HB b4 (by omega) HB.size
  replace Rw0 := Lib.hid (Rw0.out.keep b4 (by omega))
  have Hg0 := Lib.hid f4
  clear f4
  clear LF
  go_wp2_with fail
  refine (heldEntryS_at _ _ _ _ _ (by omega) (by omega) _ (Hg0.out)).mono ?_
  rintro e1 w5 ⟨rfl, b5⟩
  have HB := below_step b5 HB
  have zz5 := b5.size
  replace Rw0 := Lib.hid (Rw0.out.keepB b5)
  replace Hg0 := Lib.hid (Hg0.out.keepB b5)
  go_wp2_with fail
  refine (implLogF_as s lx p1 p2 HRS.out hns _ aS (hS.below HB (Nat.le_refl _)) (hM.below HB) (hT.below HB (Nat.le_refl _)) (hE.below HB)).mono ?_
  rintro e1 w6 ⟨v6_0, rfl, f6_0, b6⟩
  have HB := below_step b6 HB
  have zz6 := b6.size
  replace Rw0 := Lib.hid (Rw0.out.keepB b6)
  replace Hg0 := Lib.hid (Hg0.out.keepB b6)
  have Rh0 := Lib.hid f6_0
  clear f6_0
  go_wp2_with fail
  refine (eqEntryS_at _ _ _ _ _ _ _ _ _ (Rh0.out) (Rw0.out)).mono ?_
  rintro e1 w7 ⟨rfl, b7⟩
  rw [dec_self]
  have HB := below_step b7 HB
  have zz7 := b7.size
  replace Rw0 := Lib.hid (Rw0.out.keepB b7)
  replace Hg0 := Lib.hid (Hg0.out.keepB b7)
  replace Rh0 := Lib.hid (Rh0.out.keepB b7)
  go_wp2_with fail
  refine (heldEntryS_at _ _ _ _ _ (by omega) (by omega) _ (Hg0.out)).mono ?_
  rintro e1 w8 ⟨rfl, b8⟩
  have HB := below_step b8 HB
  have zz8 := b8.size
  replace Rw0 := Lib.hid (Rw0.out.keepB b8)
  replace Hg0 := Lib.hid (Hg0.out.keepB b8)
  replace Rh0 := Lib.hid (Rh0.out.keepB b8)
  go_wp2
  go_ret
  exact ⟨rfl, HB⟩



set_option maxRecDepth 100000 in
theorem opened {H : Type} {enc : TypeId × Value → H} (W : World) (base : Nat) (args : Array Value) (ds : List (DataW H)) (ps : List MemPlace)
    (hval : ∀ (j : Nat) t v, (#[9] : Array TypeId)[j]? = some t → args[j]? = some v → Value.okWide Tryz.prog W .any base t v)
    (hA : DataW.TrodAll enc Tryz.prog W 0 (fun _ => true) true [9] args.toList ds ps) (hL : (∃ a, Sent a W) ∧ MaxL W ∧ HasTab W ∧ HandE W) :
    Calls Tryz.prog 3 args W fun e W' => e = .returned (.bool true) ∧ Below W.heap.size W W' := by
  obtain ⟨v0, vs0, d0, ds0, p0, q0, hargs, rfl, rfl, h0, r0⟩ := trodAll_cons hA
  obtain ⟨rfl, rfl, rfl⟩ := trodAll_nil r0
  obtain rfl : args = #[v0] := by cases args; simp_all
  obtain ⟨a0, rfl, rfl, rfl, w0⟩ := Go.ChangeMaps.open_string Tryz.underlying9 (hval 0 9 v0 rfl rfl) h0
  exact walk a0 w0 W hL
end Go.Proofs.YtmnmaibhjhhakaaGreatDoor.lawLogFrom
