/-
  FnExactNameParts returns true at every text: the program's NameParts is the reference's. No condition beyond what the row lists.
-/
import Derived.Test.YtinghmdpjgbefaaDoorNameV
namespace Go.Proofs.YtinghmdpjgbefaaDoor.lawNameParts
open Go.ChangeShapes Go.WideShapes Go.ChangeAt Go.RowKit

theorem walk (s : ByteArray) (_hs : StrOk s) (w : World) (hL : (∃ a, Sent a w) ∧ MaxL w) : Calls Tryd.prog 5 #[.string s] w fun e w' => e = .returned (.bool true) ∧ Below w.heap.size w w' := by
  obtain ⟨⟨a, hS⟩, hM⟩ := hL
  by_cases c : (1048576 : Int) < s.size
  · go_enter Tryd.func5, Tryd.ntmps5
    go_wp2
    go_ret
    exact ⟨rfl, (by repeat' (first | (with_reducible exact Below.refl _ _) | (with_reducible assumption) | (with_reducible refine below_step (by assumption) ?_) | (with_reducible refine below_alloc ?_ _) | (with_reducible refine Below.drew ?_) | (with_reducible refine below_drewN ?_ _) | (with_reducible refine Below.setCell ?_ ?_ _) | go_size))⟩
  have hz : s.size ≤ 1048576 := by omega
  cases E : nameB s
  · have HE := partsV_f E
    go_enter Tryd.func5, Tryd.ntmps5
    go_wp2_with (first | (go_at_call 13; refine (specParts_any s hz _).mono ?_; rintro e1 w1 ⟨rfl, hb1⟩; have hS1 := hS.below hb1 (Nat.le_refl _); have hM1 := hM.below hb1; rw [HE]) | (go_at_call 14; refine (implParts_any s hz a _ hS1 hM1).mono ?_; rintro e1 w2 ⟨rfl, hb2⟩; rw [HE]))
    go_ret
    exact ⟨rfl, (by repeat' (first | (with_reducible exact Below.refl _ _) | (with_reducible assumption) | (with_reducible refine below_step (by assumption) ?_) | (with_reducible refine below_alloc ?_ _) | (with_reducible refine Below.drew ?_) | (with_reducible refine below_drewN ?_ _) | (with_reducible refine Below.setCell ?_ ?_ _) | go_size))⟩
  · have HE := partsV_t E
    go_enter Tryd.func5, Tryd.ntmps5
    go_wp2_with (first | (go_at_call 13; refine (specParts_any s hz _).mono ?_; rintro e1 w1 ⟨rfl, hb1⟩; have hS1 := hS.below hb1 (Nat.le_refl _); have hM1 := hM.below hb1; rw [HE]) | (go_at_call 14; refine (implParts_any s hz a _ hS1 hM1).mono ?_; rintro e1 w2 ⟨rfl, hb2⟩; rw [HE]))
    go_ret
    exact ⟨rfl, (by repeat' (first | (with_reducible exact Below.refl _ _) | (with_reducible assumption) | (with_reducible refine below_step (by assumption) ?_) | (with_reducible refine below_alloc ?_ _) | (with_reducible refine Below.drew ?_) | (with_reducible refine below_drewN ?_ _) | (with_reducible refine Below.setCell ?_ ?_ _) | go_size))⟩



set_option maxRecDepth 100000 in
theorem opened {H : Type} {enc : TypeId × Value → H} (W : World) (base : Nat) (args : Array Value) (ds : List (DataW H)) (ps : List MemPlace)
    (hval : ∀ (j : Nat) t v, (#[9] : Array TypeId)[j]? = some t → args[j]? = some v → Value.okWide Tryd.prog W .any base t v)
    (hA : DataW.TrodAll enc Tryd.prog W 0 (fun _ => true) true [9] args.toList ds ps) (hL : (∃ a, Sent a W) ∧ MaxL W) :
    Calls Tryd.prog 5 args W fun e W' => e = .returned (.bool true) ∧ Below W.heap.size W W' := by
  obtain ⟨v0, vs0, d0, ds0, p0, q0, hargs, rfl, rfl, h0, r0⟩ := trodAll_cons hA
  obtain ⟨rfl, rfl, rfl⟩ := trodAll_nil r0
  obtain rfl : args = #[v0] := by cases args; simp_all
  obtain ⟨a0, rfl, rfl, rfl, w0⟩ := Go.ChangeMaps.open_string Tryd.underlying9 (hval 0 9 v0 rfl rfl) h0
  exact walk a0 w0 W hL
end Go.Proofs.YtinghmdpjgbefaaDoor.lawNameParts
