/-
  FnExactNameOf returns true at every text and int: the program's NameOf is the reference's. No condition beyond what the row lists.
-/
import Derived.Test.YtinghmdpjgbefaaDoorTab
import Derived.Test.YtinghmdpjgbefaaDoorDec
namespace Go.Proofs.YtinghmdpjgbefaaDoor.lawNameOf
open Go.ChangeShapes Go.WideShapes Go.ChangeAt Go.RowKit

set_option maxRecDepth 8000 in
set_option maxHeartbeats 3200000 in
theorem walk (s : ByteArray) (hs : StrOk s) (n : Int) (_hn : IntOk n) (w : World) (hL : laidMetH Tryd.prog tabs w) : Calls Tryd.prog 3 #[.string s, .int .i64 n] w fun e w' => e = .returned (.bool true) ∧ Below w.heap.size w w' := by
  have HT := hasTab_of_laid hL
  clear hL
  by_cases c : (1048576 : Int) < s.size
  · go_enter Tryd.func3, Tryd.ntmps3
    go_wp2
    go_ret
    exact ⟨rfl, (by repeat' (first | (with_reducible exact Below.refl _ _) | (with_reducible assumption) | (with_reducible refine below_step (by assumption) ?_) | (with_reducible refine below_alloc ?_ _) | (with_reducible refine Below.drew ?_) | (with_reducible refine below_drewN ?_ _) | (with_reducible refine Below.setCell ?_ ?_ _) | go_size))⟩
  cases cw : wordB s
  · go_enter Tryd.func3, Tryd.ntmps3
    go_wp2_with (first
      | (go_at_call 23; refine (l1Word_any _ hs _).mono ?_; rintro e1 w1 ⟨rfl, rfl⟩; rw [cw])
      | (go_at_call 26; refine (wordValid_any _ hs _).mono ?_; rintro e1 w1 ⟨rfl, rfl⟩; rw [cw])
      | go_in)
    go_ret
    exact ⟨rfl, (by repeat' (first | (with_reducible exact Below.refl _ _) | (with_reducible assumption) | (with_reducible refine below_step (by assumption) ?_) | (with_reducible refine below_alloc ?_ _) | (with_reducible refine Below.drew ?_) | (with_reducible refine below_drewN ?_ _) | (with_reducible refine Below.setCell ?_ ?_ _) | go_size))⟩
  rcases (show n < 0 ∨ 999 < n ∨ (0 ≤ n ∧ n ≤ 999) from by omega) with g | g | ⟨g, g'⟩
  · have ei : inB n 0 999 = false := inB_f (by omega)
    have d1 : decide (n < (0:Int)) = true := decide_eq_true g
    go_enter Tryd.func3, Tryd.ntmps3
    go_wp2_with (first
      | (go_at_call 23; refine (l1Word_any _ hs _).mono ?_; rintro e1 w1 ⟨rfl, rfl⟩; rw [cw])
      | (go_at_call 24; refine (l6In_any _ _ _ _).mono ?_; rintro e1 w1 ⟨rfl, rfl⟩; rw [ei])
      | (go_at_call 26; refine (wordValid_any _ hs _).mono ?_; rintro e1 w1 ⟨rfl, rfl⟩; rw [cw])
      | go_in)
    go_ret
    exact ⟨rfl, (by repeat' (first | (with_reducible exact Below.refl _ _) | (with_reducible assumption) | (with_reducible refine below_step (by assumption) ?_) | (with_reducible refine below_alloc ?_ _) | (with_reducible refine Below.drew ?_) | (with_reducible refine below_drewN ?_ _) | (with_reducible refine Below.setCell ?_ ?_ _) | go_size))⟩
  · have ei : inB n 0 999 = false := inB_f (by omega)
    have d1 : decide (n < (0:Int)) = false := decide_eq_false (by omega)
    have d2 : decide ((999:Int) < n) = true := decide_eq_true g
    go_enter Tryd.func3, Tryd.ntmps3
    go_wp2_with (first
      | (go_at_call 23; refine (l1Word_any _ hs _).mono ?_; rintro e1 w1 ⟨rfl, rfl⟩; rw [cw])
      | (go_at_call 24; refine (l6In_any _ _ _ _).mono ?_; rintro e1 w1 ⟨rfl, rfl⟩; rw [ei])
      | (go_at_call 26; refine (wordValid_any _ hs _).mono ?_; rintro e1 w1 ⟨rfl, rfl⟩; rw [cw])
      | go_in)
    go_ret
    exact ⟨rfl, (by repeat' (first | (with_reducible exact Below.refl _ _) | (with_reducible assumption) | (with_reducible refine below_step (by assumption) ?_) | (with_reducible refine below_alloc ?_ _) | (with_reducible refine Below.drew ?_) | (with_reducible refine below_drewN ?_ _) | (with_reducible refine Below.setCell ?_ ?_ _) | go_size))⟩
  · have ei : inB n 0 999 = true := inB_t (by omega)
    have d1 : decide (n < (0:Int)) = false := decide_eq_false (by omega)
    have d2 : decide ((999:Int) < n) = false := decide_eq_false (by omega)
    have hz := decS_size n (by omega) (by omega)
    have hz2 : s.size + 1 + (decS n).size ≤ 9223372036854775807 := by omega
    go_enter Tryd.func3, Tryd.ntmps3
    go_wp2_with (first
      | (go_at_call 23; refine (l1Word_any _ hs _).mono ?_; rintro e1 w1 ⟨rfl, rfl⟩; rw [cw])
      | (go_at_call 24; refine (l6In_any _ _ _ _).mono ?_; rintro e1 w1 ⟨rfl, rfl⟩; rw [ei])
      | (go_at_call 26; refine (wordValid_any _ hs _).mono ?_; rintro e1 w1 ⟨rfl, rfl⟩; rw [cw])
      | (go_at_call 25; refine (l6Dec_any n (by omega) (by omega) _).mono ?_; rintro e1 w1 ⟨rfl, hb1⟩)
      | (go_at_call 27; refine (itoa_any n (by omega) (by omega) _ (HasTab.below HT hb1 (Nat.le_refl _))).mono ?_; rintro e1 w2 ⟨rfl, hb2⟩)
      | go_in)
    go_ret
    exact ⟨rfl, (by repeat' (first | (with_reducible exact Below.refl _ _) | (with_reducible assumption) | (with_reducible refine below_step (by assumption) ?_) | (with_reducible refine below_alloc ?_ _) | (with_reducible refine Below.drew ?_) | (with_reducible refine below_drewN ?_ _) | (with_reducible refine Below.setCell ?_ ?_ _) | go_size))⟩



set_option maxRecDepth 100000 in
theorem opened {H : Type} {enc : TypeId × Value → H} (W : World) (base : Nat) (args : Array Value) (ds : List (DataW H)) (ps : List MemPlace)
    (hval : ∀ (j : Nat) t v, (#[9, 3] : Array TypeId)[j]? = some t → args[j]? = some v → Value.okWide Tryd.prog W .any base t v)
    (hA : DataW.TrodAll enc Tryd.prog W 0 (fun _ => true) true [9, 3] args.toList ds ps) (hL : laidMetH Tryd.prog tabs W) :
    Calls Tryd.prog 3 args W fun e W' => e = .returned (.bool true) ∧ Below W.heap.size W W' := by
  obtain ⟨v0, vs0, d0, ds0, p0, q0, hargs, rfl, rfl, h0, r0⟩ := trodAll_cons hA
  obtain ⟨v1, vs1, d1, ds1, p1, q1, rfl, rfl, rfl, h1, r1⟩ := trodAll_cons r0
  obtain ⟨rfl, rfl, rfl⟩ := trodAll_nil r1
  obtain rfl : args = #[v0, v1] := by cases args; simp_all
  obtain ⟨a0, rfl, rfl, rfl, w0⟩ := Go.ChangeMaps.open_string Tryd.underlying9 (hval 0 9 v0 rfl rfl) h0
  obtain ⟨a1, rfl, rfl, rfl, w1⟩ := open_int Tryd.underlying3 (hval 1 3 v1 rfl rfl) h1
  exact walk a0 w0 a1 (bounds_i64 w1) W hL
end Go.Proofs.YtinghmdpjgbefaaDoor.lawNameOf
