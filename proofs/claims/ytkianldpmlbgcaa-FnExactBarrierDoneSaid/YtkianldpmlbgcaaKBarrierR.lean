/-
  A Barrier that is handed back: equality, marks, and whether the marks are held. No condition.
-/
import Derived.Test.YtkianldpmlbgcaaKBarrier
import Derived.Test.YtkianldpmlbgcaaKIntR
namespace Go.Proofs.Ytkianldpmlbgcaa
open Go.ChangeShapes Go.WideShapes Go.ChangeAt Go.RowKit

theorem eqBarrier_see (x y : Int) (lo hi lo' hi' : Nat) (A A' : Option Addr) (m c m' c' : Nat) (xs ys : List Int) (w : World) (h : intSSee w lo hi (.slice A m c) xs) (h' : intSSee w lo' hi' (.slice A' m' c') ys) :
    Calls Try.prog 17 #[.agg #[.int .i64 x, .slice A m c], .agg #[.int .i64 y, .slice A' m' c']] w fun e w' => e = .returned (.bool (decide (x = y) && decide (xs = ys))) ∧ Below w.heap.size w w' := by
  obtain ⟨hb, _, _, _, _, e1, hx, hl, _⟩ := h
  obtain ⟨_, _, _, _, _, e2, hy, hl', _⟩ := h'
  cases e1
  cases e2
  exact eqBarrier_any x y _ _ _ _ _ _ xs ys (by omega) hx hy w hl hl'

set_option maxHeartbeats 1600000 in
theorem markBarrier_res (x : Int) (lo hi : Nat) (A : Option Addr) (m c : Nat) (xs : List Int) (q : Int) (h1 : 1 ≤ q) (h2 : q ≤ 1099511627776) (w : World) (h : intSRes w lo hi (.slice A m c) xs) :
    Calls Try.prog 18 #[.agg #[.int .i64 x, .slice A m c], .int .i64 q] w fun e w' => e = .returned (.int .i64 (q + (xs.length : Int))) ∧ intSHeldR w' lo hi (.slice A m c) q xs.length ∧ Within w w' lo hi := by
  have H := Lib.hid h
  clear h
  go_enter Try.func18, Try.ntmps18
  go_wp2_with fail
  have H1 := Lib.hid (H.out.keepB (below_alloc (Below.refl _ _) (.cells #[.int .i64 x, .slice A m c] 33)))
  refine (markIntS_res lo hi _ _ q h1 h2 _ H1.out).mono ?_
  rintro e1 w1 ⟨rfl, hh, hk⟩
  go_wp2
  go_ret
  exact ⟨rfl, hh, (Within.of_below (below_alloc (Below.refl _ _) _) lo hi).trans hk⟩

set_option maxHeartbeats 1600000 in
theorem heldBarrier_res (x : Int) (lo hi : Nat) (A : Option Addr) (m c k : Nat) (q : Int) (h1 : 1 ≤ q) (h2 : q ≤ 1099511627776) (w : World) (h : intSHeldR w lo hi (.slice A m c) q k) :
    Calls Try.prog 19 #[.agg #[.int .i64 x, .slice A m c], .int .i64 q] w fun e w' => e = .returned (.int .i64 (q + (k : Int))) ∧ Below w.heap.size w w' := by
  have H := Lib.hid h
  clear h
  go_enter Try.func19, Try.ntmps19
  go_wp2_with fail
  have H1 := Lib.hid (H.out.keepB (below_alloc (Below.refl _ _) (.cells #[.int .i64 x, .slice A m c] 33)))
  refine (heldIntS_res lo hi _ _ q h1 h2 _ H1.out).mono ?_
  rintro e1 w1 ⟨rfl, hb1⟩
  go_wp2
  go_ret
  exact ⟨rfl, (by repeat' (first | (with_reducible exact Below.refl _ _) | (with_reducible assumption) | (with_reducible refine below_step (by assumption) ?_) | (with_reducible refine below_alloc ?_ _) | (with_reducible refine Below.drew ?_) | (with_reducible refine below_drewN ?_ _) | (with_reducible refine Below.setCell ?_ ?_ _) | go_size))⟩
end Go.Proofs.Ytkianldpmlbgcaa
