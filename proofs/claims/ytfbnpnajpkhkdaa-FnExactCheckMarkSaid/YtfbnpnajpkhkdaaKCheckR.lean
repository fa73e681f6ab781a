/-
  A Check that is handed back: equality, marks, and whether the marks are held. No condition.
-/
import Derived.Test.YtfbnpnajpkhkdaaKCheck
import Derived.Test.YtfbnpnajpkhkdaaKIntR
namespace Go.Proofs.Ytfbnpnajpkhkdaa
open Go.ChangeShapes Go.WideShapes Go.ChangeAt Go.RowKit

theorem eqCheck_see (x y : Int) (lo hi lo' hi' : Nat) (A A' : Option Addr) (m c m' c' : Nat) (xs ys : List Int) (w : World) (h : intSSee w lo hi (.slice A m c) xs) (h' : intSSee w lo' hi' (.slice A' m' c') ys) :
    Calls Try.prog 52 #[.agg #[.int .i64 x, .slice A m c], .agg #[.int .i64 y, .slice A' m' c']] w fun e w' => e = .returned (.bool (decide (x = y) && decide (xs = ys))) ∧ Below w.heap.size w w' := by
  obtain ⟨hb, _, _, _, _, e1, hx, hl, _⟩ := h
  obtain ⟨_, _, _, _, _, e2, hy, hl', _⟩ := h'
  cases e1
  cases e2
  exact eqCheck_any x y _ _ _ _ _ _ xs ys (by omega) hx hy w hl hl'

set_option maxHeartbeats 1600000 in
theorem markCheck_res (x : Int) (lo hi : Nat) (A : Option Addr) (m c : Nat) (xs : List Int) (q : Int) (h1 : 1 ≤ q) (h2 : q ≤ 1099511627776) (w : World) (h : intSRes w lo hi (.slice A m c) xs) :
    Calls Try.prog 53 #[.agg #[.int .i64 x, .slice A m c], .int .i64 q] w fun e w' => e = .returned (.int .i64 (q + (xs.length : Int))) ∧ intSHeldR w' lo hi (.slice A m c) q xs.length ∧ Within w w' lo hi := by
  have H := Lib.hid h
  clear h
  go_enter Try.func53, Try.ntmps53
  go_wp2_with fail
  have H1 := Lib.hid (H.out.keepB (below_alloc (Below.refl _ _) (.cells #[.int .i64 x, .slice A m c] 67)))
  refine (markIntS_res lo hi _ _ q h1 h2 _ H1.out).mono ?_
  rintro e1 w1 ⟨rfl, hh, hk⟩
  go_wp2
  go_ret
  exact ⟨rfl, hh, (Within.of_below (below_alloc (Below.refl _ _) _) lo hi).trans hk⟩

set_option maxHeartbeats 1600000 in
theorem heldCheck_res (x : Int) (lo hi : Nat) (A : Option Addr) (m c k : Nat) (q : Int) (h1 : 1 ≤ q) (h2 : q ≤ 1099511627776) (w : World) (h : intSHeldR w lo hi (.slice A m c) q k) :
    Calls Try.prog 57 #[.agg #[.int .i64 x, .slice A m c], .int .i64 q] w fun e w' => e = .returned (.int .i64 (q + (k : Int))) ∧ Below w.heap.size w w' := by
  have H := Lib.hid h
  clear h
  go_enter Try.func57, Try.ntmps57
  go_wp2_with fail
  have H1 := Lib.hid (H.out.keepB (below_alloc (Below.refl _ _) (.cells #[.int .i64 x, .slice A m c] 67)))
  refine (heldIntS_res lo hi _ _ q h1 h2 _ H1.out).mono ?_
  rintro e1 w1 ⟨rfl, hb1⟩
  go_wp2
  go_ret
  exact ⟨rfl, (by repeat' (first | (with_reducible exact Below.refl _ _) | (with_reducible assumption) | (with_reducible refine below_step (by assumption) ?_) | (with_reducible refine below_alloc ?_ _) | (with_reducible refine Below.drew ?_) | (with_reducible refine below_drewN ?_ _) | (with_reducible refine Below.setCell ?_ ?_ _) | go_size))⟩
end Go.Proofs.Ytfbnpnajpkhkdaa
