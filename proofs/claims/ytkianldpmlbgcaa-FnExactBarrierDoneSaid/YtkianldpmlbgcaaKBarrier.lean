/-
  Barrier within an interval of blocks: the laws' copy, equality, marks, and whether the marks are held. No condition.
-/
import Derived.Test.YtkianldpmlbgcaaBarrier
import Derived.Test.YtkianldpmlbgcaaKInt
namespace Go.Proofs.Ytkianldpmlbgcaa
open Go.ChangeShapes Go.WideShapes Go.ChangeAt Go.RowKit

theorem toBarrier_at (B : Nat) (x : Int) (A : Option Addr) (n c : Nat) (zs : List Int) (hn : n ≤ 1048576) (hx : zs.length = n) (w : World) (hL : ArgAt w B A 1 n (zs.flatMap intCells)) :
    Calls Try.prog 15 #[.agg #[.int .i64 x, .slice A n c]] w fun e w' => ∃ g, e = .returned (.agg #[.int .i64 x, .slice (some ⟨g, 0, none⟩) n n]) ∧ intSAt w' w.heap.size w'.heap.size (.slice (some ⟨g, 0, none⟩) n n) zs ∧ Below w.heap.size w w' :=
  (toBarrier_any x A n c zs hn hx w hL.1).mono fun _ _ ⟨_, he, ho, hb⟩ => ⟨_, he, intSAt.made hx hn ho, hb⟩
theorem eqBarrier_at (x y : Int) (lo hi lo' hi' g m c g' m' c' : Nat) (xs ys : List Int) (w : World) (h : intSAt w lo hi (.slice (some ⟨g, 0, none⟩) m c) xs) (h' : intSAt w lo' hi' (.slice (some ⟨g', 0, none⟩) m' c') ys) :
    Calls Try.prog 17 #[.agg #[.int .i64 x, .slice (some ⟨g, 0, none⟩) m c], .agg #[.int .i64 y, .slice (some ⟨g', 0, none⟩) m' c']] w fun e w' => e = .returned (.bool (decide (x = y) && decide (xs = ys))) ∧ Below w.heap.size w w' := by
  obtain ⟨_, _, _, e1, hx, hb, _, _, ho⟩ := h.open
  obtain ⟨_, _, _, e2, hy, _, _, _, ho'⟩ := h'.open
  cases e1
  cases e2
  exact eqBarrier_any x y _ _ _ _ _ _ xs ys hb hx hy w (lies_of_own ho) (lies_of_own ho')

set_option maxHeartbeats 1600000 in
theorem markBarrier_at (x : Int) (lo hi g m c : Nat) (xs : List Int) (q : Int) (h1 : 1 ≤ q) (h2 : q ≤ 1099511627776) (w : World) (h : intSAt w lo hi (.slice (some ⟨g, 0, none⟩) m c) xs) :
    Calls Try.prog 18 #[.agg #[.int .i64 x, .slice (some ⟨g, 0, none⟩) m c], .int .i64 q] w fun e w' => e = .returned (.int .i64 (q + (xs.length : Int))) ∧ intHeld w' lo hi (.slice (some ⟨g, 0, none⟩) m c) q xs.length ∧ Within w w' lo hi := by
  have H := Lib.hid h
  clear h
  go_enter Try.func18, Try.ntmps18
  go_wp2_with fail
  have H1 := Lib.hid (H.out.keepB (below_alloc (Below.refl _ _) (.cells #[.int .i64 x, .slice (some ⟨g, 0, none⟩) m c] 33)))
  refine (markIntS_at lo hi _ _ _ q h1 h2 H1.out.1 _ H1.out.2).mono ?_
  rintro e1 w1 ⟨rfl, hh, hk⟩
  go_wp2
  go_ret
  exact ⟨by first | rfl | exact ret_int (by simp), hh, (Within.of_below (below_alloc (Below.refl _ _) _) lo hi).trans hk⟩

set_option maxHeartbeats 1600000 in
theorem heldBarrier_at (x : Int) (lo hi g m c k : Nat) (q : Int) (h1 : 1 ≤ q) (h2 : q ≤ 1099511627776) (w : World) (h : intHeld w lo hi (.slice (some ⟨g, 0, none⟩) m c) q k) :
    Calls Try.prog 19 #[.agg #[.int .i64 x, .slice (some ⟨g, 0, none⟩) m c], .int .i64 q] w fun e w' => e = .returned (.int .i64 (q + (k : Int))) ∧ Below w.heap.size w w' := by
  have H := Lib.hid h
  clear h
  go_enter Try.func19, Try.ntmps19
  go_wp2_with fail
  have H1 := Lib.hid (H.out.keepB (below_alloc (Below.refl _ _) (.cells #[.int .i64 x, .slice (some ⟨g, 0, none⟩) m c] 33)))
  refine (heldIntS_at lo hi _ _ q h1 h2 _ H1.out).mono ?_
  rintro e1 w1 ⟨rfl, hb1⟩
  go_wp2
  go_ret
  exact ⟨by first | rfl | exact ret_int (by simp), (by repeat' (first | (with_reducible exact Below.refl _ _) | (with_reducible assumption) | (with_reducible refine below_step (by assumption) ?_) | (with_reducible refine below_alloc ?_ _) | (with_reducible refine Below.drew ?_) | (with_reducible refine below_drewN ?_ _) | (with_reducible refine Below.setCell ?_ ?_ _) | go_size))⟩
end Go.Proofs.Ytkianldpmlbgcaa
