/-
  Slices of Int within an interval of blocks: the laws' copy, equality, marks, and whether the marks are held. No condition.
-/
import Derived.Test.YtkianldpmlbgcaaTInt
import Derived.Test.YtkianldpmlbgcaaKeep
namespace Go.Proofs.Ytkianldpmlbgcaa
open Go.ChangeShapes Go.WideShapes Go.ChangeAt Go.RowKit

theorem rowInt : RowTy Try.prog 29 3 1 8 := rowTy_mk Try.underlying29 infoInt rfl (by decide)
def intSAt (w : World) (lo hi : Nat) (v : Value) (xs : List (Int)) : Prop := xs.length ≤ 1048576 ∧ RowAt w lo hi 3 1 v xs.length (xs.flatMap intCells)
theorem intSAt.keep {w w' : World} {lo hi lo' hi' : Nat} {v : Value} {xs : List (Int)} (h : intSAt w lo hi v xs) (k : Within w w' lo' hi') (d : hi ≤ lo' ∨ hi' ≤ lo) : intSAt w' lo hi v xs := ⟨h.1, h.2.keep k d⟩
theorem intSAt.keepB {w w' : World} {lo hi : Nat} {v : Value} {xs : List (Int)} (h : intSAt w lo hi v xs) (k : Below w.heap.size w w') : intSAt w' lo hi v xs := ⟨h.1, h.2.keepB k⟩
theorem intSAt.made {w w' : World} {g m c : Nat} {xs : List (Int)} (hl : xs.length = m) (hb : m ≤ 1048576) (h : w'.ownsRow w.heap.size 3 1 (.slice (some ⟨g, 0, none⟩) m c) m (xs.flatMap intCells)) : intSAt w' w.heap.size w'.heap.size (.slice (some ⟨g, 0, none⟩) m c) xs := by
  subst hl; exact ⟨hb, RowAt.made h⟩
theorem intSAt.open {w : World} {lo hi : Nat} {v : Value} {xs : List (Int)} (h : intSAt w lo hi v xs) : ∃ g m c, v = .slice (some ⟨g, 0, none⟩) m c ∧ xs.length = m ∧ m ≤ 1048576 ∧ lo ≤ g ∧ g < hi ∧ w.ownsRow lo 3 1 (.slice (some ⟨g, 0, none⟩) m c) m (xs.flatMap intCells) := by
  obtain ⟨hb, g, c, rfl, h1, h2, h3, ho⟩ := h
  exact ⟨g, _, c, rfl, rfl, hb, h1, h2, ho⟩

theorem toIntS_at (B : Nat) (A : Option Addr) (n c : Nat) (xs : List (Int)) (hn : n ≤ 1048576) (hx : xs.length = n) (w : World) (hL : ArgAt w B A 1 n (xs.flatMap intCells)) :
    Calls Try.prog 40 #[.slice A n c] w fun e w' => ∃ v, e = .returned v ∧ intSAt w' w.heap.size w'.heap.size v xs ∧ Below w.heap.size w w' :=
  (toIntS_any A n c xs hn hx w hL.1).mono fun _ _ ⟨_, he, ho, hb⟩ => ⟨_, he, intSAt.made hx hn ho, hb⟩
theorem eqIntS_at (lo hi lo' hi' : Nat) (v v' : Value) (xs ys : List (Int)) (w : World) (h : intSAt w lo hi v xs) (h' : intSAt w lo' hi' v' ys) :
    Calls Try.prog 24 #[v, v'] w fun e w' => e = .returned (.bool (decide (xs = ys))) ∧ Below w.heap.size w w' := by
  obtain ⟨g, m, c, rfl, hx, hb, _, _, ho⟩ := h.open
  obtain ⟨g', m', c', rfl, hy, _, _, _, ho'⟩ := h'.open
  exact eqIntS_any _ _ _ _ _ _ xs ys hb hx hy w (lies_of_own ho) (lies_of_own ho')

def intMarks (q : Int) : List Value := [.int .i64 (q)]
def intHeld (w : World) (lo hi : Nat) (v : Value) (q : Int) (n : Nat) : Prop := n ≤ 1048576 ∧ RowAt w lo hi 3 1 v n (marksBy intMarks 1 q n)
theorem intHeld.keep {w w' : World} {lo hi lo' hi' : Nat} {v : Value} {q : Int} {n : Nat} (h : intHeld w lo hi v q n) (k : Within w w' lo' hi') (d : hi ≤ lo' ∨ hi' ≤ lo) : intHeld w' lo hi v q n := ⟨h.1, h.2.keep k d⟩
theorem intHeld.keepB {w w' : World} {lo hi : Nat} {v : Value} {q : Int} {n : Nat} (h : intHeld w lo hi v q n) (k : Below w.heap.size w w') : intHeld w' lo hi v q n := ⟨h.1, h.2.keepB k⟩

set_option maxHeartbeats 3200000 in
theorem markIntS_own (base g n c : Nat) (cells : List Value) (q : Int) (h1 : 1 ≤ q) (h2 : q ≤ 1099511627776) (hn : n ≤ 1048576) (w : World) (ho : w.ownsRow base 3 1 (.slice (some ⟨g, 0, none⟩) n c) n cells) :
    Calls Try.prog 26 #[.slice (some ⟨g, 0, none⟩) n c, .int .i64 q] w fun e w' => e = .returned (.int .i64 (q + ((n * 1 : Nat) : Int))) ∧ w'.ownsRow base 3 1 (.slice (some ⟨g, 0, none⟩) n c) n (marksBy intMarks 1 q n) ∧ w.grownBy w' (some g) := by
  go_enter Try.func26, Try.ntmps26
  go_wp2
  go_loopw [1, 5] (fun p i wr => ∃ k : Nat, k ≤ n ∧ i = .int .i64 k ∧ p = .int .i64 (q + (k : Int)) ∧ FillC wr base 3 1 g n c (marksBy intMarks 1 q k) k ∧ w.grownBy wr (some g)) (fun _ i _ => n - (intOf i).toNat)
  case atStart => exact ⟨0, Nat.zero_le _, rfl, by simp, FillC.start ho, only_refl _ _⟩
  case round =>
    obtain ⟨k, hk, rfl, rfl, hF, hG⟩ := hrel
    by_cases hlt : k < n
    · skip
      obtain ⟨u0, d0⟩ := hF.cell (k) (by omega)
      have f0 := hF.frozen (k)
      go_wp2
      go_roundw
      case rel =>
        have hs := hF.stored [.int .i64 ((q + ((k * 1 : Nat) : Int)))] rfl hlt
        exact ⟨k + 1, by omega, by go_num, by go_num, by rw [marksBy]; simpa [setAll, intMarks] using hs, only_setAll [.int .i64 _] _ k hG⟩
      case measure => simp [intOf]; omega
    · obtain rfl : k = n := by omega
      go_wp2
      go_ret
      exact ⟨by simp, hF.owns, hG⟩

theorem markIntS_at (lo hi : Nat) (v : Value) (n : Nat) (cells : List Value) (q : Int) (h1 : 1 ≤ q) (h2 : q ≤ 1099511627776) (hn : n ≤ 1048576) (w : World) (h : RowAt w lo hi 3 1 v n cells) :
    Calls Try.prog 26 #[v, .int .i64 q] w fun e w' => e = .returned (.int .i64 (q + ((n * 1 : Nat) : Int))) ∧ intHeld w' lo hi v q n ∧ Within w w' lo hi := by
  obtain ⟨g, c, rfl, k1, k2, k3, ho⟩ := h
  exact (markIntS_own lo g n c cells q h1 h2 hn w ho).mono fun _ w' ⟨he, ho', hg⟩ => ⟨he, ⟨hn, g, c, rfl, k1, k2, Nat.le_trans k3 hg.size, ho'⟩, Within.of_grown hg k1 k2⟩

set_option maxHeartbeats 3200000 in
theorem heldIntS_own (base g n c : Nat) (q : Int) (h1 : 1 ≤ q) (h2 : q ≤ 1099511627776) (hn : n ≤ 1048576) (w : World) (ho : w.ownsRow base 3 1 (.slice (some ⟨g, 0, none⟩) n c) n (marksBy intMarks 1 q n)) :
    Calls Try.prog 27 #[.slice (some ⟨g, 0, none⟩) n c, .int .i64 q] w fun e w' => e = .returned (.int .i64 (q + ((n * 1 : Nat) : Int))) ∧ Below w.heap.size w w' := by
  go_enter Try.func27, Try.ntmps27
  go_wp2
  go_loopw [1, 5] (fun p i wr => ∃ k : Nat, k ≤ n ∧ i = .int .i64 k ∧ p = .int .i64 (q + (k : Int)) ∧ Below w.heap.size w wr) (fun _ i _ => n - (intOf i).toNat)
  case atStart => exact ⟨0, Nat.zero_le _, rfl, by simp, Below.refl _ _⟩
  case round =>
    obtain ⟨k, hk, rfl, rfl, hB⟩ := hrel
    by_cases hlt : k < n
    · skip
      have d0 : wr.cell? ⟨g, k, none⟩ = some (.int .i64 ((q + (k : Int)))) := box_cell hB ((ho.cellAt (k) (by omega)).trans (by simpa using marksBy_get intMarks 1 (fun _ => rfl) q n k 0 _ hlt rfl))
      go_wp2
      go_roundw
      case rel => exact ⟨k + 1, by omega, by go_num, by go_num, (by repeat' (first | (with_reducible exact Below.refl _ _) | (with_reducible assumption) | (with_reducible refine below_step (by assumption) ?_) | (with_reducible refine below_alloc ?_ _) | (with_reducible refine Below.drew ?_) | (with_reducible refine below_drewN ?_ _) | (with_reducible refine Below.setCell ?_ ?_ _) | go_size))⟩
      case measure => simp [intOf]; omega
    · obtain rfl : k = n := by omega
      go_wp2
      go_ret
      exact ⟨by simp, (by repeat' (first | (with_reducible exact Below.refl _ _) | (with_reducible assumption) | (with_reducible refine below_step (by assumption) ?_) | (with_reducible refine below_alloc ?_ _) | (with_reducible refine Below.drew ?_) | (with_reducible refine below_drewN ?_ _) | (with_reducible refine Below.setCell ?_ ?_ _) | go_size))⟩

theorem heldIntS_at (lo hi : Nat) (v : Value) (n : Nat) (q : Int) (h1 : 1 ≤ q) (h2 : q ≤ 1099511627776) (w : World) (h : intHeld w lo hi v q n) :
    Calls Try.prog 27 #[v, .int .i64 q] w fun e w' => e = .returned (.int .i64 (q + ((n * 1 : Nat) : Int))) ∧ Below w.heap.size w w' := by
  obtain ⟨hn, g, c, rfl, _, _, _, ho⟩ := h
  exact heldIntS_own lo g n c q h1 h2 hn w ho
end Go.Proofs.Ytkianldpmlbgcaa
