/-
  Slices of Lock within an interval of blocks: the laws' copy, equality, marks, and whether the marks are held. No condition.
-/
import Derived.Test.YtfbnpnajpkhkdaaELock
import Derived.Test.YtfbnpnajpkhkdaaKeep
namespace Go.Proofs.Ytfbnpnajpkhkdaa
open Go.ChangeShapes Go.WideShapes Go.ChangeAt Go.RowKit

theorem rowLock : RowTy Try.prog 41 104 2 16 := rowTy_mk Try.underlying41 infoLock rfl (by decide)
def lockSAt (w : World) (lo hi : Nat) (v : Value) (xs : List (Int × Int)) : Prop := xs.length ≤ 1048576 ∧ RowAt w lo hi 104 2 v xs.length (xs.flatMap lockCells)
theorem lockSAt.keep {w w' : World} {lo hi lo' hi' : Nat} {v : Value} {xs : List (Int × Int)} (h : lockSAt w lo hi v xs) (k : Within w w' lo' hi') (d : hi ≤ lo' ∨ hi' ≤ lo) : lockSAt w' lo hi v xs := ⟨h.1, h.2.keep k d⟩
theorem lockSAt.keepB {w w' : World} {lo hi : Nat} {v : Value} {xs : List (Int × Int)} (h : lockSAt w lo hi v xs) (k : Below w.heap.size w w') : lockSAt w' lo hi v xs := ⟨h.1, h.2.keepB k⟩
theorem lockSAt.made {w w' : World} {g m c : Nat} {xs : List (Int × Int)} (hl : xs.length = m) (hb : m ≤ 1048576) (h : w'.ownsRow w.heap.size 104 2 (.slice (some ⟨g, 0, none⟩) m c) m (xs.flatMap lockCells)) : lockSAt w' w.heap.size w'.heap.size (.slice (some ⟨g, 0, none⟩) m c) xs := by
  subst hl; exact ⟨hb, RowAt.made h⟩
theorem lockSAt.open {w : World} {lo hi : Nat} {v : Value} {xs : List (Int × Int)} (h : lockSAt w lo hi v xs) : ∃ g m c, v = .slice (some ⟨g, 0, none⟩) m c ∧ xs.length = m ∧ m ≤ 1048576 ∧ lo ≤ g ∧ g < hi ∧ w.ownsRow lo 104 2 (.slice (some ⟨g, 0, none⟩) m c) m (xs.flatMap lockCells) := by
  obtain ⟨hb, g, c, rfl, h1, h2, h3, ho⟩ := h
  exact ⟨g, _, c, rfl, rfl, hb, h1, h2, ho⟩

theorem toLockS_at (B : Nat) (A : Option Addr) (n c : Nat) (xs : List (Int × Int)) (hn : n ≤ 1048576) (hx : xs.length = n) (w : World) (hL : ArgAt w B A 2 n (xs.flatMap lockCells)) :
    Calls Try.prog 29 #[.slice A n c] w fun e w' => ∃ v, e = .returned v ∧ lockSAt w' w.heap.size w'.heap.size v xs ∧ Below w.heap.size w w' :=
  (toLockS_any A n c xs hn hx w hL.1).mono fun _ _ ⟨_, he, ho, hb⟩ => ⟨_, he, lockSAt.made hx hn ho, hb⟩
theorem eqLockS_at (lo hi lo' hi' : Nat) (v v' : Value) (xs ys : List (Int × Int)) (w : World) (h : lockSAt w lo hi v xs) (h' : lockSAt w lo' hi' v' ys) :
    Calls Try.prog 31 #[v, v'] w fun e w' => e = .returned (.bool (decide (xs = ys))) ∧ Below w.heap.size w w' := by
  obtain ⟨g, m, c, rfl, hx, hb, _, _, ho⟩ := h.open
  obtain ⟨g', m', c', rfl, hy, _, _, _, ho'⟩ := h'.open
  exact eqLockS_any _ _ _ _ _ _ xs ys hb hx hy w (lies_of_own ho) (lies_of_own ho')

def lockMarks (q : Int) : List Value := [.int .i64 (q), .int .i64 (q + 1)]
def lockHeld (w : World) (lo hi : Nat) (v : Value) (q : Int) (n : Nat) : Prop := n ≤ 1048576 ∧ RowAt w lo hi 104 2 v n (marksBy lockMarks 2 q n)
theorem lockHeld.keep {w w' : World} {lo hi lo' hi' : Nat} {v : Value} {q : Int} {n : Nat} (h : lockHeld w lo hi v q n) (k : Within w w' lo' hi') (d : hi ≤ lo' ∨ hi' ≤ lo) : lockHeld w' lo hi v q n := ⟨h.1, h.2.keep k d⟩
theorem lockHeld.keepB {w w' : World} {lo hi : Nat} {v : Value} {q : Int} {n : Nat} (h : lockHeld w lo hi v q n) (k : Below w.heap.size w w') : lockHeld w' lo hi v q n := ⟨h.1, h.2.keepB k⟩

set_option maxHeartbeats 3200000 in
theorem markLockS_own (base g n c : Nat) (cells : List Value) (q : Int) (h1 : 1 ≤ q) (h2 : q ≤ 1099511627776) (hn : n ≤ 1048576) (w : World) (ho : w.ownsRow base 104 2 (.slice (some ⟨g, 0, none⟩) n c) n cells) :
    Calls Try.prog 32 #[.slice (some ⟨g, 0, none⟩) n c, .int .i64 q] w fun e w' => e = .returned (.int .i64 (q + ((n * 2 : Nat) : Int))) ∧ w'.ownsRow base 104 2 (.slice (some ⟨g, 0, none⟩) n c) n (marksBy lockMarks 2 q n) ∧ w.grownBy w' (some g) := by
  go_enter Try.func32, Try.ntmps32
  go_wp2
  go_loopw [1, 5] (fun p i wr => ∃ k : Nat, k ≤ n ∧ i = .int .i64 k ∧ p = .int .i64 (q + ((k * 2 : Nat) : Int)) ∧ FillC wr base 104 2 g n c (marksBy lockMarks 2 q k) k ∧ w.grownBy wr (some g)) (fun _ i _ => n - (intOf i).toNat)
  case atStart => exact ⟨0, Nat.zero_le _, rfl, by simp, FillC.start ho, only_refl _ _⟩
  case round =>
    obtain ⟨k, hk, rfl, rfl, hF, hG⟩ := hrel
    by_cases hlt : k < n
    · skip
      obtain ⟨u0, d0⟩ := hF.cell (k * 2) (by omega)
      have f0 := hF.frozen (k * 2)
      obtain ⟨u1, d1⟩ := hF.cell (k * 2 + 1) (by omega)
      have f1 := hF.frozen (k * 2 + 1)
      go_wp2
      go_roundw
      case rel =>
        have hs := hF.stored [.int .i64 ((q + ((k * 2 : Nat) : Int))), .int .i64 ((q + ((k * 2 : Nat) : Int)) + 1)] rfl hlt
        exact ⟨k + 1, by omega, by go_num, by go_num, by rw [marksBy]; exact hs, only_setAll [.int .i64 _, .int .i64 _] _ (k * 2) hG⟩
      case measure => simp [intOf]; omega
    · obtain rfl : k = n := by omega
      go_wp2
      go_ret
      exact ⟨rfl, hF.owns, hG⟩

theorem markLockS_at (lo hi : Nat) (v : Value) (n : Nat) (cells : List Value) (q : Int) (h1 : 1 ≤ q) (h2 : q ≤ 1099511627776) (hn : n ≤ 1048576) (w : World) (h : RowAt w lo hi 104 2 v n cells) :
    Calls Try.prog 32 #[v, .int .i64 q] w fun e w' => e = .returned (.int .i64 (q + ((n * 2 : Nat) : Int))) ∧ lockHeld w' lo hi v q n ∧ Within w w' lo hi := by
  obtain ⟨g, c, rfl, k1, k2, k3, ho⟩ := h
  exact (markLockS_own lo g n c cells q h1 h2 hn w ho).mono fun _ w' ⟨he, ho', hg⟩ => ⟨he, ⟨hn, g, c, rfl, k1, k2, Nat.le_trans k3 hg.size, ho'⟩, Within.of_grown hg k1 k2⟩

set_option maxHeartbeats 3200000 in
theorem heldLockS_own (base g n c : Nat) (q : Int) (h1 : 1 ≤ q) (h2 : q ≤ 1099511627776) (hn : n ≤ 1048576) (w : World) (ho : w.ownsRow base 104 2 (.slice (some ⟨g, 0, none⟩) n c) n (marksBy lockMarks 2 q n)) :
    Calls Try.prog 33 #[.slice (some ⟨g, 0, none⟩) n c, .int .i64 q] w fun e w' => e = .returned (.int .i64 (q + ((n * 2 : Nat) : Int))) ∧ Below w.heap.size w w' := by
  go_enter Try.func33, Try.ntmps33
  go_wp2
  go_loopw [1, 5] (fun p i wr => ∃ k : Nat, k ≤ n ∧ i = .int .i64 k ∧ p = .int .i64 (q + ((k * 2 : Nat) : Int)) ∧ Below w.heap.size w wr) (fun _ i _ => n - (intOf i).toNat)
  case atStart => exact ⟨0, Nat.zero_le _, rfl, by simp, Below.refl _ _⟩
  case round =>
    obtain ⟨k, hk, rfl, rfl, hB⟩ := hrel
    by_cases hlt : k < n
    · skip
      have d0 : wr.cell? ⟨g, k * 2, none⟩ = some (.int .i64 ((q + ((k * 2 : Nat) : Int)))) := box_cell hB ((ho.cellAt (k * 2) (by omega)).trans (marksBy_get lockMarks 2 (fun _ => rfl) q n k 0 _ hlt rfl))
      have d1 : wr.cell? ⟨g, k * 2 + 1, none⟩ = some (.int .i64 ((q + ((k * 2 : Nat) : Int)) + 1)) := box_cell hB ((ho.cellAt (k * 2 + 1) (by omega)).trans (marksBy_get lockMarks 2 (fun _ => rfl) q n k 1 _ hlt rfl))
      go_wp2
      go_roundw
      case rel => exact ⟨k + 1, by omega, by go_num, by go_num, (by repeat' (first | (with_reducible exact Below.refl _ _) | (with_reducible assumption) | (with_reducible refine below_step (by assumption) ?_) | (with_reducible refine below_alloc ?_ _) | (with_reducible refine Below.drew ?_) | (with_reducible refine below_drewN ?_ _) | (with_reducible refine Below.setCell ?_ ?_ _) | go_size))⟩
      case measure => simp [intOf]; omega
    · obtain rfl : k = n := by omega
      go_wp2
      go_ret
      exact ⟨rfl, (by repeat' (first | (with_reducible exact Below.refl _ _) | (with_reducible assumption) | (with_reducible refine below_step (by assumption) ?_) | (with_reducible refine below_alloc ?_ _) | (with_reducible refine Below.drew ?_) | (with_reducible refine below_drewN ?_ _) | (with_reducible refine Below.setCell ?_ ?_ _) | go_size))⟩

theorem heldLockS_at (lo hi : Nat) (v : Value) (n : Nat) (q : Int) (h1 : 1 ≤ q) (h2 : q ≤ 1099511627776) (w : World) (h : lockHeld w lo hi v q n) :
    Calls Try.prog 33 #[v, .int .i64 q] w fun e w' => e = .returned (.int .i64 (q + ((n * 2 : Nat) : Int))) ∧ Below w.heap.size w w' := by
  obtain ⟨hn, g, c, rfl, _, _, _, ho⟩ := h
  exact heldLockS_own lo g n c q h1 h2 hn w ho
end Go.Proofs.Ytfbnpnajpkhkdaa
