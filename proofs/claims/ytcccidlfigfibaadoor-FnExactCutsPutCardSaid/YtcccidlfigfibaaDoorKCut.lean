/-
  Slices of Cut within an interval of blocks: the laws' copy, equality, marks, and whether the marks are held. No condition.
-/
import Derived.Test.YtcccidlfigfibaaDoorECut
import Derived.Test.YtcccidlfigfibaaDoorKeep
import Derived.Test.YtcccidlfigfibaaDoorMarkText
namespace Go.Proofs.YtcccidlfigfibaaDoor
open Go.ChangeShapes Go.WideShapes Go.ChangeAt Go.RowKit

theorem rowCut : RowTy Tryd.prog 53 57 2 24 := rowTy_mk Tryd.underlying53 infoCut rfl (by decide)
def cutSAt (w : World) (lo hi : Nat) (v : Value) (xs : List (ByteArray × Int)) : Prop := xs.length ≤ 1048576 ∧ RowAt w lo hi 57 2 v xs.length (xs.flatMap cutCells)
theorem cutSAt.keep {w w' : World} {lo hi lo' hi' : Nat} {v : Value} {xs : List (ByteArray × Int)} (h : cutSAt w lo hi v xs) (k : Within w w' lo' hi') (d : hi ≤ lo' ∨ hi' ≤ lo) : cutSAt w' lo hi v xs := ⟨h.1, h.2.keep k d⟩
theorem cutSAt.keepB {w w' : World} {lo hi : Nat} {v : Value} {xs : List (ByteArray × Int)} (h : cutSAt w lo hi v xs) (k : Below w.heap.size w w') : cutSAt w' lo hi v xs := ⟨h.1, h.2.keepB k⟩
theorem cutSAt.made {w w' : World} {g m c : Nat} {xs : List (ByteArray × Int)} (hl : xs.length = m) (hb : m ≤ 1048576) (h : w'.ownsRow w.heap.size 57 2 (.slice (some ⟨g, 0, none⟩) m c) m (xs.flatMap cutCells)) : cutSAt w' w.heap.size w'.heap.size (.slice (some ⟨g, 0, none⟩) m c) xs := by
  subst hl; exact ⟨hb, RowAt.made h⟩
theorem cutSAt.open {w : World} {lo hi : Nat} {v : Value} {xs : List (ByteArray × Int)} (h : cutSAt w lo hi v xs) : ∃ g m c, v = .slice (some ⟨g, 0, none⟩) m c ∧ xs.length = m ∧ m ≤ 1048576 ∧ lo ≤ g ∧ g < hi ∧ w.ownsRow lo 57 2 (.slice (some ⟨g, 0, none⟩) m c) m (xs.flatMap cutCells) := by
  obtain ⟨hb, g, c, rfl, h1, h2, h3, ho⟩ := h
  exact ⟨g, _, c, rfl, rfl, hb, h1, h2, ho⟩

theorem toCutS_at (B : Nat) (A : Option Addr) (n c : Nat) (xs : List (ByteArray × Int)) (hn : n ≤ 1048576) (hx : xs.length = n) (w : World) (hL : ArgAt w B A 2 n (xs.flatMap cutCells)) :
    Calls Tryd.prog 27 #[.slice A n c] w fun e w' => ∃ v, e = .returned v ∧ cutSAt w' w.heap.size w'.heap.size v xs ∧ Below w.heap.size w w' :=
  (toCutS_any A n c xs hn hx w hL.1).mono fun _ _ ⟨_, he, ho, hb⟩ => ⟨_, he, cutSAt.made hx hn ho, hb⟩
theorem eqCutS_at (lo hi lo' hi' : Nat) (v v' : Value) (xs ys : List (ByteArray × Int)) (w : World) (h : cutSAt w lo hi v xs) (h' : cutSAt w lo' hi' v' ys) :
    Calls Tryd.prog 30 #[v, v'] w fun e w' => e = .returned (.bool (decide (xs = ys))) ∧ Below w.heap.size w w' := by
  obtain ⟨g, m, c, rfl, hx, hb, _, _, ho⟩ := h.open
  obtain ⟨g', m', c', rfl, hy, _, _, _, ho'⟩ := h'.open
  exact eqCutS_any _ _ _ _ _ _ xs ys hb hx hy w (lies_of_own ho) (lies_of_own ho')

def cutMarks (q : Int) : List Value := [.string (mtext (q)), .int .i64 (q + 1)]
def cutHeld (w : World) (lo hi : Nat) (v : Value) (q : Int) (n : Nat) : Prop := n ≤ 1048576 ∧ RowAt w lo hi 57 2 v n (marksBy cutMarks 2 q n)
theorem cutHeld.keep {w w' : World} {lo hi lo' hi' : Nat} {v : Value} {q : Int} {n : Nat} (h : cutHeld w lo hi v q n) (k : Within w w' lo' hi') (d : hi ≤ lo' ∨ hi' ≤ lo) : cutHeld w' lo hi v q n := ⟨h.1, h.2.keep k d⟩
theorem cutHeld.keepB {w w' : World} {lo hi : Nat} {v : Value} {q : Int} {n : Nat} (h : cutHeld w lo hi v q n) (k : Below w.heap.size w w') : cutHeld w' lo hi v q n := ⟨h.1, h.2.keepB k⟩

set_option maxHeartbeats 3200000 in
theorem markCutS_own (base g n c : Nat) (cells : List Value) (q : Int) (h1 : 1 ≤ q) (h2 : q ≤ 1099511627776) (hn : n ≤ 1048576) (w : World) (ho : w.ownsRow base 57 2 (.slice (some ⟨g, 0, none⟩) n c) n cells) :
    Calls Tryd.prog 31 #[.slice (some ⟨g, 0, none⟩) n c, .int .i64 q] w fun e w' => e = .returned (.int .i64 (q + ((n * 2 : Nat) : Int))) ∧ w'.ownsRow base 57 2 (.slice (some ⟨g, 0, none⟩) n c) n (marksBy cutMarks 2 q n) ∧ w.grownBy w' (some g) := by
  go_enter Tryd.func31, Tryd.ntmps31
  go_wp2
  go_loopw [1, 5] (fun p i wr => ∃ k : Nat, k ≤ n ∧ i = .int .i64 k ∧ p = .int .i64 (q + ((k * 2 : Nat) : Int)) ∧ FillC wr base 57 2 g n c (marksBy cutMarks 2 q k) k ∧ w.grownBy wr (some g)) (fun _ i _ => n - (intOf i).toNat)
  case atStart => exact ⟨0, Nat.zero_le _, rfl, by simp, FillC.start ho, only_refl _ _⟩
  case round =>
    obtain ⟨k, hk, rfl, rfl, hF, hG⟩ := hrel
    by_cases hlt : k < n
    · skip
      obtain ⟨ys, hys, ht, hd⟩ := hF
      have HY := Lib.hid hys
      have HT := Lib.hid ht
      have HD := Lib.hid hd
      clear hys ht hd
      have hg0 := (owns_lt HY.out).2
      go_wp2_with fail
      refine (markText_any _ (by omega) (by omega) _).mono ?_
      rintro e1 w1 ⟨rfl, hb1⟩
      have HY1 := Lib.hid (owns_below HY.out hb1)
      have hG := only_trans hG (only_of_below hb1 _)
      clear HY
      have HY := HY1
      clear HY1
      have f1_0 := HY.out.frozenAt (k * 2)
      obtain ⟨u1_0, d1_0⟩ := owns_cell HY.out (show k * 2 < n * 2 by omega)
      have f1_1 := HY.out.frozenAt (k * 2 + 1)
      obtain ⟨u1_1, d1_1⟩ := owns_cell HY.out (show k * 2 + 1 < n * 2 by omega)
      go_wp2
      go_roundw
      case rel =>
        refine ⟨k + 1, by omega, by go_num, by go_num, ?_, (only_setCell (only_setCell hG (.inl rfl) _) (.inl rfl) _)⟩
        rw [marksBy]
        exact fillC_of HT.out HD.out hlt [.string (mtext ((q + ((k * 2 : Nat) : Int)))), .int .i64 ((q + ((k * 2 : Nat) : Int)) + 1)] rfl ((HY.out.stored (k * 2) (.string (mtext ((q + ((k * 2 : Nat) : Int)))))).1.stored (k * 2 + 1) (.int .i64 ((q + ((k * 2 : Nat) : Int)) + 1))).1
      case measure => simp [intOf]; omega
    · obtain rfl : k = n := by omega
      go_wp2
      go_ret
      exact ⟨rfl, hF.owns, hG⟩

theorem markCutS_at (lo hi : Nat) (v : Value) (n : Nat) (cells : List Value) (q : Int) (h1 : 1 ≤ q) (h2 : q ≤ 1099511627776) (hn : n ≤ 1048576) (w : World) (h : RowAt w lo hi 57 2 v n cells) :
    Calls Tryd.prog 31 #[v, .int .i64 q] w fun e w' => e = .returned (.int .i64 (q + ((n * 2 : Nat) : Int))) ∧ cutHeld w' lo hi v q n ∧ Within w w' lo hi := by
  obtain ⟨g, c, rfl, k1, k2, k3, ho⟩ := h
  exact (markCutS_own lo g n c cells q h1 h2 hn w ho).mono fun _ w' ⟨he, ho', hg⟩ => ⟨he, ⟨hn, g, c, rfl, k1, k2, Nat.le_trans k3 hg.size, ho'⟩, Within.of_grown hg k1 k2⟩

set_option maxHeartbeats 3200000 in
theorem heldCutS_own (base g n c : Nat) (q : Int) (h1 : 1 ≤ q) (h2 : q ≤ 1099511627776) (hn : n ≤ 1048576) (w : World) (ho : w.ownsRow base 57 2 (.slice (some ⟨g, 0, none⟩) n c) n (marksBy cutMarks 2 q n)) :
    Calls Tryd.prog 32 #[.slice (some ⟨g, 0, none⟩) n c, .int .i64 q] w fun e w' => e = .returned (.int .i64 (q + ((n * 2 : Nat) : Int))) ∧ Below w.heap.size w w' := by
  go_enter Tryd.func32, Tryd.ntmps32
  go_wp2
  go_loopw [1, 5] (fun p i wr => ∃ k : Nat, k ≤ n ∧ i = .int .i64 k ∧ p = .int .i64 (q + ((k * 2 : Nat) : Int)) ∧ Below w.heap.size w wr) (fun _ i _ => n - (intOf i).toNat)
  case atStart => exact ⟨0, Nat.zero_le _, rfl, by simp, Below.refl _ _⟩
  case round =>
    obtain ⟨k, hk, rfl, rfl, hB⟩ := hrel
    by_cases hlt : k < n
    · skip
      have d0 : wr.cell? ⟨g, k * 2, none⟩ = some (.string (mtext ((q + ((k * 2 : Nat) : Int))))) := box_cell hB ((ho.cellAt (k * 2) (by omega)).trans (marksBy_get cutMarks 2 (fun _ => rfl) q n k 0 _ hlt rfl))
      have d1 : wr.cell? ⟨g, k * 2 + 1, none⟩ = some (.int .i64 ((q + ((k * 2 : Nat) : Int)) + 1)) := box_cell hB ((ho.cellAt (k * 2 + 1) (by omega)).trans (marksBy_get cutMarks 2 (fun _ => rfl) q n k 1 _ hlt rfl))
      have A0 := After.cell d0
      go_wp2_with fail
      refine wp_region_after (by kernel_rfl) (by kernel_rfl) ?_
      repeat (go_big_quiet_step (((go_at_call 45; exact after_call (markText_any _ (by omega) (by omega) _)))))
      refine wpQuiet_nil ?_
      intro wn hw'
      have hwn := after_below hw'
      clear hw'
      have d0 := box_cell hwn d0
      have d1 := box_cell hwn d1
      have hB := below_step hwn hB
      clear A0
      go_wp2
      go_roundw
      case rel => exact ⟨k + 1, by omega, by go_num, by go_num, (by repeat' (first | (with_reducible exact Below.refl _ _) | (with_reducible assumption) | (with_reducible refine below_step (by assumption) ?_) | (with_reducible refine below_alloc ?_ _) | (with_reducible refine Below.drew ?_) | (with_reducible refine below_drewN ?_ _) | (with_reducible refine Below.setCell ?_ ?_ _) | go_size))⟩
      case measure => simp [intOf]; omega
    · obtain rfl : k = n := by omega
      go_wp2
      go_ret
      exact ⟨rfl, (by repeat' (first | (with_reducible exact Below.refl _ _) | (with_reducible assumption) | (with_reducible refine below_step (by assumption) ?_) | (with_reducible refine below_alloc ?_ _) | (with_reducible refine Below.drew ?_) | (with_reducible refine below_drewN ?_ _) | (with_reducible refine Below.setCell ?_ ?_ _) | go_size))⟩

theorem heldCutS_at (lo hi : Nat) (v : Value) (n : Nat) (q : Int) (h1 : 1 ≤ q) (h2 : q ≤ 1099511627776) (w : World) (h : cutHeld w lo hi v q n) :
    Calls Tryd.prog 32 #[v, .int .i64 q] w fun e w' => e = .returned (.int .i64 (q + ((n * 2 : Nat) : Int))) ∧ Below w.heap.size w w' := by
  obtain ⟨hn, g, c, rfl, _, _, _, ho⟩ := h
  exact heldCutS_own lo g n c q h1 h2 hn w ho
end Go.Proofs.YtcccidlfigfibaaDoor
