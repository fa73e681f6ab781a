/-
  Slices of Entry within an interval of blocks: the laws' copy, equality, marks, and whether the marks are held. No condition.
-/
import Derived.Test.YtmnmaibhjhhakaaGreatDoorBunT
import Derived.Test.YtmnmaibhjhhakaaGreatDoorKeep
import Derived.Test.YtmnmaibhjhhakaaGreatDoorMarkText
namespace Go.Proofs.YtmnmaibhjhhakaaGreatDoor
open Go.ChangeShapes Go.WideShapes Go.ChangeAt Go.RowKit

theorem rowEntry : RowTy Tryz.prog 22 32 4 48 := rowTy_mk Tryz.underlying22 infoEntry rfl (by decide)
def entrySAt (w : World) (lo hi : Nat) (v : Value) (xs : List (ByteArray × Int × ByteArray × Int)) : Prop := xs.length ≤ 1048576 ∧ RowAt w lo hi 32 4 v xs.length (xs.flatMap entryCells)
theorem entrySAt.keep {w w' : World} {lo hi lo' hi' : Nat} {v : Value} {xs : List (ByteArray × Int × ByteArray × Int)} (h : entrySAt w lo hi v xs) (k : Within w w' lo' hi') (d : hi ≤ lo' ∨ hi' ≤ lo) : entrySAt w' lo hi v xs := ⟨h.1, h.2.keep k d⟩
theorem entrySAt.keepB {w w' : World} {lo hi : Nat} {v : Value} {xs : List (ByteArray × Int × ByteArray × Int)} (h : entrySAt w lo hi v xs) (k : Below w.heap.size w w') : entrySAt w' lo hi v xs := ⟨h.1, h.2.keepB k⟩
theorem entrySAt.made {w w' : World} {g m c : Nat} {xs : List (ByteArray × Int × ByteArray × Int)} (hl : xs.length = m) (hb : m ≤ 1048576) (h : w'.ownsRow w.heap.size 32 4 (.slice (some ⟨g, 0, none⟩) m c) m (xs.flatMap entryCells)) : entrySAt w' w.heap.size w'.heap.size (.slice (some ⟨g, 0, none⟩) m c) xs := by
  subst hl; exact ⟨hb, RowAt.made h⟩
theorem entrySAt.open {w : World} {lo hi : Nat} {v : Value} {xs : List (ByteArray × Int × ByteArray × Int)} (h : entrySAt w lo hi v xs) : ∃ g m c, v = .slice (some ⟨g, 0, none⟩) m c ∧ xs.length = m ∧ m ≤ 1048576 ∧ lo ≤ g ∧ g < hi ∧ w.ownsRow lo 32 4 (.slice (some ⟨g, 0, none⟩) m c) m (xs.flatMap entryCells) := by
  obtain ⟨hb, g, c, rfl, h1, h2, h3, ho⟩ := h
  exact ⟨g, _, c, rfl, rfl, hb, h1, h2, ho⟩

theorem eqEntryS_at (lo hi lo' hi' : Nat) (v v' : Value) (xs ys : List (ByteArray × Int × ByteArray × Int)) (w : World) (h : entrySAt w lo hi v xs) (h' : entrySAt w lo' hi' v' ys) :
    Calls Tryz.prog 6 #[v, v'] w fun e w' => e = .returned (.bool (decide (xs = ys))) ∧ Below w.heap.size w w' := by
  obtain ⟨g, m, c, rfl, hx, hb, _, _, ho⟩ := h.open
  obtain ⟨g', m', c', rfl, hy, _, _, _, ho'⟩ := h'.open
  exact eqEntryS_any _ _ _ _ _ _ xs ys hb hx hy w (lies_of_own ho) (lies_of_own ho')

def entryMarks (q : Int) : List Value := [.string (mtext (q)), .int .i64 (q + 1), .string (mtext (q + 1 + 1)), .int .i64 (q + 1 + 1 + 1)]
def entryHeld (w : World) (lo hi : Nat) (v : Value) (q : Int) (n : Nat) : Prop := n ≤ 1048576 ∧ RowAt w lo hi 32 4 v n (marksBy entryMarks 4 q n)
theorem entryHeld.keep {w w' : World} {lo hi lo' hi' : Nat} {v : Value} {q : Int} {n : Nat} (h : entryHeld w lo hi v q n) (k : Within w w' lo' hi') (d : hi ≤ lo' ∨ hi' ≤ lo) : entryHeld w' lo hi v q n := ⟨h.1, h.2.keep k d⟩
theorem entryHeld.keepB {w w' : World} {lo hi : Nat} {v : Value} {q : Int} {n : Nat} (h : entryHeld w lo hi v q n) (k : Below w.heap.size w w') : entryHeld w' lo hi v q n := ⟨h.1, h.2.keepB k⟩

set_option maxHeartbeats 3200000 in
theorem markEntryS_own (base g n c : Nat) (cells : List Value) (q : Int) (h1 : 1 ≤ q) (h2 : q ≤ 1099511627776) (hn : n ≤ 1048576) (w : World) (ho : w.ownsRow base 32 4 (.slice (some ⟨g, 0, none⟩) n c) n cells) :
    Calls Tryz.prog 7 #[.slice (some ⟨g, 0, none⟩) n c, .int .i64 q] w fun e w' => e = .returned (.int .i64 (q + ((n * 4 : Nat) : Int))) ∧ w'.ownsRow base 32 4 (.slice (some ⟨g, 0, none⟩) n c) n (marksBy entryMarks 4 q n) ∧ w.grownBy w' (some g) := by
  go_enter Tryz.func7, Tryz.ntmps7
  go_wp2
  go_loopw [1, 5] (fun p i wr => ∃ k : Nat, k ≤ n ∧ i = .int .i64 k ∧ p = .int .i64 (q + ((k * 4 : Nat) : Int)) ∧ FillC wr base 32 4 g n c (marksBy entryMarks 4 q k) k ∧ w.grownBy wr (some g)) (fun _ i _ => n - (intOf i).toNat)
  case atStart => exact ⟨0, Nat.zero_le _, rfl, by simp, FillC.start ho, only_refl _ _⟩
  case round =>
    obtain ⟨k, hk, rfl, rfl, hF, hG⟩ := hrel
    by_cases hlt : k < n
    · skip
      obtain ⟨ys, hys, ht, hd⟩ := hF
      have HY := Lib.hid hys
      have HT := Lib.hid ht
      have HD := Lib.hid hd
      clear hys ht hd
      have hg0 := (owns_lt HY.out).2
      go_wp2_with fail
      refine (markText_any _ (by omega) (by omega) _).mono ?_
      rintro e1 w1 ⟨rfl, hb1⟩
      have HY1 := Lib.hid (owns_below HY.out hb1)
      have hG := only_trans hG (only_of_below hb1 _)
      clear HY
      have HY := HY1
      clear HY1
      have f1_0 := HY.out.frozenAt (k * 4)
      obtain ⟨u1_0, d1_0⟩ := owns_cell HY.out (show k * 4 < n * 4 by omega)
      have f1_1 := HY.out.frozenAt (k * 4 + 1)
      obtain ⟨u1_1, d1_1⟩ := owns_cell HY.out (show k * 4 + 1 < n * 4 by omega)
      go_wp2_with fail
      refine (markText_any _ (by omega) (by omega) _).mono ?_
      rintro e1 w2 ⟨rfl, hb2⟩
      have HY2 := Lib.hid (owns_below ((HY.out.stored (k * 4) (.string (mtext ((q + ((k * 4 : Nat) : Int)))))).1.stored (k * 4 + 1) (.int .i64 ((q + ((k * 4 : Nat) : Int)) + 1))).1 hb2)
      have hG := only_trans (only_setCell (only_setCell hG (.inl rfl) _) (.inl rfl) _) (only_of_below hb2 _)
      clear HY
      have HY := HY2
      clear HY2
      have f2_2 := HY.out.frozenAt (k * 4 + 2)
      obtain ⟨u2_2, d2_2⟩ := owns_cell HY.out (show k * 4 + 2 < n * 4 by omega)
      have f2_3 := HY.out.frozenAt (k * 4 + 3)
      obtain ⟨u2_3, d2_3⟩ := owns_cell HY.out (show k * 4 + 3 < n * 4 by omega)
      go_wp2
      go_roundw
      case rel =>
        refine ⟨k + 1, by omega, by go_num, by go_num, ?_, (only_setCell (only_setCell hG (.inl rfl) _) (.inl rfl) _)⟩
        rw [marksBy]
        exact fillC_of HT.out HD.out hlt [.string (mtext ((q + ((k * 4 : Nat) : Int)))), .int .i64 ((q + ((k * 4 : Nat) : Int)) + 1), .string (mtext ((q + ((k * 4 : Nat) : Int)) + 1 + 1)), .int .i64 ((q + ((k * 4 : Nat) : Int)) + 1 + 1 + 1)] rfl ((HY.out.stored (k * 4 + 2) (.string (mtext ((q + ((k * 4 : Nat) : Int)) + 1 + 1)))).1.stored (k * 4 + 3) (.int .i64 ((q + ((k * 4 : Nat) : Int)) + 1 + 1 + 1))).1
      case measure => simp [intOf]; omega
    · obtain rfl : k = n := by omega
      go_wp2
      go_ret
      exact ⟨rfl, hF.owns, hG⟩

theorem markEntryS_at (lo hi : Nat) (v : Value) (n : Nat) (cells : List Value) (q : Int) (h1 : 1 ≤ q) (h2 : q ≤ 1099511627776) (hn : n ≤ 1048576) (w : World) (h : RowAt w lo hi 32 4 v n cells) :
    Calls Tryz.prog 7 #[v, .int .i64 q] w fun e w' => e = .returned (.int .i64 (q + ((n * 4 : Nat) : Int))) ∧ entryHeld w' lo hi v q n ∧ Within w w' lo hi := by
  obtain ⟨g, c, rfl, k1, k2, k3, ho⟩ := h
  exact (markEntryS_own lo g n c cells q h1 h2 hn w ho).mono fun _ w' ⟨he, ho', hg⟩ => ⟨he, ⟨hn, g, c, rfl, k1, k2, Nat.le_trans k3 hg.size, ho'⟩, Within.of_grown hg k1 k2⟩

set_option maxHeartbeats 3200000 in
theorem heldEntryS_own (base g n c : Nat) (q : Int) (h1 : 1 ≤ q) (h2 : q ≤ 1099511627776) (hn : n ≤ 1048576) (w : World) (ho : w.ownsRow base 32 4 (.slice (some ⟨g, 0, none⟩) n c) n (marksBy entryMarks 4 q n)) :
    Calls Tryz.prog 8 #[.slice (some ⟨g, 0, none⟩) n c, .int .i64 q] w fun e w' => e = .returned (.int .i64 (q + ((n * 4 : Nat) : Int))) ∧ Below w.heap.size w w' := by
  go_enter Tryz.func8, Tryz.ntmps8
  go_wp2
  go_loopw [1, 5] (fun p i wr => ∃ k : Nat, k ≤ n ∧ i = .int .i64 k ∧ p = .int .i64 (q + ((k * 4 : Nat) : Int)) ∧ Below w.heap.size w wr) (fun _ i _ => n - (intOf i).toNat)
  case atStart => exact ⟨0, Nat.zero_le _, rfl, by simp, Below.refl _ _⟩
  case round =>
    obtain ⟨k, hk, rfl, rfl, hB⟩ := hrel
    by_cases hlt : k < n
    · skip
      have d0 : wr.cell? ⟨g, k * 4, none⟩ = some (.string (mtext ((q + ((k * 4 : Nat) : Int))))) := box_cell hB ((ho.cellAt (k * 4) (by omega)).trans (marksBy_get entryMarks 4 (fun _ => rfl) q n k 0 _ hlt rfl))
      have d1 : wr.cell? ⟨g, k * 4 + 1, none⟩ = some (.int .i64 ((q + ((k * 4 : Nat) : Int)) + 1)) := box_cell hB ((ho.cellAt (k * 4 + 1) (by omega)).trans (marksBy_get entryMarks 4 (fun _ => rfl) q n k 1 _ hlt rfl))
      have d2 : wr.cell? ⟨g, k * 4 + 2, none⟩ = some (.string (mtext ((q + ((k * 4 : Nat) : Int)) + 1 + 1))) := box_cell hB ((ho.cellAt (k * 4 + 2) (by omega)).trans (marksBy_get entryMarks 4 (fun _ => rfl) q n k 2 _ hlt rfl))
      have d3 : wr.cell? ⟨g, k * 4 + 3, none⟩ = some (.int .i64 ((q + ((k * 4 : Nat) : Int)) + 1 + 1 + 1)) := box_cell hB ((ho.cellAt (k * 4 + 3) (by omega)).trans (marksBy_get entryMarks 4 (fun _ => rfl) q n k 3 _ hlt rfl))
      have A0 := After.cell d0
      go_wp2_with fail
      refine wp_region_after (by kernel_rfl) (by kernel_rfl) ?_
      repeat (go_big_quiet_step (((go_at_call 18; exact after_call (markText_any _ (by omega) (by omega) _)))))
      refine wpQuiet_nil ?_
      intro wn hw'
      have hwn := after_below hw'
      clear hw'
      have d0 := box_cell hwn d0
      have d1 := box_cell hwn d1
      have d2 := box_cell hwn d2
      have d3 := box_cell hwn d3
      have hB := below_step hwn hB
      clear A0
      have A2 := After.cell d2
      go_wp2_with fail
      refine wp_region_after (by kernel_rfl) (by kernel_rfl) ?_
      repeat (go_big_quiet_step (((go_at_call 18; exact after_call (markText_any _ (by omega) (by omega) _)))))
      refine wpQuiet_nil ?_
      intro wn hw'
      have hwn := after_below hw'
      clear hw'
      have d0 := box_cell hwn d0
      have d1 := box_cell hwn d1
      have d2 := box_cell hwn d2
      have d3 := box_cell hwn d3
      have hB := below_step hwn hB
      clear A2
      go_wp2
      go_roundw
      case rel => exact ⟨k + 1, by omega, by go_num, by go_num, (by repeat' (first | (with_reducible exact Below.refl _ _) | (with_reducible assumption) | (with_reducible refine below_step (by assumption) ?_) | (with_reducible refine below_alloc ?_ _) | (with_reducible refine Below.drew ?_) | (with_reducible refine below_drewN ?_ _) | (with_reducible refine Below.setCell ?_ ?_ _) | go_size))⟩
      case measure => simp [intOf]; omega
    · obtain rfl : k = n := by omega
      go_wp2
      go_ret
      exact ⟨rfl, (by repeat' (first | (with_reducible exact Below.refl _ _) | (with_reducible assumption) | (with_reducible refine below_step (by assumption) ?_) | (with_reducible refine below_alloc ?_ _) | (with_reducible refine Below.drew ?_) | (with_reducible refine below_drewN ?_ _) | (with_reducible refine Below.setCell ?_ ?_ _) | go_size))⟩

theorem heldEntryS_at (lo hi : Nat) (v : Value) (n : Nat) (q : Int) (h1 : 1 ≤ q) (h2 : q ≤ 1099511627776) (w : World) (h : entryHeld w lo hi v q n) :
    Calls Tryz.prog 8 #[v, .int .i64 q] w fun e w' => e = .returned (.int .i64 (q + ((n * 4 : Nat) : Int))) ∧ Below w.heap.size w w' := by
  obtain ⟨hn, g, c, rfl, _, _, _, ho⟩ := h
  exact heldEntryS_own lo g n c q h1 h2 hn w ho
end Go.Proofs.YtmnmaibhjhhakaaGreatDoor
