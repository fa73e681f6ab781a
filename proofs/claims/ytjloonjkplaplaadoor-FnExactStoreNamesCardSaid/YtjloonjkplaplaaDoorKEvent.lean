/-
  Slices of Event within an interval of blocks: the laws' copy, equality, marks, and whether the marks are held. No condition.
-/
import Derived.Test.YtjloonjkplaplaaDoorBunT
import Derived.Test.YtjloonjkplaplaaDoorKeep
import Derived.Test.YtjloonjkplaplaaDoorMarkText
namespace Go.Proofs.YtjloonjkplaplaaDoor
open Go.ChangeShapes Go.WideShapes Go.ChangeAt Go.RowKit

theorem rowEvent : RowTy Tryd.prog 29 55 3 32 := rowTy_mk Tryd.underlying29 infoEvent rfl (by decide)
def eventSAt (w : World) (lo hi : Nat) (v : Value) (xs : List (Int × ByteArray × Int)) : Prop := xs.length ≤ 1048576 ∧ RowAt w lo hi 55 3 v xs.length (xs.flatMap eventCells)
theorem eventSAt.keep {w w' : World} {lo hi lo' hi' : Nat} {v : Value} {xs : List (Int × ByteArray × Int)} (h : eventSAt w lo hi v xs) (k : Within w w' lo' hi') (d : hi ≤ lo' ∨ hi' ≤ lo) : eventSAt w' lo hi v xs := ⟨h.1, h.2.keep k d⟩
theorem eventSAt.keepB {w w' : World} {lo hi : Nat} {v : Value} {xs : List (Int × ByteArray × Int)} (h : eventSAt w lo hi v xs) (k : Below w.heap.size w w') : eventSAt w' lo hi v xs := ⟨h.1, h.2.keepB k⟩
theorem eventSAt.made {w w' : World} {g m c : Nat} {xs : List (Int × ByteArray × Int)} (hl : xs.length = m) (hb : m ≤ 1048576) (h : w'.ownsRow w.heap.size 55 3 (.slice (some ⟨g, 0, none⟩) m c) m (xs.flatMap eventCells)) : eventSAt w' w.heap.size w'.heap.size (.slice (some ⟨g, 0, none⟩) m c) xs := by
  subst hl; exact ⟨hb, RowAt.made h⟩
theorem eventSAt.open {w : World} {lo hi : Nat} {v : Value} {xs : List (Int × ByteArray × Int)} (h : eventSAt w lo hi v xs) : ∃ g m c, v = .slice (some ⟨g, 0, none⟩) m c ∧ xs.length = m ∧ m ≤ 1048576 ∧ lo ≤ g ∧ g < hi ∧ w.ownsRow lo 55 3 (.slice (some ⟨g, 0, none⟩) m c) m (xs.flatMap eventCells) := by
  obtain ⟨hb, g, c, rfl, h1, h2, h3, ho⟩ := h
  exact ⟨g, _, c, rfl, rfl, hb, h1, h2, ho⟩

theorem toEventS_at (B : Nat) (A : Option Addr) (n c : Nat) (xs : List (Int × ByteArray × Int)) (hn : n ≤ 1048576) (hx : xs.length = n) (w : World) (hL : ArgAt w B A 3 n (xs.flatMap eventCells)) :
    Calls Tryd.prog 11 #[.slice A n c] w fun e w' => ∃ v, e = .returned v ∧ eventSAt w' w.heap.size w'.heap.size v xs ∧ Below w.heap.size w w' :=
  (toEventS_any A n c xs hn hx w hL.1).mono fun _ _ ⟨_, he, ho, hb⟩ => ⟨_, he, eventSAt.made hx hn ho, hb⟩
theorem eqEventS_at (lo hi lo' hi' : Nat) (v v' : Value) (xs ys : List (Int × ByteArray × Int)) (w : World) (h : eventSAt w lo hi v xs) (h' : eventSAt w lo' hi' v' ys) :
    Calls Tryd.prog 14 #[v, v'] w fun e w' => e = .returned (.bool (decide (xs = ys))) ∧ Below w.heap.size w w' := by
  obtain ⟨g, m, c, rfl, hx, hb, _, _, ho⟩ := h.open
  obtain ⟨g', m', c', rfl, hy, _, _, _, ho'⟩ := h'.open
  exact eqEventS_any _ _ _ _ _ _ xs ys hb hx hy w (lies_of_own ho) (lies_of_own ho')

def eventMarks (q : Int) : List Value := [.int .i64 (q), .string (mtext (q + 1)), .int .i64 (q + 1 + 1)]
def eventHeld (w : World) (lo hi : Nat) (v : Value) (q : Int) (n : Nat) : Prop := n ≤ 1048576 ∧ RowAt w lo hi 55 3 v n (marksBy eventMarks 3 q n)
theorem eventHeld.keep {w w' : World} {lo hi lo' hi' : Nat} {v : Value} {q : Int} {n : Nat} (h : eventHeld w lo hi v q n) (k : Within w w' lo' hi') (d : hi ≤ lo' ∨ hi' ≤ lo) : eventHeld w' lo hi v q n := ⟨h.1, h.2.keep k d⟩
theorem eventHeld.keepB {w w' : World} {lo hi : Nat} {v : Value} {q : Int} {n : Nat} (h : eventHeld w lo hi v q n) (k : Below w.heap.size w w') : eventHeld w' lo hi v q n := ⟨h.1, h.2.keepB k⟩

set_option maxHeartbeats 3200000 in
theorem markEventS_own (base g n c : Nat) (cells : List Value) (q : Int) (h1 : 1 ≤ q) (h2 : q ≤ 1099511627776) (hn : n ≤ 1048576) (w : World) (ho : w.ownsRow base 55 3 (.slice (some ⟨g, 0, none⟩) n c) n cells) :
    Calls Tryd.prog 18 #[.slice (some ⟨g, 0, none⟩) n c, .int .i64 q] w fun e w' => e = .returned (.int .i64 (q + ((n * 3 : Nat) : Int))) ∧ w'.ownsRow base 55 3 (.slice (some ⟨g, 0, none⟩) n c) n (marksBy eventMarks 3 q n) ∧ w.grownBy w' (some g) := by
  go_enter Tryd.func18, Tryd.ntmps18
  go_wp2
  go_loopw [1, 5] (fun p i wr => ∃ k : Nat, k ≤ n ∧ i = .int .i64 k ∧ p = .int .i64 (q + ((k * 3 : Nat) : Int)) ∧ FillC wr base 55 3 g n c (marksBy eventMarks 3 q k) k ∧ w.grownBy wr (some g)) (fun _ i _ => n - (intOf i).toNat)
  case atStart => exact ⟨0, Nat.zero_le _, rfl, by simp, FillC.start ho, only_refl _ _⟩
  case round =>
    obtain ⟨k, hk, rfl, rfl, hF, hG⟩ := hrel
    by_cases hlt : k < n
    · skip
      obtain ⟨ys, hys, ht, hd⟩ := hF
      have HY := Lib.hid hys
      have HT := Lib.hid ht
      have HD := Lib.hid hd
      clear hys ht hd
      have hg0 := (owns_lt HY.out).2
      have f0_0 := HY.out.frozenAt (k * 3)
      obtain ⟨u0_0, d0_0⟩ := owns_cell HY.out (show k * 3 < n * 3 by omega)
      go_wp2_with fail
      refine (markText_any _ (by omega) (by omega) _).mono ?_
      rintro e1 w1 ⟨rfl, hb1⟩
      have HY1 := Lib.hid (owns_below (HY.out.stored (k * 3) (.int .i64 ((q + ((k * 3 : Nat) : Int))))).1 hb1)
      have hG := only_trans (only_setCell hG (.inl rfl) _) (only_of_below hb1 _)
      clear HY
      have HY := HY1
      clear HY1
      have f1_1 := HY.out.frozenAt (k * 3 + 1)
      obtain ⟨u1_1, d1_1⟩ := owns_cell HY.out (show k * 3 + 1 < n * 3 by omega)
      have f1_2 := HY.out.frozenAt (k * 3 + 2)
      obtain ⟨u1_2, d1_2⟩ := owns_cell HY.out (show k * 3 + 2 < n * 3 by omega)
      go_wp2
      go_roundw
      case rel =>
        refine ⟨k + 1, by omega, by go_num, by go_num, ?_, (only_setCell (only_setCell hG (.inl rfl) _) (.inl rfl) _)⟩
        rw [marksBy]
        exact fillC_of HT.out HD.out hlt [.int .i64 ((q + ((k * 3 : Nat) : Int))), .string (mtext ((q + ((k * 3 : Nat) : Int)) + 1)), .int .i64 ((q + ((k * 3 : Nat) : Int)) + 1 + 1)] rfl ((HY.out.stored (k * 3 + 1) (.string (mtext ((q + ((k * 3 : Nat) : Int)) + 1)))).1.stored (k * 3 + 2) (.int .i64 ((q + ((k * 3 : Nat) : Int)) + 1 + 1))).1
      case measure => simp [intOf]; omega
    · obtain rfl : k = n := by omega
      go_wp2
      go_ret
      exact ⟨rfl, hF.owns, hG⟩

theorem markEventS_at (lo hi : Nat) (v : Value) (n : Nat) (cells : List Value) (q : Int) (h1 : 1 ≤ q) (h2 : q ≤ 1099511627776) (hn : n ≤ 1048576) (w : World) (h : RowAt w lo hi 55 3 v n cells) :
    Calls Tryd.prog 18 #[v, .int .i64 q] w fun e w' => e = .returned (.int .i64 (q + ((n * 3 : Nat) : Int))) ∧ eventHeld w' lo hi v q n ∧ Within w w' lo hi := by
  obtain ⟨g, c, rfl, k1, k2, k3, ho⟩ := h
  exact (markEventS_own lo g n c cells q h1 h2 hn w ho).mono fun _ w' ⟨he, ho', hg⟩ => ⟨he, ⟨hn, g, c, rfl, k1, k2, Nat.le_trans k3 hg.size, ho'⟩, Within.of_grown hg k1 k2⟩

end Go.Proofs.YtjloonjkplaplaaDoor
