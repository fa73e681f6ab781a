/-
  Slices of Event within an interval of blocks: the laws' copy, equality, marks, and whether the marks are held. No condition.
-/
import Derived.Test.YtmnmaibhjhhakaaGreatDoorBunT
import Derived.Test.YtmnmaibhjhhakaaGreatDoorKeep
import Derived.Test.YtmnmaibhjhhakaaGreatDoorMarkText
namespace Go.Proofs.YtmnmaibhjhhakaaGreatDoor
open Go.ChangeShapes Go.WideShapes Go.ChangeAt Go.RowKit

theorem rowEvent : RowTy Tryz.prog 43 30 3 32 := rowTy_mk Tryz.underlying43 infoEvent rfl (by decide)
def eventSAt (w : World) (lo hi : Nat) (v : Value) (xs : List (Int × ByteArray × Int)) : Prop := xs.length ≤ 1048576 ∧ RowAt w lo hi 30 3 v xs.length (xs.flatMap eventCells)
theorem eventSAt.keep {w w' : World} {lo hi lo' hi' : Nat} {v : Value} {xs : List (Int × ByteArray × Int)} (h : eventSAt w lo hi v xs) (k : Within w w' lo' hi') (d : hi ≤ lo' ∨ hi' ≤ lo) : eventSAt w' lo hi v xs := ⟨h.1, h.2.keep k d⟩
theorem eventSAt.keepB {w w' : World} {lo hi : Nat} {v : Value} {xs : List (Int × ByteArray × Int)} (h : eventSAt w lo hi v xs) (k : Below w.heap.size w w') : eventSAt w' lo hi v xs := ⟨h.1, h.2.keepB k⟩
theorem eventSAt.made {w w' : World} {g m c : Nat} {xs : List (Int × ByteArray × Int)} (hl : xs.length = m) (hb : m ≤ 1048576) (h : w'.ownsRow w.heap.size 30 3 (.slice (some ⟨g, 0, none⟩) m c) m (xs.flatMap eventCells)) : eventSAt w' w.heap.size w'.heap.size (.slice (some ⟨g, 0, none⟩) m c) xs := by
  subst hl; exact ⟨hb, RowAt.made h⟩
theorem eventSAt.open {w : World} {lo hi : Nat} {v : Value} {xs : List (Int × ByteArray × Int)} (h : eventSAt w lo hi v xs) : ∃ g m c, v = .slice (some ⟨g, 0, none⟩) m c ∧ xs.length = m ∧ m ≤ 1048576 ∧ lo ≤ g ∧ g < hi ∧ w.ownsRow lo 30 3 (.slice (some ⟨g, 0, none⟩) m c) m (xs.flatMap eventCells) := by
  obtain ⟨hb, g, c, rfl, h1, h2, h3, ho⟩ := h
  exact ⟨g, _, c, rfl, rfl, hb, h1, h2, ho⟩

def eventMarks (q : Int) : List Value := [.int .i64 (q), .string (mtext (q + 1)), .int .i64 (q + 1 + 1)]
def eventHeld (w : World) (lo hi : Nat) (v : Value) (q : Int) (n : Nat) : Prop := n ≤ 1048576 ∧ RowAt w lo hi 30 3 v n (marksBy eventMarks 3 q n)
theorem eventHeld.keep {w w' : World} {lo hi lo' hi' : Nat} {v : Value} {q : Int} {n : Nat} (h : eventHeld w lo hi v q n) (k : Within w w' lo' hi') (d : hi ≤ lo' ∨ hi' ≤ lo) : eventHeld w' lo hi v q n := ⟨h.1, h.2.keep k d⟩
theorem eventHeld.keepB {w w' : World} {lo hi : Nat} {v : Value} {q : Int} {n : Nat} (h : eventHeld w lo hi v q n) (k : Below w.heap.size w w') : eventHeld w' lo hi v q n := ⟨h.1, h.2.keepB k⟩

end Go.Proofs.YtmnmaibhjhhakaaGreatDoor
