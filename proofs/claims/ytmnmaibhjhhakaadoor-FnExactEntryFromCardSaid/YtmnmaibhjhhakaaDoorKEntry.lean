/-
  Slices of Entry within an interval of blocks: the laws' copy, equality, marks, and whether the marks are held. No condition.
-/
import Derived.Test.YtmnmaibhjhhakaaDoorBunT
import Derived.Test.YtmnmaibhjhhakaaDoorKeep
import Derived.Test.YtmnmaibhjhhakaaDoorMarkText
namespace Go.Proofs.YtmnmaibhjhhakaaDoor
open Go.ChangeShapes Go.WideShapes Go.ChangeAt Go.RowKit

def entrySAt (w : World) (lo hi : Nat) (v : Value) (xs : List (ByteArray × Int × ByteArray × Int)) : Prop := xs.length ≤ 1048576 ∧ RowAt w lo hi 29 4 v xs.length (xs.flatMap entryCells)
theorem entrySAt.keep {w w' : World} {lo hi lo' hi' : Nat} {v : Value} {xs : List (ByteArray × Int × ByteArray × Int)} (h : entrySAt w lo hi v xs) (k : Within w w' lo' hi') (d : hi ≤ lo' ∨ hi' ≤ lo) : entrySAt w' lo hi v xs := ⟨h.1, h.2.keep k d⟩
theorem entrySAt.keepB {w w' : World} {lo hi : Nat} {v : Value} {xs : List (ByteArray × Int × ByteArray × Int)} (h : entrySAt w lo hi v xs) (k : Below w.heap.size w w') : entrySAt w' lo hi v xs := ⟨h.1, h.2.keepB k⟩
theorem entrySAt.made {w w' : World} {g m c : Nat} {xs : List (ByteArray × Int × ByteArray × Int)} (hl : xs.length = m) (hb : m ≤ 1048576) (h : w'.ownsRow w.heap.size 29 4 (.slice (some ⟨g, 0, none⟩) m c) m (xs.flatMap entryCells)) : entrySAt w' w.heap.size w'.heap.size (.slice (some ⟨g, 0, none⟩) m c) xs := by
  subst hl; exact ⟨hb, RowAt.made h⟩
theorem entrySAt.open {w : World} {lo hi : Nat} {v : Value} {xs : List (ByteArray × Int × ByteArray × Int)} (h : entrySAt w lo hi v xs) : ∃ g m c, v = .slice (some ⟨g, 0, none⟩) m c ∧ xs.length = m ∧ m ≤ 1048576 ∧ lo ≤ g ∧ g < hi ∧ w.ownsRow lo 29 4 (.slice (some ⟨g, 0, none⟩) m c) m (xs.flatMap entryCells) := by
  obtain ⟨hb, g, c, rfl, h1, h2, h3, ho⟩ := h
  exact ⟨g, _, c, rfl, rfl, hb, h1, h2, ho⟩

def entryMarks (q : Int) : List Value := [.string (mtext (q)), .int .i64 (q + 1), .string (mtext (q + 1 + 1)), .int .i64 (q + 1 + 1 + 1)]
def entryHeld (w : World) (lo hi : Nat) (v : Value) (q : Int) (n : Nat) : Prop := n ≤ 1048576 ∧ RowAt w lo hi 29 4 v n (marksBy entryMarks 4 q n)
theorem entryHeld.keep {w w' : World} {lo hi lo' hi' : Nat} {v : Value} {q : Int} {n : Nat} (h : entryHeld w lo hi v q n) (k : Within w w' lo' hi') (d : hi ≤ lo' ∨ hi' ≤ lo) : entryHeld w' lo hi v q n := ⟨h.1, h.2.keep k d⟩
theorem entryHeld.keepB {w w' : World} {lo hi : Nat} {v : Value} {q : Int} {n : Nat} (h : entryHeld w lo hi v q n) (k : Below w.heap.size w w') : entryHeld w' lo hi v q n := ⟨h.1, h.2.keepB k⟩

end Go.Proofs.YtmnmaibhjhhakaaDoor
