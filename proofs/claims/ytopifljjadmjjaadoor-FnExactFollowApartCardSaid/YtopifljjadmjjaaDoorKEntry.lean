/-
  Slices of Entry within an interval of blocks: the laws' copy, equality, marks, and whether the marks are held. No condition.
-/
import Derived.Test.YtopifljjadmjjaaDoorEEntry
import Derived.Test.YtopifljjadmjjaaDoorKeep
import Derived.Test.YtopifljjadmjjaaDoorMarkText
namespace Go.Proofs.YtopifljjadmjjaaDoor
open Go.ChangeShapes Go.WideShapes Go.ChangeAt Go.RowKit

theorem rowEntry : RowTy Tryd.prog 25 41 4 48 := rowTy_mk Tryd.underlying25 infoEntry rfl (by decide)
def entrySAt (w : World) (lo hi : Nat) (v : Value) (xs : List (ByteArray × Int × ByteArray × Int)) : Prop := xs.length ≤ 1048576 ∧ RowAt w lo hi 41 4 v xs.length (xs.flatMap entryCells)
theorem entrySAt.keep {w w' : World} {lo hi lo' hi' : Nat} {v : Value} {xs : List (ByteArray × Int × ByteArray × Int)} (h : entrySAt w lo hi v xs) (k : Within w w' lo' hi') (d : hi ≤ lo' ∨ hi' ≤ lo) : entrySAt w' lo hi v xs := ⟨h.1, h.2.keep k d⟩
theorem entrySAt.keepB {w w' : World} {lo hi : Nat} {v : Value} {xs : List (ByteArray × Int × ByteArray × Int)} (h : entrySAt w lo hi v xs) (k : Below w.heap.size w w') : entrySAt w' lo hi v xs := ⟨h.1, h.2.keepB k⟩
theorem entrySAt.made {w w' : World} {g m c : Nat} {xs : List (ByteArray × Int × ByteArray × Int)} (hl : xs.length = m) (hb : m ≤ 1048576) (h : w'.ownsRow w.heap.size 41 4 (.slice (some ⟨g, 0, none⟩) m c) m (xs.flatMap entryCells)) : entrySAt w' w.heap.size w'.heap.size (.slice (some ⟨g, 0, none⟩) m c) xs := by
  subst hl; exact ⟨hb, RowAt.made h⟩
theorem entrySAt.open {w : World} {lo hi : Nat} {v : Value} {xs : List (ByteArray × Int × ByteArray × Int)} (h : entrySAt w lo hi v xs) : ∃ g m c, v = .slice (some ⟨g, 0, none⟩) m c ∧ xs.length = m ∧ m ≤ 1048576 ∧ lo ≤ g ∧ g < hi ∧ w.ownsRow lo 41 4 (.slice (some ⟨g, 0, none⟩) m c) m (xs.flatMap entryCells) := by
  obtain ⟨hb, g, c, rfl, h1, h2, h3, ho⟩ := h
  exact ⟨g, _, c, rfl, rfl, hb, h1, h2, ho⟩

theorem toEntryS_at (B : Nat) (A : Option Addr) (n c : Nat) (xs : List (ByteArray × Int × ByteArray × Int)) (hn : n ≤ 1048576) (hx : xs.length = n) (w : World) (hL : ArgAt w B A 4 n (xs.flatMap entryCells)) :
    Calls Tryd.prog 9 #[.slice A n c] w fun e w' => ∃ v, e = .returned v ∧ entrySAt w' w.heap.size w'.heap.size v xs ∧ Below w.heap.size w w' :=
  (toEntryS_any A n c xs hn hx w hL.1).mono fun _ _ ⟨_, he, ho, hb⟩ => ⟨_, he, entrySAt.made hx hn ho, hb⟩
theorem eqEntryS_at (lo hi lo' hi' : Nat) (v v' : Value) (xs ys : List (ByteArray × Int × ByteArray × Int)) (w : World) (h : entrySAt w lo hi v xs) (h' : entrySAt w lo' hi' v' ys) :
    Calls Tryd.prog 11 #[v, v'] w fun e w' => e = .returned (.bool (decide (xs = ys))) ∧ Below w.heap.size w w' := by
  obtain ⟨g, m, c, rfl, hx, hb, _, _, ho⟩ := h.open
  obtain ⟨g', m', c', rfl, hy, _, _, _, ho'⟩ := h'.open
  exact eqEntryS_any _ _ _ _ _ _ xs ys hb hx hy w (lies_of_own ho) (lies_of_own ho')

def entryMarks (q : Int) : List Value := [.string (mtext (q)), .int .i64 (q + 1), .string (mtext (q + 1 + 1)), .int .i64 (q + 1 + 1 + 1)]
def entryHeld (w : World) (lo hi : Nat) (v : Value) (q : Int) (n : Nat) : Prop := n ≤ 1048576 ∧ RowAt w lo hi 41 4 v n (marksBy entryMarks 4 q n)
theorem entryHeld.keep {w w' : World} {lo hi lo' hi' : Nat} {v : Value} {q : Int} {n : Nat} (h : entryHeld w lo hi v q n) (k : Within w w' lo' hi') (d : hi ≤ lo' ∨ hi' ≤ lo) : entryHeld w' lo hi v q n := ⟨h.1, h.2.keep k d⟩
theorem entryHeld.keepB {w w' : World} {lo hi : Nat} {v : Value} {q : Int} {n : Nat} (h : entryHeld w lo hi v q n) (k : Below w.heap.size w w') : entryHeld w' lo hi v q n := ⟨h.1, h.2.keepB k⟩

end Go.Proofs.YtopifljjadmjjaaDoor
