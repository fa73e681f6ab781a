/-
  A piece of a list in the program. No condition.
-/
import Derived.Test.YtjloonjkplaplaaDoorAllS
import Derived.Test.YtjloonjkplaplaaDoorKEvent
namespace Go.Proofs.YtjloonjkplaplaaDoor
open Go.ChangeShapes Go.WideShapes Go.ChangeAt Go.RowKit

theorem fm_len {α : Type} {f : α → List Value} {K : Nat} (hc : ∀ x, (f x).length = K) : ∀ l : List α, (l.flatMap f).length = l.length * K
  | [] => by simp
  | x :: l => by rw [List.flatMap_cons, List.length_append, hc, fm_len hc l, List.length_cons, Nat.succ_mul]; omega
theorem lies_piece {α : Type} {f : α → List Value} {K : Nat} (hc : ∀ x, (f x).length = K) {w : World} {b o n : Nat} {xs : List α} (hx : xs.length = n) (h : Lies w K (some ⟨b, o, none⟩) n (xs.flatMap f)) (s m : Nat) (hs : s + m ≤ n) : Lies w K (some ⟨b, o + s * K, none⟩) m (((xs.drop s).take m).flatMap f) := by
  obtain ⟨h1, h2⟩ := h
  refine ⟨by rw [fm_len hc]; congr 1; simp; omega, fun hm => ?_⟩
  obtain ⟨b', o', e, hb, hcell⟩ := h2 (by omega)
  cases e
  refine ⟨b, o + s * K, rfl, hb, fun j u hj => ?_⟩
  have hsplit : xs.flatMap f = (xs.take s).flatMap f ++ (((xs.drop s).take m).flatMap f ++ ((xs.drop s).drop m).flatMap f) := by rw [← List.flatMap_append, ← List.flatMap_append, List.take_append_drop, List.take_append_drop]
  have hl : ((xs.take s).flatMap f).length = s * K := by rw [fm_len hc]; congr 1; simp; omega
  have hj2 := (List.getElem?_eq_some_iff.1 hj).1
  have := hcell (s * K + j) u (by rw [hsplit, List.getElem?_append_right (by omega), hl, Nat.add_sub_cancel_left, List.getElem?_append_left hj2]; exact hj)
  rwa [← Nat.add_assoc] at this
theorem piece_min {α : Type} {xs : List α} {f q s e n : Nat} (hx : xs.length = n) (hs : s = min f n) (he : e = min (f + q) n) : pieceL (f : Int) (q : Int) xs = (xs.drop s).take (e - s) := by
  show (xs.drop f).take q = _
  subst hs he
  by_cases h : f ≤ n
  · rw [Nat.min_eq_left h]
    by_cases h2 : f + q ≤ n
    · rw [Nat.min_eq_left h2, Nat.add_sub_cancel_left]
    · rw [Nat.min_eq_right (by omega), List.take_of_length_le (by simp; omega), List.take_of_length_le (by simp; omega)]
  · rw [List.drop_of_length_le (by omega), List.drop_of_length_le (by omega)]; simp

end Go.Proofs.YtjloonjkplaplaaDoor
