/-
  A text cut at every blank: plain facts, and what the library's split of it is. No condition.
-/
import Derived.Test.YtmnmaibhjhhakaaGreatDoorSz
import Derived.Lib.SplitLaws
namespace Go.Proofs.YtmnmaibhjhhakaaGreatDoor
open Go.RowKit

/-- The pieces between the blanks; acc is the piece begun. -/
def cutF : List UInt8 → List UInt8 → List (List UInt8)
  | acc, [] => [acc]
  | acc, c :: r => if c = 32 then acc :: cutF [] r else cutF (acc ++ [c]) r
theorem cutF_no : ∀ (l acc : List UInt8), (32 : UInt8) ∉ l → cutF acc l = [acc ++ l]
  | [], acc, _ => by simp [cutF]
  | c :: l, acc, h => by
    rw [List.mem_cons, not_or] at h
    rw [cutF, if_neg (fun e => h.1 e.symm), cutF_no l _ h.2]; simp
theorem cutF_at (r : List UInt8) : ∀ (l acc : List UInt8), (32 : UInt8) ∉ l → cutF acc (l ++ 32 :: r) = (acc ++ l) :: cutF [] r
  | [], acc, _ => by simp [cutF]
  | c :: l, acc, h => by
    rw [List.mem_cons, not_or] at h
    rw [List.cons_append, cutF, if_neg (fun e => h.1 e.symm), cutF_at r l _ h.2]; simp
theorem cutF_ne (s acc : List UInt8) : cutF acc s ≠ [] := by
  by_cases h : (32 : UInt8) ∈ s
  · obtain ⟨l, r, rfl, hl⟩ := List.eq_append_cons_of_mem h
    rw [cutF_at _ _ _ hl]; simp
  · rw [cutF_no _ _ h]; simp
theorem cutF_one {s acc a : List UInt8} (h : cutF acc s = [a]) : (32 : UInt8) ∉ s ∧ a = acc ++ s := by
  by_cases hm : (32 : UInt8) ∈ s
  · obtain ⟨l, r, rfl, hl⟩ := List.eq_append_cons_of_mem hm
    rw [cutF_at _ _ _ hl] at h
    simp only [List.cons.injEq] at h
    exact absurd h.2 (cutF_ne _ _)
  · rw [cutF_no _ _ hm] at h
    simp only [List.cons.injEq, and_true] at h
    exact ⟨hm, h.symm⟩
theorem cutF_cons {s acc a b : List UInt8} {rest : List (List UInt8)} (h : cutF acc s = a :: b :: rest) : ∃ l r, (32 : UInt8) ∉ l ∧ s = l ++ 32 :: r ∧ a = acc ++ l ∧ cutF [] r = b :: rest := by
  by_cases hm : (32 : UInt8) ∈ s
  · obtain ⟨l, r, rfl, hl⟩ := List.eq_append_cons_of_mem hm
    rw [cutF_at _ _ _ hl] at h
    simp only [List.cons.injEq] at h
    exact ⟨l, r, hl, rfl, h.1.symm, h.2⟩
  · rw [cutF_no _ _ hm] at h
    simp at h
/-- Pieces without blanks, put together with blanks, are cut into themselves. -/
theorem cutF_back (a : List UInt8) (h : (32 : UInt8) ∉ a) (r : List UInt8) : cutF [] (a ++ 32 :: r) = a :: cutF [] r := by rw [cutF_at _ _ _ h]; rfl
theorem split_first {u v r t : List UInt8} (hu : (32 : UInt8) ∉ u) (hv : (32 : UInt8) ∉ v) (h : u ++ 32 :: r = v ++ 32 :: t) : u = v ∧ r = t := by
  have h1 := cutF_back u hu r
  rw [h, cutF_back v hv t] at h1
  simp only [List.cons.injEq] at h1
  obtain rfl := h1.1
  have h2 := List.append_cancel_left h
  simp only [List.cons.injEq, true_and] at h2
  exact ⟨rfl, h2⟩

theorem index_no : ∀ l : List UInt8, (32 : UInt8) ∉ l → Lib.index l [32] = -1
  | [], _ => rfl
  | c :: l, h => by
    rw [List.mem_cons, not_or] at h
    rw [Lib.index, index_no l h.2]
    have : ([32] : List UInt8).isPrefixOf (c :: l) = false := by simp [List.isPrefixOf, h.1]
    rw [this]; rfl
theorem index_at (r : List UInt8) : ∀ l : List UInt8, (32 : UInt8) ∉ l → Lib.index (l ++ 32 :: r) [32] = (l.length : Int)
  | [], _ => by rw [List.nil_append, Lib.index]; simp [List.isPrefixOf]
  | c :: l, h => by
    rw [List.mem_cons, not_or] at h
    rw [List.cons_append, Lib.index, index_at r l h.2]
    have : ([32] : List UInt8).isPrefixOf (c :: (l ++ 32 :: r)) = false := by simp [List.isPrefixOf, h.1]
    rw [this]
    have hn : ((l.length : Int) == -1) = false := by simp
    rw [hn]; simp
theorem split_words : ∀ (k : Nat) (s : List UInt8), Lib.count s [32] = k → Lib.splitK [32] 0 k s = cutF [] s
  | k, s, h => by
    by_cases hm : (32 : UInt8) ∈ s
    · obtain ⟨l, r, rfl, hl⟩ := List.eq_append_cons_of_mem hm
      have hi := index_at r l hl
      have hc := Lib.count_hit (s := l ++ 32 :: r) (sub := [32]) (i := l.length) (by simp) hi
      have hd : (l ++ 32 :: r).drop (l.length + ([32] : List UInt8).length) = r := by
        rw [List.length_singleton, ← List.drop_drop, List.drop_left]; rfl
      rw [hd] at hc
      obtain ⟨k', rfl⟩ : ∃ k', k = k' + 1 := ⟨k - 1, by omega⟩
      have ih := split_words k' r (by omega)
      rw [cutF_at _ _ _ hl, Lib.splitK, hi]
      have hn : ((l.length : Int) == -1) = false := by simp
      rw [hn]
      simp only [Bool.false_eq_true, if_false, Int.toNat_natCast, Nat.add_zero, List.nil_append]
      rw [hd, ih, List.take_left]
    · have hi := index_no s hm
      rw [cutF_no _ _ hm]
      cases k with
      | zero => rfl
      | succ k => rw [Lib.splitK, hi]; rfl
termination_by k => k

def wordsB (s : ByteArray) : List ByteArray := (cutF [] s.data.toList).map (fun l => (⟨l.toArray⟩ : ByteArray))
theorem map_back : ∀ (xs : List ByteArray) (ys : List (List UInt8)), xs.map (·.data.toList) = ys → xs = ys.map (fun l => (⟨l.toArray⟩ : ByteArray))
  | [], _, h => by subst h; rfl
  | x :: xs, ys, h => by
    subst h
    rw [List.map_cons, List.map_cons, ← map_back xs _ rfl]
theorem splitB_words (s : ByteArray) : Lib.splitB ⟨#[32]⟩ 0 (Lib.countB s ⟨#[32]⟩) s = wordsB s := by
  refine map_back _ _ ?_
  rw [Lib.splitB_data]
  exact split_words _ _ rfl
theorem wordsB_ne (s : ByteArray) : wordsB s ≠ [] := by unfold wordsB; simpa using cutF_ne _ _
end Go.Proofs.YtmnmaibhjhhakaaGreatDoor
