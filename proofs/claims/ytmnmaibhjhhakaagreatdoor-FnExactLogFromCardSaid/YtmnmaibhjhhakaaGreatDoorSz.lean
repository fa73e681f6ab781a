/-
  How the laws count the size of their input: what is left of a bound; small facts on lists and texts. No condition.
-/
import Derived.Test.YtmnmaibhjhhakaaGreatDoorCore
import Derived.Test.YtmnmaibhjhhakaaGreatDoorBase
namespace Go.Proofs.YtmnmaibhjhhakaaGreatDoor
/-- What is left of 'left' behind n, or -1. -/
def szN (left n : Int) : Int := if left < n then -1 else left - n
theorem szN_neg {left n : Int} (_h0 : 0 ≤ left) (h : szN left n < 0) : szN left n = -1 := by
  unfold szN at *; split at h <;> simp_all; omega
/-- What is left of 'left' behind texts, or -1. -/
def szT (left : Int) : List ByteArray → Int
  | [] => left
  | s :: ss => if left < s.size then -1 else szT (left - s.size) ss
/-- Behind n elements and their texts. -/
def szR (left n : Int) (ss : List ByteArray) : Int := if left < n then -1 else szT (left - n) ss
theorem szT_lt {left : Int} {s : ByteArray} {ss : List ByteArray} (h : left < s.size) : szT left (s :: ss) = -1 := by rw [szT, if_pos h]
theorem szT_ge {left : Int} {s : ByteArray} {ss : List ByteArray} (h : ¬ left < s.size) : szT left (s :: ss) = szT (left - s.size) ss := by rw [szT, if_neg h]
theorem szT_one {left : Int} {s : ByteArray} : szT left [s] = szN left s.size := by rw [szT]; rfl
theorem szT_cases : ∀ (ss : List ByteArray) {left : Int}, 0 ≤ left → szT left ss = -1 ∨ (0 ≤ szT left ss ∧ szT left ss ≤ left)
  | [], left, h => .inr ⟨h, Int.le_refl _⟩
  | s :: ss, left, h => by
    by_cases c : left < s.size
    · exact .inl (szT_lt c)
    · rw [szT_ge c]
      have hs : (0 : Int) ≤ s.size := by omega
      rcases szT_cases ss (left := left - s.size) (by omega) with h1 | ⟨h1, h2⟩
      · exact .inl h1
      · exact .inr ⟨h1, by omega⟩
theorem szT_neg : ∀ {ss : List ByteArray} {left : Int}, szT left ss < 0 → 0 ≤ left → szT left ss = -1 := fun {ss} {left} h h0 => by
  rcases szT_cases ss h0 with h1 | ⟨h1, _⟩
  · exact h1
  · omega
theorem szT_append_neg : ∀ {ss : List ByteArray} {left : Int}, 0 ≤ left → szT left ss < 0 → ∀ ts, szT left (ss ++ ts) = -1
  | [], left, h0, h, _ => by rw [szT] at h; omega
  | s :: ss, left, h0, h, ts => by
    by_cases c : left < s.size
    · exact szT_lt c
    · rw [List.cons_append, szT_ge c]
      rw [szT_ge c] at h
      exact szT_append_neg (by omega) h ts
theorem szT_append_pos : ∀ {ss : List ByteArray} {left r : Int}, szT left ss = r → 0 ≤ r → ∀ ts, szT left (ss ++ ts) = szT r ts
  | [], left, r, h, _, ts => by rw [szT] at h; rw [h]; rfl
  | s :: ss, left, r, h, hr, ts => by
    by_cases c : left < s.size
    · rw [szT_lt c] at h; omega
    · rw [List.cons_append, szT_ge c]
      rw [szT_ge c] at h
      exact szT_append_pos h hr ts
theorem szT_pos {ss : List ByteArray} {left : Int} (h0 : 0 ≤ left) (h : ¬ szT left ss < 0) : ∃ r, szT left ss = r ∧ 0 ≤ r ∧ r ≤ left := by
  rcases szT_cases ss h0 with h1 | ⟨h1, h2⟩
  · omega
  · exact ⟨_, rfl, h1, h2⟩
theorem szR_neg {left n : Int} {ss : List ByteArray} (h : szR left n ss < 0) : szR left n ss = -1 := by
  unfold szR at *
  split
  · rfl
  · rename_i c
    rw [if_neg c] at h
    exact szT_neg h (by omega)
theorem szR_len {n : Nat} {ss : List ByteArray} (h : ¬ szR 1048576 n ss < 0) : n ≤ 1048576 := by
  unfold szR at h
  split at h
  · omega
  · omega
theorem szR_len_of {left : Int} {n : Nat} {ss : List ByteArray} (hl : left ≤ 1048576) (h : ¬ szR left n ss < 0) : n ≤ 1048576 := by
  unfold szR at h
  split at h
  · omega
  · omega
theorem szR_pos {left : Int} {n : Nat} {ss : List ByteArray} (_h0 : 0 ≤ left) (h : ¬ szR left n ss < 0) : ∃ r, szR left n ss = r ∧ 0 ≤ r ∧ r ≤ left := by
  unfold szR at *
  split
  · rename_i c; rw [if_pos c] at h; omega
  · rename_i c
    rw [if_neg c] at h
    obtain ⟨r, h1, h2, h3⟩ := szT_pos (by omega) h
    exact ⟨r, h1, h2, by omega⟩
/-- Where the count holds, each text is short. -/
theorem szT_all : ∀ {ss : List ByteArray} {left : Int}, 0 ≤ left → 0 ≤ szT left ss → ∀ s ∈ ss, (s.size : Int) ≤ left
  | [], _, _, _, s, hs => by simp at hs
  | t :: ss, left, h0, h, s, hs => by
    by_cases c : left < t.size
    · rw [szT_lt c] at h; omega
    · rw [szT_ge c] at h
      rcases List.mem_cons.1 hs with rfl | hs
      · omega
      · have := szT_all (by omega) h s hs; omega
theorem dec_self {α : Type} [DecidableEq α] (a : α) : decide (a = a) = true := by simp
theorem str_ne {a b : ByteArray} (h : ¬ a = b) : (a.toList == b.toList) = false := by
  rw [beq_eq_false_iff_ne]
  intro e
  exact h (WideShapes.bytes_inj (by simpa only [ByteArray.toList_eq] using e))
theorem drop_of {α : Type} {xs : List α} {k : Nat} {x : α} (h : xs[k]? = some x) : xs.drop k = x :: xs.drop (k + 1) := by
  obtain ⟨hlt, rfl⟩ := List.getElem?_eq_some_iff.1 h
  exact List.drop_eq_getElem_cons hlt
theorem ne_of_get {α : Type} {xs ys : List α} {k : Nat} {x y : α} (hx : xs[k]? = some x) (hy : ys[k]? = some y) (h : x ≠ y) : xs ≠ ys := by
  intro e
  rw [e, hy] at hx
  exact h (Option.some.inj hx).symm
end Go.Proofs.YtmnmaibhjhhakaaGreatDoor
