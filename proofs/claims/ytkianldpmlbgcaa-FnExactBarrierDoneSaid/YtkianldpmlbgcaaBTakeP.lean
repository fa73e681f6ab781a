/-
  Positions given out: what BarrierTake is to return, told plainly. No condition.
-/
import Derived.Test.YtkianldpmlbgcaaApp
import Derived.Test.YtkianldpmlbgcaaKIntR
import Derived.Test.YtkianldpmlbgcaaUpTo
namespace Go.Proofs.Ytkianldpmlbgcaa
open Go.RowKit

/-- The numbers from a on, n of them. -/
def runUp (a : Int) : Nat → List Int
  | 0 => []
  | n + 1 => runUp a n ++ [a + (n : Int)]
theorem runUp_length (a : Int) : ∀ n, (runUp a n).length = n
  | 0 => rfl
  | n + 1 => by rw [runUp, List.length_append, runUp_length a n]; rfl
theorem asc_snoc : ∀ (xs : List Int) (lo hi : Int), ascTo lo hi xs = true → lo < hi → ascTo lo (hi + 1) (xs ++ [hi]) = true
  | [], lo, hi, _, h => by simp [ascTo]; omega
  | x :: xs, lo, hi, h, _ => by
    unfold ascTo at h
    simp only [Bool.and_eq_true, decide_eq_true_eq] at h
    have ih := asc_snoc xs x hi h.2 h.1.2
    rw [List.cons_append, ascTo, ih]
    simp; omega
theorem asc_below : ∀ (xs : List Int) (lo hi : Int), ascTo lo hi xs = true → ∀ y ∈ xs, lo < y ∧ y < hi
  | [], _, _, _, y, hy => by simp at hy
  | x :: xs, lo, hi, h, y, hy => by
    unfold ascTo at h
    simp only [Bool.and_eq_true, decide_eq_true_eq] at h
    rcases List.mem_cons.1 hy with rfl | hy
    · exact h.1
    · have := asc_below xs x hi h.2 y hy; omega
theorem asc_run {zs : List Int} {next : Int} (h : ascTo (-1) next zs = true) (h0 : 0 ≤ next) : ∀ k : Nat, ascTo (-1) (next + (k : Int)) (zs ++ runUp next k) = true
  | 0 => by simpa [runUp] using h
  | k + 1 => by
    have ih := asc_snoc _ _ _ (asc_run h h0 k) (by omega)
    rw [runUp, ← List.append_assoc, show next + ((k + 1 : Nat) : Int) = next + (k : Int) + 1 by omega]
    exact ih
theorem ascL_of {zs : List Int} {lo hi : Int} (h : ascTo lo hi zs = true) : AscL zs := fun j k x y hjk hx hy => asc_pair zs lo hi h j k x y hjk hx hy

def btakeB (next : Int) (zs : List Int) (many : Int) : Bool := barrierB next zs && (inB many 1 24 && decide (next + many ≤ 100))
def btakeD (next : Int) (zs : List Int) (many : Int) : Int := if btakeB next zs many then next + many else 0
def btakeF (next : Int) (zs : List Int) (many : Int) : Int := if btakeB next zs many then next else 0
def btakeL (next : Int) (zs : List Int) (many : Int) : List Int := if btakeB next zs many then zs ++ runUp next many.toNat else []
theorem btake_no {next : Int} {zs : List Int} {many : Int} (h : btakeB next zs many = false) : btakeD next zs many = 0 ∧ btakeF next zs many = 0 ∧ btakeL next zs many = [] := by
  unfold btakeD btakeF btakeL; rw [h]; exact ⟨rfl, rfl, rfl⟩
theorem btake_yes {next : Int} {zs : List Int} {many : Int} (h : btakeB next zs many = true) : btakeD next zs many = next + many ∧ btakeF next zs many = next ∧ btakeL next zs many = zs ++ runUp next many.toNat := by
  unfold btakeD btakeF btakeL; rw [h]; exact ⟨rfl, rfl, rfl⟩
theorem btake_parts {next : Int} {zs : List Int} {many : Int} (h : btakeB next zs many = true) : barrierB next zs = true ∧ inB many 1 24 = true ∧ next + many ≤ 100 := by
  unfold btakeB at h
  simp only [Bool.and_eq_true, decide_eq_true_eq] at h
  exact h
theorem barrier_parts {next : Int} {zs : List Int} (h : barrierB next zs = true) : (0 ≤ next ∧ next ≤ 100) ∧ ascTo (-1) next zs = true := by
  unfold barrierB at h
  simp only [Bool.and_eq_true] at h
  exact ⟨inB_iff.1 h.1, h.2⟩
end Go.Proofs.Ytkianldpmlbgcaa
