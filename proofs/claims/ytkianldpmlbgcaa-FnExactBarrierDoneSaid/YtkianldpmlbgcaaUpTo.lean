/-
  BarrierUpTo and BarrierWaits of the program and of the reference: what each returns, for every barrier. No condition.
-/
import Derived.Test.YtkianldpmlbgcaaHeapO
namespace Go.Proofs.Ytkianldpmlbgcaa
open Go.ChangeShapes Go.WideShapes Go.ChangeAt Go.RowKit

def firstOpen (next : Int) (zs : List Int) : Int := match zs with | [] => next | z :: _ => z
def upTo (next : Int) (zs : List Int) : Int := if barrierB next zs then firstOpen next zs else -1
def waits (next : Int) (zs : List Int) : Int := if barrierB next zs then next - zs.length - firstOpen next zs else -1

theorem asc_above : ∀ (xs : List Int) (lo hi : Int), ascTo lo hi xs = true → ∀ (k : Nat) (y : Int), xs[k]? = some y → lo < y := by
  intro xs
  induction xs with
  | nil => intro lo hi h k y hy; simp at hy
  | cons z zs ih =>
    intro lo hi h k y hy
    have hh : lo < z ∧ z < hi ∧ ascTo z hi zs = true := by
      unfold ascTo at h; simp at h; exact ⟨h.1.1, h.1.2, h.2⟩
    cases k with
    | zero => rw [List.getElem?_cons_zero] at hy; cases hy; exact hh.1
    | succ k => rw [List.getElem?_cons_succ] at hy; have := ih z hi hh.2.2 k y hy; omega
theorem asc_pair : ∀ (xs : List Int) (lo hi : Int), ascTo lo hi xs = true → ∀ (j k : Nat) (x y : Int), j < k → xs[j]? = some x → xs[k]? = some y → x < y := by
  intro xs
  induction xs with
  | nil => intro lo hi h j k x y _ hx; simp at hx
  | cons z zs ih =>
    intro lo hi h j k x y hjk hx hy
    have hh : lo < z ∧ z < hi ∧ ascTo z hi zs = true := by
      unfold ascTo at h; simp at h; exact ⟨h.1.1, h.1.2, h.2⟩
    obtain ⟨k, rfl⟩ : ∃ k', k = k' + 1 := ⟨k - 1, by omega⟩
    rw [List.getElem?_cons_succ] at hy
    cases j with
    | zero =>
      rw [List.getElem?_cons_zero] at hx
      cases hx
      exact asc_above zs z hi hh.2.2 k y hy
    | succ j =>
      rw [List.getElem?_cons_succ] at hx
      exact ih z hi hh.2.2 j k x y (by omega) hx hy
theorem barrier_asc {next : Int} {zs : List Int} (h : barrierB next zs = true) : AscL zs := by
  unfold barrierB at h
  simp at h
  exact asc_pair zs (-1) next h.2
theorem barrier_in {next : Int} {zs : List Int} (h : barrierB next zs = true) : 0 ≤ next ∧ next ≤ 100 ∧ 0 ≤ firstOpen next zs ∧ firstOpen next zs ≤ 100 := by
  unfold barrierB at h
  simp at h
  have h1 := inB_iff.1 h.1
  cases zs with
  | nil => exact ⟨h1.1, h1.2, h1.1, h1.2⟩
  | cons z zs =>
    have h2 := h.2
    unfold ascTo at h2; simp at h2
    exact ⟨h1.1, h1.2, by show 0 ≤ z; omega, by show z ≤ 100; omega⟩

theorem first_at {next : Int} {zs : List Int} (h : 0 < zs.length) : zs[0]? = some (firstOpen next zs) := by
  cases zs with
  | nil => simp at h
  | cons z zs => rfl
theorem first_none {next : Int} {zs : List Int} (h : zs.length = 0) : firstOpen next zs = next := by
  cases zs with
  | nil => rfl
  | cons z zs => simp at h

end Go.Proofs.Ytkianldpmlbgcaa
