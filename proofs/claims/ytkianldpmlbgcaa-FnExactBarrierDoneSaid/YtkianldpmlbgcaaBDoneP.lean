/-
  Positions told done: what BarrierDone is to return, told plainly. No condition.
-/
import Derived.Test.YtkianldpmlbgcaaBTake
namespace Go.Proofs.Ytkianldpmlbgcaa
open Go.RowKit

/-- All of the numbers first, first + 1, .., m of them, are in a list. -/
def hasRun (zs : List Int) (first : Int) : Nat → Bool
  | 0 => true
  | m + 1 => hasRun zs first m && decide (first + (m : Int) ∈ zs)
def outside (first many : Int) (x : Int) : Bool := decide (x < first) || decide (first + many ≤ x)
theorem hasRun_all {zs : List Int} {first : Int} : ∀ {m : Nat}, hasRun zs first m = true ↔ ∀ k : Nat, k < m → first + (k : Int) ∈ zs
  | 0 => by simp [hasRun]
  | m + 1 => by
    rw [hasRun, Bool.and_eq_true, hasRun_all]
    simp only [decide_eq_true_eq]
    constructor
    · rintro ⟨h1, h2⟩ k hk
      by_cases e : k = m
      · subst e; exact h2
      · exact h1 k (by omega)
    · exact fun h => ⟨fun k hk => h k (by omega), h m (by omega)⟩
def inside (first : Int) (m : Nat) (x : Int) : Bool := decide (first ≤ x) && decide (x < first + (m : Int))
theorem split_len (first : Int) (m : Nat) : ∀ zs : List Int, zs.length = (zs.filter (outside first (m : Int))).length + (zs.filter (inside first m)).length
  | [] => rfl
  | z :: zs => by
    have ih := split_len first m zs
    rw [List.filter_cons, List.filter_cons]
    by_cases h1 : z < first
    · rw [if_pos (by simp [outside]; omega), if_neg (by simp [inside]; omega)]; simp; omega
    · by_cases h2 : first + (m : Int) ≤ z
      · rw [if_pos (by simp [outside]; omega), if_neg (by simp [inside]; omega)]; simp; omega
      · rw [if_neg (by simp [outside]; omega), if_pos (by simp [inside]; omega)]; simp; omega
theorem inside_succ (first : Int) (m : Nat) : ∀ zs : List Int, (zs.filter (inside first (m + 1))).length = (zs.filter (inside first m)).length + zs.count (first + (m : Int))
  | [] => rfl
  | z :: zs => by
    have ih := inside_succ first m zs
    rw [List.filter_cons, List.filter_cons, List.count_cons]
    by_cases h : z = first + (m : Int)
    · rw [if_pos (by simp [inside]; omega), if_neg (by simp [inside]; omega), if_pos (by simp [h])]; simp; omega
    · rw [if_neg (show ¬ (z == first + (m : Int)) = true by simp [h])]
      by_cases h1 : inside first m z = true
      · rw [if_pos h1, if_pos (by simp [inside] at h1 ⊢; omega)]; simp; omega
      · rw [if_neg h1, if_neg (by simp [inside] at h1 ⊢; omega)]; omega
theorem inside_count {zs : List Int} (hn : zs.Nodup) (first : Int) : ∀ m : Nat, (zs.filter (inside first m)).length ≤ m ∧ ((zs.filter (inside first m)).length = m ↔ hasRun zs first m = true)
  | 0 => by
    have : zs.filter (inside first 0) = [] := by
      rw [List.filter_eq_nil_iff]
      intro x _
      simp [inside]
    rw [this]; simp [hasRun]
  | m + 1 => by
    obtain ⟨ih1, ih2⟩ := inside_count hn first m
    have hc := List.nodup_iff_count.1 hn (first + (m : Int))
    have e := inside_succ first m zs
    have hp := List.count_pos_iff (a := first + (m : Int)) (l := zs)
    refine ⟨by omega, ?_⟩
    rw [hasRun, Bool.and_eq_true, decide_eq_true_eq, ← ih2, ← hp]
    omega
/-- An ascending list has at most m elements in a range of m numbers, and m just if all are there. -/
theorem run_count {zs : List Int} {lo hi : Int} (first : Int) (m : Nat) (h : ascTo lo hi zs = true) : zs.length = (zs.filter (outside first (m : Int))).length + m ↔ hasRun zs first m = true := by
  have hnd : zs.Nodup := (ascL_pair (ascL_of h)).imp (fun h => by omega)
  have h1 := split_len first m zs
  have h2 := (inside_count hnd first m).2
  rw [← h2]
  omega

def bdoneB (next : Int) (zs : List Int) (first many : Int) : Bool := barrierB next zs && (inB first 0 99 && (inB many 1 24 && hasRun zs first many.toNat))
def bdoneN (next : Int) (zs : List Int) (first many : Int) : Int := if bdoneB next zs first many then next else 0
def bdoneL (next : Int) (zs : List Int) (first many : Int) : List Int := if bdoneB next zs first many then zs.filter (outside first many) else []
theorem bdone_no {next : Int} {zs : List Int} {first many : Int} (h : bdoneB next zs first many = false) : bdoneN next zs first many = 0 ∧ bdoneL next zs first many = [] := by
  unfold bdoneN bdoneL; rw [h]; exact ⟨rfl, rfl⟩
theorem bdone_yes {next : Int} {zs : List Int} {first many : Int} (h : bdoneB next zs first many = true) : bdoneN next zs first many = next ∧ bdoneL next zs first many = zs.filter (outside first many) := by
  unfold bdoneN bdoneL; rw [h]; exact ⟨rfl, rfl⟩
theorem bdone_parts {next : Int} {zs : List Int} {first many : Int} (h : bdoneB next zs first many = true) : barrierB next zs = true ∧ inB first 0 99 = true ∧ inB many 1 24 = true ∧ hasRun zs first many.toNat = true := by
  unfold bdoneB at h
  simp only [Bool.and_eq_true] at h
  exact ⟨h.1, h.2.1, h.2.2.1, h.2.2.2⟩
theorem filter_snoc {p : Int → Bool} {xs : List Int} {k : Nat} {x : Int} (h : xs[k]? = some x) : (xs.take (k + 1)).filter p = (xs.take k).filter p ++ (if p x then [x] else []) := by
  rw [take_succ_of h, List.filter_append]
  congr 1
  cases e : p x <;> simp [e]
end Go.Proofs.Ytkianldpmlbgcaa
