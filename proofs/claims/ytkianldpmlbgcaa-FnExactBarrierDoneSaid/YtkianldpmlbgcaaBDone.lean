/-
  BarrierDone of the reference and of the program, at a row within an interval of blocks. No condition.
-/
import Derived.Test.YtkianldpmlbgcaaBDoneS
import Derived.Test.YtkianldpmlbgcaaBDoneI
namespace Go.Proofs.Ytkianldpmlbgcaa
open Go.ChangeShapes Go.WideShapes Go.ChangeAt Go.RowKit

theorem filter_le (p : Int → Bool) (zs : List Int) : (zs.filter p).length ≤ zs.length := List.length_filter_le _ _
theorem specBDone_at (next : Int) (lo hi g n c : Nat) (zs : List Int) (first many : Int) (w : World) (h : intSAt w lo hi (.slice (some ⟨g, 0, none⟩) n c) zs) :
    Calls Try.prog 20 #[.agg #[.int .i64 next, .slice (some ⟨g, 0, none⟩) n c], .int .i64 first, .int .i64 many] w fun e w' => ∃ A' m' c', e = .returned (.tuple #[.agg #[.int .i64 (bdoneN next zs first many), .slice A' m' c'], .bool (bdoneB next zs first many)]) ∧ intSSee w' w.heap.size w'.heap.size (.slice A' m' c') (bdoneL next zs first many) ∧ Below w.heap.size w w' := by
  obtain ⟨_, _, _, e1, hx, hb, _, _, ho⟩ := h.open
  cases e1
  by_cases hc : barrierB next zs = true ∧ inB first 0 99 = true ∧ inB many 1 24 = true
  · obtain ⟨c1, c2, c3⟩ := hc
    obtain ⟨m, rfl⟩ : ∃ m : Nat, many = (m : Int) := ⟨many.toNat, by have := inB_iff.1 c3; omega⟩
    have hB : bdoneB next zs first (m : Int) = hasRun zs first m := by unfold bdoneB; rw [c1, c2, c3]; simp
    refine (specBDone_run next g n c zs hb hx first m w (lies_of_own ho) c1 c2 c3).mono fun e w' ⟨h1, h2, hbl⟩ => ?_
    cases hr : hasRun zs first m
    · obtain ⟨q1, q2⟩ := bdone_no (hB.trans hr)
      rw [q1, q2, hB, hr]
      exact ⟨none, 0, 0, h1 hr, intSRes.see (.inr ⟨rfl, rfl, Nat.le_refl _⟩), hbl⟩
    · obtain ⟨q1, q2⟩ := bdone_yes (hB.trans hr)
      obtain ⟨g', m', c', he, hl, ho'⟩ := h2 hr
      rw [q1, q2, hB, hr]
      exact ⟨_, _, _, he, intSRes.see (.inl (intSAt.made hl (by have := filter_le (outside first (m : Int)) zs; omega) ho')), hbl⟩
  · have hB : bdoneB next zs first many = false := by
      rw [Bool.eq_false_iff]
      intro hh
      exact hc ⟨(bdone_parts hh).1, (bdone_parts hh).2.1, (bdone_parts hh).2.2.1⟩
    obtain ⟨q1, q2⟩ := bdone_no hB
    rw [q1, q2, hB]
    exact (specBDone_no next g n c zs hb hx first many w (lies_of_own ho) hc).mono fun _ w' ⟨he, hbl⟩ => ⟨none, 0, 0, he, intSRes.see (.inr ⟨rfl, rfl, Nat.le_refl _⟩), hbl⟩
theorem implBDone_at (next : Int) (lo hi g n c : Nat) (zs : List Int) (first many : Int) (w : World) (h : intSAt w lo hi (.slice (some ⟨g, 0, none⟩) n c) zs) :
    Calls Try.prog 21 #[.agg #[.int .i64 next, .slice (some ⟨g, 0, none⟩) n c], .int .i64 first, .int .i64 many] w fun e w' => ∃ A' m' c', e = .returned (.tuple #[.agg #[.int .i64 (bdoneN next zs first many), .slice A' m' c'], .bool (bdoneB next zs first many)]) ∧ intSRes w' w.heap.size w'.heap.size (.slice A' m' c') (bdoneL next zs first many) ∧ Below w.heap.size w w' := by
  obtain ⟨_, _, _, e1, hx, hb, _, _, ho⟩ := h.open
  cases e1
  by_cases hc : barrierB next zs = true ∧ inB first 0 99 = true ∧ inB many 1 24 = true
  · obtain ⟨c1, c2, c3⟩ := hc
    obtain ⟨m, rfl⟩ : ∃ m : Nat, many = (m : Int) := ⟨many.toNat, by have := inB_iff.1 c3; omega⟩
    have hB : bdoneB next zs first (m : Int) = hasRun zs first m := by unfold bdoneB; rw [c1, c2, c3]; simp
    refine (implBDone_run next g n c zs hb hx first m w (lies_of_own ho) c1 c2 c3).mono fun e w' ⟨h1, h2, hbl⟩ => ?_
    cases hr : hasRun zs first m
    · obtain ⟨q1, q2⟩ := bdone_no (hB.trans hr)
      rw [q1, q2, hB, hr]
      exact ⟨none, 0, 0, h1 hr, .inr ⟨rfl, rfl, Nat.le_refl _⟩, hbl⟩
    · obtain ⟨q1, q2⟩ := bdone_yes (hB.trans hr)
      obtain ⟨g', m', c', he, hl, ho'⟩ := h2 hr
      rw [q1, q2, hB, hr]
      exact ⟨_, _, _, he, .inl (intSAt.made hl (by have := filter_le (outside first (m : Int)) zs; omega) ho'), hbl⟩
  · have hB : bdoneB next zs first many = false := by
      rw [Bool.eq_false_iff]
      intro hh
      exact hc ⟨(bdone_parts hh).1, (bdone_parts hh).2.1, (bdone_parts hh).2.2.1⟩
    obtain ⟨q1, q2⟩ := bdone_no hB
    rw [q1, q2, hB]
    exact (implBDone_no next g n c zs hb hx first many w (lies_of_own ho) hc).mono fun _ w' ⟨he, hbl⟩ => ⟨none, 0, 0, he, .inr ⟨rfl, rfl, Nat.le_refl _⟩, hbl⟩
end Go.Proofs.Ytkianldpmlbgcaa
