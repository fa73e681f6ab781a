/-
  BarrierTake of the reference and of the program, at a row within an interval of blocks. No condition.
-/
import Derived.Test.YtkianldpmlbgcaaBTakeS
import Derived.Test.YtkianldpmlbgcaaBTakeI
namespace Go.Proofs.Ytkianldpmlbgcaa
open Go.ChangeShapes Go.WideShapes Go.ChangeAt Go.RowKit

theorem asc_len : ∀ (xs : List Int) (lo hi : Int), ascTo lo hi xs = true → lo < hi → (xs.length : Int) ≤ hi - lo - 1
  | [], lo, hi, _, h => by simp; omega
  | x :: xs, lo, hi, h, _ => by
    unfold ascTo at h
    simp only [Bool.and_eq_true, decide_eq_true_eq] at h
    have := asc_len xs x hi h.2 h.1.2
    simp only [List.length_cons]
    omega
theorem barrier_len {next : Int} {zs : List Int} (h : barrierB next zs = true) : zs.length ≤ 100 := by
  obtain ⟨⟨h1, h2⟩, h3⟩ := barrier_parts h
  have := asc_len zs (-1) next h3 (by omega)
  omega
theorem many_nat {next : Int} {zs : List Int} {many : Int} (h : btakeB next zs many = true) : ∃ m : Nat, many = (m : Int) := by
  obtain ⟨_, h2, _⟩ := btake_parts h
  obtain ⟨h3, _⟩ := inB_iff.1 h2
  exact ⟨many.toNat, by omega⟩
theorem btake_see_nil {w : World} : intSRes w w.heap.size w.heap.size (.slice none 0 0) [] := .inr ⟨rfl, rfl, Nat.le_refl _⟩

theorem specBTake_at (next : Int) (lo hi g n c : Nat) (zs : List Int) (many : Int) (w : World) (h : intSAt w lo hi (.slice (some ⟨g, 0, none⟩) n c) zs) :
    Calls Try.prog 14 #[.agg #[.int .i64 next, .slice (some ⟨g, 0, none⟩) n c], .int .i64 many] w fun e w' => ∃ A' m' c', e = .returned (.tuple #[.agg #[.int .i64 (btakeD next zs many), .slice A' m' c'], .int .i64 (btakeF next zs many), .bool (btakeB next zs many)]) ∧ intSSee w' w.heap.size w'.heap.size (.slice A' m' c') (btakeL next zs many) ∧ Below w.heap.size w w' := by
  obtain ⟨_, _, _, e1, hx, hb, _, _, ho⟩ := h.open
  cases e1
  cases hc : btakeB next zs many
  · obtain ⟨h1, h2, h3⟩ := btake_no hc
    rw [h1, h2, h3]
    exact (specBTake_no next g n c zs hb hx many w (lies_of_own ho) hc).mono fun _ w' ⟨he, hbl⟩ => ⟨none, 0, 0, he, intSRes.see (.inr ⟨rfl, rfl, Nat.le_refl _⟩), hbl⟩
  · obtain ⟨m, rfl⟩ := many_nat hc
    obtain ⟨h1, h2, h3⟩ := btake_yes hc
    have hl := barrier_len (btake_parts hc).1
    rw [h1, h2, h3]
    refine (specBTake_yes next g n c zs hb hx m w (lies_of_own ho) hc).mono fun _ w' ⟨g', c', he, ho', hbl⟩ => ⟨_, _, _, he, ?_, hbl⟩
    have hm24 := (inB_iff.1 (btake_parts hc).2.1).2
    exact intSRes.see (.inl (intSAt.made (by rw [List.length_append, Int.toNat_natCast, runUp_length, hx]) (by omega) ho'))
theorem implBTake_at (next : Int) (lo hi g n c : Nat) (zs : List Int) (many : Int) (w : World) (h : intSAt w lo hi (.slice (some ⟨g, 0, none⟩) n c) zs) :
    Calls Try.prog 16 #[.agg #[.int .i64 next, .slice (some ⟨g, 0, none⟩) n c], .int .i64 many] w fun e w' => ∃ A' m' c', e = .returned (.tuple #[.agg #[.int .i64 (btakeD next zs many), .slice A' m' c'], .int .i64 (btakeF next zs many), .bool (btakeB next zs many)]) ∧ intSRes w' w.heap.size w'.heap.size (.slice A' m' c') (btakeL next zs many) ∧ Below w.heap.size w w' := by
  obtain ⟨_, _, _, e1, hx, hb, _, _, ho⟩ := h.open
  cases e1
  cases hc : btakeB next zs many
  · obtain ⟨h1, h2, h3⟩ := btake_no hc
    rw [h1, h2, h3]
    exact (implBTake_no next g n c zs hb hx many w (lies_of_own ho) hc).mono fun _ w' ⟨he, hbl⟩ => ⟨none, 0, 0, he, .inr ⟨rfl, rfl, Nat.le_refl _⟩, hbl⟩
  · obtain ⟨m, rfl⟩ := many_nat hc
    obtain ⟨h1, h2, h3⟩ := btake_yes hc
    have hl := barrier_len (btake_parts hc).1
    rw [h1, h2, h3]
    refine (implBTake_yes next g n c zs (by omega) hx m w (lies_of_own ho) hc).mono fun _ w' ⟨g', c', he, ho', hbl⟩ => ⟨_, _, _, he, ?_, hbl⟩
    have hm24 := (inB_iff.1 (btake_parts hc).2.1).2
    exact .inl (intSAt.made (by rw [List.length_append, Int.toNat_natCast, runUp_length, hx]) (by omega) ho')
end Go.Proofs.Ytkianldpmlbgcaa
