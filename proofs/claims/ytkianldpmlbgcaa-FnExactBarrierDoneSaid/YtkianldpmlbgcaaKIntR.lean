/-
  Slices of ints that are results: nil or a row of the call's own; and slices that are only read. No condition.
-/
import Derived.Test.YtkianldpmlbgcaaKInt
namespace Go.Proofs.Ytkianldpmlbgcaa
open Go.ChangeShapes Go.WideShapes Go.ChangeAt Go.RowKit

theorem Lies.keepW {w w' : World} {size n lo hi : Nat} {A : Option Addr} {xs : List Value} (h : Lies w size A n xs) (k : Within w w' lo hi) (hne : 0 < n → ∀ b o, A = some ⟨b, o, none⟩ → ¬ (lo ≤ b ∧ b < hi)) : Lies w' size A n xs :=
  ⟨h.1, fun hn => by
    obtain ⟨b, o, e, hlt, hc⟩ := h.2 hn
    exact ⟨b, o, e, Nat.lt_of_lt_of_le hlt k.size, fun j u hu => cell_keep k (hne hn b o e) (hc j u hu)⟩⟩
/-- A slice that is read: its block between lo and hi. -/
def intSSee (w : World) (lo hi : Nat) (v : Value) (xs : List Int) : Prop :=
  xs.length ≤ 1048576 ∧ hi ≤ w.heap.size ∧ ∃ A n c, v = .slice A n c ∧ xs.length = n ∧ Lies w 1 A n (xs.flatMap intCells) ∧ (0 < n → ∀ b o, A = some ⟨b, o, none⟩ → lo ≤ b ∧ b < hi)
theorem intSSee.keep {w w' : World} {lo hi lo' hi' : Nat} {v : Value} {xs : List Int} (h : intSSee w lo hi v xs) (k : Within w w' lo' hi') (d : hi ≤ lo' ∨ hi' ≤ lo) : intSSee w' lo hi v xs := by
  obtain ⟨h1, h2, A, n, c, rfl, h3, h4, h5⟩ := h
  exact ⟨h1, Nat.le_trans h2 k.size, A, n, c, rfl, h3, h4.keepW k (fun hn b o e => by have := h5 hn b o e; omega), h5⟩
theorem intSSee.keepB {w w' : World} {lo hi : Nat} {v : Value} {xs : List Int} (h : intSSee w lo hi v xs) (k : Below w.heap.size w w') : intSSee w' lo hi v xs := h.keep (Within.of_below k 0 0) (.inr (Nat.zero_le _))
theorem intSAt.see {w : World} {lo hi : Nat} {v : Value} {xs : List Int} (h : intSAt w lo hi v xs) : intSSee w lo hi v xs := by
  obtain ⟨g, m, c, rfl, hx, hb, h1, h2, ho⟩ := h.open
  exact ⟨h.1, h.2.bound.2, _, _, _, rfl, hx, lies_of_own ho, fun _ b o e => by cases e; exact ⟨h1, h2⟩⟩
/-- A slice that is handed back: nil, or a row. -/
def intSRes (w : World) (lo hi : Nat) (v : Value) (xs : List Int) : Prop := intSAt w lo hi v xs ∨ (v = .slice none 0 0 ∧ xs = [] ∧ hi ≤ w.heap.size)
theorem intSRes.keep {w w' : World} {lo hi lo' hi' : Nat} {v : Value} {xs : List Int} (h : intSRes w lo hi v xs) (k : Within w w' lo' hi') (d : hi ≤ lo' ∨ hi' ≤ lo) : intSRes w' lo hi v xs := by
  rcases h with h | ⟨h1, h2, h3⟩
  · exact .inl (h.keep k d)
  · exact .inr ⟨h1, h2, Nat.le_trans h3 k.size⟩
theorem intSRes.keepB {w w' : World} {lo hi : Nat} {v : Value} {xs : List Int} (h : intSRes w lo hi v xs) (k : Below w.heap.size w w') : intSRes w' lo hi v xs := h.keep (Within.of_below k 0 0) (.inr (Nat.zero_le _))
theorem intSRes.see {w : World} {lo hi : Nat} {v : Value} {xs : List Int} (h : intSRes w lo hi v xs) : intSSee w lo hi v xs := by
  rcases h with h | ⟨rfl, rfl, h3⟩
  · exact h.see
  · exact ⟨Nat.zero_le _, h3, none, 0, 0, rfl, rfl, ⟨rfl, fun h => absurd h (by omega)⟩, fun h => absurd h (by omega)⟩
theorem intSRes.len {w : World} {lo hi : Nat} {v : Value} {xs : List Int} (h : intSRes w lo hi v xs) : xs.length ≤ 1048576 := h.see.1
def intSHeldR (w : World) (lo hi : Nat) (v : Value) (q : Int) (n : Nat) : Prop := intHeld w lo hi v q n ∨ (v = .slice none 0 0 ∧ n = 0 ∧ hi ≤ w.heap.size)
theorem intSHeldR.keep {w w' : World} {lo hi lo' hi' : Nat} {v : Value} {q : Int} {n : Nat} (h : intSHeldR w lo hi v q n) (k : Within w w' lo' hi') (d : hi ≤ lo' ∨ hi' ≤ lo) : intSHeldR w' lo hi v q n := by
  rcases h with h | ⟨h1, h2, h3⟩
  · exact .inl (h.keep k d)
  · exact .inr ⟨h1, h2, Nat.le_trans h3 k.size⟩
theorem intSHeldR.keepB {w w' : World} {lo hi : Nat} {v : Value} {q : Int} {n : Nat} (h : intSHeldR w lo hi v q n) (k : Below w.heap.size w w') : intSHeldR w' lo hi v q n := h.keep (Within.of_below k 0 0) (.inr (Nat.zero_le _))
theorem markIntS_nil (q : Int) (w : World) : Calls Try.prog 26 #[.slice none 0 0, .int .i64 q] w fun e w' => e = .returned (.int .i64 q) ∧ w = w' := by
  go_enter Try.func26, Try.ntmps26
  go_wp2
  go_rounds 1
  go_ret
  exact ⟨rfl, rfl⟩
theorem heldIntS_nil (q : Int) (w : World) : Calls Try.prog 27 #[.slice none 0 0, .int .i64 q] w fun e w' => e = .returned (.int .i64 q) ∧ w = w' := by
  go_enter Try.func27, Try.ntmps27
  go_wp2
  go_rounds 1
  go_ret
  exact ⟨rfl, rfl⟩
theorem markIntS_res (lo hi : Nat) (v : Value) (xs : List Int) (q : Int) (h1 : 1 ≤ q) (h2 : q ≤ 1099511627776) (w : World) (h : intSRes w lo hi v xs) :
    Calls Try.prog 26 #[v, .int .i64 q] w fun e w' => e = .returned (.int .i64 (q + (xs.length : Int))) ∧ intSHeldR w' lo hi v q xs.length ∧ Within w w' lo hi := by
  rcases h with h | ⟨rfl, rfl, h3⟩
  · exact (markIntS_at lo hi v _ _ q h1 h2 h.1 w h.2).mono fun _ _ ⟨he, hh, hk⟩ => ⟨by rw [he]; exact ret_int (by simp), .inl hh, hk⟩
  · exact (markIntS_nil q w).mono fun _ w' ⟨he, hw⟩ => by subst hw; exact ⟨by rw [he]; exact ret_int (by simp), .inr ⟨rfl, rfl, h3⟩, Within.refl _ _ _⟩
theorem heldIntS_res (lo hi : Nat) (v : Value) (k : Nat) (q : Int) (h1 : 1 ≤ q) (h2 : q ≤ 1099511627776) (w : World) (h : intSHeldR w lo hi v q k) :
    Calls Try.prog 27 #[v, .int .i64 q] w fun e w' => e = .returned (.int .i64 (q + (k : Int))) ∧ Below w.heap.size w w' := by
  rcases h with h | ⟨rfl, rfl, h3⟩
  · exact (heldIntS_at lo hi v _ q h1 h2 w h).mono fun _ _ ⟨he, hb⟩ => ⟨by rw [he]; exact ret_int (by simp), hb⟩
  · exact (heldIntS_nil q w).mono fun _ w' ⟨he, hw⟩ => by subst hw; exact ⟨by rw [he]; exact ret_int (by simp), Below.refl _ _⟩

/-- What is behind the first element of a slice. -/
theorem slice_tail {P : Program} {t e : TypeId} {size : Nat} (ht : P.underlying t = some (.slice e)) (hz : ∀ w, (Go.sizeOf e).run P w = .ok size w) (b o n c : Nat) (hn : 1 ≤ n) (hc : n ≤ c) :
    ∃ A', (∀ W, (Instr.slice t (.slice (some ⟨b, o, none⟩) n c) (some (.int .i64 1)) none none).run P W = .ok (.slice A' (n - 1) (c - 1)) W) ∧ (∀ w (x xs : List Value), x.length = size → Lies w size (some ⟨b, o, none⟩) n (x ++ xs) → Lies w size A' (n - 1) xs) ∧ (0 < n - 1 → ∃ o', A' = some ⟨b, o', none⟩) := by
  have ht' : P.underlying t = some (.slice (P.elem t)) := by simp [Program.elem, ht]
  have he : P.elem t = e := by simp [Program.elem, ht]
  by_cases hc1 : c = 1
  · subst hc1
    refine ⟨some ⟨b, o, none⟩, fun W => ?_, fun w x xs hx hl => ⟨?_, fun h => by omega⟩, fun h => by omega⟩
    · rw [run_slice_l W t _ _ _ ht' .i64 1 (by omega) (by omega), he, hz]
      simp [Result.andThen, sliced]
    · have := hl.1
      rw [List.length_append, hx] at this
      rw [Nat.sub_mul]; omega
  · refine ⟨some ⟨b, o + size, none⟩, fun W => ?_, fun w x xs hx hl => ?_, fun _ => ⟨_, rfl⟩⟩
    · rw [run_slice_l W t _ _ _ ht' .i64 1 (by omega) (by omega), he, hz]
      simp [Result.andThen, sliced, add_plain, hc1]
    · have hlen := hl.1
      rw [List.length_append, hx] at hlen
      refine ⟨by rw [Nat.sub_mul]; omega, fun _ => ?_⟩
      obtain ⟨b', o', e', hlt, hcell⟩ := hl.2 (by omega)
      cases e'
      refine ⟨b, o + size, rfl, hlt, fun j u hu => ?_⟩
      have := hcell (size + j) u (by rw [List.getElem?_append_right (by omega), hx, show size + j - size = j by omega]; exact hu)
      rwa [← Nat.add_assoc] at this
end Go.Proofs.Ytkianldpmlbgcaa
