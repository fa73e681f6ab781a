/-
  Heaps on lists of numbers, told plainly: what a swap does, what going down keeps, that the top is least; two strictly ascending lists with the same elements are one. No condition.
-/
import Derived.Test.YtkianldpmlbgcaaHeapO
namespace Go.Proofs.Ytkianldpmlbgcaa

def at' (L : List Int) (i : Nat) : Int := L.getD i 0
def sw (L : List Int) (i j : Nat) : List Int := (L.set i (at' L j)).set j (at' L i)
theorem sw_length (L : List Int) (i j : Nat) : (sw L i j).length = L.length := by simp [sw]
theorem at_lt {L : List Int} {i : Nat} (h : i < L.length) : at' L i = L[i] := by unfold at'; simp [h]
theorem at_get {L : List Int} {i : Nat} (h : i < L.length) : L[i]? = some (at' L i) := by rw [at_lt h]; exact List.getElem?_eq_getElem h
theorem sw_perm {L : List Int} {i j : Nat} (hi : i < L.length) (hj : j < L.length) : (sw L i j).Perm L := by
  unfold sw; rw [at_lt hi, at_lt hj]; exact List.set_set_perm hi hj
theorem sw_at {L : List Int} {i j : Nat} (_hi : i < L.length) (_hj : j < L.length) (k : Nat) (hk : k < L.length) : at' (sw L i j) k = if k = j then at' L i else if k = i then at' L j else at' L k := by
  rw [at_lt (by rw [sw_length]; exact hk)]
  unfold sw
  rw [List.getElem_set]
  by_cases h1 : k = j
  · simp [h1]
  · rw [if_neg (fun h => h1 h.symm), if_neg h1, List.getElem_set]
    by_cases h2 : k = i
    · simp [h2]
    · rw [if_neg (fun h => h2 h.symm), if_neg h2, at_lt hk]
def HeapTo (L : List Int) (m : Nat) : Prop := ∀ k, 0 < k → k < m → at' L ((k - 1) / 2) ≤ at' L k
def DownInv (L : List Int) (i m : Nat) : Prop := (∀ k, 0 < k → k < m → (k - 1) / 2 ≠ i → at' L ((k - 1) / 2) ≤ at' L k) ∧ (∀ k, 0 < k → k < m → (k - 1) / 2 = i → 0 < i → at' L ((i - 1) / 2) ≤ at' L k)
theorem down_step {L : List Int} {i j m : Nat} (hm : m ≤ L.length) (h : DownInv L i m) (hj : j = 2 * i + 1 ∨ j = 2 * i + 2) (hjm : j < m) (hmin : ∀ k, 0 < k → k < m → (k - 1) / 2 = i → at' L j ≤ at' L k) (hlt : at' L j < at' L i) : DownInv (sw L i j) j m := by
  obtain ⟨h1, h2⟩ := h
  have hi : i < L.length := by omega
  have hjl : j < L.length := by omega
  constructor
  · intro k hk hkm hp
    rw [sw_at hi hjl k (by omega), sw_at hi hjl _ (by omega)]
    by_cases a : k = j
    · subst a
      have e : (k - 1) / 2 = i := by omega
      rw [if_pos rfl, if_neg hp, if_pos e]; omega
    · rw [if_neg a, if_neg hp]
      by_cases b : k = i
      · subst b
        rw [if_pos rfl, if_neg (by omega)]
        exact h2 j (by omega) hjm (by omega) hk
      · rw [if_neg b]
        by_cases c : (k - 1) / 2 = i
        · rw [if_pos c]; exact hmin k hk hkm c
        · rw [if_neg c]; exact h1 k hk hkm c
  · intro k hk hkm hp h0
    rw [sw_at hi hjl k (by omega), sw_at hi hjl _ (by omega)]
    have e : (j - 1) / 2 = i := by omega
    rw [e, if_neg (by omega), if_pos rfl, if_neg (by omega), if_neg (by omega)]
    have := h1 k hk hkm (by omega)
    rw [hp] at this; exact this
theorem down_stop {L : List Int} {i m : Nat} (h : DownInv L i m) (hn : ∀ k, 0 < k → k < m → (k - 1) / 2 = i → at' L i ≤ at' L k) : HeapTo L m := by
  intro k hk hkm
  by_cases c : (k - 1) / 2 = i
  · rw [c]; exact hn k hk hkm c
  · exact h.1 k hk hkm c
theorem heap_top {L : List Int} {m : Nat} (h : HeapTo L m) : ∀ k, k < m → at' L 0 ≤ at' L k := by
  intro k
  induction k using Nat.strongRecOn with
  | _ k ih =>
    intro hk
    by_cases h0 : k = 0
    · subst h0; exact Int.le_refl _
    · exact Int.le_trans (ih ((k - 1) / 2) (by omega) (by omega)) (h k (by omega) hk)
/-- after the swap of the top with the last one: only the top may be out of place among the first m. -/
theorem pop_inv {L : List Int} {m : Nat} (hl : L.length = m + 1) (h : HeapTo L (m + 1)) : DownInv (sw L 0 m) 0 m := by
  constructor
  · intro k hk hkm hp
    rw [sw_at (by omega) (by omega) k (by omega), sw_at (by omega) (by omega) _ (by omega)]
    rw [if_neg (show ¬ (k - 1) / 2 = m by omega), if_neg hp, if_neg (show ¬ k = m by omega), if_neg (show ¬ k = 0 by omega)]
    exact h k hk (by omega)
  · intro k _ _ _ h0; omega

theorem asc_heap {L : List Int} (h : ∀ (j k : Nat) (x y : Int), j < k → L[j]? = some x → L[k]? = some y → x < y) : HeapTo L L.length := by
  intro k hk hkm
  exact Int.le_of_lt (h _ _ _ _ (by omega) (at_get (by omega)) (at_get hkm))
theorem take_perm {L : List Int} {m : Nat} (hl : L.length = m + 1) : (L.take m ++ [at' L m]).Perm L := by
  rw [at_lt (by omega)]
  have : L.take m ++ [L[m]'(by omega)] = L.take (m + 1) := by rw [List.take_succ_eq_append_getElem (by omega)]
  rw [this, List.take_of_length_le (by omega)]
/-- Two strictly ascending lists with the same elements are one. -/
theorem asc_same : ∀ (xs ys : List Int), xs.Pairwise (· < ·) → ys.Pairwise (· < ·) → (∀ x, x ∈ xs ↔ x ∈ ys) → xs = ys := by
  intro xs
  induction xs with
  | nil => intro ys _ _ h; cases ys with
    | nil => rfl
    | cons y ys => exact absurd ((h y).2 (by simp)) (by simp)
  | cons x xs ih =>
    intro ys hx hy h
    cases ys with
    | nil => exact absurd ((h x).1 (by simp)) (by simp)
    | cons y ys =>
      rw [List.pairwise_cons] at hx hy
      have e : x = y := by
        rcases List.mem_cons.1 ((h x).1 (by simp)) with h1 | h1
        · exact h1
        · rcases List.mem_cons.1 ((h y).2 (by simp)) with h2 | h2
          · exact h2.symm
          · have a := hy.1 x h1; have b := hx.1 y h2; omega
      subst e
      rw [ih ys hx.2 hy.2 (fun z => ?_)]
      constructor
      · intro hz
        rcases List.mem_cons.1 ((h z).1 (List.mem_cons_of_mem _ hz)) with h1 | h1
        · subst h1; exact absurd (hx.1 _ hz) (by omega)
        · exact h1
      · intro hz
        rcases List.mem_cons.1 ((h z).2 (List.mem_cons_of_mem _ hz)) with h1 | h1
        · subst h1; exact absurd (hy.1 _ hz) (by omega)
        · exact h1
end Go.Proofs.Ytkianldpmlbgcaa
