/-
  Valid rows, and what finding a key and adding a position give: as values. Plain facts, no condition.
-/
import Derived.Test.YtkianldpmlbgcaaRowA
namespace Go.Proofs.Ytkianldpmlbgcaa
open Go.ChangeShapes Go.WideShapes Go.ChangeAt Go.RowKit

def toX (y : RowV) : RowX := ⟨y.1, none, y.2.length, 0, y.2⟩
def rowsV (vals : List RowV) : Bool := rowsB (vals.map toX)
theorem toX_val : ∀ vals : List RowV, (vals.map toX).map rowVal = vals
  | [] => rfl
  | y :: ys => by rw [List.map_cons, List.map_cons, toX_val ys]; rfl
theorem rowsV_of {xs : List RowX} (h : ∀ x ∈ xs, x.zs.length = x.n) : rowsB xs = rowsV (xs.map rowVal) :=
  rowsB_congr (toX_val _).symm h (fun y hy => by obtain ⟨v, _, rfl⟩ := List.mem_map.1 hy; rfl)
theorem from_asc : ∀ (xs : List RowX) (p : Option ByteArray), rowsFrom p xs = true → AscR (xs.map rowVal) ∧ ∀ x ∈ xs, rowB x = true ∧ ltO p x.key = true
  | [], _, _ => ⟨by simp [AscR], by simp⟩
  | x :: xs, p, h => by
    unfold rowsFrom at h
    rw [sortedBy, Bool.and_eq_true, Bool.and_eq_true] at h
    obtain ⟨⟨h1, h2⟩, h3⟩ := h
    obtain ⟨i1, i2⟩ := from_asc xs (some x.key) h3
    refine ⟨?_, ?_⟩
    · unfold AscR at i1 ⊢
      rw [List.map_cons, List.pairwise_cons]
      refine ⟨fun y hy => ?_, i1⟩
      obtain ⟨z, hz, rfl⟩ := List.mem_map.1 hy
      exact (i2 z hz).2
    · intro y hy
      rcases List.mem_cons.1 hy with rfl | hy
      · exact ⟨h1, h2⟩
      · refine ⟨(i2 y hy).1, ?_⟩
        cases p with
        | none => rfl
        | some q => exact ltS_trans h2 (i2 y hy).2
theorem rowsV_asc {vals : List RowV} (h : rowsV vals = true) : AscR vals ∧ ∀ y ∈ vals, 0 < y.2.length := by
  unfold rowsV rowsB at h
  rw [Bool.and_eq_true] at h
  obtain ⟨h1, h2⟩ := from_asc _ none h.1
  rw [toX_val] at h1
  refine ⟨h1, fun y hy => ?_⟩
  have h3 := (h2 (toX y) (List.mem_map_of_mem hy)).1
  unfold rowB at h3
  simp only [Bool.and_eq_true, decide_eq_true_eq] at h3
  exact h3.2.2

/-- The last position of a row. -/
def lastV (y : RowV) : Int := y.2.getD (y.2.length - 1) (-1)
def mostV (vals : List RowV) : Int := vals.foldl (fun o y => max o (lastV y)) (-1)
theorem most_fold : ∀ (vals : List RowV) (o p : Int), p ≤ vals.foldl (fun o y => max o (lastV y)) o ↔ p ≤ o ∨ ∃ y ∈ vals, p ≤ lastV y
  | [], o, p => by simp
  | y :: ys, o, p => by
    rw [List.foldl_cons, most_fold ys]
    constructor
    · rintro (h | ⟨z, hz, h⟩)
      · rcases (show p ≤ o ∨ p ≤ lastV y by have h2 : p ≤ max o (lastV y) := h; omega) with h | h
        · exact .inl h
        · exact .inr ⟨y, by simp, h⟩
      · exact .inr ⟨z, by simp [hz], h⟩
    · rintro (h | ⟨z, hz, h⟩)
      · exact .inl (by show p ≤ max o (lastV y); omega)
      · rcases List.mem_cons.1 hz with rfl | hz
        · exact .inl (by show p ≤ max o (lastV z); omega)
        · exact .inr ⟨z, hz, h⟩
theorem most_succ {vals : List RowV} {k : Nat} {y : RowV} (h : vals[k]? = some y) : mostV (vals.take (k + 1)) = max (mostV (vals.take k)) (lastV y) := by
  unfold mostV
  rw [take_succ_of h, List.foldl_append]; rfl
theorem last_get {y : RowV} (h : 0 < y.2.length) : y.2[y.2.length - 1]? = some (lastV y) := by
  unfold lastV
  rw [List.getD_eq_getElem?_getD, List.getElem?_eq_getElem (by omega)]; rfl

def keyV (key : ByteArray) (y : RowV) : Bool := decide (y.1 = key)
def findV (vals : List RowV) (key : ByteArray) : List Int := if rowsV vals then match vals.find? (keyV key) with
  | some y => y.2
  | none => []
  else []
def RT.look (key : ByteArray) : RT → Option (List Int)
  | .leaf => none
  | .node l k a r => if k = key then some a else if ltS key k then l.look key else r.look key
theorem find_none {key : ByteArray} {vals : List RowV} (h : ∀ y ∈ vals, y.1 ≠ key) : vals.find? (keyV key) = none := by
  rw [List.find?_eq_none]
  intro y hy
  unfold keyV
  simpa using h y hy
theorem look_find (key : ByteArray) : ∀ t : RT, AscR t.rows → (t.rows.find? (keyV key)).map Prod.snd = t.look key
  | .leaf, _ => rfl
  | .node l k a r, h => by
    unfold AscR RT.rows at h
    rw [List.pairwise_append] at h
    obtain ⟨h1, h2, h3⟩ := h
    rw [List.pairwise_cons] at h2
    obtain ⟨h2, h4⟩ := h2
    have hl := look_find key l h1
    have hr := look_find key r h4
    rw [RT.look, RT.rows, List.find?_append]
    by_cases e : k = key
    · subst e
      rw [if_pos rfl, find_none (fun y hy => ltS_ne (h3 y hy (k, a) (by simp)))]
      simp [keyV]
    · rw [if_neg e]
      cases hlt : ltS key k
      · have hgt : ltS k key = true := by
          cases hg : ltS k key
          · exact absurd (ltS_tri hg hlt) e
          · rfl
        rw [find_none (fun y hy => ltS_ne (ltS_trans (h3 y hy (k, a) (by simp)) hgt)), ← hr, List.find?_cons]
        simp [keyV, e]
      · rw [if_pos rfl, ← hl]
        rw [find_none (vals := (k, a) :: r.rows) (fun y hy => by
          rcases List.mem_cons.1 hy with rfl | hy
          · exact e
          · exact (ltS_ne (ltS_trans hlt (h2 y hy))).symm)]
        simp
def addB (vals : List RowV) (key : ByteArray) (p : Int) : Bool := rowsV vals && (wordB key && (inB p 0 99 && !decide (p ≤ mostV vals)))
def addL (vals : List RowV) (key : ByteArray) (p : Int) : List RowV := if addB vals key p then addR key p vals else []
def RT.ofL : List RowV → RT
  | [] => .leaf
  | y :: ys => .node .leaf y.1 y.2 (RT.ofL ys)
theorem RT.ofL_rows : ∀ vals : List RowV, (RT.ofL vals).rows = vals
  | [] => rfl
  | y :: ys => by rw [RT.ofL, RT.rows, RT.ofL_rows ys]; rfl
theorem ins_len (key : ByteArray) (p : Int) : ∀ t : RT, rowLen (t.ins key p).rows ≤ rowLen t.rows + 2
  | .leaf => by simp [RT.ins, RT.rows, rowLen]
  | .node l k a r => by
    have hl := ins_len key p l
    have hr := ins_len key p r
    rw [RT.ins]
    split
    · rw [RT.rows, RT.rows, rowLen_app, rowLen_app]; omega
    · split
      · rw [RT.rows, RT.rows, rowLen_app, rowLen_app, rowLen, rowLen]; omega
      · rw [RT.rows, RT.rows, rowLen_app, rowLen_app, rowLen, rowLen]
        simp only [List.length_append, List.length_cons, List.length_nil]; omega
theorem ins_all {N : Nat} (key : ByteArray) (p : Int) : ∀ t : RT, (∀ y ∈ t.rows, y.2.length ≤ N) → ∀ y ∈ (t.ins key p).rows, y.2.length ≤ N + 1
  | .leaf, _, y, hy => by
    simp [RT.ins, RT.rows] at hy
    subst hy
    simp
  | .node l k a r, h, y, hy => by
    have hl := ins_all key p l (fun y hy => h y (by simp [RT.rows, hy]))
    have hr := ins_all key p r (fun y hy => h y (by simp [RT.rows, hy]))
    have hk := h (k, a) (by simp [RT.rows])
    rw [RT.ins] at hy
    split at hy
    · simp only [RT.rows, List.mem_append, List.mem_cons] at hy
      rcases hy with hy | rfl | hy
      · exact hl y hy
      · exact Nat.le_succ_of_le hk
      · exact Nat.le_succ_of_le (h y (by simp [RT.rows, hy]))
    · split at hy
      · simp only [RT.rows, List.mem_append, List.mem_cons] at hy
        rcases hy with hy | rfl | hy
        · exact Nat.le_succ_of_le (h y (by simp [RT.rows, hy]))
        · exact Nat.le_succ_of_le hk
        · exact hr y hy
      · simp only [RT.rows, List.mem_append, List.mem_cons] at hy
        rcases hy with hy | rfl | hy
        · exact Nat.le_succ_of_le (h y (by simp [RT.rows, hy]))
        · show (a ++ [p]).length ≤ N + 1
          rw [List.length_append]; exact Nat.succ_le_succ hk
        · exact Nat.le_succ_of_le (h y (by simp [RT.rows, hy]))
theorem mem_len {vals : List RowV} {y : RowV} (h : y ∈ vals) : y.2.length + 1 ≤ rowLen vals := by
  induction vals with
  | nil => simp at h
  | cons z zs ih =>
    rw [rowLen]
    rcases List.mem_cons.1 h with rfl | h
    · omega
    · have := ih h; omega
theorem addR_small {vals : List RowV} (key : ByteArray) (p : Int) (h : rowLen vals ≤ 1048576) (ha : AscR vals) : SmallR (addR key p vals) := by
  have e := addR_ins key p (RT.ofL vals) (by rw [RT.ofL_rows]; exact ha)
  rw [RT.ofL_rows] at e
  rw [e]
  refine ⟨Nat.le_trans (ins_len key p _) (by rw [RT.ofL_rows]; omega), ins_all (N := 1048575) key p _ (fun y hy => ?_)⟩
  rw [RT.ofL_rows] at hy
  have := mem_len hy
  omega
theorem addL_small {vals : List RowV} (key : ByteArray) (p : Int) (h : rowLen vals ≤ 1048576) : SmallR (addL vals key p) := by
  unfold addL
  split
  · rename_i hb
    unfold addB at hb
    rw [Bool.and_eq_true] at hb
    exact addR_small key p h (rowsV_asc hb.1).1
  · exact ⟨by simp [rowLen], by simp⟩
theorem findV_small {vals : List RowV} (key : ByteArray) (h : rowLen vals ≤ 1048576) : (findV vals key).length ≤ 1048576 := by
  unfold findV
  split
  · split
    · rename_i y hy
      exact Nat.le_trans (rowLen_mem _ y (List.mem_of_find?_eq_some hy)) h
    · simp
  · simp
end Go.Proofs.Ytkianldpmlbgcaa
