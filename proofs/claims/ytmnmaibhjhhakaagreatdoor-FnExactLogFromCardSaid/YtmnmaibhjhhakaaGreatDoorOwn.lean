/-
  An append of one element to a row that the call made; blocks known whole. No condition.
-/
import Derived.Test.YtmnmaibhjhhakaaGreatDoorMarks
import Derived.Test.YtmnmaibhjhhakaaGreatDoorTInt
import Derived.Laws.Rows
import Derived.Laws.AppendOwn
import Derived.OneCell
import Derived.OwnWalk
namespace Go.Proofs.YtmnmaibhjhhakaaGreatDoor
open Go.ChangeShapes Go.WideShapes Go.ChangeAt Go.RowKit

/-- The table's row of a slice type and of its element. -/
def RowTy (P : Program) (t e : TypeId) (size bytes : Nat) : Prop :=
  P.underlying t = some (.slice e) ∧ ∃ i z, P.info? e = some i ∧ i.zero = some z ∧ i.size = size ∧ i.bytes = bytes ∧ z.cells.size = size ∧ 0 < size
theorem rowTy_mk {P : Program} {t e : TypeId} {z : Value} {size bytes : Nat} (ht : P.underlying t = some (.slice e)) (h : (P.info? e).map (fun i => (i.zero, i.size, i.bytes)) = some (some z, size, bytes)) (hz : z.cells.size = size) (hs : 0 < size) : RowTy P t e size bytes := by
  obtain ⟨i, h1, h2, h3, h4⟩ := info_parts h
  exact ⟨ht, i, z, h1, h2, h3, h4, hz, hs⟩

section
variable {P : Program} {ops : Array Oper} {rest : List Oper} {o : Oper} {a : Act} {Q : Exit → Act → World → Prop}
/-- append(xs, x): x lies in a block that has just been made. -/
theorem wpList_app1 (hgd : o.guard = none) (s x : Operand) (t e : TypeId) (size bytes : Nat) (R : RowTy P t e size bytes) (ho : o.op = .call { callee := .builtin .append, args := #[s, x], argTypes := #[t, t] })
    {wr : World} {us : Array Value} (B g n c : Nat) (xs : List Value) (hown : wr.ownsRow B e size (.slice (some ⟨g, 0, none⟩) n c) n xs)
    (hs : a.eval s = .slice (some ⟨g, 0, none⟩) n c) (hx : a.eval x = .slice (some ⟨wr.heap.size, 0, none⟩) 1 1)
    (hu : us.size = size) (h1 : us.toList.all Value.oneCell' = true) (hn : n + 1 ≤ maxLen) (hby : (n + 1) * bytes ≤ 140737488355328) (hB : B ≤ wr.heap.size)
    (h : ∀ g' c' w', w'.ownsRow B e size (.slice (some ⟨g', 0, none⟩) (n + 1) c') (n + 1) (xs ++ us.toList) → wr.grownBy w' (some g) → wr.heap.size < w'.heap.size → wpList P ops Q rest (a.put o.dst (.slice (some ⟨g', 0, none⟩) (n + 1) c')) w') :
    wpList P ops Q (o :: rest) a (wr.alloc (.cells us e)) := by
  obtain ⟨ht, i, z, k1, k2, k3, k4, k5, k6⟩ := R
  refine wpList_append_own _ hgd s x t ho B e i z size bytes ht k1 k2 k3 k4 k5 k6 _ n xs hs (hown.alloc _) ⟨wr.heap.size, 0, none⟩ 1 1 us.toList hx (by simp [hu]) ?_ (fun u hu' => List.all_eq_true.1 h1 u hu') hn hby (by simp; omega) ?_
  · intro j u hj
    rw [add_plain, Nat.zero_add, cell_of_row _ _ j us e (0, 0) (heap_alloc_new _ _)]
    simpa using hj
  · intro v' w' o1 g1 n1
    obtain ⟨q1, q2⟩ := o1
    rcases q2 with ⟨q, _⟩ | ⟨g', cap, cur, rfl, r⟩
    · have := (n1.1 q).1; cases this
    · refine h g' cap w' ⟨q1, .inr ⟨g', cap, cur, rfl, r⟩⟩ ?_ ?_
      · have g2 : (wr.alloc (.cells us e)).grownBy w' (some g) := g1
        exact ⟨g2.os, g2.tape, g2.output, Nat.le_trans (by simp) g2.size, fun k hk hne => (g2.block k (by simp; omega) hne).trans (heap_alloc_old _ _ hk)⟩
      · have := g1.size; simp at this; omega
/-- The same where the new block's number is spelled otherwise. -/
theorem wpList_app1n (hgd : o.guard = none) (s x : Operand) (t e : TypeId) (size bytes : Nat) (R : RowTy P t e size bytes) (ho : o.op = .call { callee := .builtin .append, args := #[s, x], argTypes := #[t, t] })
    {wr : World} {us : Array Value} (B g n c : Nat) (xs : List Value) (hown : wr.ownsRow B e size (.slice (some ⟨g, 0, none⟩) n c) n xs)
    (hs : a.eval s = .slice (some ⟨g, 0, none⟩) n c) (N : Nat) (hx : a.eval x = .slice (some ⟨N, 0, none⟩) 1 1) (hN : N = wr.heap.size)
    (hu : us.size = size) (h1 : us.toList.all Value.oneCell' = true) (hn : n + 1 ≤ maxLen) (hby : (n + 1) * bytes ≤ 140737488355328) (hB : B ≤ wr.heap.size)
    (h : ∀ g' c' w', w'.ownsRow B e size (.slice (some ⟨g', 0, none⟩) (n + 1) c') (n + 1) (xs ++ us.toList) → wr.grownBy w' (some g) → wr.heap.size < w'.heap.size → wpList P ops Q rest (a.put o.dst (.slice (some ⟨g', 0, none⟩) (n + 1) c')) w') :
    wpList P ops Q (o :: rest) a (wr.alloc (.cells us e)) := by
  subst hN
  exact wpList_app1 hgd s x t e size bytes R ho B g n c xs hown hs hx hu h1 hn hby hB h
/-- append(xs, ys...): the elements of another row. -/
theorem wpList_appS (hgd : o.guard = none) (s x : Operand) (t e : TypeId) (size bytes : Nat) (R : RowTy P t e size bytes) (ho : o.op = .call { callee := .builtin .append, args := #[s, x], argTypes := #[t, t] })
    {wr : World} (B g n c : Nat) (xs : List Value) (hown : wr.ownsRow B e size (.slice (some ⟨g, 0, none⟩) n c) n xs)
    (hs : a.eval s = .slice (some ⟨g, 0, none⟩) n c) (gx ox m cx : Nat) (ys : List Value) (hx : a.eval x = .slice (some ⟨gx, ox, none⟩) m cx) (hL : Lies wr size (some ⟨gx, ox, none⟩) m ys)
    (h1 : ∀ u ∈ ys, u.oneCell' = true) (hn : n + m ≤ maxLen) (hby : (n + m) * bytes ≤ 140737488355328) (hB : B ≤ wr.heap.size)
    (h : ∀ g' c' w', w'.ownsRow B e size (.slice (some ⟨g', 0, none⟩) (n + m) c') (n + m) (xs ++ ys) → wr.grownBy w' (some g) → wpList P ops Q rest (a.put o.dst (.slice (some ⟨g', 0, none⟩) (n + m) c')) w') :
    wpList P ops Q (o :: rest) a wr := by
  obtain ⟨ht, i, z, k1, k2, k3, k4, k5, k6⟩ := R
  refine wpList_append_own _ hgd s x t ho B e i z size bytes ht k1 k2 k3 k4 k5 k6 _ n xs hs hown ⟨gx, ox, none⟩ m cx ys hx hL.1 ?_ h1 hn hby hB ?_
  · intro j u hj
    have hpos : 0 < m := by
      have hl := hL.1
      have := (List.getElem?_eq_some_iff.1 hj).1
      rcases Nat.eq_zero_or_pos m with h0 | h0
      · subst h0; omega
      · exact h0
    obtain ⟨b, oo, e', _, hc⟩ := hL.2 hpos
    cases e'
    rw [add_plain]; exact hc j u hj
  · intro v' w' o1 g1 n1
    obtain ⟨q1, q2⟩ := o1
    rcases q2 with ⟨q, _⟩ | ⟨g', cap, cur, rfl, r⟩
    · have := (n1.1 q).1; cases this
    · exact h g' cap w' ⟨q1, .inr ⟨g', cap, cur, rfl, r⟩⟩ g1
end

/-- Block b holds just the cells vs. -/
def RowIs (w : World) (b : Nat) (t : TypeId) (vs : List Value) : Prop := w.heap[b]? = some (.cells vs.toArray t (0, 0))
theorem RowIs.lt {w : World} {b : Nat} {t : TypeId} {vs : List Value} (h : RowIs w b t vs) : b < w.heap.size := lt_of_block h
theorem RowIs.cell {w : World} {b : Nat} {t : TypeId} {vs : List Value} (h : RowIs w b t vs) {j : Nat} {u : Value} (hu : vs[j]? = some u) : w.cell? ⟨b, j, none⟩ = some u := by
  rw [cell_of_row w b j _ t (0, 0) h]; simpa using hu
theorem RowIs.frozen {w : World} {b : Nat} {t : TypeId} {vs : List Value} (h : RowIs w b t vs) (j : Nat) : w.frozen? ⟨b, j, none⟩ = false := frozen_of_row w b j _ t h
theorem RowIs.set {w : World} {b : Nat} {t : TypeId} {vs : List Value} (h : RowIs w b t vs) (j : Nat) (u : Value) : RowIs (w.setCell ⟨b, j, none⟩ u) b t (vs.set j u) := by
  have h' := heap_setCell_same w b j _ t u h
  unfold RowIs
  rw [h']; simp
theorem RowIs.other {w : World} {b : Nat} {t : TypeId} {vs : List Value} (h : RowIs w b t vs) {p : Addr} (hp : b ≠ p.block) (u : Value) : RowIs (w.setCell p u) b t vs := (heap_setCell_other w p b u hp).trans h
theorem RowIs.below {w w' : World} {b : Nat} {t : TypeId} {vs : List Value} (h : RowIs w b t vs) (hb : Below w.heap.size w w') : RowIs w' b t vs := (hb.block b h.lt).trans h
theorem RowIs.grown {w w' : World} {b : Nat} {t : TypeId} {vs : List Value} {row : Option Nat} (h : RowIs w b t vs) (hb : w.grownBy w' row) (hne : some b ≠ row) : RowIs w' b t vs := (hb.block b h.lt hne).trans h
theorem RowIs.alloc {w : World} {b : Nat} {t : TypeId} {vs : List Value} (h : RowIs w b t vs) (o : Obj) : RowIs (w.alloc o) b t vs := (heap_alloc_old w o h.lt).trans h
theorem RowIs.new (w : World) (cs : Array Value) (t : TypeId) : RowIs (w.alloc (.cells cs t)) w.heap.size t cs.toList := by unfold RowIs; rw [heap_alloc_new]
theorem RowIs.drew {w : World} {b : Nat} {t : TypeId} {vs : List Value} (h : RowIs w b t vs) : RowIs w.drew b t vs := h

/-- A row and a block of another type are not one. -/
theorem own_ne_row {w : World} {B : Nat} {e t : TypeId} {size n m c g b : Nat} {xs vs : List Value} (h : w.ownsRow B e size (.slice (some ⟨g, 0, none⟩) m c) n xs) (r : RowIs w b t vs) (hne : e ≠ t) : b ≠ g := by
  rintro rfl
  obtain ⟨_, ⟨hv, _⟩ | ⟨g', cap, cur, hv, _, hh, _⟩⟩ := h
  · cases hv
  · simp only [Value.slice.injEq, Option.some.injEq, Addr.mk.injEq] at hv
    obtain ⟨⟨rfl, _⟩, _⟩ := hv
    unfold RowIs at r
    rw [r] at hh
    simp only [Option.some.injEq, Obj.cells.injEq] at hh
    exact hne hh.2.1.symm
theorem owns_cap {w : World} {B : Nat} {e : TypeId} {size n m c g : Nat} {xs : List Value} (h : w.ownsRow B e size (.slice (some ⟨g, 0, none⟩) m c) n xs) : m = n ∧ n ≤ c := by
  obtain ⟨_, ⟨hv, _⟩ | ⟨g', cap, cur, hv, _, _, h1, _⟩⟩ := h
  · cases hv
  · simp only [Value.slice.injEq] at hv
    obtain ⟨_, rfl, rfl⟩ := hv
    exact ⟨rfl, h1⟩
/-- What is owned stays owned while something else grows. -/
theorem owns_grown {w w' : World} {B : Nat} {e : TypeId} {size n m c g : Nat} {xs : List Value} {row : Option Nat} (h : w.ownsRow B e size (.slice (some ⟨g, 0, none⟩) m c) n xs) (hb : w.grownBy w' row) (hne : row ≠ some g) : w'.ownsRow B e size (.slice (some ⟨g, 0, none⟩) m c) n xs :=
  h.kept (row := row) hb (.inr (fun e => hne e.symm))
theorem owns_below {w w' : World} {B : Nat} {e : TypeId} {size n m c g : Nat} {xs : List Value} (h : w.ownsRow B e size (.slice (some ⟨g, 0, none⟩) m c) n xs) (hb : Below w.heap.size w w') : w'.ownsRow B e size (.slice (some ⟨g, 0, none⟩) m c) n xs :=
  owns_grown h (only_of_below hb none) (by simp)
theorem owns_lt {w : World} {B : Nat} {e : TypeId} {size n m c g : Nat} {xs : List Value} (h : w.ownsRow B e size (.slice (some ⟨g, 0, none⟩) m c) n xs) : B ≤ g ∧ g < w.heap.size := h.lt g rfl
theorem owns_nil (w : World) (e : TypeId) (size : Nat) : (w.alloc (.cells #[] e)).ownsRow w.heap.size e size (.slice (some ⟨w.heap.size, 0, none⟩) 0 0) 0 [] :=
  World.ownsRow_lit w #[] 0 (Nat.le_refl _) (by unfold maxLen; omega) (by simp)
theorem owns_nil' {w : World} {B g : Nat} (e : TypeId) (size : Nat) (hg : g = w.heap.size) (hB : B ≤ g) : (w.alloc (.cells #[] e)).ownsRow B e size (.slice (some ⟨g, 0, none⟩) 0 0) 0 [] := by
  subst hg; exact ownsRow_base (owns_nil _ _ _) hB
/-- make([]T, 0, c). -/
theorem owns_made {w : World} {B g c : Nat} {cs : Array Value} (e : TypeId) (size : Nat) (hg : g = w.heap.size) (hB : B ≤ g) (hc : c ≤ maxLen) (hs : cs.size = c * size) : (w.alloc (.cells cs e)).ownsRow B e size (.slice (some ⟨g, 0, none⟩) 0 c) 0 [] := by
  subst hg
  exact ⟨by simp, .inr ⟨_, c, cs, rfl, hB, heap_alloc_new w _, Nat.zero_le _, hc, hs, by simp⟩⟩
theorem lies_grown {w w' : World} {size n : Nat} {A : Option Addr} {xs : List Value} {row : Option Nat} (h : Lies w size A n xs) (hg : w.grownBy w' row) (hne : 0 < n → ∀ b o, A = some ⟨b, o, none⟩ → row ≠ some b) : Lies w' size A n xs :=
  ⟨h.1, fun hn => by
    obtain ⟨b, o, e, hlt, hc⟩ := h.2 hn
    refine ⟨b, o, e, Nat.lt_of_lt_of_le hlt hg.size, fun j u hu => ?_⟩
    exact (World.cell?_of_block (a := ⟨b, o + j, none⟩) (hg.block b hlt (fun e' => hne hn b o e e'.symm))).trans (hc j u hu)⟩
/-- A growth of a block that the call made. -/
theorem below_grown {B : Nat} {a w w' : World} {g : Nat} (h : Below B a w) (hg : w.grownBy w' (some g)) (hB : B ≤ g) (hz : B ≤ w.heap.size) : Below B a w' :=
  h.trans (only_below hg hz hB)
end Go.Proofs.YtmnmaibhjhhakaaGreatDoor
