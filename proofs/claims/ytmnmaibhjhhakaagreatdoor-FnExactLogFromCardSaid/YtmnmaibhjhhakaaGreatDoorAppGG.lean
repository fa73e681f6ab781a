/-
  An append of the elements of another slice as one step of a region that draws its order, behind a guard. No condition.
-/
import Derived.Test.YtmnmaibhjhhakaaGreatDoorAppG
namespace Go.Proofs.YtmnmaibhjhhakaaGreatDoor
open Go.ChangeShapes Go.WideShapes Go.ChangeAt Go.RowKit

theorem step_appSG {P : Program} {ops : Array Oper} {o : Oper} {a : Act} {K : Act → World → Prop} {Q : Exit → Act → World → Prop} {E : Prop} (hw : Region.wanted o (yielded ops a.tmps) = true) (s x : Operand) (t e : TypeId) (size bytes : Nat) (R : RowTy P t e size bytes) (ho : o.op = .call { callee := .builtin .append, args := #[s, x], argTypes := #[t, t] })
    {wr : World} (B g n c : Nat) (xs : List Value) (hown : wr.ownsRow B e size (.slice (some ⟨g, 0, none⟩) n c) n xs)
    (hs : a.eval s = .slice (some ⟨g, 0, none⟩) n c) (gx ox m cx : Nat) (ys : List Value) (hx : a.eval x = .slice (some ⟨gx, ox, none⟩) m cx) (hL : Lies wr size (some ⟨gx, ox, none⟩) m ys)
    (h1 : ∀ u ∈ ys, u.oneCell' = true) (hn : n + m ≤ maxLen) (hby : (n + m) * bytes ≤ 140737488355328) (hB : B ≤ wr.heap.size)
    (h : ∀ g' c' w', w'.ownsRow B e size (.slice (some ⟨g', 0, none⟩) (n + m) c') (n + m) (xs ++ ys) → wr.grownBy w' (some g) → K (a.put o.dst (.slice (some ⟨g', 0, none⟩) (n + m) c')) w') :
    if Region.wanted o (yielded ops a.tmps) = true then Oper.wp P o a wr K Q else E := by
  obtain ⟨ht, i, z, k1, k2, k3, k4, k5, k6⟩ := R
  rw [if_pos hw]
  have hnews : ∀ j u, ys[j]? = some u → wr.cell? ((⟨gx, ox, none⟩ : Addr).add j) = some u := by
    intro j u hj
    have hpos : 0 < m := by
      have hl := hL.1
      have := (List.getElem?_eq_some_iff.1 hj).1
      rcases Nat.eq_zero_or_pos m with h0 | h0
      · subst h0; omega
      · exact h0
    obtain ⟨b, oo, e', _, hc⟩ := hL.2 hpos
    cases e'
    rw [add_plain]; exact hc j u hj
  obtain ⟨v', w', hr, h2, h3, h4, _⟩ := run_append_own_at (P := P) wr B t o.type e i z size bytes ht k1 k2 k3 k4 k5 k6 _ n xs hown ⟨gx, ox, none⟩ m cx ys hL.1 hnews h1 hn hby hB
  unfold Oper.wp execOp
  simp only [ho, resolve, invoke, builtin, Sem.run_bind, Sem.run_pure, Result.andThen_ok, List.map_toArray, List.map_cons, List.map_nil, hs, hx, hr]
  obtain ⟨q1, q2⟩ := h2
  rcases q2 with ⟨q, _⟩ | ⟨g', cap, cur, rfl, r⟩
  · have := (h4.1 q).1; cases this
  · exact h g' cap w' ⟨q1, .inr ⟨g', cap, cur, rfl, r⟩⟩ h3

/-- append(T[]{}, ys...) in such a region: the new row lies behind all that was. -/
theorem step_copyG {P : Program} {ops : Array Oper} {o : Oper} {a : Act} {K : Act → World → Prop} {Q : Exit → Act → World → Prop} {E : Prop} (hw : Region.wanted o (yielded ops a.tmps) = true) (s x : Operand) (t e : TypeId) (size bytes : Nat) (R : RowTy P t e size bytes) (ho : o.op = .call { callee := .builtin .append, args := #[s, x], argTypes := #[t, t] })
    {wr : World} (hs : a.eval s = .slice (some ⟨wr.heap.size, 0, none⟩) 0 0) (gx ox m cx : Nat) (ys : List Value) (hx : a.eval x = .slice (some ⟨gx, ox, none⟩) m cx) (hL : Lies wr size (some ⟨gx, ox, none⟩) m ys)
    (h1 : ∀ u ∈ ys, u.oneCell' = true) (hn : m ≤ maxLen) (hby : m * bytes ≤ 140737488355328)
    (h : ∀ g' c' w', w'.ownsRow wr.heap.size e size (.slice (some ⟨g', 0, none⟩) m c') m ys → Below wr.heap.size wr w' → wr.heap.size < w'.heap.size → K (a.put o.dst (.slice (some ⟨g', 0, none⟩) m c')) w') :
    if Region.wanted o (yielded ops a.tmps) = true then Oper.wp P o a (wr.alloc (.cells #[] e)).drew K Q else E := by
  have hB : Below wr.heap.size wr (wr.alloc (.cells #[] e)).drew := (below_alloc (Below.refl wr.heap.size wr) (.cells #[] e)).drew
  have hz : wr.heap.size < (wr.alloc (.cells #[] e)).drew.heap.size := by show wr.heap.size < (wr.alloc (.cells #[] e)).heap.size; simp
  refine step_appSG hw s x t e size bytes R ho wr.heap.size wr.heap.size 0 0 [] (show (wr.alloc (.cells #[] e)).drew.ownsRow wr.heap.size e size (.slice (some ⟨wr.heap.size, 0, none⟩) 0 0) 0 [] from owns_nil wr e size) hs gx ox m cx ys hx (hL.below hB) h1 (by omega) (by rw [Nat.zero_add]; exact hby) (by omega) ?_
  intro g' c' w' ho' hg'
  simp only [Nat.zero_add, List.nil_append] at ho'
  rw [Nat.zero_add]
  refine h g' c' w' ho' (below_grown hB hg' (Nat.le_refl _) (by omega)) ?_
  have := hg'.size
  omega

/-- The same where a block was laid ahead of the empty row. -/
theorem step_copy3G {P : Program} {ops : Array Oper} {o : Oper} {a : Act} {K : Act → World → Prop} {Q : Exit → Act → World → Prop} {E : Prop} (hw : Region.wanted o (yielded ops a.tmps) = true) (s x : Operand) (t e : TypeId) (size bytes : Nat) (R : RowTy P t e size bytes) (ho : o.op = .call { callee := .builtin .append, args := #[s, x], argTypes := #[t, t] })
    {wr : World} {o2 : Obj} (hs : a.eval s = .slice (some ⟨wr.heap.size + 1, 0, none⟩) 0 0) (gx ox m cx : Nat) (ys : List Value) (hx : a.eval x = .slice (some ⟨gx, ox, none⟩) m cx) (hL : Lies wr size (some ⟨gx, ox, none⟩) m ys)
    (h1 : ∀ u ∈ ys, u.oneCell' = true) (hn : m ≤ maxLen) (hby : m * bytes ≤ 140737488355328)
    (h : ∀ g' c' w', w'.ownsRow wr.heap.size e size (.slice (some ⟨g', 0, none⟩) m c') m ys → Below wr.heap.size wr w' → wr.heap.size < w'.heap.size → w'.heap[wr.heap.size]? = some o2 → K (a.put o.dst (.slice (some ⟨g', 0, none⟩) m c')) w') :
    if Region.wanted o (yielded ops a.tmps) = true then Oper.wp P o a ((wr.alloc o2).alloc (.cells #[] e)).drew K Q else E := by
  have e0 : (wr.alloc o2).heap.size = wr.heap.size + 1 := World.size_alloc _ _
  refine step_copyG (wr := wr.alloc o2) hw s x t e size bytes R (by assumption) (by rw [e0]; exact hs) gx ox m cx ys hx (hL.below (below_alloc (Below.refl _ _) _)) h1 hn hby ?_
  intro g' c' w' ho' hb' hz'
  rw [e0] at ho' hb' hz'
  refine h g' c' w' (ownsRow_base ho' (by omega)) ((below_alloc (Below.refl wr.heap.size wr) o2).trans (hb'.mono (by omega))) (by omega) ?_
  rw [hb'.block wr.heap.size (by omega)]
  exact heap_alloc_new wr o2

/-- The same where a block was laid behind the empty row. -/
theorem step_copy2G {P : Program} {ops : Array Oper} {o : Oper} {a : Act} {K : Act → World → Prop} {Q : Exit → Act → World → Prop} {E : Prop} (hw : Region.wanted o (yielded ops a.tmps) = true) (s x : Operand) (t e : TypeId) (size bytes : Nat) (R : RowTy P t e size bytes) (ho : o.op = .call { callee := .builtin .append, args := #[s, x], argTypes := #[t, t] })
    {wr : World} {o2 : Obj} (hs : a.eval s = .slice (some ⟨wr.heap.size, 0, none⟩) 0 0) (gx ox m cx : Nat) (ys : List Value) (hx : a.eval x = .slice (some ⟨gx, ox, none⟩) m cx) (hL : Lies wr size (some ⟨gx, ox, none⟩) m ys)
    (h1 : ∀ u ∈ ys, u.oneCell' = true) (hn : m ≤ maxLen) (hby : m * bytes ≤ 140737488355328)
    (h : ∀ g' c' w', w'.ownsRow wr.heap.size e size (.slice (some ⟨g', 0, none⟩) m c') m ys → Below wr.heap.size wr w' → wr.heap.size < w'.heap.size → w'.heap[wr.heap.size + 1]? = some o2 → K (a.put o.dst (.slice (some ⟨g', 0, none⟩) m c')) w') :
    if Region.wanted o (yielded ops a.tmps) = true then Oper.wp P o a ((wr.alloc (.cells #[] e)).alloc o2).drew K Q else E := by
  have hB : Below wr.heap.size wr ((wr.alloc (.cells #[] e)).alloc o2).drew := (below_alloc (below_alloc (Below.refl wr.heap.size wr) (.cells #[] e)) o2).drew
  have hz : wr.heap.size + 2 = ((wr.alloc (.cells #[] e)).alloc o2).drew.heap.size := by show wr.heap.size + 2 = ((wr.alloc (.cells #[] e)).alloc o2).heap.size; simp
  have ho : ((wr.alloc (.cells #[] e)).alloc o2).drew.ownsRow wr.heap.size e size (.slice (some ⟨wr.heap.size, 0, none⟩) 0 0) 0 [] := World.ownsRow.alloc (owns_nil wr e size) o2
  refine step_appSG hw s x t e size bytes R (by assumption) wr.heap.size wr.heap.size 0 0 [] ho hs gx ox m cx ys hx (hL.below hB) h1 (by omega) (by rw [Nat.zero_add]; exact hby) (by omega) ?_
  intro g' c' w' ho' hg'
  simp only [Nat.zero_add, List.nil_append] at ho'
  rw [Nat.zero_add]
  have hsz := hg'.size
  refine h g' c' w' ho' (below_grown hB hg' (Nat.le_refl _) (by omega)) (by omega) ?_
  rw [hg'.block (wr.heap.size + 1) (by omega) (fun e => by injection e; omega)]
  show ((wr.alloc (.cells #[] e)).alloc o2).heap[wr.heap.size + 1]? = some o2
  have := heap_alloc_new (wr.alloc (.cells #[] e)) o2
  rwa [World.size_alloc] at this
end Go.Proofs.YtmnmaibhjhhakaaGreatDoor
