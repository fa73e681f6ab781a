/-
  The tree of rows: what it is in memory, and what putting a position into it does. No condition.
-/
import Derived.Test.YtkianldpmlbgcaaKInt
import Derived.Test.YtkianldpmlbgcaaOrd
import Derived.Deep.AppendLies
namespace Go.Proofs.Ytkianldpmlbgcaa
open Go.ChangeShapes Go.WideShapes Go.ChangeAt Go.RowKit

theorem wpList_app1z {P : Program} {ops : Array Oper} {rest : List Oper} {o : Oper} {a : Act} {Q : Exit → Act → World → Prop} (hgd : o.guard = none) (s x : Operand) (t e : TypeId) (size bytes : Nat) (R : RowTy P t e size bytes) (ho : o.op = .call { callee := .builtin .append, args := #[s, x], argTypes := #[t, t] })
    {wr : World} {us : Array Value} (B g n c : Nat) (xs : List Value) (hown : wr.ownsRow B e size (.slice (some ⟨g, 0, none⟩) n c) n xs)
    (hs : a.eval s = .slice (some ⟨g, 0, none⟩) n c) (hx : a.eval x = .slice (some ⟨wr.heap.size, 0, none⟩) 1 1)
    (hu : us.size = size) (h1 : us.toList.all Value.oneCell' = true) (hn : n + 1 ≤ maxLen) (hby : (n + 1) * bytes ≤ 140737488355328) (hB : B ≤ wr.heap.size)
    (h : ∀ g' c' w', w'.ownsRow B e size (.slice (some ⟨g', 0, none⟩) (n + 1) c') (n + 1) (xs ++ us.toList) → wr.grownBy w' (some g) → (g' = g ∨ wr.heap.size < g') → wpList P ops Q rest (a.put o.dst (.slice (some ⟨g', 0, none⟩) (n + 1) c')) w') :
    wpList P ops Q (o :: rest) a (wr.alloc (.cells us e)) := by
  obtain ⟨ht, i, z, k1, k2, k3, k4, k5, k6⟩ := R
  refine wpList_append_lies _ hgd s x t ho B e i z size bytes ht k1 k2 k3 k4 k5 k6 _ n xs hs (hown.alloc _) ⟨wr.heap.size, 0, none⟩ 1 1 us.toList hx (by simp [hu]) (World.news_of_block (heap_alloc_new _ _)) (fun u hu' => List.all_eq_true.1 h1 u hu') (by omega) hn hby (by simp; omega) _ rfl ?_
  intro g' cap w' o1 g1 hat _
  have g2 : (wr.alloc (.cells us e)).grownBy w' (some g) := g1
  refine h g' cap w' o1 ⟨g2.os, g2.tape, g2.output, Nat.le_trans (by simp) g2.size, fun k hk hne => (g2.block k (by simp; omega) hne).trans (heap_alloc_old _ _ hk)⟩ ?_
  rcases hat with hat | hat
  · exact .inl (by have : some g = some g' := hat; injection this with e; exact e.symm)
  · exact .inr (by rw [hat, World.size_alloc]; omega)


inductive RT where
  | leaf
  | node (l : RT) (k : ByteArray) (a : List Int) (r : RT)
/-- A position put behind those of its key. -/
def RT.ins (key : ByteArray) (p : Int) : RT → RT
  | .leaf => .node .leaf key [p] .leaf
  | .node l k a r => if ltS key k then .node (l.ins key p) k a r else if ltS k key then .node l k a (r.ins key p) else .node l k (a ++ [p]) r
def RT.rows : RT → List (ByteArray × List Int)
  | .leaf => []
  | .node l k a r => l.rows ++ (k, a) :: r.rows
def RT.small (N : Nat) : RT → Prop
  | .leaf => True
  | .node l _ a r => a.length ≤ N ∧ l.small N ∧ r.small N
/-- The tree lies in the blocks S, all different. -/
def Tree (w : World) : List Nat → Option Addr → RT → Prop
  | S, p, .leaf => S = [] ∧ p = none
  | S, p, .node l k a r => ∃ b g m c pl pr Sl Sr, p = some ⟨b, 0, none⟩ ∧ S = b :: g :: (Sl ++ Sr) ∧ S.Nodup ∧ RowIs w b 87 [.string k, .slice (some ⟨g, 0, none⟩) m c, .pointer pl, .pointer pr] ∧ a.length = m ∧ w.ownsRow 0 3 1 (.slice (some ⟨g, 0, none⟩) m c) m (a.flatMap intCells) ∧ Tree w Sl pl l ∧ Tree w Sr pr r
/-- Only blocks of S, and new ones, may differ. -/
structure Turns (w w' : World) (S : List Nat) : Prop where
  os : w'.os = w.os
  tape : w'.tape = w.tape
  output : w'.output = w.output
  size : w.heap.size ≤ w'.heap.size
  block : ∀ k, k < w.heap.size → k ∉ S → w'.heap[k]? = w.heap[k]?
theorem own_block {w w' : World} {e : TypeId} {g m c n : Nat} {xs : List Value} (h : w.ownsRow 0 e 1 (.slice (some ⟨g, 0, none⟩) m c) n xs) (hg : w'.heap[g]? = w.heap[g]?) : w'.ownsRow 0 e 1 (.slice (some ⟨g, 0, none⟩) m c) n xs := by
  refine ⟨h.1, ?_⟩
  rcases h.2 with q | ⟨g', cap, cur, hv, q1, q2, q3⟩
  · exact .inl q
  · have e : g = g' := by simp only [Value.slice.injEq, Option.some.injEq, Addr.mk.injEq] at hv; exact hv.1.1
    exact .inr ⟨g', cap, cur, hv, q1, by rw [← e, hg, e]; exact q2, q3⟩
theorem Tree.keep {w w' : World} : ∀ {t : RT} {S : List Nat} {p : Option Addr}, Tree w S p t → (∀ b ∈ S, w'.heap[b]? = w.heap[b]?) → Tree w' S p t
  | .leaf, _, _, h, _ => h
  | .node l k a r, S, p, ⟨b, g, m, c, pl, pr, Sl, Sr, h1, h2, h3, h4, h5, h6, h7, h8⟩, hk => by
    subst h2
    exact ⟨b, g, m, c, pl, pr, Sl, Sr, h1, rfl, h3, (hk b (by simp)).trans h4, h5, own_block h6 (hk g (by simp)), h7.keep (fun x hx => hk x (by simp [hx])), h8.keep (fun x hx => hk x (by simp [hx]))⟩
theorem Tree.lt {w : World} : ∀ {t : RT} {S : List Nat} {p : Option Addr}, Tree w S p t → ∀ b ∈ S, b < w.heap.size
  | .leaf, _, _, h, b, hb => by rw [h.1] at hb; simp at hb
  | .node l k a r, S, p, ⟨b, g, m, c, pl, pr, Sl, Sr, h1, h2, h3, h4, h5, h6, h7, h8⟩, x, hx => by
    subst h2
    simp only [List.mem_cons, List.mem_append] at hx
    rcases hx with rfl | rfl | hx | hx
    · exact h4.lt
    · exact (owns_lt h6).2
    · exact h7.lt x hx
    · exact h8.lt x hx

theorem nodup_join {b g : Nat} {X Y : List Nat} (h0 : b ≠ g) (h1 : b ∉ X) (h2 : g ∉ X) (h3 : b ∉ Y) (h4 : g ∉ Y) (h5 : X.Nodup) (h6 : Y.Nodup) (h7 : ∀ x, x ∈ X → x ∈ Y → False) : (b :: g :: (X ++ Y)).Nodup := by
  rw [List.nodup_cons, List.nodup_cons, List.nodup_append]
  refine ⟨by simp [h0, h1, h3], by simp [h2, h4], h5, h6, fun a ha c hc e => h7 a ha (e ▸ hc)⟩
theorem nodup_parts {b g : Nat} {X Y : List Nat} (h : (b :: g :: (X ++ Y)).Nodup) : b ≠ g ∧ b ∉ X ∧ g ∉ X ∧ b ∉ Y ∧ g ∉ Y ∧ X.Nodup ∧ Y.Nodup ∧ ∀ x, x ∈ X → x ∈ Y → False := by
  rw [List.nodup_cons, List.nodup_cons, List.nodup_append] at h
  obtain ⟨h1, h2, h3, h4, h5⟩ := h
  simp only [List.mem_cons, List.mem_append, not_or] at h1 h2
  exact ⟨h1.1, h1.2.1, h2.1, h1.2.2, h2.2, h3, h4, fun x hx hy => h5 x hx x hy rfl⟩

set_option maxRecDepth 8000 in
set_option maxHeartbeats 6400000 in
theorem with_tree (N : Nat) (hN : N ≤ 4194304) (key : ByteArray) (p : Int) : ∀ (t : RT) (S : List Nat) (q : Option Addr) (w : World), Tree w S q t → t.small N →
    Calls Try.prog 54 #[.pointer q, .string key, .int .i64 p] w fun e w' => ∃ q' S', e = .returned (.pointer q') ∧ Tree w' S' q' (t.ins key p) ∧ S'.Nodup ∧ (∀ b ∈ S', b ∈ S ∨ w.heap.size ≤ b) ∧ Turns w w' S
  | .leaf, S, q, w, h, _ => by
    obtain ⟨rfl, rfl⟩ := h
    go_enter Try.func54, Try.ntmps54
    go_wp2
    go_ret
    refine ⟨_, [w.heap.size + 1, w.heap.size], rfl, ?_, by simp, fun b hb => .inr (by simp at hb; omega), ?_⟩
    · have h2 := RowIs.new (w.alloc (.cells #[.int .i64 p] 3)) #[.string key, .slice (some ⟨w.heap.size, 0, none⟩) 1 1, .pointer none, .pointer none] 87
      rw [show (w.alloc (.cells #[.int .i64 p] 3)).heap.size = w.heap.size + 1 by simp] at h2
      exact ⟨w.heap.size + 1, w.heap.size, 1, 1, none, none, [], [], rfl, rfl, by simp, h2, rfl, ⟨rfl, .inr ⟨w.heap.size, 1, #[.int .i64 p], rfl, Nat.zero_le _, (heap_alloc_old _ _ (by simp)).trans (heap_alloc_new _ _), Nat.le_refl _, by unfold maxLen; omega, rfl, rfl⟩⟩, ⟨rfl, rfl⟩, ⟨rfl, rfl⟩⟩
    · exact ⟨rfl, rfl, rfl, by simp; omega, fun k hk _ => (heap_alloc_old _ _ (by simp; omega)).trans (heap_alloc_old _ _ hk)⟩
  | .node l k a r, S, q, w, h, hs => by
    obtain ⟨b, g, m, c, pl, pr, Sl, Sr, rfl, rfl, hnd, hR, hm, ho, hl, hr⟩ := h
    obtain ⟨hbg, hb1, hg1, hb2, hg2, hndl, hndr, hdis⟩ := nodup_parts hnd
    have hgb : g ≠ b := fun e => hbg e.symm
    have hblt := hR.lt
    have hglt := (owns_lt ho).2
    have u0 := hR.cell (j := 0) rfl
    have u1 := hR.cell (j := 1) rfl
    have u2 := hR.cell (j := 2) rfl
    have u3 := hR.cell (j := 3) rfl
    cases hlt : ltS key k
    · cases hgt : ltS k key
      · have G1 : Op.bytesLess key.toList k.toList = false := hlt
        have G2 : Op.bytesLess k.toList key.toList = false := hgt
        have hma : m ≤ 4194304 := by have := hs.1; omega
        obtain rfl : key = k := ltS_tri hlt hgt
        have G3 : (key.toList == key.toList) = true := by simp
        have G1 : Op.bytesLess key.toList key.toList = false := hlt
        have HO := Lib.hid ho
        clear ho
        go_enter Try.func54, Try.ntmps54
        go_wp2_with (at_builtin; refine wpList_app1z rfl _ _ 29 3 1 8 rowInt rfl 0 g m c _ HO.out rfl rfl rfl rfl (by unfold maxLen; omega) (by omega) (Nat.zero_le _) ?_; intro g4 c4 w4 o4 hg4 hat; have HO4 := Lib.hid o4; have HG4 := Lib.hid hg4; have HAT := Lib.hid hat; have R4 : RowIs w4 b 87 _ := hR.grown hg4 (by simp [hbg]); have v0 := R4.cell (j := 0) rfl; have v1 := R4.cell (j := 1) rfl; have v2 := R4.cell (j := 2) rfl; have v3 := R4.cell (j := 3) rfl; have f1 := R4.frozen 1; clear o4 hg4 hat)
        go_ret
        have hge : g4 = g ∨ w.heap.size < g4 := HAT.out
        have hg4b : g4 ≠ b := by omega
        have hg4l : g4 ∉ Sl := fun h => by
          have h1 := hl.lt _ h
          rcases hge with e | e
          · exact hg1 (e ▸ h)
          · omega
        have hg4r : g4 ∉ Sr := fun h => by
          have h1 := hr.lt _ h
          rcases hge with e | e
          · exact hg2 (e ▸ h)
          · omega
        have hoth : ∀ x, x ≠ b → (w4.setCell ⟨b, 1, none⟩ (.slice (some ⟨g4, 0, none⟩) (m + 1) c4)).heap[x]? = w4.heap[x]? := fun x hx => heap_setCell_other w4 ⟨b, 1, none⟩ x _ hx
        have hold : ∀ x, x < w.heap.size → x ≠ g → w4.heap[x]? = w.heap[x]? := fun x hx hxg => HG4.out.block x hx (fun e => hxg (Option.some.inj e))
        refine ⟨some ⟨b, 0, none⟩, rfl, b :: g4 :: (Sl ++ Sr), ?_, ?_, ?_, ?_⟩
        · rw [RT.ins, if_neg (by simp [hlt]), if_neg (by simp [hgt])]
          refine ⟨b, g4, m + 1, c4, pl, pr, Sl, Sr, rfl, rfl, ?_, R4.set 1 _, by simp [hm], ?_, hl.keep (fun x hx => (hoth x (fun e => hb1 (e ▸ hx))).trans (hold x (hl.lt x hx) (fun e => hg1 (e ▸ hx)))), hr.keep (fun x hx => (hoth x (fun e => hb2 (e ▸ hx))).trans (hold x (hr.lt x hx) (fun e => hg2 (e ▸ hx))))⟩
          · exact nodup_join (fun e => hg4b e.symm) hb1 hg4l hb2 hg4r hndl hndr hdis
          · have h := own_block HO4.out (hoth g4 hg4b)
            simpa [intCells] using h
        · exact nodup_join (fun e => hg4b e.symm) hb1 hg4l hb2 hg4r hndl hndr hdis
        · intro x hx
          simp only [List.mem_cons, List.mem_append] at hx
          rcases hx with h | h | h | h
          · exact .inl (.inl h)
          · rcases hge with e | e
            · exact .inl (.inr (.inl (h.trans e)))
            · exact .inr (by omega)
          · exact .inl (.inr (.inr (.inl h)))
          · exact .inl (.inr (.inr (.inr h)))
        · refine ⟨HG4.out.os, HG4.out.tape, HG4.out.output, by simpa using HG4.out.size, fun x hx hxs => ?_⟩
          simp only [List.mem_cons, List.mem_append, not_or] at hxs
          exact (hoth x hxs.1).trans (hold x hx hxs.2.1)
      · have G1 : Op.bytesLess key.toList k.toList = false := hlt
        have G2 : Op.bytesLess k.toList key.toList = true := hgt
        have G3 : (key.toList == k.toList) = false := str_ne (fun e => ltS_ne hgt e.symm)
        go_enter Try.func54, Try.ntmps54
        go_wp2_with fail
        refine (with_tree N hN key p r Sr pr w hr hs.2.2).mono ?_
        rintro e1 w1 ⟨q1, S1, rfl, t1, n1, m1, k1⟩
        have R1 : RowIs w1 b 87 _ := (k1.block b hblt (hb2)).trans hR
        have v0 := R1.cell (j := 0) rfl
        have v1 := R1.cell (j := 1) rfl
        have v2 := R1.cell (j := 2) rfl
        have v3 := R1.cell (j := 3) rfl
        have f1 := R1.frozen 3
        go_wp2
        go_ret
        have hS1b : b ∉ S1 := fun h => by
          rcases m1 b h with h | h
          · exact hb2 h
          · omega
        have hS1g : g ∉ S1 := fun h => by
          rcases m1 g h with h | h
          · exact hg2 h
          · omega
        have hoth : ∀ x, x ≠ b → (w1.setCell ⟨b, 3, none⟩ (.pointer q1)).heap[x]? = w1.heap[x]? := fun x hx => heap_setCell_other w1 ⟨b, 3, none⟩ x _ hx
        refine ⟨some ⟨b, 0, none⟩, b :: g :: (Sl ++ S1), rfl, ?_, ?_, ?_, ?_⟩
        · rw [RT.ins, if_neg (by simp [hlt]), if_pos hgt]
          refine ⟨b, g, m, c, pl, q1, Sl, S1, rfl, rfl, ?_, R1.set 3 (.pointer q1), hm, own_block ho ((hoth g hgb).trans (k1.block g hglt hg2)), hl.keep (fun x hx => (hoth x (fun e => hb1 (e ▸ hx))).trans (k1.block x (hl.lt x hx) (fun h => hdis x hx h))), t1.keep (fun x hx => hoth x (fun e => hS1b (e ▸ hx)))⟩
          exact nodup_join hgb.symm hb1 hg1 hS1b hS1g hndl n1 (fun x h1 h2 => by
            rcases m1 x h2 with h | h
            · exact hdis x h1 h
            · have := hl.lt x h1; omega)
        · exact nodup_join hgb.symm hb1 hg1 hS1b hS1g hndl n1 (fun x h1 h2 => by
            rcases m1 x h2 with h | h
            · exact hdis x h1 h
            · have := hl.lt x h1; omega)
        · intro x hx
          simp only [List.mem_cons, List.mem_append] at hx ⊢
          rcases hx with h | h | h | h
          · exact .inl (.inl h)
          · exact .inl (.inr (.inl h))
          · exact .inl (.inr (.inr (.inl h)))
          · rcases m1 x h with h | h
            · exact .inl (.inr (.inr (.inr h)))
            · exact .inr h
        · refine ⟨k1.os, k1.tape, k1.output, by simpa using k1.size, fun x hx hxs => ?_⟩
          simp only [List.mem_cons, List.mem_append, not_or] at hxs
          exact (hoth x hxs.1).trans (k1.block x hx hxs.2.2.2)
    · have G1 : Op.bytesLess key.toList k.toList = true := hlt
      go_enter Try.func54, Try.ntmps54
      go_wp2_with fail
      refine (with_tree N hN key p l Sl pl w hl hs.2.1).mono ?_
      rintro e1 w1 ⟨q1, S1, rfl, t1, n1, m1, k1⟩
      have R1 : RowIs w1 b 87 _ := (k1.block b hblt (hb1)).trans hR
      have v0 := R1.cell (j := 0) rfl
      have v1 := R1.cell (j := 1) rfl
      have v2 := R1.cell (j := 2) rfl
      have v3 := R1.cell (j := 3) rfl
      have f1 := R1.frozen 2
      go_wp2
      go_ret
      have hS1b : b ∉ S1 := fun h => by
        rcases m1 b h with h | h
        · exact hb1 h
        · omega
      have hS1g : g ∉ S1 := fun h => by
        rcases m1 g h with h | h
        · exact hg1 h
        · omega
      have hoth : ∀ x, x ≠ b → (w1.setCell ⟨b, 2, none⟩ (.pointer q1)).heap[x]? = w1.heap[x]? := fun x hx => heap_setCell_other w1 ⟨b, 2, none⟩ x _ hx
      refine ⟨some ⟨b, 0, none⟩, b :: g :: (S1 ++ Sr), rfl, ?_, ?_, ?_, ?_⟩
      · rw [RT.ins, if_pos hlt]
        refine ⟨b, g, m, c, q1, pr, S1, Sr, rfl, rfl, ?_, R1.set 2 (.pointer q1), hm, own_block ho ((hoth g hgb).trans (k1.block g hglt hg1)), t1.keep (fun x hx => hoth x (fun e => hS1b (e ▸ hx))), hr.keep (fun x hx => (hoth x (fun e => hb2 (e ▸ hx))).trans (k1.block x (hr.lt x hx) (fun h => hdis x h hx)))⟩
        exact nodup_join hgb.symm hS1b hS1g hb2 hg2 n1 hndr (fun x h1 h2 => by
          rcases m1 x h1 with h | h
          · exact hdis x h h2
          · have := hr.lt x h2; omega)
      · exact nodup_join hgb.symm hS1b hS1g hb2 hg2 n1 hndr (fun x h1 h2 => by
          rcases m1 x h1 with h | h
          · exact hdis x h h2
          · have := hr.lt x h2; omega)
      · intro x hx
        simp only [List.mem_cons, List.mem_append] at hx ⊢
        rcases hx with h | h | h | h
        · exact .inl (.inl h)
        · exact .inl (.inr (.inl h))
        · rcases m1 x h with h | h
          · exact .inl (.inr (.inr (.inl h)))
          · exact .inr h
        · exact .inl (.inr (.inr (.inr h)))
      · refine ⟨k1.os, k1.tape, k1.output, by simpa using k1.size, fun x hx hxs => ?_⟩
        simp only [List.mem_cons, List.mem_append, not_or] at hxs
        exact (hoth x hxs.1).trans (k1.block x hx hxs.2.2.1)
end Go.Proofs.Ytkianldpmlbgcaa
