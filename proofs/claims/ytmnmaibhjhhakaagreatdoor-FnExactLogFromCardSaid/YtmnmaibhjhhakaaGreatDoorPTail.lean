/-
  What is behind the first element of a slice; an append as one step of a region that draws its order. No condition.
-/
import Derived.Test.YtmnmaibhjhhakaaGreatDoorOwn
import Derived.Deep.AppendLies
namespace Go.Proofs.YtmnmaibhjhhakaaGreatDoor
open Go.ChangeShapes Go.WideShapes Go.ChangeAt Go.RowKit

theorem tail_of {P : Program} {t e : TypeId} {size : Nat} (ht : P.underlying t = some (.slice e)) (hz : ∀ w, (Go.sizeOf e).run P w = .ok size w) (b o n c : Nat) (hn : 1 ≤ n) (hc : n ≤ c) :
    ∃ o', (∀ W, (Instr.slice t (.slice (some ⟨b, o, none⟩) n c) (some (.int .i64 1)) none none).run P W = .ok (.slice (some ⟨b, o', none⟩) (n - 1) (c - 1)) W) ∧ (∀ w (x xs : List Value), x.length = size → Lies w size (some ⟨b, o, none⟩) n (x ++ xs) → Lies w size (some ⟨b, o', none⟩) (n - 1) xs) := by
  have ht' : P.underlying t = some (.slice (P.elem t)) := by simp [Program.elem, ht]
  have he : P.elem t = e := by simp [Program.elem, ht]
  by_cases hc1 : c = 1
  · subst hc1
    refine ⟨o, fun W => ?_, fun w x xs hx hl => ⟨?_, fun h => by omega⟩⟩
    · rw [run_slice_l W t _ _ _ ht' .i64 1 (by omega) (by omega), he, hz]
      simp [Result.andThen, sliced]
    · have := hl.1
      rw [List.length_append, hx] at this
      rw [Nat.sub_mul]; omega
  · refine ⟨o + size, fun W => ?_, fun w x xs hx hl => ?_⟩
    · rw [run_slice_l W t _ _ _ ht' .i64 1 (by omega) (by omega), he, hz]
      simp [Result.andThen, sliced, add_plain, hc1]
    · have hlen := hl.1
      rw [List.length_append, hx] at hlen
      refine ⟨by rw [Nat.sub_mul]; omega, fun _ => ?_⟩
      obtain ⟨b', o', e', hlt, hcell⟩ := hl.2 (by omega)
      cases e'
      refine ⟨b, o + size, rfl, hlt, fun j u hu => ?_⟩
      have := hcell (size + j) u (by rw [List.getElem?_append_right (by omega), hx, show size + j - size = j by omega]; exact hu)
      rwa [← Nat.add_assoc] at this

theorem step_app1 {P : Program} {ops : Array Oper} {o : Oper} {a : Act} {K : Act → World → Prop} {Q : Exit → Act → World → Prop} {E : Prop} (hgd : o.guard = none) (s x : Operand) (t e : TypeId) (size bytes : Nat) (R : RowTy P t e size bytes) (ho : o.op = .call { callee := .builtin .append, args := #[s, x], argTypes := #[t, t] })
    {wr : World} {us : Array Value} (B g n c : Nat) (xs : List Value) (hown : wr.ownsRow B e size (.slice (some ⟨g, 0, none⟩) n c) n xs)
    (hs : a.eval s = .slice (some ⟨g, 0, none⟩) n c) (N : Nat) (hx : a.eval x = .slice (some ⟨N, 0, none⟩) 1 1) (hN : N = wr.heap.size)
    (hu : us.size = size) (h1 : us.toList.all Value.oneCell' = true) (hn : n + 1 ≤ maxLen) (hby : (n + 1) * bytes ≤ 140737488355328) (hB : B ≤ wr.heap.size)
    (h : ∀ g' c' w', w'.ownsRow B e size (.slice (some ⟨g', 0, none⟩) (n + 1) c') (n + 1) (xs ++ us.toList) → wr.grownBy w' (some g) → K (a.put o.dst (.slice (some ⟨g', 0, none⟩) (n + 1) c')) w') :
    if Region.wanted o (yielded ops a.tmps) = true then Oper.wp P o a (wr.alloc (.cells us e)) K Q else E := by
  subst hN
  obtain ⟨ht, i, z, k1, k2, k3, k4, k5, k6⟩ := R
  refine step_append_lies _ hgd s x t ho B e i z size bytes ht k1 k2 k3 k4 k5 k6 _ n xs hs (hown.alloc _) ⟨wr.heap.size, 0, none⟩ 1 1 us.toList hx (by simp [hu]) (World.news_of_block (heap_alloc_new _ _)) (fun u hu' => List.all_eq_true.1 h1 u hu') (by omega) hn hby (by simp; omega) _ rfl ?_
  intro g' cap w' o1 g1 _ _
  have g2 : (wr.alloc (.cells us e)).grownBy w' (some g) := g1
  exact h g' cap w' o1 ⟨g2.os, g2.tape, g2.output, Nat.le_trans (by simp) g2.size, fun k hk hne => (g2.block k (by simp; omega) hne).trans (heap_alloc_old _ _ hk)⟩
end Go.Proofs.YtmnmaibhjhhakaaGreatDoor
