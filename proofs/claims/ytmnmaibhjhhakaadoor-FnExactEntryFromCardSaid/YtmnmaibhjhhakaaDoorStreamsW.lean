/-
  streamsOf: the map from names to events that the program lays, for every slice of entries. No condition.
-/
import Derived.Test.YtmnmaibhjhhakaaDoorStreams
import Derived.Test.YtmnmaibhjhhakaaDoorPTail
import Derived.Test.YtmnmaibhjhhakaaDoorKEvent
namespace Go.Proofs.YtmnmaibhjhhakaaDoor
open Go.ChangeShapes Go.WideShapes Go.ChangeAt Go.RowKit Go.Maps

/-- append(v, x) in a region that draws, v nil or a row of the call's own. -/
theorem step_appV {P : Program} {ops : Array Oper} {o : Oper} {a : Act} {K : Act → World → Prop} {Q : Exit → Act → World → Prop} {E : Prop} (hgd : o.guard = none) (s x : Operand) (t e : TypeId) (size bytes : Nat) (R : RowTy P t e size bytes) (ho : o.op = .call { callee := .builtin .append, args := #[s, x], argTypes := #[t, t] })
    {wr : World} {us : Array Value} (B n : Nat) (v : Value) (xs : List Value) (hown : wr.ownsRow B e size v n xs)
    (hs : a.eval s = v) (hx : a.eval x = .slice (some ⟨wr.heap.size, 0, none⟩) 1 1)
    (hu : us.size = size) (h1 : us.toList.all Value.oneCell' = true) (hn : n + 1 ≤ maxLen) (hby : (n + 1) * bytes ≤ 140737488355328) (hB : B ≤ wr.heap.size)
    (h : ∀ g' c' w', w'.ownsRow B e size (.slice (some ⟨g', 0, none⟩) (n + 1) c') (n + 1) (xs ++ us.toList) → wr.grownBy w' v.ownBlock → (v.ownBlock = some g' ∨ wr.heap.size ≤ g') → K (a.put o.dst (.slice (some ⟨g', 0, none⟩) (n + 1) c')) w') :
    if Region.wanted o (yielded ops a.tmps) = true then Oper.wp P o a (wr.alloc (.cells us e)).drew K Q else E := by
  obtain ⟨ht, i, z, k1, k2, k3, k4, k5, k6⟩ := R
  have hb : (wr.alloc (.cells us e)).drew.heap[wr.heap.size]? = some (.cells us e (0, 0)) := by
    show (wr.alloc (.cells us e)).heap[wr.heap.size]? = _
    exact heap_alloc_new _ _
  refine step_append_lies _ hgd s x t ho B e i z size bytes ht k1 k2 k3 k4 k5 k6 v n xs hs (show (wr.alloc (.cells us e)).drew.ownsRow B e size v n xs from hown.alloc _) ⟨wr.heap.size, 0, none⟩ 1 1 us.toList hx (by simp [hu]) (World.news_of_block hb) (fun u hu' => List.all_eq_true.1 h1 u hu') (by omega) hn hby (by show B ≤ (wr.alloc (.cells us e)).heap.size; simp; omega) _ rfl ?_
  intro g' cap w' o1 g1 hat _
  have hsz : (wr.alloc (.cells us e)).drew.heap.size = wr.heap.size + 1 := by show (wr.alloc (.cells us e)).heap.size = _; simp
  refine h g' cap w' o1 ⟨g1.os, g1.tape, g1.output, ?_, fun k hk hne => (g1.block k (by omega) hne).trans (heap_alloc_old _ _ hk)⟩ ?_
  · have := g1.size; omega
  · rcases hat with hat | hat
    · exact .inl hat
    · exact .inr (by omega)

end Go.Proofs.YtmnmaibhjhhakaaDoor
