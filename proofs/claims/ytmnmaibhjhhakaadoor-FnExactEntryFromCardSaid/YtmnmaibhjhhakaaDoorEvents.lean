/-
  Valid events, with different ids: what the reference's and the program's functions return, for every slice of events. No condition.
-/
import Derived.Test.YtmnmaibhjhhakaaDoorBunT
import Derived.Test.YtmnmaibhjhhakaaDoorEvent
namespace Go.Proofs.YtmnmaibhjhhakaaDoor
open Go.ChangeShapes Go.WideShapes Go.ChangeAt Go.RowKit

def evOk (x : Int × ByteArray × Int) : Bool := eventB x.1 x.2.1 x.2.2
/-- Valid events, whose ids are none of those before. -/
def evs (pre : List (Int × ByteArray × Int)) : List (Int × ByteArray × Int) → Bool
  | [] => true
  | x :: xs => evOk x && decide (x.1 ∉ pre.map (·.1)) && evs (pre ++ [x]) xs
def eventsB (xs : List (Int × ByteArray × Int)) : Bool := decide (xs.length ≤ 24) && evs [] xs
theorem evs_step {xs : List (Int × ByteArray × Int)} {k : Nat} {x : Int × ByteArray × Int} (hx : xs[k]? = some x) (h : evs [] xs = evs (xs.take k) (xs.drop k)) :
    evs [] xs = (evOk x && decide (x.1 ∉ (xs.take k).map (·.1)) && evs (xs.take (k + 1)) (xs.drop (k + 1))) := by
  rw [h, drop_of hx, evs, take_succ_of hx]
theorem evs_bad {xs : List (Int × ByteArray × Int)} {k : Nat} {x : Int × ByteArray × Int} (hx : xs[k]? = some x) (h : evs [] xs = evs (xs.take k) (xs.drop k)) (hb : evOk x = false) : evs [] xs = false := by
  rw [evs_step hx h, hb]; rfl
theorem evs_twice {xs : List (Int × ByteArray × Int)} {k j : Nat} {x y : Int × ByteArray × Int} (hx : xs[k]? = some x) (h : evs [] xs = evs (xs.take k) (xs.drop k)) (hy : xs[j]? = some y) (hj : j < k) (he : y.1 = x.1) : evs [] xs = false := by
  rw [evs_step hx h]
  have hm : x.1 ∈ (xs.take k).map (·.1) := by
    rw [← he]
    exact List.mem_map_of_mem (List.mem_of_getElem? (by rw [List.getElem?_take, if_pos hj]; exact hy))
  rw [decide_eq_false (fun h => h hm)]; simp
theorem evs_on {xs : List (Int × ByteArray × Int)} {k : Nat} {x : Int × ByteArray × Int} (hx : xs[k]? = some x) (h : evs [] xs = evs (xs.take k) (xs.drop k)) (hb : evOk x = true) (hn : x.1 ∉ (xs.take k).map (·.1)) : evs [] xs = evs (xs.take (k + 1)) (xs.drop (k + 1)) := by
  rw [evs_step hx h, hb, decide_eq_true hn]; rfl
theorem events_no {xs : List (Int × ByteArray × Int)} (h : evs [] xs = false) : eventsB xs = false := by unfold eventsB; rw [h]; simp
theorem not_in_succ {xs : List (Int × ByteArray × Int)} {j : Nat} {y : Int × ByteArray × Int} {v : Int} (hy : xs[j]? = some y) (h : v ∉ (xs.take j).map (·.1)) (hne : y.1 ≠ v) : v ∉ (xs.take (j + 1)).map (·.1) := by
  rw [take_succ_of hy, List.map_append, List.mem_append]
  rintro (g | g)
  · exact h g
  · simp at g; exact hne g.symm

end Go.Proofs.YtmnmaibhjhhakaaDoor
