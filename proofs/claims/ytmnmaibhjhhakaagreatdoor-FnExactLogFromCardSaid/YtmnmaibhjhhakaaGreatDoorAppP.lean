/-
  Events appended to a store, told plainly; what is asked of a version, and entries with further ones: what the reference's and the program's functions return. No condition.
-/
import Derived.Test.YtmnmaibhjhhakaaGreatDoorBunS
import Derived.Test.YtmnmaibhjhhakaaGreatDoorIface
namespace Go.Proofs.YtmnmaibhjhhakaaGreatDoor
open Go.ChangeShapes Go.WideShapes Go.ChangeAt Go.RowKit

def appE (xs : List EnT) (s : ByteArray) (ys : List EvT) : List EnT := xs ++ ys.map (fun y => (s, y))
theorem appE_nil (xs : List EnT) (s : ByteArray) : appE xs s [] = xs := by unfold appE; simp
theorem appE_succ {xs : List EnT} {s : ByteArray} {ys : List EvT} {k : Nat} {y : EvT} (h : ys[k]? = some y) : appE xs s (ys.take (k + 1)) = appE xs s (ys.take k) ++ [(s, y)] := by
  unfold appE; rw [take_succ_of h, List.map_append, List.append_assoc]; rfl
theorem appE_length (xs : List EnT) (s : ByteArray) (ys : List EvT) : (appE xs s ys).length = xs.length + ys.length := by unfold appE; simp
theorem entry_one (xs : List EnT) : ∀ u ∈ xs.flatMap entryCells, u.oneCell' = true := by
  intro u hu
  obtain ⟨x, _, hx⟩ := List.mem_flatMap.1 hu
  simp only [entryCells, List.mem_cons, List.not_mem_nil, or_false] at hx
  rcases hx with rfl | rfl | rfl | rfl <;> rfl
theorem ev_ok {left : Int} {n : Nat} {ys : List EvT} (hl : left ≤ 1048576) (h : 0 ≤ szR left n (ys.flatMap eventTexts)) (hok : ∀ y ∈ ys, eventOk y) : ∀ y ∈ ys, eventOk y ∧ y.2.1.size ≤ 1048576 := fun y hy => by
  refine ⟨hok y hy, ?_⟩
  unfold szR at h
  split at h
  · omega
  · have h2 := szT_all (by omega) h y.2.1 (List.mem_flatMap.2 ⟨y, hy, by simp [eventTexts]⟩)
    omega
/-- What is right of a write's arguments. -/
def writeB (xs : List EnT) (s : ByteArray) (e : Int) (ys : List EvT) : Bool := storeB xs && nameB s && inB e (-2) 23 && eventsB ys && decide (0 < ys.length)
def holdsB (e v : Int) : Bool := inB e (-2) 23 && inB v (-1) 23 && (decide (e = -2) || decide (e = v))
/-- What StoreAppend answers. -/
def appR (xs : List EnT) (s : ByteArray) (e : Int) (ys : List EvT) : List EnT × Int :=
  if writeB xs s e ys then
    (if holdsB e (((evOf s xs).length : Int) - 1) then (if storeB (appE xs s ys) then (appE xs s ys, 0) else ([], 2)) else (xs, 1))
  else ([], 2)
theorem appR_no {xs : List EnT} {s : ByteArray} {e : Int} {ys : List EvT} (h : writeB xs s e ys = false) : appR xs s e ys = ([], 2) := by unfold appR; rw [h]; rfl
theorem appR_yes {xs : List EnT} {s : ByteArray} {e : Int} {ys : List EvT} (h : writeB xs s e ys = true) : appR xs s e ys = (if holdsB e (((evOf s xs).length : Int) - 1) then (if storeB (appE xs s ys) then (appE xs s ys, 0) else ([], 2)) else (xs, 1)) := by unfold appR; rw [h]; rfl
theorem appE_ok {xs : List EnT} {s : ByteArray} {ys : List EvT} (h : StOk xs) (hs : s.size ≤ 1048576) (hy : ∀ y ∈ ys, eventOk y ∧ y.2.1.size ≤ 1048576) : StOk (appE xs s ys) := by
  refine ⟨fun x hx => ?_, fun x hx => ?_⟩
  · rcases List.mem_append.1 hx with g | g
    · exact h.small x g
    · obtain ⟨y, hm, rfl⟩ := List.mem_map.1 g
      exact ⟨hs, (hy y hm).2⟩
  · rcases List.mem_append.1 hx with g | g
    · exact h.ints x g
    · obtain ⟨y, hm, rfl⟩ := List.mem_map.1 g
      exact (hy y hm).1
theorem appR_len (xs : List EnT) (s : ByteArray) (e : Int) (ys : List EvT) (hx : xs.length ≤ 1048576) : (appR xs s e ys).1.length ≤ 1048576 := by
  unfold appR
  split
  · split
    · split
      · rename_i h
        have := ((store_iff _).1 h).1
        show (appE xs s ys).length ≤ _
        omega
      · simp
    · exact hx
  · simp

end Go.Proofs.YtmnmaibhjhhakaaGreatDoor
