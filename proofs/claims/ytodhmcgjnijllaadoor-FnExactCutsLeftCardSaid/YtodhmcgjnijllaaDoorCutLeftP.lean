/-
  The entries that cuts leave, told plainly; and a map from names to numbers that the call has made. No condition.
-/
import Derived.Test.YtodhmcgjnijllaaDoorCutFrom
import Derived.Test.YtodhmcgjnijllaaDoorBunS
import Derived.Test.YtodhmcgjnijllaaDoorKInt
namespace Go.Proofs.YtodhmcgjnijllaaDoor
open Go.ChangeShapes Go.WideShapes Go.ChangeAt Go.RowKit Go.Maps

/-- The positions, below k, of entries that stand behind the cut of their stream. -/
def leftTo (xs : List EnT) (cs : List (ByteArray × Int)) : Nat → List Int
  | 0 => []
  | k + 1 => leftTo xs cs k ++ (match xs[k]? with | some x => if fromI cs x.1 ≤ ((evOf x.1 (xs.take k)).length : Int) then [(k : Int)] else [] | none => [])
theorem leftTo_yes {xs : List EnT} {cs : List (ByteArray × Int)} {k : Nat} {x : EnT} (hx : xs[k]? = some x) (h : fromI cs x.1 ≤ ((evOf x.1 (xs.take k)).length : Int)) : leftTo xs cs (k + 1) = leftTo xs cs k ++ [(k : Int)] := by
  rw [leftTo, hx]; simp only [if_pos h]
theorem leftTo_no {xs : List EnT} {cs : List (ByteArray × Int)} {k : Nat} {x : EnT} (hx : xs[k]? = some x) (h : ¬ fromI cs x.1 ≤ ((evOf x.1 (xs.take k)).length : Int)) : leftTo xs cs (k + 1) = leftTo xs cs k := by
  rw [leftTo, hx]; simp only [if_neg h, List.append_nil]
theorem leftTo_len (xs : List EnT) (cs : List (ByteArray × Int)) : ∀ k, (leftTo xs cs k).length ≤ k
  | 0 => Nat.le_refl _
  | k + 1 => by
    have := leftTo_len xs cs k
    rw [leftTo]
    cases xs[k]? with
    | none => simp; omega
    | some x =>
      by_cases h : fromI cs x.1 ≤ ((evOf x.1 (xs.take k)).length : Int)
      · simp only [if_pos h]; simp; omega
      · simp only [if_neg h]; simp; omega
def cutLeft (xs : List EnT) (cs : List (ByteArray × Int)) : List Int := if storeB xs && cutsB cs then leftTo xs cs xs.length else []
theorem cutLeft_no {xs : List EnT} {cs : List (ByteArray × Int)} (h : (storeB xs && cutsB cs) = false) : cutLeft xs cs = [] := by unfold cutLeft; rw [h]; rfl
theorem cutLeft_yes {xs : List EnT} {cs : List (ByteArray × Int)} (h1 : storeB xs = true) (h2 : cutsB cs = true) : cutLeft xs cs = leftTo xs cs xs.length := by unfold cutLeft; rw [h1, h2]; rfl
theorem cutLeft_len (xs : List EnT) (cs : List (ByteArray × Int)) : (cutLeft xs cs).length ≤ xs.length := by
  unfold cutLeft
  split
  · exact leftTo_len _ _ _
  · simp

/-- An int's value told as a datum. -/
def encI : Value → Option (DataW Unit × List MemPlace)
  | .int .i64 n => some (.lit (.int .i64 n), [])
  | _ => none
theorem encI_some (n : Int) : encI (.int .i64 n) = some (.lit (.int .i64 n), []) := rfl
theorem encI_inv {v : Value} {n : Int} {ps : List MemPlace} (h : encI v = some (.lit (.int .i64 n), ps)) : v = .int .i64 n := by
  unfold encI at h
  split at h
  · simp only [Option.some.injEq, Prod.mk.injEq, DataW.lit.injEq, Lit.int.injEq, true_and] at h
    rw [h.1]
  · cases h
theorem zeroI (w : World) : (zeroValue 3).run Tryd.prog w = .ok (.int .i64 0) w := by kernel_rfl
/-- Block b is a map from names to numbers: at each name how many entries it has. -/
structure Counts (w : World) (b : Nat) (xs : List EnT) (D : DataW Unit) : Prop where
  owns : w.ownsMap Tryd.prog 9 encI b xs.length D
  tells : ∀ s : ByteArray, D.atKey (keyL s) (.lit (.int .i64 0)) = .lit (.int .i64 ((evOf s xs).length : Int))
theorem Counts.kept {w w' : World} {b : Nat} {xs : List EnT} {D : DataW Unit} (h : Counts w b xs D) (k : Below w.heap.size w w') : Counts w' b xs D :=
  ⟨h.owns.kept (row := none) ⟨k.os, k.tape, k.output, k.size, fun i hi _ => k.block i hi⟩ (by simp), h.tells⟩
theorem Counts.grown {w w' : World} {b g : Nat} {xs : List EnT} {D : DataW Unit} (h : Counts w b xs D) (k : w.grownBy w' (some g)) (hne : b ≠ g) : Counts w' b xs D :=
  ⟨h.owns.kept k (by simpa using hne), h.tells⟩
theorem Counts.made (w : World) : Counts (w.alloc (.map #[] 0)) w.heap.size [] (.map []) :=
  ⟨World.ownsMap_made _ _ _ _, fun _ => rfl⟩
theorem Counts.look {w : World} {b : Nat} {xs : List EnT} {D : DataW Unit} (h : Counts w b xs D) {s : ByteArray} (hs : s.size ≤ maxLen) :
    (Instr.lookup 81 (.map (some b)) (.string s) false).run Tryd.prog w = .ok (.int .i64 ((evOf s xs).length : Int)) w := by
  obtain ⟨v, ps, hrun, hv⟩ := h.owns.lookup keyed Tryd.underlying81 (zeroI w) (encI_some 0) (keyL_of hs)
  rw [h.tells s] at hv
  rw [encI_inv hv] at hrun
  exact hrun
theorem Counts.put {w : World} {b : Nat} {xs : List EnT} {D : DataW Unit} (h : Counts w b xs D) (x : EnT) (hs : x.1.size ≤ maxLen) (hn : xs.length < maxLen) :
    ∃ w5 D', (Instr.mapUpdate 81 (.map (some b)) (.string x.1) (.int .i64 (((evOf x.1 xs).length : Int) + 1))).run Tryd.prog w = .ok () w5 ∧ Counts w5 b (xs ++ [x]) D' ∧ w.grownBy w5 (some b) := by
  obtain ⟨w5, hrun, ho5, hg5⟩ := h.owns.update keyed Tryd.underlying81 hn (keyL_of hs) (encI_some (((evOf x.1 xs).length : Int) + 1))
  have hD : IsMap D := by obtain ⟨es, c, _, _, _, e⟩ := h.owns; exact ⟨_, e⟩
  refine ⟨w5, D.put (keyL x.1) (.lit (.int .i64 (((evOf x.1 xs).length : Int) + 1))), hrun, ⟨by simpa using ho5, fun t => ?_⟩, hg5⟩
  rw [evOf_snoc]
  by_cases e : t = x.1
  · subst e
    rw [if_pos rfl, atKey_put_same hD (keyed.key (keyL_of hs))]
    simp
  · rw [if_neg (fun e' => e e'.symm), atKey_put_other (fun e' => e (keyL_inj e')), h.tells t]
    simp
end Go.Proofs.YtodhmcgjnijllaaDoor
