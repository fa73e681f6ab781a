/-
  A piece of a list; StoreAll of the reference. No condition beyond what the rows list.
-/
import Derived.Test.YtcccidlfigfibaaDoorBunS
namespace Go.Proofs.YtcccidlfigfibaaDoor
open Go.ChangeShapes Go.WideShapes Go.ChangeAt Go.RowKit

def pieceL {α : Type} (f q : Int) (xs : List α) : List α := (xs.drop f.toNat).take q.toNat
def allL (xs : List EnT) (f q : Int) : List EnT := if storeB xs && inB f 0 99 && inB q 0 99 then pieceL f q xs else []
theorem pieceL_le {α : Type} (f q : Int) (xs : List α) : (pieceL f q xs).length ≤ xs.length := by unfold pieceL; simp; omega
theorem allL_le (xs : List EnT) (f q : Int) : (allL xs f q).length ≤ xs.length := by
  unfold allL
  split
  · exact pieceL_le _ _ _
  · simp
theorem all_yes {xs : List EnT} {f q : Int} (h1 : storeB xs = true) (h2 : inB f 0 99 = true) (h3 : inB q 0 99 = true) : allL xs f q = pieceL f q xs := by unfold allL; rw [h1, h2, h3]; rfl
theorem piece_succ {α : Type} {xs : List α} {f j : Nat} {x : α} (h : xs[f + j]? = some x) : (xs.drop f).take (j + 1) = (xs.drop f).take j ++ [x] := by
  rw [List.take_add_one, List.getElem?_drop, h]; rfl
theorem piece_end {α : Type} {xs : List α} {f j q : Nat} (h : xs.length ≤ f + j) (hq : j ≤ q) : (xs.drop f).take q = (xs.drop f).take j := by
  rw [List.take_of_length_le (by simp; omega), List.take_of_length_le (by simp; omega)]

end Go.Proofs.YtcccidlfigfibaaDoor
