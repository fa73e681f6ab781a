/-
  LogFrom of both, their result a slice of its own. No condition beyond what the row lists.
-/
import Derived.Test.YtmnmaibhjhhakaaGreatDoorLogS
import Derived.Test.YtmnmaibhjhhakaaGreatDoorKEntry
namespace Go.Proofs.YtmnmaibhjhhakaaGreatDoor
open Go.ChangeShapes Go.WideShapes Go.ChangeAt Go.RowKit

theorem specLogF_as (s : ByteArray) (lx : List EnT) (p1 : Nat) (p2 : Int) (h : logR s = (lx, p1, p2)) (hs : s.size ≤ 1048576) (w : World) :
    Calls Tryz.prog 4 #[.string s] w fun e w' => ∃ v, e = .returned (.tuple #[v, .int .i64 (p1 : Int), .int .i64 p2]) ∧ entrySAt w' w.heap.size w'.heap.size v lx ∧ Below w.heap.size w w' := by
  refine (specLogF_any s hs w).mono ?_
  rintro e w' ⟨g, m, c, rfl, hl, hm, ho, hb⟩
  rw [h] at hl ho ⊢
  exact ⟨_, rfl, entrySAt.made hl (by omega) ho, hb⟩
theorem implLogF_as (s : ByteArray) (lx : List EnT) (p1 : Nat) (p2 : Int) (h : logR s = (lx, p1, p2)) (hs : s.size ≤ 1048576) (w : World) (a : Addr) (hS : Sent a w) (hM : MaxL w) (HT : HasTab w) (hE : HandE w) :
    Calls Tryz.prog 5 #[.string s] w fun e w' => ∃ v, e = .returned (.tuple #[v, .int .i64 (p1 : Int), .int .i64 p2]) ∧ entrySAt w' w.heap.size w'.heap.size v lx ∧ Below w.heap.size w w' := by
  refine (implLogF_any s hs w a hS hM HT hE).mono ?_
  rintro e w' ⟨g, m, c, rfl, hl, hm, ho, hb⟩
  rw [h] at hl ho ⊢
  exact ⟨_, rfl, entrySAt.made hl (by omega) ho, hb⟩
end Go.Proofs.YtmnmaibhjhhakaaGreatDoor
