/-
  Row: the laws' copies of one and of a slice. For every readable one. No condition.
-/
import Derived.Test.YtkianldpmlbgcaaTRow
namespace Go.Proofs.Ytkianldpmlbgcaa
open Go.ChangeShapes Go.WideShapes Go.ChangeAt Go.RowKit

set_option maxHeartbeats 1600000 in
theorem toRow_any (x : ByteArray) (A : Option Addr) (n c : Nat) (zs : List Int) (hn : n ≤ 1048576) (hx : zs.length = n) (w : World) (hL : Lies w 1 A n (zs.flatMap intCells)) :
    Calls Try.prog 34 #[.agg #[.string x, .slice A n c]] w fun e w' => ∃ g, e = .returned (.agg #[.string x, .slice (some ⟨g, 0, none⟩) n n]) ∧ w'.ownsRow w.heap.size 3 1 (.slice (some ⟨g, 0, none⟩) n n) n (zs.flatMap intCells) ∧ Below w.heap.size w w' := by
  have HX := Lib.hid hx
  have HL := Lib.hid hL
  clear hx hL
  go_enter Try.func34, Try.ntmps34
  go_wp2_with fail
  refine (toIntS_any A n c zs hn HX.out _ (HL.out.below (by repeat' (first | (with_reducible exact Below.refl _ _) | (with_reducible assumption) | (with_reducible refine below_step (by assumption) ?_) | (with_reducible refine below_alloc ?_ _) | (with_reducible refine Below.drew ?_) | (with_reducible refine below_drewN ?_ _) | (with_reducible refine Below.setCell ?_ ?_ _) | go_size)))).mono ?_
  rintro e1 w1 ⟨g, rfl, o1, b1⟩
  have HO := Lib.hid o1
  clear o1
  have hg := HO.out.lt g (by simp [Value.ownBlock])
  have hg1 : w.heap.size + 3 ≤ g := by simpa using hg.1
  have r0 := box_cell b1 (b := w.heap.size + 1 + 1) (o := 0) (u := .string x) (by go_cell)
  have r1 := box_cell b1 (b := w.heap.size + 1 + 1) (o := 1) (u := .slice none 0 0) (by go_cell)
  have q0 := box_cell b1 (b := w.heap.size + 1) (o := 0) (u := .string ⟨#[]⟩) (by go_cell)
  have q1 := box_cell b1 (b := w.heap.size + 1) (o := 1) (u := .slice none 0 0) (by go_cell)
  have f1 : w1.frozen? ⟨w.heap.size + 1 + 1, 1, none⟩ = false := (b1.frozen (p := ⟨w.heap.size + 1 + 1, 1, none⟩) (by simp)).trans (by simp [go_sem])
  have f2 : w1.frozen? ⟨w.heap.size + 1, 0, none⟩ = false := (b1.frozen (p := ⟨w.heap.size + 1, 0, none⟩) (by simp)).trans (by simp [go_sem])
  have f3 : w1.frozen? ⟨w.heap.size + 1, 1, none⟩ = false := (b1.frozen (p := ⟨w.heap.size + 1, 1, none⟩) (by simp)).trans (by simp [go_sem])
  have hs := b1.size
  clear hg
  go_wp2
  refine bodyPost_ret (v := .agg #[.string x, .slice (some ⟨g, 0, none⟩) n n]) (by simp [results, Try.results34, go_sem, q0, q1]) rfl ?_
  refine ⟨g, rfl, ?_, ?_⟩
  · have h := HO.out
    repeat' (first | exact ownsRow_base h (by simp; omega) | (refine ownsRow_other ?_ (by simp; omega) _))
  · simp only [World.size_alloc] at hs
    refine Below.setCell (Below.setCell (Below.setCell (below_step b1 (by repeat' (first | (with_reducible exact Below.refl _ _) | (with_reducible assumption) | (with_reducible refine below_step (by assumption) ?_) | (with_reducible refine below_alloc ?_ _) | (with_reducible refine Below.drew ?_) | (with_reducible refine below_drewN ?_ _) | (with_reducible refine Below.setCell ?_ ?_ _) | go_size))) ?_ _) ?_ _) ?_ _ <;> go_size
end Go.Proofs.Ytkianldpmlbgcaa
