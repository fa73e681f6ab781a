/-
  The heap of an ascending list of open positions: heapOf lays a copy of it. No condition.
-/
import Derived.Test.YtkianldpmlbgcaaHeapI
namespace Go.Proofs.Ytkianldpmlbgcaa
open Go.ChangeShapes Go.WideShapes Go.ChangeAt Go.RowKit

theorem owns_empty (w : World) : (w.alloc (.cells #[] 3)).ownsRow w.heap.size 3 1 (.slice (some ⟨w.heap.size, 0, none⟩) 0 0) 0 [] :=
  World.ownsRow_lit w #[] 0 (Nat.le_refl _) (by unfold maxLen; omega) rfl

theorem owns_some {w : World} {base : Nat} {e : TypeId} {size n : Nat} {v : Value} {xs : List Value} (h : w.ownsRow base e size v n xs) (hne : v ≠ .slice none 0 0) : ∃ g c, v = .slice (some ⟨g, 0, none⟩) n c ∧ base ≤ g ∧ g < w.heap.size := by
  obtain ⟨_, ⟨h1, _⟩ | ⟨g, c, cur, h1, h2, h3, _⟩⟩ := h
  · exact absurd h1 hne
  · exact ⟨g, c, h1, h2, (Array.getElem?_eq_some_iff.1 h3).1⟩

set_option maxRecDepth 8000 in
set_option maxHeartbeats 3200000 in
theorem heapOf_any (b o : Nat) (n c : Nat) (xs : List Int) (hn : n ≤ 1048576) (hx : xs.length = n) (ha : AscL xs) (w : World) (hL : Lies w 1 (some ⟨b, o, none⟩) n (xs.flatMap intCells)) :
    Calls Try.prog 43 #[.slice (some ⟨b, o, none⟩) n c] w fun e w' => ∃ h g c' : Nat, e = .returned (.pointer (some ⟨h, 0, none⟩)) ∧ w'.cell? ⟨h, 0, none⟩ = some (.slice (some ⟨g, 0, none⟩) n c') ∧ w'.ownsRow w.heap.size 3 1 (.slice (some ⟨g, 0, none⟩) n c') n (xs.flatMap intCells) ∧ g < h ∧ w.heap.size ≤ g ∧ Below w.heap.size w w' := by
  obtain ⟨i0, hi, hz0, hz1, hz2⟩ := info_parts infoInt
  have hz0' : i0.zero = some (.int .i64 0) := hz0
  have hcells : ∀ j u, (xs.flatMap intCells)[j]? = some u → (w.alloc (.cells #[] 3)).cell? ((⟨b, o, none⟩ : Addr).add j) = some u := by
    intro j u hu
    have hpos : 0 < n := by
      have := hL.1
      have hj := (List.getElem?_eq_some_iff.1 hu).1
      omega
    obtain ⟨b', o', e, _, hc⟩ := (hL.below (below_alloc (Below.refl _ w) (.cells #[] 3))).2 hpos
    cases e
    rw [add_plain]; exact hc j u hu
  have h1 : ∀ u ∈ xs.flatMap intCells, u.oneCell' = true := by rw [← int_map]; exact ints_oneCell _ _
  have hl : (xs.flatMap intCells).length = n * 1 := hL.1
  have HX := Lib.hid hx
  have HA := Lib.hid ha
  have HC := Lib.hid hcells
  have HH := Lib.hid h1
  have HI := Lib.hid hi
  have HZ0 := Lib.hid hz0'
  have HZ1 := Lib.hid hz1
  have HZ2 := Lib.hid hz2
  have HLl := Lib.hid hl
  clear hx ha hcells h1 hi hz0 hz0' hz1 hz2 hl hL
  go_enter Try.func43, Try.ntmps43
  go_wp2_with (at_builtin; refine wpList_append_own _ rfl _ _ 29 rfl w.heap.size 3 i0 (.int .i64 0) 1 8 Try.underlying29 HI.out HZ0.out HZ1.out HZ2.out rfl (by decide) _ 0 [] rfl (owns_empty w) ⟨b, o, none⟩ n c _ rfl HLl.out HC.out HH.out (by unfold maxLen; omega) (by omega) (by simp) ?_; intro v' w1 hown hgrow hnil; obtain ⟨g, cap, rfl, hg0, hg1⟩ := owns_some hown (fun hv => by cases (show Value.slice (some ⟨w.heap.size, 0, none⟩) 0 0 = Value.slice none 0 0 from (hnil.1 hv).1)); have hown' : w1.ownsRow w.heap.size 3 1 (.slice (some ⟨g, 0, none⟩) n cap) n (xs.flatMap intCells) := (by simpa using hown); have HO := Lib.hid hown'; have hgr : (w.alloc (.cells #[] 3)).grownBy w1 (some w.heap.size) := hgrow; have HG := Lib.hid hgr; clear hown hown' hgrow hnil hgr)
  have HP := Lib.hid (World.ownsRow.alloc HO.out (.cells #[.slice (some ⟨g, 0, none⟩) n cap] 78))
  have hcell : (w1.alloc (.cells #[.slice (some ⟨g, 0, none⟩) n cap] 78)).cell? ⟨w1.heap.size, 0, none⟩ = some (.slice (some ⟨g, 0, none⟩) n cap) := by go_cell
  refine (initAsc_any _ _ _ _ xs hn HX.out HA.out _ hcell (lies_of_own HP.out)).mono ?_
  rintro e1 w2 ⟨rfl, hb2⟩
  go_wp2
  go_ret
  have B1 : Below w.heap.size w w1 := (below_alloc (Below.refl _ w) (.cells #[] 3)).trans (only_below (B := w.heap.size) HG.out (by simp) (Nat.le_refl _))
  refine ⟨_, g, cap, rfl, box_cell hb2 hcell, ?_, hg1, hg0, ?_⟩
  · exact HP.out.kept (row := none) ⟨hb2.os, hb2.tape, hb2.output, hb2.size, fun k hk _ => hb2.block k hk⟩ (by simp [Value.ownBlock])
  · exact (by repeat' (first | (with_reducible exact Below.refl _ _) | (with_reducible assumption) | (with_reducible refine below_step (by assumption) ?_) | (with_reducible refine below_alloc ?_ _) | (with_reducible refine Below.drew ?_) | (with_reducible refine below_drewN ?_ _) | (with_reducible refine Below.setCell ?_ ?_ _) | go_size))
end Go.Proofs.Ytkianldpmlbgcaa
