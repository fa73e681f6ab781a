/-
  The names of a store: what the program's function returns. No condition beyond what the rows list.
-/
import Derived.Test.YtjloonjkplaplaaDoorNamesK
import Derived.Test.YtjloonjkplaplaaDoorIter
namespace Go.Proofs.YtjloonjkplaplaaDoor
open Go.ChangeShapes Go.WideShapes Go.ChangeAt Go.RowKit Go.Maps Go.Sort

theorem enc_cells (l : List (List UInt8)) : l.map encStr = (l.map ofBytes).flatMap strCells := by
  induction l with
  | nil => rfl
  | cons x l ih => rw [List.map_cons, List.map_cons, List.flatMap_cons, ih]; rfl
theorem size_le {w : World} {b : Nat} {xs : List EnT} {D : DataW Unit} {V : ByteArray → Value} (h : Streams w b xs D V) : Maps.size D ≤ xs.length := by
  obtain ⟨es, clock, hb, F, hs, rfl⟩ := h.owns
  simp only [Maps.size]
  rw [length_sorted]
  simpa using hs

set_option maxHeartbeats 6400000 in
theorem implNames_any (A : Option Addr) (n c : Nat) (xs : List EnT) (hn : n ≤ 1048576) (hx : xs.length = n) (hok : StOk xs) (w : World) (a : Addr) (hS : Sent a w) (hM : MaxL w) (hL : Lies w 4 A n (xs.flatMap entryCells)) :
    Calls Tryd.prog 23 #[.slice A n c] w fun e w' => ∃ v, e = .returned v ∧ w'.ownsRow w.heap.size 9 1 v (storeNames xs).length ((storeNames xs).flatMap strCells) ∧ Below w.heap.size w w' := by
  have HX := Lib.hid hx
  have HL := Lib.hid hL
  clear hx hL
  cases E1 : storeB xs
  · have HE := Lib.hid (show storeNames xs = [] by unfold storeNames; rw [E1]; rfl)
    go_enter Tryd.func23, Tryd.ntmps23
    go_wp2_with fail
    refine (implStore_any A n c xs hn HX.out hok.small hok.ints _ a hS hM HL.out).mono ?_
    rintro e1 w1 ⟨rfl, hb1⟩
    rw [E1]
    go_wp2
    go_ret
    exact ⟨_, rfl, by rw [HE.out]; exact owns_nil' _ _ rfl hb1.size, (by repeat' (first | (with_reducible exact Below.refl _ _) | (with_reducible assumption) | (with_reducible refine below_step (by assumption) ?_) | (with_reducible refine below_alloc ?_ _) | (with_reducible refine Below.drew ?_) | (with_reducible refine below_drewN ?_ _) | (with_reducible refine Below.setCell ?_ ?_ _) | go_size))⟩
  have HE := Lib.hid (show storeNames xs = namesOf (xs.map (·.1)) by unfold storeNames; rw [E1]; rfl)
  go_enter Tryd.func23, Tryd.ntmps23
  go_wp2_with fail
  refine (implStore_any A n c xs hn HX.out hok.small hok.ints _ a hS hM HL.out).mono ?_
  rintro e1 w1 ⟨rfl, hb1⟩
  rw [E1]
  have HL1 := Lib.hid (HL.out.below hb1)
  go_wp2_with fail
  refine (streamsOf_any A n c xs hn HX.out hok.names _ HL1.out).mono ?_
  rintro e3 w3 ⟨b, D, V, rfl, hSt, _, hb3⟩
  have HSt := Lib.hid hSt
  have hsz := size_le hSt
  have hsz2 : Maps.size D ≤ 1048576 := by have := HX.out; omega
  have B3 : Below w.heap.size w w3 := below_step hb3 hb1
  clear hSt hsz
  go_wp2_with fail
  refine ((callsIn_wide (n := 5)).1 (Tryd.maps_Keys_53 (some b) _)).mono ?_
  rintro e4 w4 ⟨rfl, rfl⟩
  go_wp2_with fail
  refine ((callsIn_wide (n := 5)).1 (Tryd.slices_Sorted_keys_52_53 b xs.length D encV w3 HSt.out.owns (by unfold maxLen; omega) (by omega))).mono ?_
  rintro e5 w5 ⟨v, ss, rfl, hS5, hrow, _, hb5⟩
  have hk := keys_names HSt.out hS5
  have B4 : Below w.heap.size w (w3.alloc (.cells #[.map (some b)] 60)) := below_alloc B3 _
  have HO := Lib.hid (show w5.ownsRow w.heap.size 9 1 v (storeNames xs).length ((storeNames xs).flatMap strCells) by
    have h := ownsRow_base hrow B4.size
    rw [enc_cells, hk, ← HE.out] at h
    have hl : ss.length = (storeNames xs).length := by
      have e := congrArg List.length hk
      rw [List.length_map, (List.mergeSort_perm ss _).length_eq] at e
      rw [HE.out]; exact e
    rw [hl] at h
    exact h)
  clear hrow hk hS5
  go_wp2
  go_ret
  exact ⟨v, rfl, HO.out, below_step hb5 B4⟩
end Go.Proofs.YtjloonjkplaplaaDoor
