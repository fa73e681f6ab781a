/-
  Row: equality of two slices of the same texts and numbers. No condition.
-/
import Derived.Test.YtkianldpmlbgcaaERow
namespace Go.Proofs.Ytkianldpmlbgcaa
open Go.ChangeShapes Go.WideShapes Go.ChangeAt Go.RowKit

set_option maxHeartbeats 3200000 in
theorem eqRowS_same (A B : Option Addr) (n c d : Nat) (xs ys : List RowX) (hn : n ≤ 1048576) (hx : xs.length = n) (hy : ys.length = n) (hv : xs.map rowVal = ys.map rowVal) (w : World) (ox : ∀ x ∈ xs, RowOk w x ∧ RowFit x) (oy : ∀ y ∈ ys, RowOk w y) (hL : Lies w 2 A n (xs.flatMap rowCells)) (hM : Lies w 2 B n (ys.flatMap rowCells)) :
    Calls Try.prog 12 #[.slice A n c, .slice B n d] w fun e w' => e = .returned (.bool true) ∧ Below w.heap.size w w' := by
  have HV := Lib.hid hv
  have OX := Lib.hid ox
  have OY := Lib.hid oy
  clear hv ox oy
  go_enter Try.func12, Try.ntmps12
  go_wp2
  go_loopw [5] (fun i wr => ∃ k : Nat, k ≤ n ∧ i = .int .i64 k ∧ Below w.heap.size w wr) (fun i _ => n - (intOf i).toNat)
  case atStart => exact ⟨0, Nat.zero_le _, rfl, Below.refl _ _⟩
  case round =>
    obtain ⟨k, hk, rfl, hB⟩ := hrel
    by_cases hlt : k < n
    · obtain ⟨b, o, rfl, hb, hc⟩ := (hL.below hB).row (fun _ => rfl) (by omega)
      obtain ⟨x, hxk⟩ := get_lt hx hlt
      obtain ⟨b', o', rfl, hb', hc'⟩ := (hM.below hB).row (fun _ => rfl) (by omega)
      obtain ⟨y, hyk⟩ := get_lt hy hlt
      have c0 : wr.cell? ⟨b, o + k * 2, none⟩ = some (.string x.key) := hc k _ hxk 0 _ rfl
      have c1 : wr.cell? ⟨b, o + k * 2 + 1, none⟩ = some (.slice x.A x.n x.c) := hc k _ hxk 1 _ rfl
      have d0 : wr.cell? ⟨b', o' + k * 2, none⟩ = some (.string y.key) := hc' k _ hyk 0 _ rfl
      have d1 : wr.cell? ⟨b', o' + k * 2 + 1, none⟩ = some (.slice y.A y.n y.c) := hc' k _ hyk 1 _ rfl
      have KX := Lib.hid ((OX.out _ (List.mem_of_getElem? hxk)).1.below hB)
      have FX := Lib.hid (OX.out _ (List.mem_of_getElem? hxk)).2
      have KY := Lib.hid ((OY.out _ (List.mem_of_getElem? hyk)).below hB)
      have E : decide (rowVal x = rowVal y) = true := decide_eq_true (by
        have h := congrArg (fun l : List (ByteArray × List Int) => l[k]?) HV.out
        simp only [List.getElem?_map, hxk, hyk, Option.map_some, Option.some.injEq] at h
        exact h)
      clear hxk hc hyk hc'
      have R0 := After.cell c0
      have R1 := After.cell c1
      have R2 := After.cell d0
      have R3 := After.cell d1
      go_wp2_with fail
      refine wp_region_after (by kernel_rfl) (by kernel_rfl) ?_
      repeat (go_big_quiet_step (((go_at_call 36; exact after_bool E (eqRow_any x y _ (KX.out.below (After.h _)) FX.out (KY.out.below (After.h _)))))))
      refine wpQuiet_nil ?_
      intro wn hw'
      have hwn := after_below hw'
      clear hw'
      go_wp2
      go_roundw
      case rel => exact ⟨k + 1, by omega, by go_num, (by repeat' (first | (with_reducible exact Below.refl _ _) | (with_reducible assumption) | (with_reducible refine below_step (by assumption) ?_) | (with_reducible refine below_alloc ?_ _) | (with_reducible refine Below.drew ?_) | (with_reducible refine below_drewN ?_ _) | (with_reducible refine Below.setCell ?_ ?_ _) | go_size))⟩
      case measure => simp [intOf]; omega
    · go_wp2
      go_ret
      exact ⟨rfl, (by repeat' (first | (with_reducible exact Below.refl _ _) | (with_reducible assumption) | (with_reducible refine below_step (by assumption) ?_) | (with_reducible refine below_alloc ?_ _) | (with_reducible refine Below.drew ?_) | (with_reducible refine below_drewN ?_ _) | (with_reducible refine Below.setCell ?_ ?_ _) | go_size))⟩
end Go.Proofs.Ytkianldpmlbgcaa
