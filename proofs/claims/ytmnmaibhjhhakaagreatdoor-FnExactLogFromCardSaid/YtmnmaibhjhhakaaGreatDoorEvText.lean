/-
  An event as a text: what the program's text and the reference's l1Text return. No condition beyond the library's table.
-/
import Derived.Test.YtmnmaibhjhhakaaGreatDoorTab
import Derived.Test.YtmnmaibhjhhakaaGreatDoorBunN
import Derived.Test.YtmnmaibhjhhakaaGreatDoorEvent
namespace Go.Proofs.YtmnmaibhjhhakaaGreatDoor
open Go.ChangeShapes Go.WideShapes Go.ChangeAt Go.RowKit

/-- The text of an event. -/
def textE (id : Int) (k : ByteArray) (d : Int) : ByteArray := decS id ++ ⟨#[32]⟩ ++ k ++ ⟨#[32]⟩ ++ decS d

set_option maxHeartbeats 1600000 in
theorem l1Text_any (id : Int) (k : ByteArray) (d : Int) (hk : k.size ≤ 6) (i0 : 0 ≤ id) (i1 : id ≤ 9223372036854775807) (d0 : 0 ≤ d) (d1 : d ≤ 9223372036854775807) (w : World) :
    Calls Tryz.prog 52 #[.agg #[.int .i64 id, .string k, .int .i64 d]] w fun e w' => e = .returned (.string (textE id k d)) ∧ Below w.heap.size w w' := by
  have z1 := decS_size id i0 i1
  have z2 := decS_size d d0 d1
  go_enter Tryz.func52, Tryz.ntmps52
  go_wp2_with fail
  have c0 : (w.alloc (Obj.cells #[Value.int IntKind.i64 id, Value.string k, Value.int IntKind.i64 d] 30)).cell? ⟨w.heap.size, 0, none⟩ = some (.int .i64 id) := by go_cell
  have c1 : (w.alloc (Obj.cells #[Value.int IntKind.i64 id, Value.string k, Value.int IntKind.i64 d] 30)).cell? ⟨w.heap.size, 1, none⟩ = some (.string k) := by go_cell
  have c2 : (w.alloc (Obj.cells #[Value.int IntKind.i64 id, Value.string k, Value.int IntKind.i64 d] 30)).cell? ⟨w.heap.size, 2, none⟩ = some (.int .i64 d) := by go_cell
  have R0 := After.cell c0
  have R1 := After.cell c1
  have R2 := After.cell c2
  refine wp_region_after (by kernel_rfl) (by kernel_rfl) ?_
  repeat (go_big_quiet_step ((first | (go_at_call_of 53 (Value.int IntKind.i64 id); exact after_call (l6Dec_any id i0 i1 _)) | (go_at_call_of 53 (Value.int IntKind.i64 d); exact after_call (l6Dec_any d d0 d1 _)))))
  refine wpQuiet_nil ?_
  intro wn hw'
  have hwn := after_below hw'
  clear hw'
  go_wp2
  go_ret
  exact ⟨rfl, (by repeat' (first | (with_reducible exact Below.refl _ _) | (with_reducible assumption) | (with_reducible refine below_step (by assumption) ?_) | (with_reducible refine below_alloc ?_ _) | (with_reducible refine Below.drew ?_) | (with_reducible refine below_drewN ?_ _) | (with_reducible refine Below.setCell ?_ ?_ _) | go_size))⟩

set_option maxHeartbeats 1600000 in
theorem eventText_any (id : Int) (k : ByteArray) (d : Int) (hk : k.size ≤ 6) (i0 : 0 ≤ id) (i1 : id ≤ 9223372036854775807) (d0 : 0 ≤ d) (d1 : d ≤ 9223372036854775807) (w : World) (HT : HasTab w) :
    Calls Tryz.prog 62 #[.agg #[.int .i64 id, .string k, .int .i64 d]] w fun e w' => e = .returned (.string (textE id k d)) ∧ Below w.heap.size w w' := by
  have z1 := decS_size id i0 i1
  have z2 := decS_size d d0 d1
  go_enter Tryz.func62, Tryz.ntmps62
  go_wp2_with fail
  have c0 : (w.alloc (Obj.cells #[Value.int IntKind.i64 id, Value.string k, Value.int IntKind.i64 d] 30)).cell? ⟨w.heap.size, 0, none⟩ = some (.int .i64 id) := by go_cell
  have c1 : (w.alloc (Obj.cells #[Value.int IntKind.i64 id, Value.string k, Value.int IntKind.i64 d] 30)).cell? ⟨w.heap.size, 1, none⟩ = some (.string k) := by go_cell
  have c2 : (w.alloc (Obj.cells #[Value.int IntKind.i64 id, Value.string k, Value.int IntKind.i64 d] 30)).cell? ⟨w.heap.size, 2, none⟩ = some (.int .i64 d) := by go_cell
  have R0 := After.cell c0
  have R1 := After.cell c1
  have R2 := After.cell c2
  have HT' : HasTab (w.alloc (Obj.cells #[Value.int IntKind.i64 id, Value.string k, Value.int IntKind.i64 d] 30)) := HT.below (below_alloc (Below.refl _ _) _) (Nat.le_refl _)
  refine wp_region_after (by kernel_rfl) (by kernel_rfl) ?_
  repeat (go_big_quiet_step ((first | (go_at_call_of 46 (Value.int IntKind.i64 id); exact after_call (itoa_any id i0 i1 _ (HT'.below (After.h _) (Nat.le_refl _)))) | (go_at_call_of 46 (Value.int IntKind.i64 d); exact after_call (itoa_any d d0 d1 _ (HT'.below (After.h _) (Nat.le_refl _)))))))
  refine wpQuiet_nil ?_
  intro wn hw'
  have hwn := after_below hw'
  clear hw'
  go_wp2
  go_ret
  exact ⟨rfl, (by repeat' (first | (with_reducible exact Below.refl _ _) | (with_reducible assumption) | (with_reducible refine below_step (by assumption) ?_) | (with_reducible refine below_alloc ?_ _) | (with_reducible refine Below.drew ?_) | (with_reducible refine below_drewN ?_ _) | (with_reducible refine Below.setCell ?_ ?_ _) | go_size))⟩
end Go.Proofs.YtmnmaibhjhhakaaGreatDoor
