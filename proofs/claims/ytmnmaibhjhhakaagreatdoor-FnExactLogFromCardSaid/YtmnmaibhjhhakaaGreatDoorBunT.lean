/-
  The texts TEvent TEventS TEntry TEntryS EEvent EEntry as one. No condition beyond what the rows list.
-/
import Derived.Test.YtmnmaibhjhhakaaGreatDoorMade
import Derived.Test.YtmnmaibhjhhakaaGreatDoorSz
import Derived.WalkSpells
import Derived.WalkLawsBesides
import Derived.Deep.RegionHeld3
/-
  Event: its cells, the laws' copies, counts and equality. For every readable one. No condition.
-/
namespace Go.Proofs.YtmnmaibhjhhakaaGreatDoor
open Go.ChangeShapes Go.WideShapes Go.ChangeAt Go.RowKit

def eventCells (x : Int × ByteArray × Int) : List Value := [.int .i64 x.1, .string x.2.1, .int .i64 x.2.2]
def eventOk (x : Int × ByteArray × Int) : Prop := IntOk (x.1) ∧ StrOk (x.2.1) ∧ IntOk (x.2.2)
theorem eventDec (w : World) : ∀ row, CellsAre w [0, 1, 0] row → ∃ x, row = eventCells x ∧ eventOk x := by
  intro row h
  have hl := h.length
  match row, hl with
  | [_, _, _], _ =>
    obtain ⟨⟨x0, rfl, o0⟩, ⟨x1, rfl, o1⟩, ⟨x2, rfl, o2⟩, _⟩ := h
    exact ⟨(x0, x1, x2), rfl, o0, o1, o2⟩

end Go.Proofs.YtmnmaibhjhhakaaGreatDoor

/-
  Slices of Event: the laws' copy and count. For every readable slice. No condition.
-/
namespace Go.Proofs.YtmnmaibhjhhakaaGreatDoor
open Go.ChangeShapes Go.WideShapes Go.ChangeAt Go.RowKit

theorem infoEvent : (Tryz.prog.info? 30).map (fun i => (i.zero, i.size, i.bytes)) = some (some (.agg #[.int .i64 0, .string ByteArray.empty, .int .i64 0]), 3, 32) := by kernel_rfl

def eventTexts (x : Int × ByteArray × Int) : List ByteArray := [x.2.1]
end Go.Proofs.YtmnmaibhjhhakaaGreatDoor

/-
  Entry: its cells, the laws' copies, counts and equality. For every readable one. No condition.
-/
namespace Go.Proofs.YtmnmaibhjhhakaaGreatDoor
open Go.ChangeShapes Go.WideShapes Go.ChangeAt Go.RowKit

def entryCells (x : ByteArray × Int × ByteArray × Int) : List Value := [.string x.1, .int .i64 x.2.1, .string x.2.2.1, .int .i64 x.2.2.2]
def entryOk (x : ByteArray × Int × ByteArray × Int) : Prop := StrOk (x.1) ∧ IntOk (x.2.1) ∧ StrOk (x.2.2.1) ∧ IntOk (x.2.2.2)
theorem entryDec (w : World) : ∀ row, CellsAre w [1, 0, 1, 0] row → ∃ x, row = entryCells x ∧ entryOk x := by
  intro row h
  have hl := h.length
  match row, hl with
  | [_, _, _, _], _ =>
    obtain ⟨⟨x0, rfl, o0⟩, ⟨x1, rfl, o1⟩, ⟨x2, rfl, o2⟩, ⟨x3, rfl, o3⟩, _⟩ := h
    exact ⟨(x0, x1, x2, x3), rfl, o0, o1, o2, o3⟩

end Go.Proofs.YtmnmaibhjhhakaaGreatDoor

/-
  Slices of Entry: the laws' copy and count. For every readable slice. No condition.
-/
namespace Go.Proofs.YtmnmaibhjhhakaaGreatDoor
open Go.ChangeShapes Go.WideShapes Go.ChangeAt Go.RowKit

theorem infoEntry : (Tryz.prog.info? 32).map (fun i => (i.zero, i.size, i.bytes)) = some (some (.agg #[.string ByteArray.empty, .int .i64 0, .string ByteArray.empty, .int .i64 0]), 4, 48) := by kernel_rfl

def entryTexts (x : ByteArray × Int × ByteArray × Int) : List ByteArray := [x.1, x.2.2.1]
end Go.Proofs.YtmnmaibhjhhakaaGreatDoor

/-
  Event: equality of one and of slices, as the laws ask it. No condition.
-/
namespace Go.Proofs.YtmnmaibhjhhakaaGreatDoor
open Go.ChangeShapes Go.WideShapes Go.ChangeAt Go.RowKit

theorem eqEvent_any (x y : Int × ByteArray × Int) (w : World) :
    Calls Tryz.prog 33 #[.agg #[.int .i64 x.1, .string x.2.1, .int .i64 x.2.2], .agg #[.int .i64 y.1, .string y.2.1, .int .i64 y.2.2]] w fun e w' => e = .returned (.bool (decide (x = y))) ∧ Below w.heap.size w w' := by
  obtain ⟨x0, x1, x2⟩ := x
  obtain ⟨y0, y1, y2⟩ := y
  by_cases h0 : x0 = y0
  · by_cases h1 : x1 = y1
    · by_cases h2 : x2 = y2
      · have e := Lib.hid (show decide ((x0, x1, x2) = (y0, y1, y2)) = true from by simp [h0, h1, h2])
        have n0 : (x0 != y0) = false := by simp [h0]
        have m1 : (x1.toList == y1.toList) = true := by simp [h1]
        have n2 : (x2 != y2) = false := by simp [h2]
        clear h0 h1 h2
        go_enter Tryz.func33, Tryz.ntmps33
        go_wp2
        go_ret
        exact ⟨ret_bool (by first | exact e.out.symm | (rw [e.out]; simp; omega)), by go_grown⟩
      · have e := Lib.hid (show decide ((x0, x1, x2) = (y0, y1, y2)) = false from by simp [h2])
        have n0 : (x0 != y0) = false := by simp [h0]
        have m1 : (x1.toList == y1.toList) = true := by simp [h1]
        have n2 : (x2 != y2) = true := by simp [h2]
        clear h0 h1 h2
        go_enter Tryz.func33, Tryz.ntmps33
        go_wp2
        go_ret
        exact ⟨ret_bool (by first | exact e.out.symm | (rw [e.out]; simp; omega)), by go_grown⟩
    · have e := Lib.hid (show decide ((x0, x1, x2) = (y0, y1, y2)) = false from by simp [h1])
      have n0 : (x0 != y0) = false := by simp [h0]
      have m1 : (x1.toList == y1.toList) = false := str_ne h1
      clear h0 h1
      go_enter Tryz.func33, Tryz.ntmps33
      go_wp2
      go_ret
      exact ⟨ret_bool (by first | exact e.out.symm | (rw [e.out]; simp; omega)), by go_grown⟩
  · have e := Lib.hid (show decide ((x0, x1, x2) = (y0, y1, y2)) = false from by simp [h0])
    have n0 : (x0 != y0) = true := by simp [h0]
    clear h0
    go_enter Tryz.func33, Tryz.ntmps33
    go_wp2
    go_ret
    exact ⟨ret_bool (by first | exact e.out.symm | (rw [e.out]; simp; omega)), by go_grown⟩

end Go.Proofs.YtmnmaibhjhhakaaGreatDoor

/-
  Entry: equality of one and of slices, as the laws ask it. No condition.
-/
namespace Go.Proofs.YtmnmaibhjhhakaaGreatDoor
open Go.ChangeShapes Go.WideShapes Go.ChangeAt Go.RowKit

theorem eqEntry_any (x y : ByteArray × Int × ByteArray × Int) (w : World) :
    Calls Tryz.prog 17 #[.agg #[.string x.1, .int .i64 x.2.1, .string x.2.2.1, .int .i64 x.2.2.2], .agg #[.string y.1, .int .i64 y.2.1, .string y.2.2.1, .int .i64 y.2.2.2]] w fun e w' => e = .returned (.bool (decide (x = y))) ∧ Below w.heap.size w w' := by
  obtain ⟨x0, x1, x2, x3⟩ := x
  obtain ⟨y0, y1, y2, y3⟩ := y
  by_cases h0 : x0 = y0
  · have m0 : (x0.toList == y0.toList) = true := by simp [h0]
    by_cases h1 : (x1, x2, x3) = (y1, y2, y3)
    · have E : decide ((x1, x2, x3) = (y1, y2, y3)) = true := by simp only [h1, decide_true]
      have e := Lib.hid (show decide ((x0, x1, x2, x3) = (y0, y1, y2, y3)) = true from by rw [h0]; simpa using h1)
      clear h0 h1
      go_enter Tryz.func17, Tryz.ntmps17
      go_wp2_with fail
      refine (eqEvent_any (x1, x2, x3) (y1, y2, y3) _).mono ?_
      rintro e1 w1 ⟨rfl, hb1⟩
      rw [E]
      go_wp2
      go_ret
      exact ⟨ret_bool (by first | exact e.out.symm | (rw [e.out]; simp; omega)), (by repeat' (first | (with_reducible exact Below.refl _ _) | (with_reducible assumption) | (with_reducible refine below_step (by assumption) ?_) | (with_reducible refine below_alloc ?_ _) | (with_reducible refine Below.drew ?_) | (with_reducible refine below_drewN ?_ _) | (with_reducible refine Below.setCell ?_ ?_ _) | go_size))⟩
    · have E : decide ((x1, x2, x3) = (y1, y2, y3)) = false := by simp only [h1, decide_false]
      have e := Lib.hid (show decide ((x0, x1, x2, x3) = (y0, y1, y2, y3)) = false from by simp only [decide_eq_false_iff_not]; intro h; exact h1 (by simpa using (Prod.mk.inj h).2))
      clear h0 h1
      go_enter Tryz.func17, Tryz.ntmps17
      go_wp2_with fail
      refine (eqEvent_any (x1, x2, x3) (y1, y2, y3) _).mono ?_
      rintro e1 w1 ⟨rfl, hb1⟩
      rw [E]
      go_wp2
      go_ret
      exact ⟨ret_bool (by first | exact e.out.symm | (rw [e.out]; simp; omega)), (by repeat' (first | (with_reducible exact Below.refl _ _) | (with_reducible assumption) | (with_reducible refine below_step (by assumption) ?_) | (with_reducible refine below_alloc ?_ _) | (with_reducible refine Below.drew ?_) | (with_reducible refine below_drewN ?_ _) | (with_reducible refine Below.setCell ?_ ?_ _) | go_size))⟩
  · have m0 : (x0.toList == y0.toList) = false := str_ne h0
    have e := Lib.hid (show decide ((x0, x1, x2, x3) = (y0, y1, y2, y3)) = false from by simp [h0])
    clear h0
    go_enter Tryz.func17, Tryz.ntmps17
    go_wp2
    go_ret
    exact ⟨ret_bool (by first | exact e.out.symm | (rw [e.out]; simp; omega)), by go_grown⟩

set_option maxHeartbeats 3200000 in
theorem eqEntryS_any (A B : Option Addr) (n c m d : Nat) (xs ys : List (ByteArray × Int × ByteArray × Int)) (hn : n ≤ 1048576) (hx : xs.length = n) (hy : ys.length = m) (w : World) (hL : Lies w 4 A n (xs.flatMap entryCells)) (hM : Lies w 4 B m (ys.flatMap entryCells)) :
    Calls Tryz.prog 6 #[.slice A n c, .slice B m d] w fun e w' => e = .returned (.bool (decide (xs = ys))) ∧ Below w.heap.size w w' := by
  by_cases hnm : n = m
  · subst hnm
    go_enter Tryz.func6, Tryz.ntmps6
    go_wp2
    go_loopw [5] (fun i wr => ∃ k : Nat, k ≤ n ∧ i = .int .i64 k ∧ Hid (xs.take k = ys.take k) ∧ Below w.heap.size w wr) (fun i _ => n - (intOf i).toNat)
    case atStart => exact ⟨0, Nat.zero_le _, rfl, by unfold Hid; rfl, Below.refl _ _⟩
    case round =>
      obtain ⟨k, hk, rfl, hT, hB⟩ := hrel
      by_cases hlt : k < n
      · obtain ⟨b, o, rfl, hb, hc⟩ := (hL.below hB).row (fun _ => rfl) (by omega)
        obtain ⟨⟨x0, x1, x2, x3⟩, hxk⟩ := get_lt hx hlt
        obtain ⟨b', o', rfl, hb', hc'⟩ := (hM.below hB).row (fun _ => rfl) (by omega)
        obtain ⟨⟨y0, y1, y2, y3⟩, hyk⟩ := get_lt hy hlt
        have c0 : wr.cell? ⟨b, o + k * 4, none⟩ = some (.string x0) := hc k _ hxk 0 _ rfl
        have c1 : wr.cell? ⟨b, o + k * 4 + 1, none⟩ = some (.int .i64 x1) := hc k _ hxk 1 _ rfl
        have c2 : wr.cell? ⟨b, o + k * 4 + 2, none⟩ = some (.string x2) := hc k _ hxk 2 _ rfl
        have c3 : wr.cell? ⟨b, o + k * 4 + 3, none⟩ = some (.int .i64 x3) := hc k _ hxk 3 _ rfl
        have d0 : wr.cell? ⟨b', o' + k * 4, none⟩ = some (.string y0) := hc' k _ hyk 0 _ rfl
        have d1 : wr.cell? ⟨b', o' + k * 4 + 1, none⟩ = some (.int .i64 y1) := hc' k _ hyk 1 _ rfl
        have d2 : wr.cell? ⟨b', o' + k * 4 + 2, none⟩ = some (.string y2) := hc' k _ hyk 2 _ rfl
        have d3 : wr.cell? ⟨b', o' + k * 4 + 3, none⟩ = some (.int .i64 y3) := hc' k _ hyk 3 _ rfl
        have HX := Lib.hid hxk
        have HY := Lib.hid hyk
        clear hxk hc hyk hc'
        by_cases he : (x0, x1, x2, x3) = (y0, y1, y2, y3)
        · have E : decide ((x0, x1, x2, x3) = (y0, y1, y2, y3)) = true := by simp only [he, decide_true]
          have HE : Hid (xs.take (k + 1) = ys.take (k + 1)) := Lib.hid (by rw [take_succ_of HX.out, take_succ_of HY.out, hT.out, he])
          clear he
          go_wp2_with fail
          go_region_held3 (fun wx => wx.cell? ⟨b, o + k * 4, none⟩ = some (.string x0) ∧ wx.cell? ⟨b, o + k * 4 + 1, none⟩ = some (.int .i64 x1) ∧ wx.cell? ⟨b, o + k * 4 + 2, none⟩ = some (.string x2) ∧ wx.cell? ⟨b, o + k * 4 + 3, none⟩ = some (.int .i64 x3) ∧ wx.cell? ⟨b', o' + k * 4, none⟩ = some (.string y0) ∧ wx.cell? ⟨b', o' + k * 4 + 1, none⟩ = some (.int .i64 y1) ∧ wx.cell? ⟨b', o' + k * 4 + 2, none⟩ = some (.string y2) ∧ wx.cell? ⟨b', o' + k * 4 + 3, none⟩ = some (.int .i64 y3)) ((go_split_ands; refine ⟨?_, ?_, ?_, ?_, ?_, ?_, ?_, ?_⟩ <;> first | assumption | (refine box_cell (by assumption) ?_; assumption)))
            (first | (go_at_call 17; refine (eqEntry_any (x0, x1, x2, x3) (y0, y1, y2, y3) _).mono ?_; rintro e1 w1 ⟨rfl, hb1⟩; rw [E]))
          go_wp2
          go_roundw
          case rel => exact ⟨k + 1, by omega, by go_num, HE, (by repeat' (first | (with_reducible exact Below.refl _ _) | (with_reducible assumption) | (with_reducible refine below_step (by assumption) ?_) | (with_reducible refine below_alloc ?_ _) | (with_reducible refine Below.drew ?_) | (with_reducible refine below_drewN ?_ _) | (with_reducible refine Below.setCell ?_ ?_ _) | go_size))⟩
          case measure => simp [intOf]; omega
        · have E : decide ((x0, x1, x2, x3) = (y0, y1, y2, y3)) = false := by simp only [he, decide_false]
          have HE : Hid (decide (xs = ys) = false) := Lib.hid (by simp only [ne_of_get HX.out HY.out he, decide_false])
          clear he
          go_wp2_with fail
          go_region_held3 (fun wx => wx.cell? ⟨b, o + k * 4, none⟩ = some (.string x0) ∧ wx.cell? ⟨b, o + k * 4 + 1, none⟩ = some (.int .i64 x1) ∧ wx.cell? ⟨b, o + k * 4 + 2, none⟩ = some (.string x2) ∧ wx.cell? ⟨b, o + k * 4 + 3, none⟩ = some (.int .i64 x3) ∧ wx.cell? ⟨b', o' + k * 4, none⟩ = some (.string y0) ∧ wx.cell? ⟨b', o' + k * 4 + 1, none⟩ = some (.int .i64 y1) ∧ wx.cell? ⟨b', o' + k * 4 + 2, none⟩ = some (.string y2) ∧ wx.cell? ⟨b', o' + k * 4 + 3, none⟩ = some (.int .i64 y3)) ((go_split_ands; refine ⟨?_, ?_, ?_, ?_, ?_, ?_, ?_, ?_⟩ <;> first | assumption | (refine box_cell (by assumption) ?_; assumption)))
            (first | (go_at_call 17; refine (eqEntry_any (x0, x1, x2, x3) (y0, y1, y2, y3) _).mono ?_; rintro e1 w1 ⟨rfl, hb1⟩; rw [E]))
          go_wp2
          go_ret
          exact ⟨ret_bool HE.out.symm, (by repeat' (first | (with_reducible exact Below.refl _ _) | (with_reducible assumption) | (with_reducible refine below_step (by assumption) ?_) | (with_reducible refine below_alloc ?_ _) | (with_reducible refine Below.drew ?_) | (with_reducible refine below_drewN ?_ _) | (with_reducible refine Below.setCell ?_ ?_ _) | go_size))⟩
      · have HE : Hid (decide (xs = ys) = true) := Lib.hid (by
          have h := hT.out
          rw [List.take_of_length_le (by omega), List.take_of_length_le (by omega)] at h
          simp only [h, decide_true])
        go_wp2
        go_ret
        exact ⟨ret_bool HE.out.symm, (by repeat' (first | (with_reducible exact Below.refl _ _) | (with_reducible assumption) | (with_reducible refine below_step (by assumption) ?_) | (with_reducible refine below_alloc ?_ _) | (with_reducible refine Below.drew ?_) | (with_reducible refine below_drewN ?_ _) | (with_reducible refine Below.setCell ?_ ?_ _) | go_size))⟩
  · have HE : Hid (decide (xs = ys) = false) := Lib.hid (by
      have : xs ≠ ys := fun h => hnm (by rw [← hx, ← hy, h])
      simp only [this, decide_false])
    have N : ((n : Int) != (m : Int)) = true := by simp; omega
    go_enter Tryz.func6, Tryz.ntmps6
    go_wp2
    go_ret
    exact ⟨ret_bool HE.out.symm, (by repeat' (first | (with_reducible exact Below.refl _ _) | (with_reducible assumption) | (with_reducible refine below_step (by assumption) ?_) | (with_reducible refine below_alloc ?_ _) | (with_reducible refine Below.drew ?_) | (with_reducible refine below_drewN ?_ _) | (with_reducible refine Below.setCell ?_ ?_ _) | go_size))⟩

end Go.Proofs.YtmnmaibhjhhakaaGreatDoor
