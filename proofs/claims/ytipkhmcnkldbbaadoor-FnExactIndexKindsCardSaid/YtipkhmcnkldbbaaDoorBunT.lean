/-
  The texts TEvent TEventS TEntry TEntryS EEvent EEntry as one. No condition beyond what the rows list.
-/
import Derived.Test.YtipkhmcnkldbbaaDoorMade
import Derived.Test.YtipkhmcnkldbbaaDoorSz
import Derived.WalkSpells
import Derived.WalkLawsBesides
import Derived.Deep.RegionHeld3
/-
  Event: its cells, the laws' copies, counts and equality. For every readable one. No condition.
-/
namespace Go.Proofs.YtipkhmcnkldbbaaDoor
open Go.ChangeShapes Go.WideShapes Go.ChangeAt Go.RowKit

def eventCells (x : Int × ByteArray × Int) : List Value := [.int .i64 x.1, .string x.2.1, .int .i64 x.2.2]
def eventOk (x : Int × ByteArray × Int) : Prop := IntOk (x.1) ∧ StrOk (x.2.1) ∧ IntOk (x.2.2)
theorem eventDec (w : World) : ∀ row, CellsAre w [0, 1, 0] row → ∃ x, row = eventCells x ∧ eventOk x := by
  intro row h
  have hl := h.length
  match row, hl with
  | [_, _, _], _ =>
    obtain ⟨⟨x0, rfl, o0⟩, ⟨x1, rfl, o1⟩, ⟨x2, rfl, o2⟩, _⟩ := h
    exact ⟨(x0, x1, x2), rfl, o0, o1, o2⟩

theorem toEvent_any (x0 : Int) (x1 : ByteArray) (x2 : Int) (w : World) :
    Calls Tryd.prog 40 #[.agg #[.int .i64 x0, .string x1, .int .i64 x2]] w fun e w' => e = .returned (.agg #[.int .i64 x0, .string x1, .int .i64 x2]) ∧ Below w.heap.size w w' := by
  go_enter Tryd.func40, Tryd.ntmps40
  go_wp2
  go_returns
  exact ⟨rfl, by go_grown⟩

theorem szEvent_any (x0 : Int) (x1 : ByteArray) (x2 : Int) (left : Int) (h0 : 0 ≤ left) (h1 : left ≤ 1048576) (hs : StrOk x1) (w : World) :
    Calls Tryd.prog 36 #[.agg #[.int .i64 x0, .string x1, .int .i64 x2], .int .i64 left] w fun e w' => e = .returned (.int .i64 (szN left x1.size)) ∧ Below w.heap.size w w' := by
  unfold StrOk maxLen at hs
  by_cases c : left < x1.size
  · have e : Hid (szN left x1.size = -1) := Lib.hid (by unfold szN; rw [if_pos c])
    go_enter Tryd.func36, Tryd.ntmps36
    go_wp2
    go_ret
    exact ⟨ret_int e.out.symm, by go_grown⟩
  · have e : Hid (szN left x1.size = left - x1.size) := Lib.hid (by unfold szN; rw [if_neg c])
    go_enter Tryd.func36, Tryd.ntmps36
    go_wp2
    go_ret
    exact ⟨ret_int e.out.symm, by go_grown⟩

end Go.Proofs.YtipkhmcnkldbbaaDoor

/-
  Slices of Event: the laws' copy and count. For every readable slice. No condition.
-/
namespace Go.Proofs.YtipkhmcnkldbbaaDoor
open Go.ChangeShapes Go.WideShapes Go.ChangeAt Go.RowKit

theorem infoEvent : (Tryd.prog.info? 37).map (fun i => (i.zero, i.size, i.bytes)) = some (some (.agg #[.int .i64 0, .string ByteArray.empty, .int .i64 0]), 3, 32) := by kernel_rfl

def eventTexts (x : Int × ByteArray × Int) : List ByteArray := [x.2.1]
end Go.Proofs.YtipkhmcnkldbbaaDoor

/-
  Entry: its cells, the laws' copies, counts and equality. For every readable one. No condition.
-/
namespace Go.Proofs.YtipkhmcnkldbbaaDoor
open Go.ChangeShapes Go.WideShapes Go.ChangeAt Go.RowKit

def entryCells (x : ByteArray × Int × ByteArray × Int) : List Value := [.string x.1, .int .i64 x.2.1, .string x.2.2.1, .int .i64 x.2.2.2]
def entryOk (x : ByteArray × Int × ByteArray × Int) : Prop := StrOk (x.1) ∧ IntOk (x.2.1) ∧ StrOk (x.2.2.1) ∧ IntOk (x.2.2.2)
theorem entryDec (w : World) : ∀ row, CellsAre w [1, 0, 1, 0] row → ∃ x, row = entryCells x ∧ entryOk x := by
  intro row h
  have hl := h.length
  match row, hl with
  | [_, _, _, _], _ =>
    obtain ⟨⟨x0, rfl, o0⟩, ⟨x1, rfl, o1⟩, ⟨x2, rfl, o2⟩, ⟨x3, rfl, o3⟩, _⟩ := h
    exact ⟨(x0, x1, x2, x3), rfl, o0, o1, o2, o3⟩

set_option maxHeartbeats 1600000 in
theorem toEntry_any (x0 : ByteArray) (x1 : Int) (x2 : ByteArray) (x3 : Int) (w : World) :
    Calls Tryd.prog 18 #[.agg #[.string x0, .int .i64 x1, .string x2, .int .i64 x3]] w fun e w' => e = .returned (.agg #[.string x0, .int .i64 x1, .string x2, .int .i64 x3]) ∧ Below w.heap.size w w' := by
  go_enter Tryd.func18, Tryd.ntmps18
  go_wp2_with fail
  refine (toEvent_any _ _ _ _).mono ?_
  rintro e1 w1 ⟨rfl, hb1⟩
  have r0 := box_cell hb1 (b := w.heap.size + 1 + 1) (o := 0) (u := .string x0) (by go_cell)
  have r1 := box_cell hb1 (b := w.heap.size + 1 + 1) (o := 1) (u := .int .i64 0) (by go_cell)
  have r2 := box_cell hb1 (b := w.heap.size + 1 + 1) (o := 2) (u := .string ⟨#[]⟩) (by go_cell)
  have r3 := box_cell hb1 (b := w.heap.size + 1 + 1) (o := 3) (u := .int .i64 0) (by go_cell)
  have q0 := box_cell hb1 (b := w.heap.size + 1) (o := 0) (u := .string ⟨#[]⟩) (by go_cell)
  have q1 := box_cell hb1 (b := w.heap.size + 1) (o := 1) (u := .int .i64 0) (by go_cell)
  have q2 := box_cell hb1 (b := w.heap.size + 1) (o := 2) (u := .string ⟨#[]⟩) (by go_cell)
  have q3 := box_cell hb1 (b := w.heap.size + 1) (o := 3) (u := .int .i64 0) (by go_cell)
  have f1 : w1.frozen? ⟨w.heap.size + 1 + 1, 1, none⟩ = false := (hb1.frozen (p := ⟨w.heap.size + 1 + 1, 1, none⟩) (by simp)).trans (by simp [go_sem])
  have f2 : w1.frozen? ⟨w.heap.size + 1 + 1, 2, none⟩ = false := (hb1.frozen (p := ⟨w.heap.size + 1 + 1, 2, none⟩) (by simp)).trans (by simp [go_sem])
  have f3 : w1.frozen? ⟨w.heap.size + 1 + 1, 3, none⟩ = false := (hb1.frozen (p := ⟨w.heap.size + 1 + 1, 3, none⟩) (by simp)).trans (by simp [go_sem])
  have g0 : w1.frozen? ⟨w.heap.size + 1, 0, none⟩ = false := (hb1.frozen (p := ⟨w.heap.size + 1, 0, none⟩) (by simp)).trans (by simp [go_sem])
  have g1 : w1.frozen? ⟨w.heap.size + 1, 1, none⟩ = false := (hb1.frozen (p := ⟨w.heap.size + 1, 1, none⟩) (by simp)).trans (by simp [go_sem])
  have g2 : w1.frozen? ⟨w.heap.size + 1, 2, none⟩ = false := (hb1.frozen (p := ⟨w.heap.size + 1, 2, none⟩) (by simp)).trans (by simp [go_sem])
  have g3 : w1.frozen? ⟨w.heap.size + 1, 3, none⟩ = false := (hb1.frozen (p := ⟨w.heap.size + 1, 3, none⟩) (by simp)).trans (by simp [go_sem])
  have hs := hb1.size
  go_wp2
  refine bodyPost_ret (v := .agg #[.string x0, .int .i64 x1, .string x2, .int .i64 x3]) (by simp [results, Tryd.results18, go_sem, q0, q1, q2, q3]) rfl ?_
  refine ⟨rfl, ?_⟩
  simp only [World.size_alloc] at hs
  refine Below.setCell (Below.setCell (Below.setCell (Below.setCell (Below.setCell (Below.setCell (Below.setCell (below_step hb1 (by repeat' (first | (with_reducible exact Below.refl _ _) | (with_reducible assumption) | (with_reducible refine below_step (by assumption) ?_) | (with_reducible refine below_alloc ?_ _) | (with_reducible refine Below.drew ?_) | (with_reducible refine below_drewN ?_ _) | (with_reducible refine Below.setCell ?_ ?_ _) | go_size))) ?_ _) ?_ _) ?_ _) ?_ _) ?_ _) ?_ _) ?_ _ <;> go_size

theorem szEntry_any (x0 : ByteArray) (x1 : Int) (x2 : ByteArray) (x3 : Int) (left : Int) (h0 : 0 ≤ left) (h1 : left ≤ 1048576) (hs : StrOk x0) (ht : StrOk x2) (w : World) :
    Calls Tryd.prog 16 #[.agg #[.string x0, .int .i64 x1, .string x2, .int .i64 x3], .int .i64 left] w fun e w' => e = .returned (.int .i64 (szT left [x0, x2])) ∧ Below w.heap.size w w' := by
  unfold StrOk maxLen at hs
  by_cases c : left < x0.size
  · have e : Hid (szT left [x0, x2] = -1) := Lib.hid (szT_lt c)
    go_enter Tryd.func16, Tryd.ntmps16
    go_wp2
    go_ret
    exact ⟨ret_int e.out.symm, by go_grown⟩
  · have e1 : Hid (szT left [x0, x2] = szT (left - x0.size) [x2]) := Lib.hid (szT_ge c)
    by_cases c2 : left - x0.size < x2.size
    · have e2 : szT (left - x0.size) [x2] = -1 := szT_lt c2
      have e4 := Lib.hid (show szN (left - x0.size) x2.size = -1 from by unfold szN; rw [if_pos c2])
      go_enter Tryd.func16, Tryd.ntmps16
      go_wp2_with fail
      refine (szEvent_any x1 x2 x3 _ (by omega) (by omega) ht _).mono ?_
      rintro e' w1 ⟨rfl, hb1⟩
      rw [e4.out]
      go_wp2
      go_ret
      exact ⟨ret_int (by rw [e1.out, e2]), (by repeat' (first | (with_reducible exact Below.refl _ _) | (with_reducible assumption) | (with_reducible refine below_step (by assumption) ?_) | (with_reducible refine below_alloc ?_ _) | (with_reducible refine Below.drew ?_) | (with_reducible refine below_drewN ?_ _) | (with_reducible refine Below.setCell ?_ ?_ _) | go_size))⟩
    · have e2 : szT (left - x0.size) [x2] = left - x0.size - x2.size := by rw [szT_ge c2]; rfl
      have e4 := Lib.hid (show szN (left - x0.size) x2.size = left - x0.size - x2.size from by unfold szN; rw [if_neg c2])
      go_enter Tryd.func16, Tryd.ntmps16
      go_wp2_with fail
      refine (szEvent_any x1 x2 x3 _ (by omega) (by omega) ht _).mono ?_
      rintro e' w1 ⟨rfl, hb1⟩
      rw [e4.out]
      have e3 := Lib.hid e2
      clear e2
      go_wp2
      go_ret
      exact ⟨ret_int (by rw [e1.out, e3.out]), (by repeat' (first | (with_reducible exact Below.refl _ _) | (with_reducible assumption) | (with_reducible refine below_step (by assumption) ?_) | (with_reducible refine below_alloc ?_ _) | (with_reducible refine Below.drew ?_) | (with_reducible refine below_drewN ?_ _) | (with_reducible refine Below.setCell ?_ ?_ _) | go_size))⟩

end Go.Proofs.YtipkhmcnkldbbaaDoor

/-
  Slices of Entry: the laws' copy and count. For every readable slice. No condition.
-/
namespace Go.Proofs.YtipkhmcnkldbbaaDoor
open Go.ChangeShapes Go.WideShapes Go.ChangeAt Go.RowKit

theorem infoEntry : (Tryd.prog.info? 39).map (fun i => (i.zero, i.size, i.bytes)) = some (some (.agg #[.string ByteArray.empty, .int .i64 0, .string ByteArray.empty, .int .i64 0]), 4, 48) := by kernel_rfl

set_option maxHeartbeats 1600000 in
theorem toEntryS_any (A : Option Addr) (n c : Nat) (xs : List (ByteArray × Int × ByteArray × Int)) (hn : n ≤ 1048576) (hx : xs.length = n) (w : World) (hL : Lies w 4 A n (xs.flatMap entryCells)) :
    Calls Tryd.prog 22 #[.slice A n c] w fun e w' => ∃ g, e = .returned (.slice (some ⟨g, 0, none⟩) n n) ∧ w'.ownsRow w.heap.size 39 4 (.slice (some ⟨g, 0, none⟩) n n) n (xs.flatMap entryCells) ∧ Below w.heap.size w w' := by
  obtain ⟨i0, hi, hz0, hz1, hz2⟩ := info_parts infoEntry
  have hmk := fun W => run_make_rowN (P := Tryd.prog) 45 39 i0 _ Tryd.underlying45 hi hz0 .i64 .i64 n n (Nat.le_refl _) (by rw [hz2]; omega) (by omega) W
  rw [hz1] at hmk
  clear hi hz0 hz1 hz2
  go_enter Tryd.func22, Tryd.ntmps22
  go_wp2
  go_loopw [4] (fun i wr => ∃ k : Nat, k ≤ n ∧ i = .int .i64 k ∧ Filled wr w.heap.size 39 4 w.heap.size n ((xs.take k).flatMap entryCells) k ∧ Below w.heap.size w wr) (fun i _ => n - (intOf i).toNat)
  case atStart => exact ⟨0, Nat.zero_le _, rfl, Filled.start _ n (Nat.le_refl _) (by unfold maxLen; omega) (by simp [size_madeCells]), below_alloc (Below.refl _ _) _⟩
  case round =>
    obtain ⟨k, hk, rfl, hF, hB⟩ := hrel
    by_cases hlt : k < n
    · obtain ⟨b, o, rfl, hb, hc⟩ := (hL.below hB).row (fun _ => rfl) (by omega)
      obtain ⟨⟨x0, x1, x2, x3⟩, hxk⟩ := get_lt hx hlt
      have c0 : wr.cell? ⟨b, o + k * 4, none⟩ = some (.string x0) := hc k _ hxk 0 _ rfl
      have c1 : wr.cell? ⟨b, o + k * 4 + 1, none⟩ = some (.int .i64 x1) := hc k _ hxk 1 _ rfl
      have c2 : wr.cell? ⟨b, o + k * 4 + 2, none⟩ = some (.string x2) := hc k _ hxk 2 _ rfl
      have c3 : wr.cell? ⟨b, o + k * 4 + 3, none⟩ = some (.int .i64 x3) := hc k _ hxk 3 _ rfl
      have HX := Lib.hid hxk
      clear hxk hc
      go_wp2_with (go_at_call 18; refine (toEntry_any _ _ _ _ _).mono ?_; rintro e1 w1 ⟨rfl, hb1⟩; have F1 := hF.step hb1; obtain ⟨u0, d0⟩ := F1.cell (k * 4) (by omega); have f0 := F1.frozen (k * 4); obtain ⟨u1, d1⟩ := F1.cell (k * 4 + 1) (by omega); have f1 := F1.frozen (k * 4 + 1); obtain ⟨u2, d2⟩ := F1.cell (k * 4 + 2) (by omega); have f2 := F1.frozen (k * 4 + 2); obtain ⟨u3, d3⟩ := F1.cell (k * 4 + 3) (by omega); have f3 := F1.frozen (k * 4 + 3))
      go_roundw
      case rel => exact ⟨k + 1, by omega, by go_num, by rw [flat_succ _ HX.out]; exact F1.stored [.string x0, .int .i64 x1, .string x2, .int .i64 x3] rfl hlt, setAll_below [.string x0, .int .i64 x1, .string x2, .int .i64 x3] _ (k * 4) (Nat.le_refl _) (below_step hb1 hB)⟩
      case measure => simp [intOf]; omega
    · obtain rfl : k = n := by omega
      go_wp2
      go_ret
      rw [List.take_of_length_le (by omega)] at hF
      exact ⟨_, rfl, hF.owns, hB⟩

def entryTexts (x : ByteArray × Int × ByteArray × Int) : List ByteArray := [x.1, x.2.2.1]
set_option maxHeartbeats 1600000 in
theorem szEntryS_any (A : Option Addr) (n c : Nat) (hn : n ≤ maxLen) (xs : List (ByteArray × Int × ByteArray × Int)) (hx : xs.length = n) (hok : ∀ x ∈ xs, entryOk x) (left : Int) (h0 : 0 ≤ left) (h1 : left ≤ 1048576) (w : World) (hL : Lies w 4 A n (xs.flatMap entryCells)) :
    Calls Tryd.prog 20 #[.slice A n c, .int .i64 left] w fun e w' => e = .returned (.int .i64 (szR left n (xs.flatMap entryTexts))) ∧ Below w.heap.size w w' := by
  unfold maxLen at hn
  by_cases c : left < n
  · have e : Hid (szR left n (xs.flatMap entryTexts) = -1) := Lib.hid (by unfold szR; rw [if_pos c])
    go_enter Tryd.func20, Tryd.ntmps20
    go_wp2
    go_ret
    exact ⟨ret_int e.out.symm, Below.refl _ _⟩
  · have e : Hid (szR left n (xs.flatMap entryTexts) = szT (left - n) (xs.flatMap entryTexts)) := Lib.hid (by unfold szR; rw [if_neg c])
    go_enter Tryd.func20, Tryd.ntmps20
    go_wp2
    go_loopw [1, 5] (fun l i wr => ∃ (k : Nat) (r : Int), k ≤ n ∧ i = .int .i64 k ∧ l = .int .i64 r ∧ 0 ≤ r ∧ r ≤ 1048576 ∧ Hid (szT (left - n) (xs.flatMap entryTexts) = szT r ((xs.drop k).flatMap entryTexts)) ∧ Below w.heap.size w wr) (fun _ i _ => n - (intOf i).toNat)
    case atStart => exact ⟨0, left - n, Nat.zero_le _, rfl, rfl, by omega, by omega, by unfold Hid; rfl, Below.refl _ _⟩
    case round =>
      obtain ⟨k, r, hk, rfl, rfl, hl0, hl1, hT, hB⟩ := hrel
      by_cases hlt : k < n
      · obtain ⟨b, o, rfl, hb, hc⟩ := (hL.below hB).row (fun _ => rfl) (by omega)
        obtain ⟨⟨x0, x1, x2, x3⟩, hxk⟩ := get_lt hx hlt
        have c0 : wr.cell? ⟨b, o + k * 4, none⟩ = some (.string x0) := hc k _ hxk 0 _ rfl
        have c1 : wr.cell? ⟨b, o + k * 4 + 1, none⟩ = some (.int .i64 x1) := hc k _ hxk 1 _ rfl
        have c2 : wr.cell? ⟨b, o + k * 4 + 2, none⟩ = some (.string x2) := hc k _ hxk 2 _ rfl
        have c3 : wr.cell? ⟨b, o + k * 4 + 3, none⟩ = some (.int .i64 x3) := hc k _ hxk 3 _ rfl
        obtain ⟨ok0, _, ok2, _⟩ := hok _ (List.mem_of_getElem? hxk)
        have HT : Hid (szT (left - n) (xs.flatMap entryTexts) = szT r ([x0, x2] ++ (xs.drop (k + 1)).flatMap entryTexts)) := Lib.hid (hT.out.trans (by rw [drop_of hxk, List.flatMap_cons]; rfl))
        clear hxk hc hT
        by_cases q : szT r [x0, x2] < 0
        · have Q : szT r [x0, x2] = -1 := szT_neg q hl0
          have HE := Lib.hid ((e.out.trans HT.out).trans (szT_append_neg hl0 q _))
          clear q
          go_wp2_with (go_at_call 16; refine (szEntry_any _ _ _ _ _ hl0 hl1 ok0 ok2 _).mono ?_; rintro e1 w1 ⟨rfl, hb1⟩; rw [Q])
          go_ret
          exact ⟨ret_int HE.out.symm, (by repeat' (first | (with_reducible exact Below.refl _ _) | (with_reducible assumption) | (with_reducible refine below_step (by assumption) ?_) | (with_reducible refine below_alloc ?_ _) | (with_reducible refine Below.drew ?_) | (with_reducible refine below_drewN ?_ _) | (with_reducible refine Below.setCell ?_ ?_ _) | go_size))⟩
        · obtain ⟨r', Q, q0, q1⟩ := szT_pos hl0 q
          have HE := Lib.hid (HT.out.trans (szT_append_pos Q q0 _))
          have q2 : r' ≤ 1048576 := by omega
          clear q
          go_wp2_with (go_at_call 16; refine (szEntry_any _ _ _ _ _ hl0 hl1 ok0 ok2 _).mono ?_; rintro e1 w1 ⟨rfl, hb1⟩; rw [Q])
          go_roundw
          case rel => exact ⟨k + 1, r', by omega, by go_num, rfl, q0, q2, HE, (by repeat' (first | (with_reducible exact Below.refl _ _) | (with_reducible assumption) | (with_reducible refine below_step (by assumption) ?_) | (with_reducible refine below_alloc ?_ _) | (with_reducible refine Below.drew ?_) | (with_reducible refine below_drewN ?_ _) | (with_reducible refine Below.setCell ?_ ?_ _) | go_size))⟩
          case measure => simp [intOf]; omega
      · have HE : Hid (szR left n (xs.flatMap entryTexts) = r) := Lib.hid (by
          rw [e.out, hT.out, List.drop_of_length_le (by omega)]; rfl)
        go_wp2
        go_ret
        exact ⟨ret_int HE.out.symm, (by repeat' (first | (with_reducible exact Below.refl _ _) | (with_reducible assumption) | (with_reducible refine below_step (by assumption) ?_) | (with_reducible refine below_alloc ?_ _) | (with_reducible refine Below.drew ?_) | (with_reducible refine below_drewN ?_ _) | (with_reducible refine Below.setCell ?_ ?_ _) | go_size))⟩

end Go.Proofs.YtipkhmcnkldbbaaDoor

/-
  Event: equality of one and of slices, as the laws ask it. No condition.
-/
namespace Go.Proofs.YtipkhmcnkldbbaaDoor
open Go.ChangeShapes Go.WideShapes Go.ChangeAt Go.RowKit

theorem eqEvent_any (x y : Int × ByteArray × Int) (w : World) :
    Calls Tryd.prog 68 #[.agg #[.int .i64 x.1, .string x.2.1, .int .i64 x.2.2], .agg #[.int .i64 y.1, .string y.2.1, .int .i64 y.2.2]] w fun e w' => e = .returned (.bool (decide (x = y))) ∧ Below w.heap.size w w' := by
  obtain ⟨x0, x1, x2⟩ := x
  obtain ⟨y0, y1, y2⟩ := y
  by_cases h0 : x0 = y0
  · by_cases h1 : x1 = y1
    · by_cases h2 : x2 = y2
      · have e := Lib.hid (show decide ((x0, x1, x2) = (y0, y1, y2)) = true from by simp [h0, h1, h2])
        have n0 : (x0 != y0) = false := by simp [h0]
        have m1 : (x1.toList == y1.toList) = true := by simp [h1]
        have n2 : (x2 != y2) = false := by simp [h2]
        clear h0 h1 h2
        go_enter Tryd.func68, Tryd.ntmps68
        go_wp2
        go_ret
        exact ⟨ret_bool (by first | exact e.out.symm | (rw [e.out]; simp; omega)), by go_grown⟩
      · have e := Lib.hid (show decide ((x0, x1, x2) = (y0, y1, y2)) = false from by simp [h2])
        have n0 : (x0 != y0) = false := by simp [h0]
        have m1 : (x1.toList == y1.toList) = true := by simp [h1]
        have n2 : (x2 != y2) = true := by simp [h2]
        clear h0 h1 h2
        go_enter Tryd.func68, Tryd.ntmps68
        go_wp2
        go_ret
        exact ⟨ret_bool (by first | exact e.out.symm | (rw [e.out]; simp; omega)), by go_grown⟩
    · have e := Lib.hid (show decide ((x0, x1, x2) = (y0, y1, y2)) = false from by simp [h1])
      have n0 : (x0 != y0) = false := by simp [h0]
      have m1 : (x1.toList == y1.toList) = false := str_ne h1
      clear h0 h1
      go_enter Tryd.func68, Tryd.ntmps68
      go_wp2
      go_ret
      exact ⟨ret_bool (by first | exact e.out.symm | (rw [e.out]; simp; omega)), by go_grown⟩
  · have e := Lib.hid (show decide ((x0, x1, x2) = (y0, y1, y2)) = false from by simp [h0])
    have n0 : (x0 != y0) = true := by simp [h0]
    clear h0
    go_enter Tryd.func68, Tryd.ntmps68
    go_wp2
    go_ret
    exact ⟨ret_bool (by first | exact e.out.symm | (rw [e.out]; simp; omega)), by go_grown⟩

end Go.Proofs.YtipkhmcnkldbbaaDoor

/-
  Entry: equality of one and of slices, as the laws ask it. No condition.
-/
namespace Go.Proofs.YtipkhmcnkldbbaaDoor
open Go.ChangeShapes Go.WideShapes Go.ChangeAt Go.RowKit

theorem eqEntry_any (x y : ByteArray × Int × ByteArray × Int) (w : World) :
    Calls Tryd.prog 48 #[.agg #[.string x.1, .int .i64 x.2.1, .string x.2.2.1, .int .i64 x.2.2.2], .agg #[.string y.1, .int .i64 y.2.1, .string y.2.2.1, .int .i64 y.2.2.2]] w fun e w' => e = .returned (.bool (decide (x = y))) ∧ Below w.heap.size w w' := by
  obtain ⟨x0, x1, x2, x3⟩ := x
  obtain ⟨y0, y1, y2, y3⟩ := y
  by_cases h0 : x0 = y0
  · have m0 : (x0.toList == y0.toList) = true := by simp [h0]
    by_cases h1 : (x1, x2, x3) = (y1, y2, y3)
    · have E : decide ((x1, x2, x3) = (y1, y2, y3)) = true := by simp only [h1, decide_true]
      have e := Lib.hid (show decide ((x0, x1, x2, x3) = (y0, y1, y2, y3)) = true from by rw [h0]; simpa using h1)
      clear h0 h1
      go_enter Tryd.func48, Tryd.ntmps48
      go_wp2_with fail
      refine (eqEvent_any (x1, x2, x3) (y1, y2, y3) _).mono ?_
      rintro e1 w1 ⟨rfl, hb1⟩
      rw [E]
      go_wp2
      go_ret
      exact ⟨ret_bool (by first | exact e.out.symm | (rw [e.out]; simp; omega)), (by repeat' (first | (with_reducible exact Below.refl _ _) | (with_reducible assumption) | (with_reducible refine below_step (by assumption) ?_) | (with_reducible refine below_alloc ?_ _) | (with_reducible refine Below.drew ?_) | (with_reducible refine below_drewN ?_ _) | (with_reducible refine Below.setCell ?_ ?_ _) | go_size))⟩
    · have E : decide ((x1, x2, x3) = (y1, y2, y3)) = false := by simp only [h1, decide_false]
      have e := Lib.hid (show decide ((x0, x1, x2, x3) = (y0, y1, y2, y3)) = false from by simp only [decide_eq_false_iff_not]; intro h; exact h1 (by simpa using (Prod.mk.inj h).2))
      clear h0 h1
      go_enter Tryd.func48, Tryd.ntmps48
      go_wp2_with fail
      refine (eqEvent_any (x1, x2, x3) (y1, y2, y3) _).mono ?_
      rintro e1 w1 ⟨rfl, hb1⟩
      rw [E]
      go_wp2
      go_ret
      exact ⟨ret_bool (by first | exact e.out.symm | (rw [e.out]; simp; omega)), (by repeat' (first | (with_reducible exact Below.refl _ _) | (with_reducible assumption) | (with_reducible refine below_step (by assumption) ?_) | (with_reducible refine below_alloc ?_ _) | (with_reducible refine Below.drew ?_) | (with_reducible refine below_drewN ?_ _) | (with_reducible refine Below.setCell ?_ ?_ _) | go_size))⟩
  · have m0 : (x0.toList == y0.toList) = false := str_ne h0
    have e := Lib.hid (show decide ((x0, x1, x2, x3) = (y0, y1, y2, y3)) = false from by simp [h0])
    clear h0
    go_enter Tryd.func48, Tryd.ntmps48
    go_wp2
    go_ret
    exact ⟨ret_bool (by first | exact e.out.symm | (rw [e.out]; simp; omega)), by go_grown⟩

set_option maxHeartbeats 3200000 in
theorem eqEntryS_any (A B : Option Addr) (n c m d : Nat) (xs ys : List (ByteArray × Int × ByteArray × Int)) (hn : n ≤ 1048576) (hx : xs.length = n) (hy : ys.length = m) (w : World) (hL : Lies w 4 A n (xs.flatMap entryCells)) (hM : Lies w 4 B m (ys.flatMap entryCells)) :
    Calls Tryd.prog 24 #[.slice A n c, .slice B m d] w fun e w' => e = .returned (.bool (decide (xs = ys))) ∧ Below w.heap.size w w' := by
  by_cases hnm : n = m
  · subst hnm
    go_enter Tryd.func24, Tryd.ntmps24
    go_wp2
    go_loopw [5] (fun i wr => ∃ k : Nat, k ≤ n ∧ i = .int .i64 k ∧ Hid (xs.take k = ys.take k) ∧ Below w.heap.size w wr) (fun i _ => n - (intOf i).toNat)
    case atStart => exact ⟨0, Nat.zero_le _, rfl, by unfold Hid; rfl, Below.refl _ _⟩
    case round =>
      obtain ⟨k, hk, rfl, hT, hB⟩ := hrel
      by_cases hlt : k < n
      · obtain ⟨b, o, rfl, hb, hc⟩ := (hL.below hB).row (fun _ => rfl) (by omega)
        obtain ⟨⟨x0, x1, x2, x3⟩, hxk⟩ := get_lt hx hlt
        obtain ⟨b', o', rfl, hb', hc'⟩ := (hM.below hB).row (fun _ => rfl) (by omega)
        obtain ⟨⟨y0, y1, y2, y3⟩, hyk⟩ := get_lt hy hlt
        have c0 : wr.cell? ⟨b, o + k * 4, none⟩ = some (.string x0) := hc k _ hxk 0 _ rfl
        have c1 : wr.cell? ⟨b, o + k * 4 + 1, none⟩ = some (.int .i64 x1) := hc k _ hxk 1 _ rfl
        have c2 : wr.cell? ⟨b, o + k * 4 + 2, none⟩ = some (.string x2) := hc k _ hxk 2 _ rfl
        have c3 : wr.cell? ⟨b, o + k * 4 + 3, none⟩ = some (.int .i64 x3) := hc k _ hxk 3 _ rfl
        have d0 : wr.cell? ⟨b', o' + k * 4, none⟩ = some (.string y0) := hc' k _ hyk 0 _ rfl
        have d1 : wr.cell? ⟨b', o' + k * 4 + 1, none⟩ = some (.int .i64 y1) := hc' k _ hyk 1 _ rfl
        have d2 : wr.cell? ⟨b', o' + k * 4 + 2, none⟩ = some (.string y2) := hc' k _ hyk 2 _ rfl
        have d3 : wr.cell? ⟨b', o' + k * 4 + 3, none⟩ = some (.int .i64 y3) := hc' k _ hyk 3 _ rfl
        have HX := Lib.hid hxk
        have HY := Lib.hid hyk
        clear hxk hc hyk hc'
        by_cases he : (x0, x1, x2, x3) = (y0, y1, y2, y3)
        · have E : decide ((x0, x1, x2, x3) = (y0, y1, y2, y3)) = true := by simp only [he, decide_true]
          have HE : Hid (xs.take (k + 1) = ys.take (k + 1)) := Lib.hid (by rw [take_succ_of HX.out, take_succ_of HY.out, hT.out, he])
          clear he
          go_wp2_with fail
          go_region_held3 (fun wx => wx.cell? ⟨b, o + k * 4, none⟩ = some (.string x0) ∧ wx.cell? ⟨b, o + k * 4 + 1, none⟩ = some (.int .i64 x1) ∧ wx.cell? ⟨b, o + k * 4 + 2, none⟩ = some (.string x2) ∧ wx.cell? ⟨b, o + k * 4 + 3, none⟩ = some (.int .i64 x3) ∧ wx.cell? ⟨b', o' + k * 4, none⟩ = some (.string y0) ∧ wx.cell? ⟨b', o' + k * 4 + 1, none⟩ = some (.int .i64 y1) ∧ wx.cell? ⟨b', o' + k * 4 + 2, none⟩ = some (.string y2) ∧ wx.cell? ⟨b', o' + k * 4 + 3, none⟩ = some (.int .i64 y3)) ((go_split_ands; refine ⟨?_, ?_, ?_, ?_, ?_, ?_, ?_, ?_⟩ <;> first | assumption | (refine box_cell (by assumption) ?_; assumption)))
            (first | (go_at_call 48; refine (eqEntry_any (x0, x1, x2, x3) (y0, y1, y2, y3) _).mono ?_; rintro e1 w1 ⟨rfl, hb1⟩; rw [E]))
          go_wp2
          go_roundw
          case rel => exact ⟨k + 1, by omega, by go_num, HE, (by repeat' (first | (with_reducible exact Below.refl _ _) | (with_reducible assumption) | (with_reducible refine below_step (by assumption) ?_) | (with_reducible refine below_alloc ?_ _) | (with_reducible refine Below.drew ?_) | (with_reducible refine below_drewN ?_ _) | (with_reducible refine Below.setCell ?_ ?_ _) | go_size))⟩
          case measure => simp [intOf]; omega
        · have E : decide ((x0, x1, x2, x3) = (y0, y1, y2, y3)) = false := by simp only [he, decide_false]
          have HE : Hid (decide (xs = ys) = false) := Lib.hid (by simp only [ne_of_get HX.out HY.out he, decide_false])
          clear he
          go_wp2_with fail
          go_region_held3 (fun wx => wx.cell? ⟨b, o + k * 4, none⟩ = some (.string x0) ∧ wx.cell? ⟨b, o + k * 4 + 1, none⟩ = some (.int .i64 x1) ∧ wx.cell? ⟨b, o + k * 4 + 2, none⟩ = some (.string x2) ∧ wx.cell? ⟨b, o + k * 4 + 3, none⟩ = some (.int .i64 x3) ∧ wx.cell? ⟨b', o' + k * 4, none⟩ = some (.string y0) ∧ wx.cell? ⟨b', o' + k * 4 + 1, none⟩ = some (.int .i64 y1) ∧ wx.cell? ⟨b', o' + k * 4 + 2, none⟩ = some (.string y2) ∧ wx.cell? ⟨b', o' + k * 4 + 3, none⟩ = some (.int .i64 y3)) ((go_split_ands; refine ⟨?_, ?_, ?_, ?_, ?_, ?_, ?_, ?_⟩ <;> first | assumption | (refine box_cell (by assumption) ?_; assumption)))
            (first | (go_at_call 48; refine (eqEntry_any (x0, x1, x2, x3) (y0, y1, y2, y3) _).mono ?_; rintro e1 w1 ⟨rfl, hb1⟩; rw [E]))
          go_wp2
          go_ret
          exact ⟨ret_bool HE.out.symm, (by repeat' (first | (with_reducible exact Below.refl _ _) | (with_reducible assumption) | (with_reducible refine below_step (by assumption) ?_) | (with_reducible refine below_alloc ?_ _) | (with_reducible refine Below.drew ?_) | (with_reducible refine below_drewN ?_ _) | (with_reducible refine Below.setCell ?_ ?_ _) | go_size))⟩
      · have HE : Hid (decide (xs = ys) = true) := Lib.hid (by
          have h := hT.out
          rw [List.take_of_length_le (by omega), List.take_of_length_le (by omega)] at h
          simp only [h, decide_true])
        go_wp2
        go_ret
        exact ⟨ret_bool HE.out.symm, (by repeat' (first | (with_reducible exact Below.refl _ _) | (with_reducible assumption) | (with_reducible refine below_step (by assumption) ?_) | (with_reducible refine below_alloc ?_ _) | (with_reducible refine Below.drew ?_) | (with_reducible refine below_drewN ?_ _) | (with_reducible refine Below.setCell ?_ ?_ _) | go_size))⟩
  · have HE : Hid (decide (xs = ys) = false) := Lib.hid (by
      have : xs ≠ ys := fun h => hnm (by rw [← hx, ← hy, h])
      simp only [this, decide_false])
    have N : ((n : Int) != (m : Int)) = true := by simp; omega
    go_enter Tryd.func24, Tryd.ntmps24
    go_wp2
    go_ret
    exact ⟨ret_bool HE.out.symm, (by repeat' (first | (with_reducible exact Below.refl _ _) | (with_reducible assumption) | (with_reducible refine below_step (by assumption) ?_) | (with_reducible refine below_alloc ?_ _) | (with_reducible refine Below.drew ?_) | (with_reducible refine below_drewN ?_ _) | (with_reducible refine Below.setCell ?_ ?_ _) | go_size))⟩

end Go.Proofs.YtipkhmcnkldbbaaDoor
