/-
  Slices of ints: their cells, the laws' copy, count and equality. For every readable slice. No condition.
-/
import Derived.Test.YtipkhmcnkldbbaaDoorMade
import Derived.Test.YtipkhmcnkldbbaaDoorSz
import Derived.WalkSpells
import Derived.WalkLawsBesides
namespace Go.Proofs.YtipkhmcnkldbbaaDoor
open Go.ChangeShapes Go.WideShapes Go.ChangeAt Go.RowKit

def intCells (x0 : Int) : List Value := [.int .i64 x0]
def intOk (x0 : Int) : Prop := IntOk x0
theorem intDec (w : World) : ∀ row, CellsAre w [0] row → ∃ x, row = intCells x ∧ intOk x := by
  intro row h
  have hl := h.length
  match row, hl with
  | [_], _ =>
    obtain ⟨⟨x0, rfl, o0⟩, _⟩ := h
    exact ⟨x0, rfl, o0⟩
theorem int_map (zs : List Int) : zs.map (Value.int .i64) = zs.flatMap intCells := by
  induction zs with
  | nil => rfl
  | cons z zs ih => rw [List.map_cons, ih]; rfl
theorem infoInt : (Tryd.prog.info? 3).map (fun i => (i.zero, i.size, i.bytes)) = some (some (.int .i64 0), 1, 8) := by kernel_rfl

set_option maxHeartbeats 3200000 in
theorem eqIntS_any (A B : Option Addr) (n c m d : Nat) (xs ys : List Int) (hn : n ≤ 1048576) (hx : xs.length = n) (hy : ys.length = m) (w : World) (hL : Lies w 1 A n (xs.flatMap intCells)) (hM : Lies w 1 B m (ys.flatMap intCells)) :
    Calls Tryd.prog 11 #[.slice A n c, .slice B m d] w fun e w' => e = .returned (.bool (decide (xs = ys))) ∧ Below w.heap.size w w' := by
  by_cases hnm : n = m
  · subst hnm
    go_enter Tryd.func11, Tryd.ntmps11
    go_wp2
    go_loopw [5] (fun i wr => ∃ k : Nat, k ≤ n ∧ i = .int .i64 k ∧ Hid (xs.take k = ys.take k) ∧ Below w.heap.size w wr) (fun i _ => n - (intOf i).toNat)
    case atStart => exact ⟨0, Nat.zero_le _, rfl, by unfold Hid; rfl, Below.refl _ _⟩
    case round =>
      obtain ⟨k, hk, rfl, hT, hB⟩ := hrel
      by_cases hlt : k < n
      · obtain ⟨b, o, rfl, hb, hc⟩ := (hL.below hB).row (fun _ => rfl) (by omega)
        obtain ⟨x0, hxk⟩ := get_lt hx hlt
        obtain ⟨b', o', rfl, hb', hc'⟩ := (hM.below hB).row (fun _ => rfl) (by omega)
        obtain ⟨y0, hyk⟩ := get_lt hy hlt
        have c0 : wr.cell? ⟨b, o + k, none⟩ = some (.int .i64 x0) := by simpa using hc k _ hxk 0 _ rfl
        have d0 : wr.cell? ⟨b', o' + k, none⟩ = some (.int .i64 y0) := by simpa using hc' k _ hyk 0 _ rfl
        have HX := Lib.hid hxk
        have HY := Lib.hid hyk
        clear hxk hc hyk hc'
        by_cases he : x0 = y0
        · have HE : Hid (xs.take (k + 1) = ys.take (k + 1)) := Lib.hid (by rw [take_succ_of HX.out, take_succ_of HY.out, hT.out, he])
          have E : (x0 != y0) = false := by simp [he]
          clear he
          go_wp2_with fail
          go_quiet (fail)
          go_wp2
          go_roundw
          case rel => exact ⟨k + 1, by omega, by go_num, HE, (by repeat' (first | (with_reducible exact Below.refl _ _) | (with_reducible assumption) | (with_reducible refine below_step (by assumption) ?_) | (with_reducible refine below_alloc ?_ _) | (with_reducible refine Below.drew ?_) | (with_reducible refine below_drewN ?_ _) | (with_reducible refine Below.setCell ?_ ?_ _) | go_size))⟩
          case measure => simp [intOf]; omega
        · have HE : Hid (decide (xs = ys) = false) := Lib.hid (by simp only [ne_of_get HX.out HY.out he, decide_false])
          have E : (x0 != y0) = true := by simp [he]
          clear he
          go_wp2_with fail
          go_quiet (fail)
          go_wp2
          go_ret
          exact ⟨ret_bool HE.out.symm, (by repeat' (first | (with_reducible exact Below.refl _ _) | (with_reducible assumption) | (with_reducible refine below_step (by assumption) ?_) | (with_reducible refine below_alloc ?_ _) | (with_reducible refine Below.drew ?_) | (with_reducible refine below_drewN ?_ _) | (with_reducible refine Below.setCell ?_ ?_ _) | go_size))⟩
      · have HE : Hid (decide (xs = ys) = true) := Lib.hid (by
          have h := hT.out
          rw [List.take_of_length_le (by omega), List.take_of_length_le (by omega)] at h
          simp only [h, decide_true])
        go_wp2
        go_ret
        exact ⟨ret_bool HE.out.symm, (by repeat' (first | (with_reducible exact Below.refl _ _) | (with_reducible assumption) | (with_reducible refine below_step (by assumption) ?_) | (with_reducible refine below_alloc ?_ _) | (with_reducible refine Below.drew ?_) | (with_reducible refine below_drewN ?_ _) | (with_reducible refine Below.setCell ?_ ?_ _) | go_size))⟩
  · have HE : Hid (decide (xs = ys) = false) := Lib.hid (by
      have : xs ≠ ys := fun h => hnm (by rw [← hx, ← hy, h])
      simp only [this, decide_false])
    have N : ((n : Int) != (m : Int)) = true := by simp; omega
    go_enter Tryd.func11, Tryd.ntmps11
    go_wp2
    go_ret
    exact ⟨ret_bool HE.out.symm, (by repeat' (first | (with_reducible exact Below.refl _ _) | (with_reducible assumption) | (with_reducible refine below_step (by assumption) ?_) | (with_reducible refine below_alloc ?_ _) | (with_reducible refine Below.drew ?_) | (with_reducible refine below_drewN ?_ _) | (with_reducible refine Below.setCell ?_ ?_ _) | go_size))⟩

end Go.Proofs.YtipkhmcnkldbbaaDoor
