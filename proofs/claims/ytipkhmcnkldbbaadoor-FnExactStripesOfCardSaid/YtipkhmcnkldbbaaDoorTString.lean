/-
  Slices of strings: their cells, and the laws' equality. For every readable slice. No condition.
-/
import Derived.Test.YtipkhmcnkldbbaaDoorMade
import Derived.Test.YtipkhmcnkldbbaaDoorSz
import Derived.Test.YtipkhmcnkldbbaaDoorOwn
import Derived.WalkSpells
import Derived.WalkLawsBesides
namespace Go.Proofs.YtipkhmcnkldbbaaDoor
open Go.ChangeShapes Go.WideShapes Go.ChangeAt Go.RowKit

def strCells (x : ByteArray) : List Value := [.string x]
theorem infoStr : (Tryd.prog.info? 9).map (fun i => (i.zero, i.size, i.bytes)) = some (some (.string ByteArray.empty), 1, 16) := by kernel_rfl
theorem rowStr : RowTy Tryd.prog 22 9 1 16 := rowTy_mk Tryd.underlying22 infoStr rfl (by decide)

set_option maxHeartbeats 3200000 in
theorem eqStringS_any (A B : Option Addr) (n c m d : Nat) (xs ys : List ByteArray) (hn : n ≤ 1048576) (hx : xs.length = n) (hy : ys.length = m) (w : World) (hL : Lies w 1 A n (xs.flatMap strCells)) (hM : Lies w 1 B m (ys.flatMap strCells)) :
    Calls Tryd.prog 12 #[.slice A n c, .slice B m d] w fun e w' => e = .returned (.bool (decide (xs = ys))) ∧ Below w.heap.size w w' := by
  by_cases hnm : n = m
  · subst hnm
    go_enter Tryd.func12, Tryd.ntmps12
    go_wp2
    go_loopw [5] (fun i wr => ∃ k : Nat, k ≤ n ∧ i = .int .i64 k ∧ Hid (xs.take k = ys.take k) ∧ Below w.heap.size w wr) (fun i _ => n - (intOf i).toNat)
    case atStart => exact ⟨0, Nat.zero_le _, rfl, by unfold Hid; rfl, Below.refl _ _⟩
    case round =>
      obtain ⟨k, hk, rfl, hT, hB⟩ := hrel
      by_cases hlt : k < n
      · obtain ⟨b, o, rfl, hb, hc⟩ := (hL.below hB).row (fun _ => rfl) (by omega)
        obtain ⟨x0, hxk⟩ := get_lt hx hlt
        obtain ⟨b', o', rfl, hb', hc'⟩ := (hM.below hB).row (fun _ => rfl) (by omega)
        obtain ⟨y0, hyk⟩ := get_lt hy hlt
        have c0 : wr.cell? ⟨b, o + k, none⟩ = some (.string x0) := by simpa using hc k _ hxk 0 _ rfl
        have d0 : wr.cell? ⟨b', o' + k, none⟩ = some (.string y0) := by simpa using hc' k _ hyk 0 _ rfl
        have HX := Lib.hid hxk
        have HY := Lib.hid hyk
        clear hxk hc hyk hc'
        by_cases he : x0 = y0
        · have HE : Hid (xs.take (k + 1) = ys.take (k + 1)) := Lib.hid (by rw [take_succ_of HX.out, take_succ_of HY.out, hT.out, he])
          have E : (x0.toList == y0.toList) = true := by simp [he]
          clear he
          go_wp2_with fail
          go_quiet (fail)
          go_wp2
          go_roundw
          case rel => exact ⟨k + 1, by omega, by go_num, HE, (by repeat' (first | (with_reducible exact Below.refl _ _) | (with_reducible assumption) | (with_reducible refine below_step (by assumption) ?_) | (with_reducible refine below_alloc ?_ _) | (with_reducible refine Below.drew ?_) | (with_reducible refine below_drewN ?_ _) | (with_reducible refine Below.setCell ?_ ?_ _) | go_size))⟩
          case measure => simp [intOf]; omega
        · have HE : Hid (decide (xs = ys) = false) := Lib.hid (by simp only [ne_of_get HX.out HY.out he, decide_false])
          have E : (x0.toList == y0.toList) = false := str_ne he
          clear he
          go_wp2_with fail
          go_quiet (fail)
          go_wp2
          go_ret
          exact ⟨ret_bool HE.out.symm, (by repeat' (first | (with_reducible exact Below.refl _ _) | (with_reducible assumption) | (with_reducible refine below_step (by assumption) ?_) | (with_reducible refine below_alloc ?_ _) | (with_reducible refine Below.drew ?_) | (with_reducible refine below_drewN ?_ _) | (with_reducible refine Below.setCell ?_ ?_ _) | go_size))⟩
      · have HE : Hid (decide (xs = ys) = true) := Lib.hid (by
          have h := hT.out
          rw [List.take_of_length_le (by omega), List.take_of_length_le (by omega)] at h
          simp only [h, decide_true])
        go_wp2
        go_ret
        exact ⟨ret_bool HE.out.symm, (by repeat' (first | (with_reducible exact Below.refl _ _) | (with_reducible assumption) | (with_reducible refine below_step (by assumption) ?_) | (with_reducible refine below_alloc ?_ _) | (with_reducible refine Below.drew ?_) | (with_reducible refine below_drewN ?_ _) | (with_reducible refine Below.setCell ?_ ?_ _) | go_size))⟩
  · have HE : Hid (decide (xs = ys) = false) := Lib.hid (by
      have : xs ≠ ys := fun h => hnm (by rw [← hx, ← hy, h])
      simp only [this, decide_false])
    have N : ((n : Int) != (m : Int)) = true := by simp; omega
    go_enter Tryd.func12, Tryd.ntmps12
    go_wp2
    go_ret
    exact ⟨ret_bool HE.out.symm, (by repeat' (first | (with_reducible exact Below.refl _ _) | (with_reducible assumption) | (with_reducible refine below_step (by assumption) ?_) | (with_reducible refine below_alloc ?_ _) | (with_reducible refine Below.drew ?_) | (with_reducible refine below_drewN ?_ _) | (with_reducible refine Below.setCell ?_ ?_ _) | go_size))⟩
end Go.Proofs.YtipkhmcnkldbbaaDoor
