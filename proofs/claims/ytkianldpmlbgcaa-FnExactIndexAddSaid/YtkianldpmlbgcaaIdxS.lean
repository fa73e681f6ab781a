/-
  Valid rows: what the reference's function returns, for every slice of rows. No condition.
-/
import Derived.Test.YtkianldpmlbgcaaROk
import Derived.Test.YtkianldpmlbgcaaMany
import Derived.Test.YtkianldpmlbgcaaOrd
namespace Go.Proofs.Ytkianldpmlbgcaa
open Go.ChangeShapes Go.WideShapes Go.ChangeAt Go.RowKit

def rowsFrom : Option ByteArray → List RowX → Bool := sortedBy rowB RowX.key
/-- No position stands twice. -/
def onceB (xs : List RowX) : Bool := (List.range 100).all fun p => decide (manyN xs ((p : Nat) : Int) ≤ 1)
def rowsB (xs : List RowX) : Bool := rowsFrom none xs && onceB xs
theorem rows_no {xs : List RowX} (h : rowsFrom none xs = false) : rowsB xs = false := by unfold rowsB; rw [h]; rfl
theorem once_no {xs : List RowX} {p : Nat} (hp : p < 100) (h : 1 < manyN xs (p : Int)) : rowsB xs = false := by
  have : onceB xs = false := by
    rw [Bool.eq_false_iff]
    intro ha
    unfold onceB at ha
    rw [List.all_eq_true] at ha
    have := ha p (by simpa using hp)
    simp at this; omega
  unfold rowsB; rw [this]; simp
theorem rows_yes {xs : List RowX} (h : rowsFrom none xs = true) (g : ∀ p : Nat, p < 100 → manyN xs (p : Int) ≤ 1) : rowsB xs = true := by
  unfold rowsB; rw [h]
  unfold onceB
  rw [Bool.true_and, List.all_eq_true]
  intro p hp
  simp at hp
  simp [g p hp]

set_option maxHeartbeats 6400000 in
theorem specRows_any (A : Option Addr) (n c : Nat) (xs : List RowX) (hn : n ≤ 1048576) (hx : xs.length = n) (w : World) (ox : ∀ x ∈ xs, RowOk w x ∧ RowFit x) (hL : Lies w 2 A n (xs.flatMap rowCells)) :
    Calls Try.prog 9 #[.slice A n c] w fun e w' => e = .returned (.bool (rowsB xs)) ∧ Below w.heap.size w w' := by
  have HX := Lib.hid hx
  have HK := Lib.hid ox
  clear hx ox
  go_enter Try.func9, Try.ntmps9
  go_wp2
  go_loopw [3] (fun i wr => ∃ (k : Nat) (p : Option ByteArray), k ≤ n ∧ i = .int .i64 k ∧ Hid (rowsFrom none xs = rowsFrom p (xs.drop k)) ∧ Hid (k = 0 → p = none) ∧ Hid (0 < k → ∃ y, xs[k - 1]? = some y ∧ p = some y.key) ∧ Below w.heap.size w wr) (fun i _ => n - (intOf i).toNat)
  case atStart => exact ⟨0, none, Nat.zero_le _, rfl, Lib.hid rfl, Lib.hid (fun _ => rfl), Lib.hid (by omega), Below.refl _ _⟩
  case round =>
    obtain ⟨k, p, hk, rfl, hT, hZ0, hP, hB⟩ := hrel
    by_cases hlt : k < n
    · obtain ⟨b, o, rfl, hb, hc⟩ := (hL.below hB).row (fun _ => rfl) (by omega)
      obtain ⟨x, hxk⟩ := get_lt HX.out hlt
      have c0 : wr.cell? ⟨b, o + k * 2, none⟩ = some (.string x.key) := hc k _ hxk 0 _ rfl
      have c1 : wr.cell? ⟨b, o + k * 2 + 1, none⟩ = some (.slice x.A x.n x.c) := hc k _ hxk 1 _ rfl
      have OK := Lib.hid ((HK.out _ (List.mem_of_getElem? hxk)).1.below hB)
      have HXK := Lib.hid hxk
      have HC := Lib.hid hc
      clear hxk hc
      have a0 := After.cell c0
      have a1 := After.cell c1
      cases E0 : rowB x
      · have HE : Hid (rowsB xs = false) := Lib.hid (rows_no (sorted_bad HXK.out hT.out E0))
        go_wp2_with fail
        refine wp_region_after (by kernel_rfl) (by kernel_rfl) ?_
        repeat (go_big_quiet_step (((go_at_call 32; exact after_bool E0 (l22Ok_any x _ (OK.out.below (After.h _)))))))
        refine wpQuiet_nil ?_
        intro wn hw'
        have hwn := after_below hw'
        clear hw'
        go_wp2
        go_ret
        exact ⟨ret_bool HE.out.symm, (by repeat' (first | (with_reducible exact Below.refl _ _) | (with_reducible assumption) | (with_reducible refine below_step (by assumption) ?_) | (with_reducible refine below_alloc ?_ _) | (with_reducible refine Below.drew ?_) | (with_reducible refine below_drewN ?_ _) | (with_reducible refine Below.setCell ?_ ?_ _) | go_size))⟩
      by_cases hk0 : k = 0
      · have HE : Hid (rowsFrom none xs = rowsFrom (some x.key) (xs.drop (k + 1))) := Lib.hid (by
          have h := hT.out
          rw [hZ0.out hk0] at h
          exact sorted_first HXK.out h E0)
        have z : decide ((0 : Int) < (k : Int)) = false := by simp; omega
        have z2 : decide (0 < k) = false := by simp; omega
        clear hk0 hZ0 hP HC
        go_wp2_with fail
        refine wp_region_after (by kernel_rfl) (by kernel_rfl) ?_
        repeat (go_big_quiet_step (((go_at_call 32; exact after_bool E0 (l22Ok_any x _ (OK.out.below (After.h _)))))))
        refine wpQuiet_nil ?_
        intro wn hw'
        have hwn := after_below hw'
        clear hw'
        go_wp2
        go_roundw
        case rel => exact ⟨k + 1, _, by omega, by go_num, HE, Lib.hid (by omega), Lib.hid (fun _ => ⟨_, HXK.out, rfl⟩), (by repeat' (first | (with_reducible exact Below.refl _ _) | (with_reducible assumption) | (with_reducible refine below_step (by assumption) ?_) | (with_reducible refine below_alloc ?_ _) | (with_reducible refine Below.drew ?_) | (with_reducible refine below_drewN ?_ _) | (with_reducible refine Below.setCell ?_ ?_ _) | go_size))⟩
        case measure => simp [intOf]; omega
      · obtain ⟨y, hy, hq⟩ := hP.out (by omega)
        have d0 : wr.cell? ⟨b, o + (k - 1) * 2, none⟩ = some (.string y.key) := HC.out (k - 1) _ hy 0 _ rfl
        have d2 := After.cell d0
        have z : decide ((0 : Int) < (k : Int)) = true := by simp; omega
        have z1 : (1 : Int) ≤ (k : Int) := by omega
        have z2 : 0 < k := by omega
        have HT2 : Hid (rowsFrom none xs = rowsFrom (some y.key) (xs.drop k)) := Lib.hid (by rw [← hq]; exact hT.out)
        clear hy hk0 hZ0 hP HC hT hq
        cases E3 : ltS y.key x.key
        · have HE : Hid (rowsB xs = false) := Lib.hid (rows_no (sorted_stop HXK.out HT2.out E3))
          have F1 : Op.bytesLess y.key.toList x.key.toList = false := E3
          clear E3
          go_wp2_with fail
          refine wp_region_after (by kernel_rfl) (by kernel_rfl) ?_
          repeat (go_big_quiet_step (((go_at_call 32; exact after_bool E0 (l22Ok_any x _ (OK.out.below (After.h _)))))))
          refine wpQuiet_nil ?_
          intro wn hw'
          have hwn := after_below hw'
          clear hw'
          go_wp2
          go_ret
          exact ⟨ret_bool HE.out.symm, (by repeat' (first | (with_reducible exact Below.refl _ _) | (with_reducible assumption) | (with_reducible refine below_step (by assumption) ?_) | (with_reducible refine below_alloc ?_ _) | (with_reducible refine Below.drew ?_) | (with_reducible refine below_drewN ?_ _) | (with_reducible refine Below.setCell ?_ ?_ _) | go_size))⟩
        · have HE : Hid (rowsFrom none xs = rowsFrom (some x.key) (xs.drop (k + 1))) := Lib.hid (sorted_next HXK.out HT2.out E0 E3)
          have F1 : Op.bytesLess y.key.toList x.key.toList = true := E3
          clear E3
          go_wp2_with fail
          refine wp_region_after (by kernel_rfl) (by kernel_rfl) ?_
          repeat (go_big_quiet_step (((go_at_call 32; exact after_bool E0 (l22Ok_any x _ (OK.out.below (After.h _)))))))
          refine wpQuiet_nil ?_
          intro wn hw'
          have hwn := after_below hw'
          clear hw'
          go_wp2
          go_roundw
          case rel => exact ⟨k + 1, _, by omega, by go_num, HE, Lib.hid (by omega), Lib.hid (fun _ => ⟨_, HXK.out, rfl⟩), (by repeat' (first | (with_reducible exact Below.refl _ _) | (with_reducible assumption) | (with_reducible refine below_step (by assumption) ?_) | (with_reducible refine below_alloc ?_ _) | (with_reducible refine Below.drew ?_) | (with_reducible refine below_drewN ?_ _) | (with_reducible refine Below.setCell ?_ ?_ _) | go_size))⟩
          case measure => simp [intOf]; omega
    · have HF : Hid (rowsFrom none xs = true) := Lib.hid (by
        have := HX.out
        rw [hT.out, List.drop_of_length_le (by omega)]; rfl)
      have HLr := Lib.hid (hL.below hB)
      have HKr := Lib.hid (show ∀ x ∈ xs, RowOk wr x ∧ RowFit x from fun x hx => ⟨(HK.out x hx).1.below hB, (HK.out x hx).2⟩)
      clear hT hZ0 hP
      go_wp2
      go_loop [4] (fun i => ∃ p : Nat, p ≤ 100 ∧ i = .int .i64 p ∧ Hid (∀ q : Nat, q < p → manyN xs (q : Int) ≤ 1)) (fun i => 100 - (intOf i).toNat)
      case atStart => exact ⟨0, by omega, rfl, Lib.hid (by omega)⟩
      case round =>
        obtain ⟨p, hp, rfl, hM⟩ := hrel
        by_cases hlt2 : p < 100
        · obtain ⟨t, ht⟩ : ∃ t, t = manyN xs (p : Int) := ⟨_, rfl⟩
          have HT := Lib.hid ht
          clear ht
          by_cases h1 : 1 < t
          · have HE : Hid (rowsB xs = false) := Lib.hid (once_no hlt2 (by rw [← HT.out]; exact h1))
            go_wp2_with fail
            refine (l22Many_any A n c xs hn HX.out (p : Int) _ HKr.out HLr.out).mono ?_
            rintro e1 w1 ⟨rfl, rfl⟩
            rw [← HT.out]
            go_wp2
            go_ret
            exact ⟨ret_bool HE.out.symm, (by repeat' (first | (with_reducible exact Below.refl _ _) | (with_reducible assumption) | (with_reducible refine below_step (by assumption) ?_) | (with_reducible refine below_alloc ?_ _) | (with_reducible refine Below.drew ?_) | (with_reducible refine below_drewN ?_ _) | (with_reducible refine Below.setCell ?_ ?_ _) | go_size))⟩
          · have HM : Hid (∀ q : Nat, q < p + 1 → manyN xs (q : Int) ≤ 1) := Lib.hid (by
              intro q hq
              by_cases e : q = p
              · subst e; rw [← HT.out]; omega
              · exact hM.out q (by omega))
            go_wp2_with fail
            refine (l22Many_any A n c xs hn HX.out (p : Int) _ HKr.out HLr.out).mono ?_
            rintro e1 w1 ⟨rfl, rfl⟩
            rw [← HT.out]
            go_wp2
            go_round
            case rel => exact ⟨p + 1, by omega, by go_num, HM⟩
            case measure => simp [intOf]; omega
        · have HE : Hid (rowsB xs = true) := Lib.hid (rows_yes HF.out (fun q hq => hM.out q (by omega)))
          go_wp2
          go_ret
          exact ⟨ret_bool HE.out.symm, (by repeat' (first | (with_reducible exact Below.refl _ _) | (with_reducible assumption) | (with_reducible refine below_step (by assumption) ?_) | (with_reducible refine below_alloc ?_ _) | (with_reducible refine Below.drew ?_) | (with_reducible refine below_drewN ?_ _) | (with_reducible refine Below.setCell ?_ ?_ _) | go_size))⟩
end Go.Proofs.Ytkianldpmlbgcaa
