/-
  Valid locks: what spec.LocksValid and impl.LocksValid return, for every slice of locks. No condition.
-/
import Derived.Test.YtfbnpnajpkhkdaaTLockS
namespace Go.Proofs.Ytfbnpnajpkhkdaa
open Go.ChangeShapes Go.WideShapes Go.ChangeAt Go.RowKit

/-- Locks in ascending order of stripes, behind 'last'. -/
def locksFrom (last : Int) : List (Int × Int) → Bool
  | [] => true
  | x :: xs => decide (last < x.1) && decide (x.1 ≤ 7) && inB x.2 1 99 && locksFrom x.1 xs
theorem locks_step {xs : List (Int × Int)} {k : Nat} {x : Int × Int} {L : Int} (hx : xs[k]? = some x) (h : locksFrom (-1) xs = locksFrom L (xs.drop k)) :
    locksFrom (-1) xs = (decide (L < x.1) && decide (x.1 ≤ 7) && inB x.2 1 99 && locksFrom x.1 (xs.drop (k + 1))) := by
  obtain ⟨hlt, rfl⟩ := List.getElem?_eq_some_iff.1 hx
  rw [h, List.drop_eq_getElem_cons hlt, locksFrom]

set_option maxHeartbeats 3200000 in
theorem specLocks_any (A : Option Addr) (n c : Nat) (xs : List (Int × Int)) (hn : n ≤ 1048576) (hx : xs.length = n) (w : World) (hL : Lies w 2 A n (xs.flatMap lockCells)) :
    Calls Try.prog 77 #[.slice A n c] w fun e w' => e = .returned (.bool (locksFrom (-1) xs)) ∧ Below w.heap.size w w' := by
  go_enter Try.func77, Try.ntmps77
  go_wp2
  go_loopw [3] (fun i wr => ∃ (k : Nat) (L : Int), k ≤ n ∧ i = .int .i64 k ∧ Hid (locksFrom (-1) xs = locksFrom L (xs.drop k)) ∧ -1 ≤ L ∧ Hid (0 < k → ∃ y, xs[k - 1]? = some (L, y)) ∧ Hid (k = 0 → L = -1) ∧ Below w.heap.size w wr) (fun i _ => n - (intOf i).toNat)
  case atStart => exact ⟨0, -1, Nat.zero_le _, rfl, by unfold Hid; rfl, by omega, by unfold Hid; omega, by unfold Hid; omega, Below.refl _ _⟩
  case round =>
    obtain ⟨k, L, hk, rfl, hT, hL1, hP, hZ, hB⟩ := hrel
    by_cases hlt : k < n
    · obtain ⟨b, o, rfl, hb, hc⟩ := (hL.below hB).row (fun _ => rfl) (by omega)
      obtain ⟨⟨x0, x1⟩, hxk⟩ := get_lt hx hlt
      have c0 : wr.cell? ⟨b, o + k * 2, none⟩ = some (.int .i64 x0) := hc k _ hxk 0 _ rfl
      have c1 : wr.cell? ⟨b, o + k * 2 + 1, none⟩ = some (.int .i64 x1) := hc k _ hxk 1 _ rfl
      have HX := Lib.hid hxk
      have HT := Lib.hid (locks_step hxk hT.out)
      have HC := Lib.hid hc
      clear hxk hc
      cases E0 : inB x0 0 7
      · have HE : Hid (locksFrom (-1) xs = false) := Lib.hid (by
          rw [HT.out]
          unfold inB at E0; simp at E0 ⊢; omega)
        go_wp2_with fail
        go_quiet ((go_at_call 83; exact quiet_left (l6In_any _ _ _ _)))
        go_wp2
        go_ret
        exact ⟨ret_bool HE.out.symm, (by repeat' (first | (with_reducible exact Below.refl _ _) | (with_reducible assumption) | (with_reducible refine below_step (by assumption) ?_) | (with_reducible refine below_alloc ?_ _) | (with_reducible refine Below.drew ?_) | (with_reducible refine below_drewN ?_ _) | (with_reducible refine Below.setCell ?_ ?_ _) | go_size))⟩
      cases E1 : inB x1 1 99
      · have HE : Hid (locksFrom (-1) xs = false) := Lib.hid (by
          rw [HT.out]; simp [E1])
        go_wp2_with fail
        go_quiet ((go_at_call 83; exact quiet_left (l6In_any _ _ _ _)))
        go_wp2
        go_ret
        exact ⟨ret_bool HE.out.symm, (by repeat' (first | (with_reducible exact Below.refl _ _) | (with_reducible assumption) | (with_reducible refine below_step (by assumption) ?_) | (with_reducible refine below_alloc ?_ _) | (with_reducible refine Below.drew ?_) | (with_reducible refine below_drewN ?_ _) | (with_reducible refine Below.setCell ?_ ?_ _) | go_size))⟩
      have h7 : 0 ≤ x0 ∧ x0 ≤ 7 := inB_iff.1 E0
      by_cases hk0 : k = 0
      · have HE : Hid (locksFrom (-1) xs = locksFrom x0 (xs.drop (k + 1))) := Lib.hid (by
          rw [HT.out, hZ.out hk0, E1]; simp; omega)
        obtain ⟨h70, h71⟩ := h7
        have z : decide ((0 : Int) < (k : Int)) = false := by simp; omega
        have z2 : decide (0 < k) = false := by simp; omega
        clear hk0 hZ hP HC
        go_wp2_with fail
        go_quiet ((go_at_call 83; exact quiet_left (l6In_any _ _ _ _)))
        go_wp2
        go_roundw
        case rel => exact ⟨k + 1, x0, by omega, by go_num, HE, by omega, Lib.hid (fun _ => ⟨x1, HX.out⟩), Lib.hid (by omega), (by repeat' (first | (with_reducible exact Below.refl _ _) | (with_reducible assumption) | (with_reducible refine below_step (by assumption) ?_) | (with_reducible refine below_alloc ?_ _) | (with_reducible refine Below.drew ?_) | (with_reducible refine below_drewN ?_ _) | (with_reducible refine Below.setCell ?_ ?_ _) | go_size))⟩
        case measure => simp [intOf]; omega
      · obtain ⟨y1, hy⟩ := hP.out (by omega)
        have d0 : wr.cell? ⟨b, o + (k - 1) * 2, none⟩ = some (.int .i64 L) := HC.out (k - 1) _ hy 0 _ rfl
        have z : decide ((0 : Int) < (k : Int)) = true := by simp; omega
        have z1 : (1 : Int) ≤ (k : Int) := by omega
        have z2 : 0 < k := by omega
        clear hy hk0 hZ hP HC
        obtain ⟨h70, h71⟩ := h7
        by_cases hle : x0 ≤ L
        · have HE : Hid (locksFrom (-1) xs = false) := Lib.hid (by
            rw [HT.out]; simp; omega)
          go_wp2_with fail
          go_quiet ((go_at_call 83; exact quiet_left (l6In_any _ _ _ _)))
          go_wp2
          go_ret
          exact ⟨ret_bool HE.out.symm, (by repeat' (first | (with_reducible exact Below.refl _ _) | (with_reducible assumption) | (with_reducible refine below_step (by assumption) ?_) | (with_reducible refine below_alloc ?_ _) | (with_reducible refine Below.drew ?_) | (with_reducible refine below_drewN ?_ _) | (with_reducible refine Below.setCell ?_ ?_ _) | go_size))⟩
        · have HE : Hid (locksFrom (-1) xs = locksFrom x0 (xs.drop (k + 1))) := Lib.hid (by
            rw [HT.out, E1]; simp; omega)
          have hle' : decide (x0 ≤ L) = false := by simp; omega
          go_wp2_with fail
          go_quiet ((go_at_call 83; exact quiet_left (l6In_any _ _ _ _)))
          go_wp2
          go_roundw
          case rel => exact ⟨k + 1, x0, by omega, by go_num, HE, by omega, Lib.hid (fun _ => ⟨x1, HX.out⟩), Lib.hid (by omega), (by repeat' (first | (with_reducible exact Below.refl _ _) | (with_reducible assumption) | (with_reducible refine below_step (by assumption) ?_) | (with_reducible refine below_alloc ?_ _) | (with_reducible refine Below.drew ?_) | (with_reducible refine below_drewN ?_ _) | (with_reducible refine Below.setCell ?_ ?_ _) | go_size))⟩
          case measure => simp [intOf]; omega
    · have HE : Hid (locksFrom (-1) xs = true) := Lib.hid (by
        rw [hT.out, List.drop_of_length_le (by omega)]; rfl)
      go_wp2
      go_ret
      exact ⟨ret_bool HE.out.symm, (by repeat' (first | (with_reducible exact Below.refl _ _) | (with_reducible assumption) | (with_reducible refine below_step (by assumption) ?_) | (with_reducible refine below_alloc ?_ _) | (with_reducible refine Below.drew ?_) | (with_reducible refine below_drewN ?_ _) | (with_reducible refine Below.setCell ?_ ?_ _) | go_size))⟩

theorem ownerValid_any (x : Int) (w : World) : Calls Try.prog 86 #[.int .i64 x] w fun e w' => e = .returned (.bool (inB x 1 99)) ∧ w = w' := by
  rcases (show x < 1 ∨ 99 < x ∨ (1 ≤ x ∧ x ≤ 99) from by omega) with h | h | ⟨h, h'⟩
  · have e := Lib.hid (show inB x 1 99 = false from inB_f (by omega))
    go_enter Try.func86, Try.ntmps86
    go_wp2
    go_ret
    exact ⟨ret_bool (by first | exact e.out.symm | (rw [e.out]; simp; omega)), rfl⟩
  · have e := Lib.hid (show inB x 1 99 = false from inB_f (by omega))
    go_enter Try.func86, Try.ntmps86
    go_wp2
    go_ret
    exact ⟨ret_bool (by first | exact e.out.symm | (rw [e.out]; simp; omega)), rfl⟩
  · have e := Lib.hid (show inB x 1 99 = true from inB_t (by omega))
    go_enter Try.func86, Try.ntmps86
    go_wp2
    go_ret
    exact ⟨ret_bool (by first | exact e.out.symm | (rw [e.out]; simp; omega)), rfl⟩

set_option maxHeartbeats 1600000 in
theorem implLocks_any (A : Option Addr) (n c : Nat) (xs : List (Int × Int)) (hn : n ≤ 1048576) (hx : xs.length = n) (w : World) (hL : Lies w 2 A n (xs.flatMap lockCells)) :
    Calls Try.prog 79 #[.slice A n c] w fun e w' => e = .returned (.bool (locksFrom (-1) xs)) ∧ Below w.heap.size w w' := by
  go_enter Try.func79, Try.ntmps79
  go_wp2
  go_loopw [3, 8] (fun l i wr => ∃ (k : Nat) (L : Int), k ≤ n ∧ i = .int .i64 k ∧ l = .int .i64 L ∧ Hid (locksFrom (-1) xs = locksFrom L (xs.drop k)) ∧ -1 ≤ L ∧ Below w.heap.size w wr) (fun _ i _ => n - (intOf i).toNat)
  case atStart => exact ⟨0, -1, Nat.zero_le _, rfl, rfl, by unfold Hid; rfl, by omega, Below.refl _ _⟩
  case round =>
    obtain ⟨k, L, hk, rfl, rfl, hT, hL1, hB⟩ := hrel
    by_cases hlt : k < n
    · obtain ⟨b, o, rfl, hb, hc⟩ := (hL.below hB).row (fun _ => rfl) (by omega)
      obtain ⟨⟨x0, x1⟩, hxk⟩ := get_lt hx hlt
      have c0 : wr.cell? ⟨b, o + k * 2, none⟩ = some (.int .i64 x0) := hc k _ hxk 0 _ rfl
      have c1 : wr.cell? ⟨b, o + k * 2 + 1, none⟩ = some (.int .i64 x1) := hc k _ hxk 1 _ rfl
      have HT := Lib.hid (locks_step hxk hT.out)
      clear hxk hc hT
      by_cases g1 : x0 ≤ L
      · have HE : Hid (locksFrom (-1) xs = false) := Lib.hid (by
          rw [HT.out]; simp; omega)
        go_wp2
        go_ret
        exact ⟨ret_bool HE.out.symm, (by repeat' (first | (with_reducible exact Below.refl _ _) | (with_reducible assumption) | (with_reducible refine below_step (by assumption) ?_) | (with_reducible refine below_alloc ?_ _) | (with_reducible refine Below.drew ?_) | (with_reducible refine below_drewN ?_ _) | (with_reducible refine Below.setCell ?_ ?_ _) | go_size))⟩
      by_cases g2 : 8 ≤ x0
      · have HE : Hid (locksFrom (-1) xs = false) := Lib.hid (by
          rw [HT.out]; simp; omega)
        go_wp2
        go_ret
        exact ⟨ret_bool HE.out.symm, (by repeat' (first | (with_reducible exact Below.refl _ _) | (with_reducible assumption) | (with_reducible refine below_step (by assumption) ?_) | (with_reducible refine below_alloc ?_ _) | (with_reducible refine Below.drew ?_) | (with_reducible refine below_drewN ?_ _) | (with_reducible refine Below.setCell ?_ ?_ _) | go_size))⟩
      cases E1 : inB x1 1 99
      · have HE : Hid (locksFrom (-1) xs = false) := Lib.hid (by
          rw [HT.out]; simp [E1])
        go_wp2_with (go_at_call 86; refine (ownerValid_any _ _).mono ?_; rintro e1 w1 ⟨rfl, rfl⟩)
        go_ret
        exact ⟨ret_bool HE.out.symm, (by repeat' (first | (with_reducible exact Below.refl _ _) | (with_reducible assumption) | (with_reducible refine below_step (by assumption) ?_) | (with_reducible refine below_alloc ?_ _) | (with_reducible refine Below.drew ?_) | (with_reducible refine below_drewN ?_ _) | (with_reducible refine Below.setCell ?_ ?_ _) | go_size))⟩
      · have HE : Hid (locksFrom (-1) xs = locksFrom x0 (xs.drop (k + 1))) := Lib.hid (by
          rw [HT.out, E1]; simp; omega)
        go_wp2_with (go_at_call 86; refine (ownerValid_any _ _).mono ?_; rintro e1 w1 ⟨rfl, rfl⟩)
        go_roundw
        case rel => exact ⟨k + 1, x0, by omega, by go_num, rfl, HE, by omega, (by repeat' (first | (with_reducible exact Below.refl _ _) | (with_reducible assumption) | (with_reducible refine below_step (by assumption) ?_) | (with_reducible refine below_alloc ?_ _) | (with_reducible refine Below.drew ?_) | (with_reducible refine below_drewN ?_ _) | (with_reducible refine Below.setCell ?_ ?_ _) | go_size))⟩
        case measure => simp [intOf]; omega
    · have HE : Hid (locksFrom (-1) xs = true) := Lib.hid (by
        rw [hT.out, List.drop_of_length_le (by omega)]; rfl)
      go_wp2
      go_ret
      exact ⟨ret_bool HE.out.symm, (by repeat' (first | (with_reducible exact Below.refl _ _) | (with_reducible assumption) | (with_reducible refine below_step (by assumption) ?_) | (with_reducible refine below_alloc ?_ _) | (with_reducible refine Below.drew ?_) | (with_reducible refine below_drewN ?_ _) | (with_reducible refine Below.setCell ?_ ?_ _) | go_size))⟩
end Go.Proofs.Ytfbnpnajpkhkdaa
