/-
  Slices of strings as arguments: the laws' copy and count. For every readable slice. No condition.
-/
import Derived.Test.YtipkhmcnkldbbaaDoorKString
namespace Go.Proofs.YtipkhmcnkldbbaaDoor
open Go.ChangeShapes Go.WideShapes Go.ChangeAt Go.RowKit

def stringOk (x : ByteArray) : Prop := StrOk x
theorem stringDec (w : World) : ∀ row, CellsAre w [1] row → ∃ x, row = strCells x ∧ stringOk x := by
  intro row h
  have hl := h.length
  match row, hl with
  | [_], _ =>
    obtain ⟨⟨x0, rfl, o0⟩, _⟩ := h
    exact ⟨x0, rfl, o0⟩

set_option maxHeartbeats 1600000 in
theorem toStringS_any (A : Option Addr) (n c : Nat) (xs : List ByteArray) (hn : n ≤ 1048576) (hx : xs.length = n) (w : World) (hL : Lies w 1 A n (xs.flatMap strCells)) :
    Calls Tryd.prog 9 #[.slice A n c] w fun e w' => ∃ g, e = .returned (.slice (some ⟨g, 0, none⟩) n n) ∧ w'.ownsRow w.heap.size 9 1 (.slice (some ⟨g, 0, none⟩) n n) n (xs.flatMap strCells) ∧ Below w.heap.size w w' := by
  obtain ⟨i0, hi, hz0, hz1, hz2⟩ := info_parts infoStr
  have hmk := fun W => run_make_rowN (P := Tryd.prog) 22 9 i0 _ Tryd.underlying22 hi hz0 .i64 .i64 n n (Nat.le_refl _) (by rw [hz2]; omega) (by omega) W
  rw [hz1] at hmk
  clear hi hz0 hz1 hz2
  go_enter Tryd.func9, Tryd.ntmps9
  go_wp2
  go_loopw [4] (fun i wr => ∃ k : Nat, k ≤ n ∧ i = .int .i64 k ∧ Filled wr w.heap.size 9 1 w.heap.size n ((xs.take k).flatMap strCells) k ∧ Below w.heap.size w wr) (fun i _ => n - (intOf i).toNat)
  case atStart => exact ⟨0, Nat.zero_le _, rfl, Filled.start _ n (Nat.le_refl _) (by unfold maxLen; omega) (by simp [size_madeCells]), below_alloc (Below.refl _ _) _⟩
  case round =>
    obtain ⟨k, hk, rfl, hF, hB⟩ := hrel
    by_cases hlt : k < n
    · obtain ⟨b, o, rfl, hb, hc⟩ := (hL.below hB).row (fun _ => rfl) (by omega)
      obtain ⟨x0, hxk⟩ := get_lt hx hlt
      have c0 : wr.cell? ⟨b, o + k, none⟩ = some (.string x0) := by simpa using hc k _ hxk 0 _ rfl
      have HX := Lib.hid hxk
      clear hxk hc
      obtain ⟨u0, d0⟩ := hF.cell k (by omega)
      have f0 := hF.frozen k
      go_wp2
      go_roundw
      case rel => exact ⟨k + 1, by omega, by go_num, by rw [flat_succ _ HX.out]; have h := hF.stored [.string x0] rfl hlt; rw [Nat.mul_one] at h; exact h, setAll_below [.string x0] _ k (Nat.le_refl _) hB⟩
      case measure => simp [intOf]; omega
    · obtain rfl : k = n := by omega
      go_wp2
      go_ret
      rw [List.take_of_length_le (by omega)] at hF
      exact ⟨_, rfl, hF.owns, hB⟩

def stringTexts (x : ByteArray) : List ByteArray := [x]
set_option maxHeartbeats 1600000 in
theorem szStringS_any (A : Option Addr) (n c : Nat) (hn : n ≤ maxLen) (xs : List (ByteArray)) (hx : xs.length = n) (hok : ∀ x ∈ xs, stringOk x) (left : Int) (h0 : 0 ≤ left) (h1 : left ≤ 1048576) (w : World) (hL : Lies w 1 A n (xs.flatMap strCells)) :
    Calls Tryd.prog 7 #[.slice A n c, .int .i64 left] w fun e w' => e = .returned (.int .i64 (szR left n (xs.flatMap stringTexts))) ∧ Below w.heap.size w w' := by
  unfold maxLen at hn
  by_cases c : left < n
  · have e : Hid (szR left n (xs.flatMap stringTexts) = -1) := Lib.hid (by unfold szR; rw [if_pos c])
    go_enter Tryd.func7, Tryd.ntmps7
    go_wp2
    go_ret
    exact ⟨ret_int e.out.symm, Below.refl _ _⟩
  · have e : Hid (szR left n (xs.flatMap stringTexts) = szT (left - n) (xs.flatMap stringTexts)) := Lib.hid (by unfold szR; rw [if_neg c])
    go_enter Tryd.func7, Tryd.ntmps7
    go_wp2
    go_loopw [1, 5] (fun l i wr => ∃ (k : Nat) (r : Int), k ≤ n ∧ i = .int .i64 k ∧ l = .int .i64 r ∧ 0 ≤ r ∧ r ≤ 1048576 ∧ Hid (szT (left - n) (xs.flatMap stringTexts) = szT r ((xs.drop k).flatMap stringTexts)) ∧ Below w.heap.size w wr) (fun _ i _ => n - (intOf i).toNat)
    case atStart => exact ⟨0, left - n, Nat.zero_le _, rfl, rfl, by omega, by omega, by unfold Hid; rfl, Below.refl _ _⟩
    case round =>
      obtain ⟨k, r, hk, rfl, rfl, hl0, hl1, hT, hB⟩ := hrel
      by_cases hlt : k < n
      · obtain ⟨b, o, rfl, hb, hc⟩ := (hL.below hB).row (fun _ => rfl) (by omega)
        obtain ⟨x0, hxk⟩ := get_lt hx hlt
        have c0 : wr.cell? ⟨b, o + k, none⟩ = some (.string x0) := by simpa using hc k _ hxk 0 _ rfl
        have ok0 : x0.size ≤ 9223372036854775807 := hok _ (List.mem_of_getElem? hxk)
        have HT : Hid (szT (left - n) (xs.flatMap stringTexts) = szT r ([x0] ++ (xs.drop (k + 1)).flatMap stringTexts)) := Lib.hid (hT.out.trans (by rw [drop_of hxk, List.flatMap_cons]; rfl))
        clear hxk hc hT
        by_cases q : szT r [x0] < 0
        · have Q : szT r [x0] = -1 := szT_neg q hl0
          have HE := Lib.hid ((e.out.trans HT.out).trans (szT_append_neg hl0 q _))
          have q9 : r < (x0.size : Int) := by
            rw [szT_one] at q; unfold szN at q; split at q <;> omega
          clear q Q
          go_wp2
          go_ret
          exact ⟨ret_int HE.out.symm, (by repeat' (first | (with_reducible exact Below.refl _ _) | (with_reducible assumption) | (with_reducible refine below_step (by assumption) ?_) | (with_reducible refine below_alloc ?_ _) | (with_reducible refine Below.drew ?_) | (with_reducible refine below_drewN ?_ _) | (with_reducible refine Below.setCell ?_ ?_ _) | go_size))⟩
        · obtain ⟨r', Q, q0, q1⟩ := szT_pos hl0 q
          have HE := Lib.hid (HT.out.trans (szT_append_pos Q q0 _))
          have q2 : r' ≤ 1048576 := by omega
          have q9 : r' = r - x0.size ∧ (x0.size : Int) ≤ r := by
            rw [szT_one] at Q; unfold szN at Q; split at Q <;> omega
          obtain ⟨rfl, q8⟩ := q9
          clear q Q
          go_wp2
          go_roundw
          case rel => exact ⟨k + 1, r - x0.size, by omega, by go_num, rfl, q0, q2, HE, (by repeat' (first | (with_reducible exact Below.refl _ _) | (with_reducible assumption) | (with_reducible refine below_step (by assumption) ?_) | (with_reducible refine below_alloc ?_ _) | (with_reducible refine Below.drew ?_) | (with_reducible refine below_drewN ?_ _) | (with_reducible refine Below.setCell ?_ ?_ _) | go_size))⟩
          case measure => simp [intOf]; omega
      · have HE : Hid (szR left n (xs.flatMap stringTexts) = r) := Lib.hid (by
          rw [e.out, hT.out, List.drop_of_length_le (by omega)]; rfl)
        go_wp2
        go_ret
        exact ⟨ret_int HE.out.symm, (by repeat' (first | (with_reducible exact Below.refl _ _) | (with_reducible assumption) | (with_reducible refine below_step (by assumption) ?_) | (with_reducible refine below_alloc ?_ _) | (with_reducible refine Below.drew ?_) | (with_reducible refine below_drewN ?_ _) | (with_reducible refine Below.setCell ?_ ?_ _) | go_size))⟩

theorem toStringS_at (B : Nat) (A : Option Addr) (n c : Nat) (xs : List ByteArray) (hn : n ≤ 1048576) (hx : xs.length = n) (w : World) (hL : ArgAt w B A 1 n (xs.flatMap strCells)) :
    Calls Tryd.prog 9 #[.slice A n c] w fun e w' => ∃ v, e = .returned v ∧ stringSAt w' w.heap.size w'.heap.size v xs ∧ Below w.heap.size w w' :=
  (toStringS_any A n c xs hn hx w hL.1).mono fun _ w' ⟨g, he, ho, hb⟩ => ⟨_, he, ⟨by omega, RowN.of hb.size (by rw [hx]; exact ho)⟩, hb⟩
theorem string_small {left : Int} {n : Nat} {xs : List ByteArray} (hl : left ≤ 1048576) (h : 0 ≤ szR left n (xs.flatMap stringTexts)) : ∀ x ∈ xs, x.size ≤ 1048576 := fun x hx => by
  unfold szR at h
  split at h
  · omega
  · rename_i hc
    have := szT_all (by omega) h x (List.mem_flatMap.2 ⟨x, hx, by simp [stringTexts]⟩)
    omega
end Go.Proofs.YtipkhmcnkldbbaaDoor
