/-
  Slices of ints: their cells, the laws' copy, count and equality. For every readable slice. No condition.
-/
import Derived.Test.YtkianldpmlbgcaaMade
import Derived.Test.YtkianldpmlbgcaaSz
import Derived.WalkSpells
import Derived.WalkLawsBesides
namespace Go.Proofs.Ytkianldpmlbgcaa
open Go.ChangeShapes Go.WideShapes Go.ChangeAt Go.RowKit

def intCells (x0 : Int) : List Value := [.int .i64 x0]
def intOk (x0 : Int) : Prop := IntOk x0
theorem intDec (w : World) : ∀ row, CellsAre w [0] row → ∃ x, row = intCells x ∧ intOk x := by
  intro row h
  have hl := h.length
  match row, hl with
  | [_], _ =>
    obtain ⟨⟨x0, rfl, o0⟩, _⟩ := h
    exact ⟨x0, rfl, o0⟩
theorem int_map (zs : List Int) : zs.map (Value.int .i64) = zs.flatMap intCells := by
  induction zs with
  | nil => rfl
  | cons z zs ih => rw [List.map_cons, ih]; rfl
theorem infoInt : (Try.prog.info? 3).map (fun i => (i.zero, i.size, i.bytes)) = some (some (.int .i64 0), 1, 8) := by kernel_rfl

set_option maxHeartbeats 1600000 in
theorem toIntS_any (A : Option Addr) (n c : Nat) (xs : List Int) (hn : n ≤ 1048576) (hx : xs.length = n) (w : World) (hL : Lies w 1 A n (xs.flatMap intCells)) :
    Calls Try.prog 40 #[.slice A n c] w fun e w' => ∃ g, e = .returned (.slice (some ⟨g, 0, none⟩) n n) ∧ w'.ownsRow w.heap.size 3 1 (.slice (some ⟨g, 0, none⟩) n n) n (xs.flatMap intCells) ∧ Below w.heap.size w w' := by
  obtain ⟨i0, hi, hz0, hz1, hz2⟩ := info_parts infoInt
  have hmk := fun W => run_make_rowN (P := Try.prog) 29 3 i0 _ Try.underlying29 hi hz0 .i64 .i64 n n (Nat.le_refl _) (by rw [hz2]; omega) (by omega) W
  rw [hz1] at hmk
  clear hi hz0 hz1 hz2
  go_enter Try.func40, Try.ntmps40
  go_wp2
  go_loopw [4] (fun i wr => ∃ k : Nat, k ≤ n ∧ i = .int .i64 k ∧ Filled wr w.heap.size 3 1 w.heap.size n ((xs.take k).flatMap intCells) k ∧ Below w.heap.size w wr) (fun i _ => n - (intOf i).toNat)
  case atStart => exact ⟨0, Nat.zero_le _, rfl, Filled.start _ n (Nat.le_refl _) (by unfold maxLen; omega) (by simp [size_madeCells]), below_alloc (Below.refl _ _) _⟩
  case round =>
    obtain ⟨k, hk, rfl, hF, hB⟩ := hrel
    by_cases hlt : k < n
    · obtain ⟨b, o, rfl, hb, hc⟩ := (hL.below hB).row (fun _ => rfl) (by omega)
      obtain ⟨x0, hxk⟩ := get_lt hx hlt
      have c0 : wr.cell? ⟨b, o + k, none⟩ = some (.int .i64 x0) := by simpa using hc k _ hxk 0 _ rfl
      have HX := Lib.hid hxk
      clear hxk hc
      obtain ⟨u0, d0⟩ := hF.cell k (by omega)
      have f0 := hF.frozen k
      go_wp2
      go_roundw
      case rel => exact ⟨k + 1, by omega, by go_num, by rw [flat_succ _ HX.out]; have h := hF.stored [.int .i64 x0] rfl hlt; rw [Nat.mul_one] at h; exact h, setAll_below [.int .i64 x0] _ k (Nat.le_refl _) hB⟩
      case measure => simp [intOf]; omega
    · obtain rfl : k = n := by omega
      go_wp2
      go_ret
      rw [List.take_of_length_le (by omega)] at hF
      exact ⟨_, rfl, hF.owns, hB⟩

set_option maxHeartbeats 3200000 in
theorem eqIntS_any (A B : Option Addr) (n c m d : Nat) (xs ys : List Int) (hn : n ≤ 1048576) (hx : xs.length = n) (hy : ys.length = m) (w : World) (hL : Lies w 1 A n (xs.flatMap intCells)) (hM : Lies w 1 B m (ys.flatMap intCells)) :
    Calls Try.prog 24 #[.slice A n c, .slice B m d] w fun e w' => e = .returned (.bool (decide (xs = ys))) ∧ Below w.heap.size w w' := by
  by_cases hnm : n = m
  · subst hnm
    go_enter Try.func24, Try.ntmps24
    go_wp2
    go_loopw [5] (fun i wr => ∃ k : Nat, k ≤ n ∧ i = .int .i64 k ∧ Hid (xs.take k = ys.take k) ∧ Below w.heap.size w wr) (fun i _ => n - (intOf i).toNat)
    case atStart => exact ⟨0, Nat.zero_le _, rfl, by unfold Hid; rfl, Below.refl _ _⟩
    case round =>
      obtain ⟨k, hk, rfl, hT, hB⟩ := hrel
      by_cases hlt : k < n
      · obtain ⟨b, o, rfl, hb, hc⟩ := (hL.below hB).row (fun _ => rfl) (by omega)
        obtain ⟨x0, hxk⟩ := get_lt hx hlt
        obtain ⟨b', o', rfl, hb', hc'⟩ := (hM.below hB).row (fun _ => rfl) (by omega)
        obtain ⟨y0, hyk⟩ := get_lt hy hlt
        have c0 : wr.cell? ⟨b, o + k, none⟩ = some (.int .i64 x0) := by simpa using hc k _ hxk 0 _ rfl
        have d0 : wr.cell? ⟨b', o' + k, none⟩ = some (.int .i64 y0) := by simpa using hc' k _ hyk 0 _ rfl
        have HX := Lib.hid hxk
        have HY := Lib.hid hyk
        clear hxk hc hyk hc'
        by_cases he : x0 = y0
        · have HE : Hid (xs.take (k + 1) = ys.take (k + 1)) := Lib.hid (by rw [take_succ_of HX.out, take_succ_of HY.out, hT.out, he])
          have E : (x0 != y0) = false := by simp [he]
          clear he
          go_wp2_with fail
          go_quiet (fail)
          go_wp2
          go_roundw
          case rel => exact ⟨k + 1, by omega, by go_num, HE, (by repeat' (first | (with_reducible exact Below.refl _ _) | (with_reducible assumption) | (with_reducible refine below_step (by assumption) ?_) | (with_reducible refine below_alloc ?_ _) | (with_reducible refine Below.drew ?_) | (with_reducible refine below_drewN ?_ _) | (with_reducible refine Below.setCell ?_ ?_ _) | go_size))⟩
          case measure => simp [intOf]; omega
        · have HE : Hid (decide (xs = ys) = false) := Lib.hid (by simp only [ne_of_get HX.out HY.out he, decide_false])
          have E : (x0 != y0) = true := by simp [he]
          clear he
          go_wp2_with fail
          go_quiet (fail)
          go_wp2
          go_ret
          exact ⟨ret_bool HE.out.symm, (by repeat' (first | (with_reducible exact Below.refl _ _) | (with_reducible assumption) | (with_reducible refine below_step (by assumption) ?_) | (with_reducible refine below_alloc ?_ _) | (with_reducible refine Below.drew ?_) | (with_reducible refine below_drewN ?_ _) | (with_reducible refine Below.setCell ?_ ?_ _) | go_size))⟩
      · have HE : Hid (decide (xs = ys) = true) := Lib.hid (by
          have h := hT.out
          rw [List.take_of_length_le (by omega), List.take_of_length_le (by omega)] at h
          simp only [h, decide_true])
        go_wp2
        go_ret
        exact ⟨ret_bool HE.out.symm, (by repeat' (first | (with_reducible exact Below.refl _ _) | (with_reducible assumption) | (with_reducible refine below_step (by assumption) ?_) | (with_reducible refine below_alloc ?_ _) | (with_reducible refine Below.drew ?_) | (with_reducible refine below_drewN ?_ _) | (with_reducible refine Below.setCell ?_ ?_ _) | go_size))⟩
  · have HE : Hid (decide (xs = ys) = false) := Lib.hid (by
      have : xs ≠ ys := fun h => hnm (by rw [← hx, ← hy, h])
      simp only [this, decide_false])
    have N : ((n : Int) != (m : Int)) = true := by simp; omega
    go_enter Try.func24, Try.ntmps24
    go_wp2
    go_ret
    exact ⟨ret_bool HE.out.symm, (by repeat' (first | (with_reducible exact Below.refl _ _) | (with_reducible assumption) | (with_reducible refine below_step (by assumption) ?_) | (with_reducible refine below_alloc ?_ _) | (with_reducible refine Below.drew ?_) | (with_reducible refine below_drewN ?_ _) | (with_reducible refine Below.setCell ?_ ?_ _) | go_size))⟩

theorem szIntS_any (A : Option Addr) (n c : Nat) (hn : n ≤ maxLen) (left : Int) (h0 : 0 ≤ left) (h1 : left ≤ 1048576) (w : World) :
    Calls Try.prog 37 #[.slice A n c, .int .i64 left] w fun e w' => e = .returned (.int .i64 (szN left n)) ∧ w = w' := by
  unfold maxLen at hn
  by_cases c : left < n
  · have e : Hid (szN left n = -1) := Lib.hid (by unfold szN; rw [if_pos c])
    go_enter Try.func37, Try.ntmps37
    go_wp2
    go_ret
    exact ⟨ret_int e.out.symm, rfl⟩
  · have e : Hid (szN left n = left - n) := Lib.hid (by unfold szN; rw [if_neg c])
    go_enter Try.func37, Try.ntmps37
    go_wp2
    go_ret
    exact ⟨ret_int e.out.symm, rfl⟩
end Go.Proofs.Ytkianldpmlbgcaa
