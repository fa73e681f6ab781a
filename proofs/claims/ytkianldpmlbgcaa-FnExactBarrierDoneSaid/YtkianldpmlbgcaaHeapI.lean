/-
  The heap of open positions on an ascending list: Less, Len, down and Init leave it as it is. No condition.
-/
import Derived.Test.YtkianldpmlbgcaaHeapM
namespace Go.Proofs.Ytkianldpmlbgcaa
open Go.ChangeShapes Go.WideShapes Go.ChangeAt Go.RowKit

set_option maxHeartbeats 1600000 in
theorem less_any (A : Option Addr) (n c : Nat) (xs : List Int) (hx : xs.length = n) (i j : Nat) (x y : Int) (hi : xs[i]? = some x) (hj : xs[j]? = some y) (w : World) (hL : Lies w 1 A n (xs.flatMap intCells)) :
    Calls Try.prog 77 #[.slice A n c, .int .i64 i, .int .i64 j] w fun e w' => e = .returned (.bool (decide (x < y))) ∧ Below w.heap.size w w' := by
  have hin : i < n := by rw [← hx]; exact (List.getElem?_eq_some_iff.1 hi).1
  have hjn : j < n := by rw [← hx]; exact (List.getElem?_eq_some_iff.1 hj).1
  obtain ⟨b, o, rfl, hb, hc⟩ := hL.row (fun _ => rfl) (by omega)
  have c0 : w.cell? ⟨b, o + i, none⟩ = some (.int .i64 x) := by simpa using hc i _ hi 0 _ rfl
  have c1 : w.cell? ⟨b, o + j, none⟩ = some (.int .i64 y) := by simpa using hc j _ hj 0 _ rfl
  clear hc hL hx hi hj
  go_enter Try.func77, Try.ntmps77
  go_wp2_with fail
  go_quiet (fail)
  go_wp2
  go_ret
  exact ⟨rfl, (by repeat' (first | (with_reducible exact Below.refl _ _) | (with_reducible assumption) | (with_reducible refine below_step (by assumption) ?_) | (with_reducible refine below_alloc ?_ _) | (with_reducible refine Below.drew ?_) | (with_reducible refine below_drewN ?_ _) | (with_reducible refine Below.setCell ?_ ?_ _) | go_size))⟩

theorem len_any (A : Option Addr) (n c : Nat) (w : World) :
    Calls Try.prog 58 #[.slice A n c] w fun e w' => e = .returned (.int .i64 n) ∧ w = w' := by
  go_enter Try.func58, Try.ntmps58
  go_wp2
  go_ret
  exact ⟨rfl, rfl⟩

/-- A list whose elements ascend. -/
def AscL (xs : List Int) : Prop := ∀ (j k : Nat) (x y : Int), j < k → xs[j]? = some x → xs[k]? = some y → x < y

set_option maxRecDepth 8000 in
set_option maxHeartbeats 3200000 in
theorem downAsc_any (h : Nat) (A : Option Addr) (n c : Nat) (xs : List Int) (hn : n ≤ 1048576) (hx : xs.length = n) (ha : AscL xs) (i : Nat) (hi : i < n) (w : World) (hp : w.cell? ⟨h, 0, none⟩ = some (.slice A n c)) (hL : Lies w 1 A n (xs.flatMap intCells)) :
    Calls Try.prog 60 #[.iface 64 (.pointer (some ⟨h, 0, none⟩)), .int .i64 i, .int .i64 n] w fun e w' => e = .returned (.bool false) ∧ Below w.heap.size w w' := by
  have HL := Lib.hid hL
  have HX := Lib.hid hx
  have HA := Lib.hid ha
  have w1 : IntKind.i64.wrap (2 * (i : Int)) = 2 * (i : Int) := IntWalk.i64_in _ ⟨by omega, by omega⟩
  have w2 : IntKind.i64.wrap (2 * (i : Int) + 1) = 2 * (i : Int) + 1 := IntWalk.i64_in _ ⟨by omega, by omega⟩
  have w3 : IntKind.i64.wrap (2 * (i : Int) + 1 + 1) = 2 * (i : Int) + 1 + 1 := IntWalk.i64_in _ ⟨by omega, by omega⟩
  clear hL hx ha
  obtain ⟨xi, hxi⟩ := get_lt HX.out hi
  have HI := Lib.hid hxi
  clear hxi
  by_cases h1 : 2 * i + 1 < n
  · by_cases h2 : 2 * i + 1 + 1 < n
    · obtain ⟨x1, hx1⟩ := get_lt HX.out h1
      obtain ⟨x2, hx2⟩ := get_lt HX.out h2
      have H1 := Lib.hid hx1
      have H2 := Lib.hid hx2
      have h21 : decide (x2 < x1) = false := by have := HA.out _ _ _ _ (by omega) hx1 hx2; simp; omega
      have h1i : decide (x1 < xi) = false := by have := HA.out _ _ _ _ (by omega) HI.out hx1; simp; omega
      have d0 : decide ((n : Int) ≤ 2 * (i : Int) + 1) = false := by simp; omega
      have d1 : decide (2 * (i : Int) + 1 < 0) = false := by simp; omega
      have d2 : decide (2 * (i : Int) + 1 + 1 < (n : Int)) = true := by simp; omega
      clear hx1 hx2
      go_enter Try.func60, Try.ntmps60
      go_wp2_with fail
      go_loopw [7] (fun v wr => v = .int .i64 i ∧ Below w.heap.size w wr) (fun _ _ => 0)
      case atStart => exact ⟨rfl, Below.refl _ _⟩
      case round =>
        obtain ⟨rfl, hB⟩ := hrel
        have hpr := box_cell hB hp
        go_wp2_with fail
        refine (less_any _ _ _ xs HX.out (2 * i + 1 + 1) (2 * i + 1) _ _ H2.out H1.out _ (HL.out.below hB)).mono ?_
        rintro e1 w4 ⟨rfl, hb4⟩
        have hpr := box_cell hb4 hpr
        rw [h21]
        go_wp2_with fail
        refine (less_any _ _ _ xs HX.out (2 * i + 1) i _ _ H1.out HI.out _ ((HL.out.below hB).below hb4)).mono ?_
        rintro e1 w5 ⟨rfl, hb5⟩
        rw [h1i]
        go_wp2
        go_ret
        exact ⟨rfl, (by repeat' (first | (with_reducible exact Below.refl _ _) | (with_reducible assumption) | (with_reducible refine below_step (by assumption) ?_) | (with_reducible refine below_alloc ?_ _) | (with_reducible refine Below.drew ?_) | (with_reducible refine below_drewN ?_ _) | (with_reducible refine Below.setCell ?_ ?_ _) | go_size))⟩
    · obtain ⟨x1, hx1⟩ := get_lt HX.out h1
      have H1 := Lib.hid hx1
      have h1i : decide (x1 < xi) = false := by have := HA.out _ _ _ _ (by omega) HI.out hx1; simp; omega
      have d0 : decide ((n : Int) ≤ 2 * (i : Int) + 1) = false := by simp; omega
      have d1 : decide (2 * (i : Int) + 1 < 0) = false := by simp; omega
      have d2 : decide (2 * (i : Int) + 1 + 1 < (n : Int)) = false := by simp; omega
      clear hx1
      go_enter Try.func60, Try.ntmps60
      go_wp2_with fail
      go_loopw [7] (fun v wr => v = .int .i64 i ∧ Below w.heap.size w wr) (fun _ _ => 0)
      case atStart => exact ⟨rfl, Below.refl _ _⟩
      case round =>
        obtain ⟨rfl, hB⟩ := hrel
        have hpr := box_cell hB hp
        go_wp2_with fail
        refine (less_any _ _ _ xs HX.out (2 * i + 1) i _ _ H1.out HI.out _ (HL.out.below hB)).mono ?_
        rintro e1 w5 ⟨rfl, hb5⟩
        rw [h1i]
        go_wp2
        go_ret
        exact ⟨rfl, (by repeat' (first | (with_reducible exact Below.refl _ _) | (with_reducible assumption) | (with_reducible refine below_step (by assumption) ?_) | (with_reducible refine below_alloc ?_ _) | (with_reducible refine Below.drew ?_) | (with_reducible refine below_drewN ?_ _) | (with_reducible refine Below.setCell ?_ ?_ _) | go_size))⟩
  · go_enter Try.func60, Try.ntmps60
    go_wp2_with fail
    go_rounds 1
    go_ret
    exact ⟨rfl, (by repeat' (first | (with_reducible exact Below.refl _ _) | (with_reducible assumption) | (with_reducible refine below_step (by assumption) ?_) | (with_reducible refine below_alloc ?_ _) | (with_reducible refine Below.drew ?_) | (with_reducible refine below_drewN ?_ _) | (with_reducible refine Below.setCell ?_ ?_ _) | go_size))⟩

set_option maxHeartbeats 3200000 in
theorem initAsc_any (h : Nat) (A : Option Addr) (n c : Nat) (xs : List Int) (hn : n ≤ 1048576) (hx : xs.length = n) (ha : AscL xs) (w : World) (hp : w.cell? ⟨h, 0, none⟩ = some (.slice A n c)) (hL : Lies w 1 A n (xs.flatMap intCells)) :
    Calls Try.prog 56 #[.iface 64 (.pointer (some ⟨h, 0, none⟩))] w fun e w' => e = .returned (.tuple #[]) ∧ Below w.heap.size w w' := by
  have HL := Lib.hid hL
  have HX := Lib.hid hx
  have HA := Lib.hid ha
  clear hL hx ha
  go_enter Try.func56, Try.ntmps56
  go_wp2_with fail
  refine (len_any _ _ _ _).mono ?_
  rintro e1 w1 ⟨rfl, rfl⟩
  go_wp2_with fail
  go_loopw [3] (fun v wr => ∃ k : Nat, k ≤ n / 2 ∧ v = .int .i64 ((k : Int) - 1) ∧ Below w.heap.size w wr) (fun v _ => (intOf v + 1).toNat)
  case atStart => exact ⟨n / 2, Nat.le_refl _, by simp, Below.refl _ _⟩
  case round =>
    obtain ⟨k, hk, rfl, hB⟩ := hrel
    by_cases h0 : k = 0
    · have e0 : ((k : Int) - 1) = -1 := by omega
      rw [e0]
      go_wp2
      go_returns
      exact ⟨rfl, (by repeat' (first | (with_reducible exact Below.refl _ _) | (with_reducible assumption) | (with_reducible refine below_step (by assumption) ?_) | (with_reducible refine below_alloc ?_ _) | (with_reducible refine Below.drew ?_) | (with_reducible refine below_drewN ?_ _) | (with_reducible refine Below.setCell ?_ ?_ _) | go_size))⟩
    · have g0 : decide ((0 : Int) ≤ (k : Int) - 1) = true := by simp; omega
      have e0 : ((k : Int) - 1) = ((k - 1 : Nat) : Int) := by omega
      have hpr := box_cell hB hp
      go_wp2_with fail
      rw [e0]
      refine (downAsc_any h _ _ _ xs hn HX.out HA.out (k - 1) (by omega) _ hpr (HL.out.below hB)).mono ?_
      rintro e1 w1 ⟨rfl, hb1⟩
      go_wp2
      go_roundw
      case rel => exact ⟨k - 1, by omega, by go_num, (by repeat' (first | (with_reducible exact Below.refl _ _) | (with_reducible assumption) | (with_reducible refine below_step (by assumption) ?_) | (with_reducible refine below_alloc ?_ _) | (with_reducible refine Below.drew ?_) | (with_reducible refine below_drewN ?_ _) | (with_reducible refine Below.setCell ?_ ?_ _) | go_size))⟩
      case measure => simp [intOf]; omega

end Go.Proofs.Ytkianldpmlbgcaa
