/-
  The decimal text of a number: what l6Dec returns, for every number from 0 on. No condition.
-/
import Derived.Test.YtmkdmafffblmaaaDoorDecS
namespace Go.Proofs.YtmkdmafffblmaaaDoor
open Go.ChangeShapes Go.WideShapes Go.ChangeAt Go.RowKit

set_option maxHeartbeats 1600000 in
theorem l6Dec_all (k : Nat) : ∀ (n : Int) (w : World), n ≤ k → 0 ≤ n → n ≤ 9223372036854775807 →
    Calls Tryd.prog 66 #[.int .i64 n] w fun e w' => e = .returned (.string (decS n)) ∧ Below w.heap.size w w' := by
  induction k with
  | zero =>
    intro n w hk h0 h1
    have hc := fun (W : World) (a : Addr) (h : W.cell? a = some (.int .u8 (48 + n))) => conv_byte W a (48 + n) (by omega) (by omega) h 1
    have h10 : n < 10 := by omega
    have E : Hid (decS n = ⟨#[UInt8.ofNat (48 + n).toNat]⟩) := Lib.hid (by
      unfold decS; rw [Lib.decDigits_one (by omega)]; congr; omega)
    go_enter Tryd.func66, Tryd.ntmps66
    go_wp2_with fail
    go_ret
    exact ⟨ret_str E.out.symm, by go_grown⟩
  | succ k ih =>
    intro n w hk h0 h1
    by_cases h10 : n < 10
    · have hc := fun (W : World) (a : Addr) (h : W.cell? a = some (.int .u8 (48 + n))) => conv_byte W a (48 + n) (by omega) (by omega) h 1
      have E : Hid (decS n = ⟨#[UInt8.ofNat (48 + n).toNat]⟩) := Lib.hid (by
        unfold decS; rw [Lib.decDigits_one (by omega)]; congr; omega)
      clear ih
      go_enter Tryd.func66, Tryd.ntmps66
      go_wp2_with fail
      go_ret
      exact ⟨ret_str E.out.symm, by go_grown⟩
    · have hc := fun (W : World) (a : Addr) (h : W.cell? a = some (.int .u8 (48 + n % 10))) => conv_byte W a (48 + n % 10) (by omega) (by omega) h 1
      have hlen : (decS (n / 10)).size ≤ 100 := by
        show (Lib.decDigits (n / 10).toNat).toArray.size ≤ 100
        rw [List.size_toArray, Lib.decDigits_length]; exact nDigits_le _ 99 (by omega)
      have hlen2 : (decS (n / 10)).size + 1 ≤ 9223372036854775807 := by omega
      have E : Hid (decS n = decS (n / 10) ++ ⟨#[UInt8.ofNat (48 + n % 10).toNat]⟩) := Lib.hid (decS_big h0 h10)
      have IH := Lib.hid ih
      clear ih
      have d1 : n.tdiv 10 = n / 10 := Int.tdiv_eq_ediv_of_nonneg h0
      have d2 : n.tmod 10 = n % 10 := Int.tmod_eq_emod_of_nonneg h0
      have d3 : IntKind.i64.wrap (n / 10) = n / 10 := IntWalk.i64_in _ ⟨by omega, by omega⟩
      have d4 : IntKind.i64.wrap (n % 10) = n % 10 := IntWalk.i64_in _ ⟨by omega, by omega⟩
      have d5 : IntKind.i64.wrap (48 + n % 10) = 48 + n % 10 := IntWalk.i64_in _ ⟨by omega, by omega⟩
      have d6 : IntKind.u8.wrap (48 + n % 10) = 48 + n % 10 := IntWalk.u8_in _ ⟨by omega, by omega⟩
      go_enter Tryd.func66, Tryd.ntmps66
      go_wp2_with fail
      go_region_with (go_at_call 66; refine (IH.out (n / 10) _ (by omega) (by omega) (by omega)).mono ?_; rintro e1 w1 ⟨rfl, hb1⟩; obtain ⟨q1, q2, q3⟩ := bcell hb1)
      all_goals
        go_wp2
        go_ret
        exact ⟨ret_str E.out.symm, (by repeat' (first | (with_reducible exact Below.refl _ _) | (with_reducible assumption) | (with_reducible refine below_step (by assumption) ?_) | (with_reducible refine below_alloc ?_ _) | (with_reducible refine Below.drew ?_) | (with_reducible refine below_drewN ?_ _) | (with_reducible refine Below.setCell ?_ ?_ _) | go_size))⟩

theorem l6Dec_any (n : Int) (h0 : 0 ≤ n) (h1 : n ≤ 9223372036854775807) (w : World) :
    Calls Tryd.prog 66 #[.int .i64 n] w fun e w' => e = .returned (.string (decS n)) ∧ Below w.heap.size w w' := l6Dec_all n.toNat n w (by omega) h0 h1
end Go.Proofs.YtmkdmafffblmaaaDoor
