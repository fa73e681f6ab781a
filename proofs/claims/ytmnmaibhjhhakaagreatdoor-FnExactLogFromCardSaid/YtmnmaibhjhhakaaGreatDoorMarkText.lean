/-
  The laws' markText: the text that it makes of a number, for every number from 1 on. No condition.
-/
import Derived.Test.YtmnmaibhjhhakaaGreatDoorDecS
import Derived.Test.YtmnmaibhjhhakaaGreatDoorKeep
namespace Go.Proofs.YtmnmaibhjhhakaaGreatDoor
open Go.ChangeShapes Go.WideShapes Go.ChangeAt Go.RowKit

/-- markText of a number from 1 on. -/
def mtext (q : Int) : ByteArray := (⟨#[109]⟩ : ByteArray) ++ decS q
def strL (s : List UInt8) : ByteArray := ⟨s.toArray⟩
theorem strL_cons (c : UInt8) (s : List UInt8) : (⟨#[c]⟩ : ByteArray) ++ strL s = strL (c :: s) := by
  rw [show (⟨#[c]⟩ : ByteArray) = ⟨[c].toArray⟩ from rfl]; exact bytes_append _ _
theorem strL_size (s : List UInt8) : (strL s).size = s.length := by show s.toArray.size = _; simp
def MkInv (q m : Int) (s : List UInt8) : Prop := if m = 0 then s = Lib.decDigits q.toNat else Lib.decDigits m.toNat ++ s = Lib.decDigits q.toNat
theorem mkInv_step {q m : Int} {s : List UInt8} (h : MkInv q m s) (hm : 0 < m) : MkInv q (m / 10) (UInt8.ofNat (48 + m % 10).toNat :: s) := by
  unfold MkInv at h ⊢
  rw [if_neg (by omega)] at h
  by_cases c : m < 10
  · rw [if_pos (by omega), ← h, Lib.decDigits_one (by omega)]
    have : (48 + m % 10).toNat = 48 + m.toNat := by omega
    rw [this]; rfl
  · rw [if_neg (by omega), ← h]
    rw [show Lib.decDigits m.toNat = Lib.decDigits (m / 10).toNat ++ [UInt8.ofNat (48 + m % 10).toNat] from ?_]
    · simp
    · rw [Lib.decDigits, dif_neg (by omega)]
      congr 2
      · congr 1; omega
      · congr 1; omega
theorem decL_len (q : Int) (h1 : q ≤ 9223372036854775807) : (Lib.decDigits q.toNat).length ≤ 100 := by
  rw [Lib.decDigits_length]; exact nDigits_le _ 99 (by omega)
theorem mkInv_len {q m : Int} {s : List UInt8} (h : MkInv q m s) (h1 : q ≤ 9223372036854775807) : s.length ≤ 100 := by
  have hl := decL_len q h1
  unfold MkInv at h
  split at h
  · rw [h]; exact hl
  · rw [← h, List.length_append] at hl; omega

set_option maxHeartbeats 1600000 in
theorem markText_any (q : Int) (h0 : 1 ≤ q) (h1 : q ≤ 9223372036854775807) (w : World) :
    Calls Tryz.prog 18 #[.int .i64 q] w fun e w' => e = .returned (.string (mtext q)) ∧ Below w.heap.size w w' := by
  have hq := Lib.hid h1
  go_enter Tryz.func18, Tryz.ntmps18
  go_wp2_with fail
  go_loopw [0, 3] (fun n t wr => ∃ (m : Int) (s : List UInt8), 0 ≤ m ∧ m ≤ 9223372036854775807 ∧ n = .int .i64 m ∧ t = .string (strL s) ∧ Hid (MkInv q m s) ∧ Below w.heap.size w wr) (fun n _ _ => (intOf n).toNat)
  case atStart => exact ⟨q, [], by omega, h1, rfl, rfl, Lib.hid (by unfold MkInv; rw [if_neg (by omega), List.append_nil]), (by repeat' (first | (with_reducible exact Below.refl _ _) | (with_reducible assumption) | (with_reducible refine below_step (by assumption) ?_) | (with_reducible refine below_alloc ?_ _) | (with_reducible refine Below.drew ?_) | (with_reducible refine below_drewN ?_ _) | (with_reducible refine Below.setCell ?_ ?_ _) | go_size))⟩
  case round =>
    obtain ⟨m, s, hm0, hm1, rfl, rfl, hI, hB⟩ := hrel
    have hl := mkInv_len hI.out hq.out
    have hs : (strL s).size ≤ 100 := by rw [strL_size]; exact hl
    have hs1 : 1 + (strL s).size ≤ 9223372036854775807 := by omega
    by_cases hpos : 0 < m
    · have hc := fun (W : World) (a : Addr) (h : W.cell? a = some (.int .u8 (48 + m % 10))) => conv_byte W a (48 + m % 10) (by omega) (by omega) h 1
      have d1 : m.tdiv 10 = m / 10 := Int.tdiv_eq_ediv_of_nonneg hm0
      have d2 : m.tmod 10 = m % 10 := Int.tmod_eq_emod_of_nonneg hm0
      have d3 : IntKind.i64.wrap (m / 10) = m / 10 := IntWalk.i64_in _ ⟨by omega, by omega⟩
      have d4 : IntKind.i64.wrap (m % 10) = m % 10 := IntWalk.i64_in _ ⟨by omega, by omega⟩
      have d5 : IntKind.i64.wrap (48 + m % 10) = 48 + m % 10 := IntWalk.i64_in _ ⟨by omega, by omega⟩
      have d6 : IntKind.u8.wrap (48 + m % 10) = 48 + m % 10 := IntWalk.u8_in _ ⟨by omega, by omega⟩
      have HS := Lib.hid (mkInv_step hI.out hpos)
      have HC := Lib.hid (strL_cons (UInt8.ofNat (48 + m % 10).toNat) s)
      go_wp2
      go_roundw
      case rel => exact ⟨m / 10, UInt8.ofNat (48 + m % 10).toNat :: s, by omega, by omega, rfl, by rw [← HC.out], HS, (by repeat' (first | (with_reducible exact Below.refl _ _) | (with_reducible assumption) | (with_reducible refine below_step (by assumption) ?_) | (with_reducible refine below_alloc ?_ _) | (with_reducible refine Below.drew ?_) | (with_reducible refine below_drewN ?_ _) | (with_reducible refine Below.setCell ?_ ?_ _) | go_size))⟩
      case measure => simp [intOf]; omega
    · obtain rfl : m = 0 := by omega
      have HE : Hid ((⟨#[109]⟩ : ByteArray) ++ strL s = mtext q) := Lib.hid (by
        have h := hI.out
        unfold MkInv at h
        rw [if_pos rfl] at h
        rw [h]; rfl)
      go_wp2
      go_ret
      exact ⟨ret_str HE.out, (by repeat' (first | (with_reducible exact Below.refl _ _) | (with_reducible assumption) | (with_reducible refine below_step (by assumption) ?_) | (with_reducible refine below_alloc ?_ _) | (with_reducible refine Below.drew ?_) | (with_reducible refine below_drewN ?_ _) | (with_reducible refine Below.setCell ?_ ?_ _) | go_size))⟩
end Go.Proofs.YtmnmaibhjhhakaaGreatDoor
