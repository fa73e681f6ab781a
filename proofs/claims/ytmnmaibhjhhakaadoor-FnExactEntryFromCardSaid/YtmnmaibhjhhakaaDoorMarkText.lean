/-
  The laws' markText: the text that it makes of a number, for every number from 1 on. No condition.
-/
import Derived.Test.YtmnmaibhjhhakaaDoorDecS
import Derived.Test.YtmnmaibhjhhakaaDoorKeep
namespace Go.Proofs.YtmnmaibhjhhakaaDoor
open Go.ChangeShapes Go.WideShapes Go.ChangeAt Go.RowKit

/-- markText of a number from 1 on. -/
def mtext (q : Int) : ByteArray := (⟨#[109]⟩ : ByteArray) ++ decS q
def strL (s : List UInt8) : ByteArray := ⟨s.toArray⟩
theorem strL_cons (c : UInt8) (s : List UInt8) : (⟨#[c]⟩ : ByteArray) ++ strL s = strL (c :: s) := by
  rw [show (⟨#[c]⟩ : ByteArray) = ⟨[c].toArray⟩ from rfl]; exact bytes_append _ _
theorem strL_size (s : List UInt8) : (strL s).size = s.length := by show s.toArray.size = _; simp
def MkInv (q m : Int) (s : List UInt8) : Prop := if m = 0 then s = Lib.decDigits q.toNat else Lib.decDigits m.toNat ++ s = Lib.decDigits q.toNat
theorem mkInv_step {q m : Int} {s : List UInt8} (h : MkInv q m s) (hm : 0 < m) : MkInv q (m / 10) (UInt8.ofNat (48 + m % 10).toNat :: s) := by
  unfold MkInv at h ⊢
  rw [if_neg (by omega)] at h
  by_cases c : m < 10
  · rw [if_pos (by omega), ← h, Lib.decDigits_one (by omega)]
    have : (48 + m % 10).toNat = 48 + m.toNat := by omega
    rw [this]; rfl
  · rw [if_neg (by omega), ← h]
    rw [show Lib.decDigits m.toNat = Lib.decDigits (m / 10).toNat ++ [UInt8.ofNat (48 + m % 10).toNat] from ?_]
    · simp
    · rw [Lib.decDigits, dif_neg (by omega)]
      congr 2
      · congr 1; omega
      · congr 1; omega
theorem decL_len (q : Int) (h1 : q ≤ 9223372036854775807) : (Lib.decDigits q.toNat).length ≤ 100 := by
  rw [Lib.decDigits_length]; exact nDigits_le _ 99 (by omega)
theorem mkInv_len {q m : Int} {s : List UInt8} (h : MkInv q m s) (h1 : q ≤ 9223372036854775807) : s.length ≤ 100 := by
  have hl := decL_len q h1
  unfold MkInv at h
  split at h
  · rw [h]; exact hl
  · rw [← h, List.length_append] at hl; omega

end Go.Proofs.YtmnmaibhjhhakaaDoor
