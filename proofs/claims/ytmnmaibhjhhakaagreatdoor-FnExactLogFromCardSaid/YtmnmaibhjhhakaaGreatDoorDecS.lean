/-
  Decimal texts, told plainly; a byte as a text. No condition.
-/
import Derived.Test.YtmnmaibhjhhakaaGreatDoorSz
import Derived.Lib.ItoaNum
import Derived.Laws.IdiomStrings
namespace Go.Proofs.YtmnmaibhjhhakaaGreatDoor
open Go.ChangeShapes Go.WideShapes Go.ChangeAt Go.RowKit

/-- The decimal text. -/
def decS (n : Int) : ByteArray := ⟨(Lib.decDigits n.toNat).toArray⟩

theorem bytes_append (a b : List UInt8) : (⟨a.toArray⟩ : ByteArray) ++ ⟨b.toArray⟩ = ⟨(a ++ b).toArray⟩ := by
  apply ByteArray.ext
  simp [ByteArray.data_append]
theorem decS_big {n : Int} (_h0 : 0 ≤ n) (h10 : ¬ n < 10) : decS n = decS (n / 10) ++ ⟨#[UInt8.ofNat (48 + n % 10).toNat]⟩ := by
  unfold decS
  rw [show (⟨#[UInt8.ofNat (48 + n % 10).toNat]⟩ : ByteArray) = ⟨[UInt8.ofNat (48 + n % 10).toNat].toArray⟩ from rfl, bytes_append]
  congr 2
  rw [Lib.decDigits, dif_neg (by omega)]
  congr 2
  · congr 1; omega
  · congr 1; omega

theorem conv_byte (W : World) (a : Addr) (m : Int) (h0 : 0 ≤ m) (h1 : m ≤ 255) (h : W.cell? a = some (.int .u8 m)) (c : Nat) :
    (convert 65 9 (.slice (some a) 1 c)).run Tryz.prog W = .ok (.string ⟨#[UInt8.ofNat m.toNat]⟩) W := by
  have e : m = ((UInt8.ofNat m.toNat).toNat : Int) := by
    have : (UInt8.ofNat m.toNat).toNat = m.toNat := by simp; omega
    omega
  refine run_convert_bytes_back W _ _ 5 a c [UInt8.ofNat m.toNat] Tryz.underlying65 Tryz.underlying5 Tryz.underlying9 (fun j hj => ?_)
  have hj0 : j = 0 := by simpa using hj
  subst hj0
  rw [show (a.add 0) = a by simp [Addr.add], h]
  exact congrArg (fun x => some (Value.int .u8 x)) e

theorem nDigits_le : ∀ (u k : Nat), u < 10 ^ (k + 1) → Lib.nDigits u ≤ k + 1 := by
  intro u k
  induction k generalizing u with
  | zero => intro h; rw [Lib.nDigits_small (by simpa using h)]; omega
  | succ k ih =>
    intro h
    by_cases h10 : u < 10
    · rw [Lib.nDigits_small h10]; omega
    · rw [Lib.nDigits_big h10]
      have := ih (u / 10) (by rw [Nat.pow_succ] at h; omega)
      omega

end Go.Proofs.YtmnmaibhjhhakaaGreatDoor
