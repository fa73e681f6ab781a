/-
  The stripe of a name, of the reference and of the program, for every text. No condition beyond what the rows list.
-/
import Derived.Test.YtmnmaibhjhhakaaGreatDoorBunN
namespace Go.Proofs.YtmnmaibhjhhakaaGreatDoor
open Go.ChangeShapes Go.WideShapes Go.ChangeAt Go.RowKit

def hashI (l : List UInt8) : Int := l.foldl (fun n c => (31 * n + (c.toNat : Int)) % 9973) 5
theorem hashI_snoc (l : List UInt8) (c : UInt8) : hashI (l ++ [c]) = (31 * hashI l + (c.toNat : Int)) % 9973 := by unfold hashI; rw [List.foldl_append]; rfl
theorem take_hash {s : ByteArray} {k : Nat} (h : k < s.size) : hashI (s.data.toList.take (k + 1)) = (31 * hashI (s.data.toList.take k) + (s[k].toNat : Int)) % 9973 := by
  rw [← hashI_snoc]
  congr 1
  rw [List.take_add_one, List.getElem?_eq_getElem (by simpa using h)]
  rfl
/-- What NameStripe answers. -/
def stripeV (s : ByteArray) (st : Int) : Int := if nameB s && inB st 1 8 then hashI s.data.toList % st else -1

theorem round_facts (v : Int) (c : UInt8) (h0 : 0 ≤ v) (h1 : v ≤ 9973) : IntKind.i64.wrap (31 * v) = 31 * v ∧ IntKind.i64.wrap (c.toNat : Int) = c.toNat ∧ IntKind.i64.wrap (31 * v + (c.toNat : Int)) = 31 * v + c.toNat ∧ (31 * v + (c.toNat : Int)).tmod 9973 = (31 * v + (c.toNat : Int)) % 9973 ∧ IntKind.i64.wrap ((31 * v + (c.toNat : Int)) % 9973) = (31 * v + (c.toNat : Int)) % 9973 ∧ 0 ≤ (31 * v + (c.toNat : Int)) % 9973 ∧ (31 * v + (c.toNat : Int)) % 9973 ≤ 9973 := by
  have hc := c.toNat_lt
  refine ⟨IntWalk.i64_in _ ⟨by omega, by omega⟩, IntWalk.i64_in _ ⟨by omega, by omega⟩, IntWalk.i64_in _ ⟨by omega, by omega⟩, Int.tmod_eq_emod_of_nonneg (by omega), IntWalk.i64_in _ ⟨by omega, by omega⟩, by omega, by omega⟩
theorem last_facts (v st : Int) (h0 : 0 ≤ v) (s0 : 1 ≤ st) (s1 : st ≤ 8) : v.tmod st = v % st ∧ IntKind.i64.wrap (v % st) = v % st ∧ (st == 0) = false := by
  have a := Int.emod_nonneg v (show st ≠ 0 by omega)
  have b := Int.emod_lt_of_pos v (show 0 < st by omega)
  refine ⟨Int.tmod_eq_emod_of_nonneg h0, IntWalk.i64_in _ ⟨by omega, by omega⟩, by rw [beq_eq_false_iff_ne]; omega⟩

theorem stripe_f1 {s : ByteArray} {st : Int} (h : nameB s = false) : stripeV s st = -1 := by unfold stripeV; rw [h]; rfl
theorem stripe_f2 {s : ByteArray} {st : Int} (h : inB st 1 8 = false) : stripeV s st = -1 := by unfold stripeV; rw [h]; simp
theorem stripe_t {s : ByteArray} {st : Int} (h : nameB s = true) (h2 : inB st 1 8 = true) : stripeV s st = hashI s.data.toList % st := by unfold stripeV; rw [h, h2]; rfl

end Go.Proofs.YtmnmaibhjhhakaaGreatDoor
