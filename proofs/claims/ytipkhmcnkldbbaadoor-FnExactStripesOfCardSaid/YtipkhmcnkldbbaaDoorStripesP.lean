/-
  The stripes of names, told plainly: a mark for each of the eight, and the marked ones in ascending order. No condition.
-/
import Derived.Test.YtipkhmcnkldbbaaDoorNameS
import Derived.Test.YtipkhmcnkldbbaaDoorPut11
namespace Go.Proofs.YtipkhmcnkldbbaaDoor
open Go.ChangeShapes Go.WideShapes Go.ChangeAt Go.RowKit

/-- The marked numbers, of the first k. -/
def markedTo (bs : List Bool) (k : Nat) : List Int := ((List.range k).filter (fun j => bs[j]?.getD false)).map (fun (j : Nat) => (j : Int))
def marked (bs : List Bool) : List Int := markedTo bs 8
theorem markedTo_hit {bs : List Bool} {k : Nat} (h : bs[k]? = some true) : markedTo bs (k + 1) = markedTo bs k ++ [(k : Int)] := by
  unfold markedTo; rw [List.range_succ, List.filter_append]; simp [h]
theorem markedTo_miss {bs : List Bool} {k : Nat} (h : bs[k]? = some false) : markedTo bs (k + 1) = markedTo bs k := by
  unfold markedTo; rw [List.range_succ, List.filter_append]; simp [h]
theorem markedTo_len (bs : List Bool) (k : Nat) : (markedTo bs k).length ≤ k := by
  unfold markedTo
  rw [List.length_map]
  have := List.length_filter_le (fun j => bs[j]?.getD false) (List.range k)
  rwa [List.length_range] at this
theorem put_marked8 : ∀ (b0 b1 b2 b3 b4 b5 b6 b7 : Bool) (n : Fin 8), insEnd ((n.1 : Nat) : Int) (insRun (inGe (n.1 : Nat)) (inEq (n.1 : Nat)) ((n.1 : Nat) : Int) (false, []) (marked [b0, b1, b2, b3, b4, b5, b6, b7])) = marked ([b0, b1, b2, b3, b4, b5, b6, b7].set n.1 true) := by
  decide +kernel
theorem put_marked {bs : List Bool} (hb : bs.length = 8) {n : Nat} (hn : n < 8) : insEnd (n : Int) (insRun (inGe n) (inEq n) (n : Int) (false, []) (marked bs)) = marked (bs.set n true) := by
  match bs, hb with
  | [b0, b1, b2, b3, b4, b5, b6, b7], _ => exact put_marked8 b0 b1 b2 b3 b4 b5 b6 b7 ⟨n, hn⟩
def none8 : List Bool := [false, false, false, false, false, false, false, false]
def marksOf (st : Int) (xs : List ByteArray) : List Bool := xs.foldl (fun bs s => bs.set (stripeV s st).toNat true) none8
theorem marksOf_succ {st : Int} {xs : List ByteArray} {k : Nat} {s : ByteArray} (h : xs[k]? = some s) : marksOf st (xs.take (k + 1)) = (marksOf st (xs.take k)).set (stripeV s st).toNat true := by
  unfold marksOf; rw [take_succ_of h, List.foldl_append]; rfl
theorem foldl_set_length (st : Int) : ∀ (xs : List ByteArray) (bs : List Bool), (xs.foldl (fun bs s => bs.set (stripeV s st).toNat true) bs).length = bs.length
  | [], _ => rfl
  | x :: xs, bs => by rw [List.foldl_cons, foldl_set_length st xs]; simp
theorem marksOf_length (st : Int) (xs : List ByteArray) : (marksOf st xs).length = 8 := foldl_set_length st xs none8
theorem stripe_bound (s : ByteArray) (st : Int) : stripeV s st ≤ 7 := by
  unfold stripeV
  split
  · rename_i h
    rw [Bool.and_eq_true] at h
    obtain ⟨h1, h2⟩ := inB_iff.1 h.2
    have := Int.emod_lt_of_pos (hashI s.data.toList) (show 0 < st by omega)
    omega
  · omega
def badS (st : Int) (xs : List ByteArray) : Bool := xs.any (fun s => decide (stripeV s st < 0))
def stripesL (xs : List ByteArray) (st : Int) : List Int := if badS st xs then [] else marked (marksOf st xs)
theorem bad_at {st : Int} {xs : List ByteArray} {k : Nat} {s : ByteArray} (h : xs[k]? = some s) (hs : stripeV s st < 0) : stripesL xs st = [] := by
  unfold stripesL
  rw [if_pos]
  unfold badS
  rw [List.any_eq_true]
  exact ⟨s, List.mem_of_getElem? h, by simpa using hs⟩
theorem good_all {st : Int} {xs : List ByteArray} (h : ∀ s ∈ xs, ¬ stripeV s st < 0) : stripesL xs st = marked (marksOf st xs) := by
  unfold stripesL
  rw [if_neg]
  unfold badS
  rw [List.any_eq_true]
  rintro ⟨s, hs, h2⟩
  exact h s hs (by simpa using h2)
theorem bad_stripes {st : Int} (h : inB st 1 8 = false) : ∀ xs : List ByteArray, stripesL xs st = []
  | [] => by unfold stripesL; rw [if_neg (by simp [badS])]; rfl
  | s :: xs => bad_at (k := 0) rfl (by rw [stripe_f2 h]; omega)
theorem stripesL_len (xs : List ByteArray) (st : Int) : (stripesL xs st).length ≤ 8 := by
  unfold stripesL
  split
  · simp
  · exact markedTo_len _ 8
end Go.Proofs.YtipkhmcnkldbbaaDoor
