/-
  A set of numbers as words of 64 bits, told plainly: a bit for each number. For numbers up to 9999. No condition beyond that.
-/
import Derived.Test.YtjloonjkplaplaaDoorBunS
import Derived.Laws.Bits64b
namespace Go.Proofs.YtjloonjkplaplaaDoor
open Go.ChangeShapes Go.WideShapes Go.ChangeAt Go.RowKit

/-- The j-th word of the set of some numbers. -/
def bitW (ids : List Nat) (j : Nat) : Nat := ids.foldl (fun a z => if z / 64 = j then a ||| 2 ^ (z % 64) else a) 0
theorem bitW_snoc (ids : List Nat) (z j : Nat) : bitW (ids ++ [z]) j = if z / 64 = j then bitW ids j ||| 2 ^ (z % 64) else bitW ids j := by
  unfold bitW; rw [List.foldl_append]; rfl
theorem two_lt (z : Nat) : 2 ^ (z % 64) < 2 ^ 64 := Nat.pow_lt_pow_right (by decide) (Nat.mod_lt _ (by decide))
theorem bit_induct {Q : List Nat → Prop} (h0 : Q []) (h1 : ∀ ids z, Q ids → Q (ids ++ [z])) : ∀ ids, Q ids := by
  intro ids
  have key : ∀ (zs ys : List Nat), Q ys → Q (ys ++ zs) := by
    intro zs
    induction zs with
    | nil => intro ys h; simpa using h
    | cons z zs ih =>
      intro ys h
      have := ih (ys ++ [z]) (h1 ys z h)
      simpa using this
  simpa using key ids [] h0
theorem bitW_lt (ids : List Nat) (j : Nat) : bitW ids j < 2 ^ 64 := by
  revert ids
  refine bit_induct (by show (0 : Nat) < 2 ^ 64; decide) (fun ids z h => ?_)
  rw [bitW_snoc]
  split
  · exact Nat.or_lt_two_pow h (two_lt z)
  · exact h
theorem bitW_test (ids : List Nat) (j b : Nat) (hb : b < 64) : (bitW ids j).testBit b = true ↔ 64 * j + b ∈ ids := by
  revert ids
  refine bit_induct (by simp [bitW]) (fun ids z h => ?_)
  rw [bitW_snoc, List.mem_append, List.mem_singleton]
  have hz := Nat.div_add_mod z 64
  have hm := Nat.mod_lt z (show 0 < 64 by decide)
  split
  · rename_i e
    rw [Nat.testBit_or, Bool.or_eq_true, h, Nat.testBit_two_pow, decide_eq_true_eq]
    constructor
    · rintro (g | g)
      · exact .inl g
      · exact .inr (by omega)
    · rintro (g | g)
      · exact .inl g
      · exact .inr (by omega)
  · rename_i e
    rw [h]
    constructor
    · exact .inl
    · rintro (g | g)
      · exact g
      · exact absurd (by omega) e
theorem bit_has (ids : List Nat) (z : Nat) : (bitW ids (z / 64) &&& 2 ^ (z % 64)) = 0 ↔ z ∉ ids := by
  have h := bitW_test ids (z / 64) (z % 64) (Nat.mod_lt _ (by decide))
  rw [Nat.div_add_mod] at h
  constructor
  · intro e hm
    have h2 : (bitW ids (z / 64) &&& 2 ^ (z % 64)).testBit (z % 64) = true := by rw [Nat.testBit_and, h.2 hm, Nat.testBit_two_pow]; simp
    rw [e] at h2
    simp at h2
  · intro hm
    have hf : (bitW ids (z / 64)).testBit (z % 64) = false := by
      cases e : (bitW ids (z / 64)).testBit (z % 64)
      · rfl
      · exact absurd (h.1 e) hm
    refine Nat.eq_of_testBit_eq (fun i => ?_)
    rw [Nat.testBit_and, Nat.testBit_two_pow, Nat.zero_testBit]
    by_cases c : z % 64 = i
    · rw [← c, hf]; rfl
    · simp [c]
/-- The cells of such a set. -/
def idsV (ids : List Nat) : List Value := (List.range 157).map fun j => Value.int .u64 (bitW ids j : Int)
theorem idsV_length (ids : List Nat) : (idsV ids).length = 157 := by unfold idsV; simp
theorem idsV_get (ids : List Nat) {j : Nat} (h : j < 157) : (idsV ids)[j]? = some (.int .u64 (bitW ids j : Int)) := by
  unfold idsV; rw [List.getElem?_map, List.getElem?_range h]; rfl
theorem idsV_snoc (ids : List Nat) (z : Nat) : idsV (ids ++ [z]) = (idsV ids).set (z / 64) (.int .u64 ((bitW ids (z / 64) ||| 2 ^ (z % 64) : Nat) : Int)) := by
  refine List.ext_getElem? (fun j => ?_)
  by_cases hj : j < 157
  · rw [idsV_get _ hj, List.getElem?_set, bitW_snoc]
    by_cases c : z / 64 = j
    · rw [if_pos c, if_pos c, if_pos (by rw [idsV_length]; omega), c]
    · rw [if_neg c, if_neg c, idsV_get _ hj]
  · rw [List.getElem?_eq_none (by rw [idsV_length]; omega), List.getElem?_eq_none (by rw [List.length_set, idsV_length]; omega)]
theorem idsV_one (ids : List Nat) : ∀ v ∈ idsV ids, v.oneCell' = true := by
  intro v hv
  unfold idsV at hv
  obtain ⟨j, _, rfl⟩ := List.mem_map.1 hv
  rfl

/-- The numbers of events. -/
def idsN (ys : List EvT) : List Nat := ys.map (fun y => y.1.toNat)
theorem idsN_succ {ys : List EvT} {k : Nat} {y : EvT} (h : ys[k]? = some y) : idsN (ys.take (k + 1)) = idsN (ys.take k) ++ [y.1.toNat] := by
  unfold idsN; rw [take_succ_of h, List.map_append]; rfl
/-- Where a number first stands, counted from k; -1 if it stands nowhere. -/
def idxE : Nat → List EvT → Int → Int
  | _, [], _ => -1
  | k, y :: ys, z => if y.1 = z then (k : Int) else idxE (k + 1) ys z
theorem idx_step {ys : List EvT} {k : Nat} {y : EvT} (z : Int) (h : ys[k]? = some y) : idxE k (ys.drop k) z = if y.1 = z then (k : Int) else idxE (k + 1) (ys.drop (k + 1)) z := by rw [drop_of h, idxE]
theorem idx_end {ys : List EvT} {k : Nat} (z : Int) (h : ys.length ≤ k) : idxE k (ys.drop k) z = -1 := by rw [List.drop_of_length_le h, idxE]
theorem idx_none : ∀ (ys : List EvT) (k : Nat) (z : Int), (∀ y ∈ ys, y.1 ≠ z) → idxE k ys z = -1
  | [], _, _, _ => rfl
  | y :: ys, k, z, h => by rw [idxE, if_neg (h y (by simp)), idx_none ys _ z (fun x hx => h x (by simp [hx]))]
def storeFind (xs : List EnT) (s : ByteArray) (z : Int) : Int := if storeB xs then idxE 0 (evOf s xs) z else -1
theorem find_no {xs : List EnT} {s : ByteArray} {z : Int} (h : storeB xs = false) : storeFind xs s z = -1 := by unfold storeFind; rw [h]; rfl
theorem find_yes {xs : List EnT} {s : ByteArray} {z : Int} (h : storeB xs = true) : storeFind xs s z = idxE 0 (evOf s xs) z := by unfold storeFind; rw [h]; rfl
theorem ev_id {x : EvT} (h : evOk x = true) : 1 ≤ x.1 ∧ x.1 ≤ 9999 := by
  unfold evOk eventB at h
  simp only [Bool.and_eq_true, inB_iff] at h
  omega
theorem ids_not {ys : List EvT} (hk : ∀ y ∈ ys, evOk y = true) {z : Int} (h : ¬ (1 ≤ z ∧ z ≤ 9999) ∨ z.toNat ∉ idsN ys) : ∀ y ∈ ys, y.1 ≠ z := by
  intro y hy e
  have hb := ev_id (hk y hy)
  rcases h with h | h
  · exact h (by omega)
  · exact h (List.mem_map.2 ⟨y, hy, by rw [e]⟩)
end Go.Proofs.YtjloonjkplaplaaDoor
