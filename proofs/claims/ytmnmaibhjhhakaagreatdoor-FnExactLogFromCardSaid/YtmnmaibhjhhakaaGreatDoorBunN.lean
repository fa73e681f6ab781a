/-
  The texts PNum PName Num Dec NameC NameP NameV NameVP as one. No condition beyond what the rows list.
-/
import Derived.Test.YtmnmaibhjhhakaaGreatDoorDecS
import Derived.Lib.IndexLaws
import Derived.Lib.IndexMore
import Derived.Test.YtmnmaibhjhhakaaGreatDoorCore
import Derived.Test.YtmnmaibhjhhakaaGreatDoorBunF
import Derived.OwnWalk
/-
  Numbers in digits, told plainly: the value of digits, decimals without leading zeros. No condition.
-/
namespace Go.Proofs.YtmnmaibhjhhakaaGreatDoor

def digB (c : UInt8) : Bool := decide (48 ≤ c.toNat) && decide (c.toNat ≤ 57)
def dval (l : List UInt8) : Nat := l.foldl (fun a c => a * 10 + (c.toNat - 48)) 0
theorem dval_snoc (l : List UInt8) (c : UInt8) : dval (l ++ [c]) = dval l * 10 + (c.toNat - 48) := by unfold dval; rw [List.foldl_append]; rfl
theorem snocs {α : Type} {P : List α → Prop} (h0 : P []) (h1 : ∀ xs x, P xs → P (xs ++ [x])) : ∀ xs, P xs := by
  have h : ∀ ys : List α, P ys.reverse := by
    intro ys
    induction ys with
    | nil => exact h0
    | cons y ys ih => rw [List.reverse_cons]; exact h1 _ _ ih
  intro xs
  have := h xs.reverse
  rwa [List.reverse_reverse] at this
/-- A leading zero before further digits. -/
def zeroB (l : List UInt8) : Bool := decide (1 < l.length) && decide (l.head? = some 48)
/-- Decimals of a number: not empty, digits alone, no leading zero. -/
def canonB (l : List UInt8) : Bool := !l.isEmpty && !zeroB l && l.all digB
theorem canon_parts {l : List UInt8} (h : canonB l = true) : l ≠ [] ∧ zeroB l = false ∧ l.all digB = true := by
  unfold canonB at h
  simp only [Bool.and_eq_true, Bool.not_eq_true'] at h
  refine ⟨fun e => ?_, h.1.2, h.2⟩
  rw [e] at h; simp at h
theorem canon_mk {l : List UInt8} (h1 : l ≠ []) (h2 : zeroB l = false) (h3 : l.all digB = true) : canonB l = true := by
  unfold canonB
  rw [h2, h3]
  cases l with
  | nil => exact absurd rfl h1
  | cons a l => rfl
theorem dig_range {c : UInt8} (h : digB c = true) : 48 ≤ c.toNat ∧ c.toNat ≤ 57 := by
  unfold digB at h
  simp only [Bool.and_eq_true, decide_eq_true_eq] at h
  exact h
theorem dig_ofNat {d : Nat} (h : d ≤ 9) : digB (UInt8.ofNat (48 + d)) = true ∧ (UInt8.ofNat (48 + d)).toNat = 48 + d := by
  have e : (UInt8.ofNat (48 + d)).toNat = 48 + d := by simp; omega
  exact ⟨by unfold digB; rw [e]; simp; omega, e⟩
theorem ofNat_dig {c : UInt8} (h : digB c = true) : UInt8.ofNat (48 + (c.toNat - 48)) = c := by
  have := dig_range h
  apply UInt8.toNat_inj.1
  simp; omega
/-- The head of a list of digits without leading zero is not 0, unless it stands alone. -/
theorem zero_snoc {l : List UInt8} {c : UInt8} (hl : l ≠ []) (h : zeroB (l ++ [c]) = false) : l.head? ≠ some 48 := by
  intro e
  unfold zeroB at h
  have h1 : (l ++ [c]).head? = some 48 := by
    cases l with
    | nil => exact absurd rfl hl
    | cons a l => simpa using e
  have h2 : 1 < (l ++ [c]).length := by
    cases l with
    | nil => exact absurd rfl hl
    | cons a l => simp
  rw [decide_eq_true h1, decide_eq_true h2] at h
  cases h
theorem dval_pos : ∀ (l : List UInt8), l ≠ [] → l.head? ≠ some 48 → l.all digB = true → 0 < dval l := by
  refine snocs (fun h => absurd rfl h) (fun l c ih h hh hd => ?_)
  rw [List.all_append] at hd
  simp only [Bool.and_eq_true, List.all_cons, List.all_nil, Bool.and_true] at hd
  rw [dval_snoc]
  cases l with
  | nil =>
    have := dig_range hd.2
    have h2 : c ≠ 48 := fun e => hh (by simp [e])
    have h3 : c.toNat ≠ 48 := fun e => h2 (UInt8.toNat_inj.1 (by simpa using e))
    show 0 < 0 * 10 + (c.toNat - 48)
    omega
  | cons a l =>
    have := ih (by simp) (by simpa using hh) hd.1
    omega
theorem canon_dec : ∀ (l : List UInt8), canonB l = true → Lib.decDigits (dval l) = l := by
  refine snocs (fun h => by cases h) (fun l c ih h => ?_)
  obtain ⟨_, h2, h3⟩ := canon_parts h
  rw [List.all_append] at h3
  simp only [Bool.and_eq_true, List.all_cons, List.all_nil, Bool.and_true] at h3
  rw [dval_snoc]
  have hc := dig_range h3.2
  cases l with
  | nil =>
    rw [Lib.decDigits_one (by show 0 * 10 + (c.toNat - 48) < 10; omega)]
    show [UInt8.ofNat (48 + (0 * 10 + (c.toNat - 48)))] = [c]
    rw [show 0 * 10 + (c.toNat - 48) = c.toNat - 48 by omega, ofNat_dig h3.2]
  | cons a l =>
    have hz := zero_snoc (by simp) h2
    have hp := dval_pos (a :: l) (by simp) hz h3.1
    rw [Lib.decDigits, dif_neg (by omega)]
    rw [show (dval (a :: l) * 10 + (c.toNat - 48)) / 10 = dval (a :: l) by omega, show (dval (a :: l) * 10 + (c.toNat - 48)) % 10 = c.toNat - 48 by omega, ofNat_dig h3.2]
    rw [ih (canon_mk (by simp) (by unfold zeroB; rw [decide_eq_false hz]; simp) h3.1)]
theorem dec_facts : ∀ (k n : Nat), n ≤ k → canonB (Lib.decDigits n) = true ∧ dval (Lib.decDigits n) = n ∧ (0 < n → (Lib.decDigits n).head? ≠ some 48) := by
  intro k
  induction k with
  | zero =>
    intro n hn
    obtain rfl : n = 0 := by omega
    rw [Lib.decDigits_one (by omega)]
    exact ⟨by decide, by decide, fun h => absurd h (by omega)⟩
  | succ k ih =>
    intro n hn
    by_cases h10 : n < 10
    · rw [Lib.decDigits_one h10]
      obtain ⟨d1, d2⟩ := dig_ofNat (d := n) (by omega)
      refine ⟨canon_mk (by simp) (by unfold zeroB; simp) (by rw [List.all_cons, d1]; rfl), ?_, fun h e => ?_⟩
      · show 0 * 10 + ((UInt8.ofNat (48 + n)).toNat - 48) = n; rw [d2]; omega
      · simp only [List.head?_cons, Option.some.injEq] at e
        rw [e] at d2; simp at d2; omega
    · obtain ⟨i1, i2, i3⟩ := ih (n / 10) (by omega)
      obtain ⟨c1, c2, c3⟩ := canon_parts i1
      rw [Lib.decDigits, dif_neg h10]
      obtain ⟨d1, d2⟩ := dig_ofNat (d := n % 10) (by omega)
      have hh := i3 (by omega)
      have hhead : (Lib.decDigits (n / 10) ++ [UInt8.ofNat (48 + n % 10)]).head? ≠ some 48 := by
        cases e : Lib.decDigits (n / 10) with
        | nil => exact absurd e c1
        | cons a l => rw [e] at hh; simpa using hh
      refine ⟨canon_mk (by simp) (by unfold zeroB; rw [decide_eq_false hhead]; simp) (by rw [List.all_append, c3, List.all_cons, d1]; rfl), by rw [dval_snoc, i2, d2]; omega, fun _ => hhead⟩
theorem dec_canon (n : Nat) : canonB (Lib.decDigits n) = true := (dec_facts n n (Nat.le_refl _)).1
theorem dec_val (n : Nat) : dval (Lib.decDigits n) = n := (dec_facts n n (Nat.le_refl _)).2.1
theorem dval_mono (l : List UInt8) : ∀ (k : Nat), dval (l.take k) ≤ dval l := by
  revert l
  refine snocs (fun k => by simp) (fun l c ih k => ?_)
  by_cases h : k ≤ l.length
  · rw [List.take_append_of_le_length h, dval_snoc]
    have := ih k; omega
  · rw [List.take_of_length_le (by simp; omega)]; exact Nat.le_refl _
theorem dval_lt : ∀ (l : List UInt8), l.all digB = true → dval l < 10 ^ l.length := by
  refine snocs (fun _ => by simp [dval]) (fun l c ih h => ?_)
  rw [List.all_append] at h
  simp only [Bool.and_eq_true, List.all_cons, List.all_nil, Bool.and_true] at h
  have := ih h.1
  have := dig_range h.2
  rw [dval_snoc, List.length_append]
  simp only [List.length_cons, List.length_nil]
  rw [Nat.zero_add, Nat.pow_succ]; omega
/-- Decimals of a number below 10 to the k have at most k signs. -/
theorem canon_len {l : List UInt8} (h : canonB l = true) (k : Nat) (hv : dval l < 10 ^ (k + 1)) : l.length ≤ k + 1 := by
  rw [← canon_dec l h, Lib.decDigits_length]
  exact nDigits_le _ k hv

/-- The number that a text tells, if it is at most a given one. -/
def numB (s : ByteArray) (most : Int) : Bool := canonB s.data.toList && decide ((dval s.data.toList : Int) ≤ most)
def numV (s : ByteArray) (most : Int) : Int := if numB s most then (dval s.data.toList : Int) else 0
theorem numV_t {s : ByteArray} {most : Int} (h : numB s most = true) : numV s most = (dval s.data.toList : Int) := by unfold numV; rw [if_pos h]
theorem numV_f {s : ByteArray} {most : Int} (h : numB s most = false) : numV s most = 0 := by unfold numV; rw [if_neg (by simp [h])]
/-- The number of at most five digits, or -1. -/
def fiveV (s : ByteArray) : Int := if (decide (1 ≤ s.size) && decide (s.size ≤ 5) && s.data.toList.all digB) = true then (dval s.data.toList : Int) else -1
theorem decS_eq {n : Int} {s : ByteArray} (h : decS n = s) : Lib.decDigits n.toNat = s.data.toList := by rw [← h]; unfold decS; simp
theorem eq_decS {n : Int} {s : ByteArray} (h : Lib.decDigits n.toNat = s.data.toList) : decS n = s := by
  apply ByteArray.ext
  unfold decS
  rw [h]
/-- Where the number's decimals are the text, the program takes it; and the other way round. -/
theorem num_five {s : ByteArray} {most : Int} (hm : most ≤ 99999) (h0 : 0 ≤ most) : numB s most = true ↔ (0 ≤ fiveV s ∧ fiveV s ≤ most ∧ decS (fiveV s) = s) := by
  constructor
  · intro h
    unfold numB at h
    simp only [Bool.and_eq_true, decide_eq_true_eq] at h
    obtain ⟨h1, h2⟩ := h
    obtain ⟨c1, c2, c3⟩ := canon_parts h1
    have hlen := canon_len h1 4 (by omega)
    have hpos : 0 < s.data.toList.length := by
      cases e : s.data.toList with
      | nil => exact absurd e c1
      | cons a l => simp
    have hsz : s.size = s.data.toList.length := by simp
    have hf : fiveV s = (dval s.data.toList : Int) := by
      unfold fiveV
      rw [if_pos (by rw [c3, decide_eq_true (by omega : 1 ≤ s.size), decide_eq_true (by omega : s.size ≤ 5)]; rfl)]
    rw [hf]
    refine ⟨by omega, h2, eq_decS ?_⟩
    rw [Int.toNat_natCast, canon_dec _ h1]
  · rintro ⟨h1, h2, h3⟩
    have e := decS_eq h3
    have hc := dec_canon (fiveV s).toNat
    have hv := dec_val (fiveV s).toNat
    rw [e] at hc hv
    unfold numB
    rw [hc, hv]
    simp only [Bool.true_and, decide_eq_true_eq]
    omega
theorem num_val {s : ByteArray} {most : Int} (hm : most ≤ 99999) (h0 : 0 ≤ most) (h : numB s most = true) : numV s most = fiveV s := by
  obtain ⟨h1, _, h3⟩ := (num_five hm h0).1 h
  rw [numV_t h]
  have e := decS_eq h3
  have hv := dec_val (fiveV s).toNat
  rw [e] at hv
  omega
end Go.Proofs.YtmnmaibhjhhakaaGreatDoor

/-
  Names of streams, told plainly: the place of the first hyphen, what stands before and behind it, and when a text is a name. No condition.
-/
namespace Go.Proofs.YtmnmaibhjhhakaaGreatDoor
open Go.ChangeShapes Go.WideShapes Go.ChangeAt Go.RowKit

/-- The place of the first hyphen, or -1. -/
def hyp (s : ByteArray) : Int := Lib.index s.data.toList [45]
def catS (s : ByteArray) : ByteArray := s.extract 0 (hyp s).toNat
def restS (s : ByteArray) : ByteArray := s.extract ((hyp s).toNat + 1) s.size
/-- A name. -/
def nameB (s : ByteArray) : Bool := decide (0 ≤ hyp s) && wordB (catS s) && numB (restS s) 999
/-- A category and a number as a name; none where one of them is not valid. -/
def nameOfS (c : ByteArray) (n : Int) : ByteArray := if wordB c && inB n 0 999 then c ++ ⟨#[45]⟩ ++ decS n else ⟨#[]⟩

theorem occ_at {s : ByteArray} {k : Nat} (h : k < s.size) : Lib.occAt s.data.toList [45] k = ((45 : UInt8) == s[k]) := by
  have e : s.data.toList.drop k = s[k] :: s.data.toList.drop (k + 1) := by
    rw [List.drop_eq_getElem_cons (by simpa using h)]
    congr 1
  unfold Lib.occAt
  rw [e]
  simp [List.isPrefixOf]
theorem hyp_hit {s : ByteArray} {k : Nat} (h : k < s.size) (hn : Lib.NoOcc s.data.toList [45] k) (hc : s[k].toNat = 45) : hyp s = k := by
  refine Lib.index_hit hn (by simp; omega) ?_
  rw [occ_at h, show s[k] = 45 from UInt8.toNat_inj.1 (by rw [hc]; rfl)]
  rfl
theorem no_succ {s : ByteArray} {k : Nat} (h : k < s.size) (hn : Lib.NoOcc s.data.toList [45] k) (hc : s[k].toNat ≠ 45) : Lib.NoOcc s.data.toList [45] (k + 1) := by
  refine hn.succ ?_
  rw [occ_at h, beq_eq_false_iff_ne]
  intro e
  exact hc (by rw [← e]; rfl)
theorem hyp_none {s : ByteArray} (hn : Lib.NoOcc s.data.toList [45] s.size) : hyp s = -1 := Lib.index_past (by simp) hn (by simp)
theorem hyp_room {s : ByteArray} (h : 0 ≤ hyp s) : (hyp s).toNat + 1 ≤ s.size := by
  have := Lib.index_room s.data.toList [45] h
  simp at this
  unfold hyp at h ⊢
  omega
theorem hyp_ge (s : ByteArray) : -1 ≤ hyp s := Lib.index_ge _ _

/-- A text with a hyphen is its parts, put together. -/
theorem parts_join {s : ByteArray} (h : 0 ≤ hyp s) : catS s ++ ⟨#[45]⟩ ++ restS s = s := by
  have hr := hyp_room h
  obtain ⟨i, hi⟩ : ∃ i : Nat, hyp s = i := ⟨(hyp s).toNat, by omega⟩
  have ho : Lib.occAt s.data.toList [45] i = true := by
    rcases Lib.index_spec s.data.toList [45] with ⟨h1, _⟩ | ⟨j, h1, _, h3, _⟩
    · unfold hyp at hi; omega
    · have : j = i := by unfold hyp at hi; omega
      rw [← this]; exact h3
  have hlt : i < s.size := by omega
  rw [occ_at hlt] at ho
  have hc : s[i] = 45 := (beq_iff_eq.1 ho).symm
  unfold catS restS
  rw [hi]
  apply ByteArray.ext
  apply Array.ext'
  simp only [ByteArray.data_append, ByteArray.data_extract, Array.toList_append, Array.toList_extract, Int.toNat_natCast]
  have e : s.data.toList.drop i = s[i] :: s.data.toList.drop (i + 1) := by
    rw [List.drop_eq_getElem_cons (by simpa using hlt)]
    congr 1
  rw [hc] at e
  conv => rhs; rw [← List.take_append_drop i s.data.toList, e]
  simp [List.extract_eq_take_drop, List.take_of_length_le]
theorem cut_cat {s : ByteArray} (h : 0 ≤ hyp s) : (⟨(Lib.cut s.data.toList [45]).1.toArray⟩ : ByteArray) = catS s := by
  unfold Lib.cut
  rw [if_pos (show 0 ≤ Lib.index s.data.toList [45] from h)]
  apply ByteArray.ext
  apply Array.ext'
  simp [catS, hyp, List.extract_eq_take_drop]
theorem cut_rest {s : ByteArray} (h : 0 ≤ hyp s) : (⟨(Lib.cut s.data.toList [45]).2.1.toArray⟩ : ByteArray) = restS s := by
  unfold Lib.cut
  rw [if_pos (show 0 ≤ Lib.index s.data.toList [45] from h)]
  apply ByteArray.ext
  apply Array.ext'
  simp only [restS, hyp, ByteArray.data_extract, Array.toList_extract, List.extract_eq_take_drop]
  rw [List.take_of_length_le (by simp)]
  rfl
theorem cut_found (s : ByteArray) : (Lib.cut s.data.toList [45]).2.2 = decide (0 ≤ hyp s) := by
  unfold Lib.cut
  by_cases h : 0 ≤ hyp s
  · rw [if_pos (show 0 ≤ Lib.index s.data.toList [45] from h), decide_eq_true h]
  · rw [if_neg (show ¬ 0 ≤ Lib.index s.data.toList [45] from h), decide_eq_false h]

/-- What the reference asks is what the program asks. -/
theorem name_spec {s : ByteArray} (h : 0 ≤ hyp s) : nameB s = true ↔ (0 ≤ fiveV (restS s) ∧ nameOfS (catS s) (fiveV (restS s)) = s) := by
  have hj := parts_join h
  have hnum := num_five (s := restS s) (most := 999) (by omega) (by omega)
  unfold nameB
  rw [decide_eq_true h, Bool.true_and, Bool.and_eq_true, hnum]
  constructor
  · rintro ⟨hw, h0, h1, hd⟩
    refine ⟨h0, ?_⟩
    unfold nameOfS
    rw [hw, inB_t ⟨h0, h1⟩, hd]
    exact hj
  · rintro ⟨h0, hn⟩
    unfold nameOfS at hn
    by_cases hc : (wordB (catS s) && inB (fiveV (restS s)) 0 999) = true
    · rw [if_pos hc] at hn
      rw [Bool.and_eq_true, inB_iff] at hc
      refine ⟨hc.1, h0, hc.2.2, ?_⟩
      have hx : catS s ++ ⟨#[45]⟩ ++ decS (fiveV (restS s)) = catS s ++ ⟨#[45]⟩ ++ restS s := hn.trans hj.symm
      have hy := congrArg (fun b : ByteArray => b.data.toList) hx
      simp only [ByteArray.data_append, Array.toList_append, List.append_cancel_left_eq] at hy
      exact ByteArray.ext (Array.ext' hy)
    · rw [if_neg hc] at hn
      have hr := hyp_room h
      have hz : s.size = 0 := by rw [← hn]; rfl
      omega
end Go.Proofs.YtmnmaibhjhhakaaGreatDoor

/-
  Numbers in digits: what impl.numberFrom and spec.l1Number return, for every text. No condition.
-/
namespace Go.Proofs.YtmnmaibhjhhakaaGreatDoor
open Go.ChangeShapes Go.WideShapes Go.ChangeAt Go.RowKit

theorem take_all_dig {s : ByteArray} {k : Nat} (h : k < s.size) (ht : (s.data.toList.take k).all digB = true) (hc : digB s[k] = true) : (s.data.toList.take (k + 1)).all digB = true := all_take_succ digB h ht hc
theorem take_dval {s : ByteArray} {k : Nat} (h : k < s.size) : dval (s.data.toList.take (k + 1)) = dval (s.data.toList.take k) * 10 + (s[k].toNat - 48) := by
  rw [List.take_succ_eq_append_getElem (by simpa using h), dval_snoc]; rfl
theorem not_dig {s : ByteArray} {k : Nat} (h : k < s.size) (hc : ¬ (48 ≤ s[k].toNat ∧ s[k].toNat ≤ 57)) : s.data.toList.all digB = false := not_all digB h (by unfold digB; simp; omega)
theorem dig_yes {c : UInt8} (h : 48 ≤ c.toNat ∧ c.toNat ≤ 57) : digB c = true := by unfold digB; simp [h]
theorem num_nodig {s : ByteArray} {most : Int} (h : s.data.toList.all digB = false) : numB s most = false := by unfold numB canonB; rw [h]; simp
theorem num_big {s : ByteArray} {most : Int} {k : Nat} (h : most < (dval (s.data.toList.take k) : Int)) : numB s most = false := by
  have := dval_mono s.data.toList k
  unfold numB
  rw [decide_eq_false (by omega), Bool.and_false]
theorem num_empty {s : ByteArray} {most : Int} (h : s.size = 0) : numB s most = false := by
  have : s.data.toList = [] := List.eq_nil_of_length_eq_zero (by rw [show s.data.toList.length = s.size by simp]; exact h)
  unfold numB canonB; rw [this]; rfl
theorem head_zero {s : ByteArray} (h : 0 < s.size) : s.data.toList.head? = some s[0] := by
  rw [List.head?_eq_getElem?, List.getElem?_eq_getElem (by simpa using h)]; rfl
theorem num_zero {s : ByteArray} {most : Int} (h : 1 < s.size) (h0 : s[0].toNat = 48) : numB s most = false := by
  have hz : zeroB s.data.toList = true := by
    unfold zeroB
    rw [head_zero (by omega), decide_eq_true (by simpa using h : 1 < s.data.toList.length)]
    have : s[0] = 48 := UInt8.toNat_inj.1 (by simpa using h0)
    simp [this]
  unfold numB canonB; rw [hz]; simp
theorem num_fine {s : ByteArray} {most : Int} (h : 0 < s.size) (hz : 1 < s.size → s[0].toNat ≠ 48) (hd : s.data.toList.all digB = true) (hm : (dval s.data.toList : Int) ≤ most) : numB s most = true := by
  have h1 : s.data.toList ≠ [] := fun e => by have h1 : s.data.toList.length = s.size := (by simp); rw [e, List.length_nil] at h1; omega
  have h2 : zeroB s.data.toList = false := by
    unfold zeroB
    rw [head_zero h]
    by_cases c : 1 < s.size
    · have : s[0] ≠ 48 := fun e => hz c (by rw [e]; rfl)
      simp [this]
    · rw [decide_eq_false (by simpa using c)]; rfl
  unfold numB
  rw [canon_mk h1 h2 hd, decide_eq_true hm]; rfl
theorem str_nonempty {s : ByteArray} (h : 0 < s.size) : s.toList.isEmpty = false := by
  cases e : s.toList with
  | nil =>
    rw [ByteArray.toList_eq] at e
    have h1 : s.data.toList.length = s.size := by simp
    rw [e, List.length_nil] at h1
    omega
  | cons a l => rfl
theorem str_isempty {s : ByteArray} (h : s.size = 0) : s.toList.isEmpty = true := by
  rw [List.isEmpty_iff, ByteArray.toList_eq]; exact List.eq_nil_of_length_eq_zero (by rw [show s.data.toList.length = s.size by simp]; exact h)

set_option maxHeartbeats 3200000 in
theorem numberFrom_any (s : ByteArray) (hs : s.size ≤ maxLen) (most : Int) (h0 : 0 ≤ most) (h1 : most ≤ 99999) (w : World) :
    Calls Tryz.prog 42 #[.string s, .int .i64 most] w fun e w' => e = .returned (.tuple #[.int .i64 (numV s most), .bool (numB s most)]) ∧ w = w' := by
  unfold maxLen at hs
  by_cases hz : s.size = 0
  · have HE := Lib.hid (num_empty (most := most) hz)
    have e1 := str_isempty hz
    clear hz
    go_enter Tryz.func42, Tryz.ntmps42
    go_wp2
    go_ret2
    exact ⟨by rw [numV_f HE.out, HE.out]; rfl, rfl⟩
  have hpos : 0 < s.size := by omega
  have e1 := str_nonempty hpos
  clear hz
  by_cases hl : 1 < s.size ∧ s[0].toNat = 48
  · have HE := Lib.hid (num_zero (most := most) hl.1 hl.2)
    obtain ⟨hl1, hl2⟩ := hl
    have e2 : ((s[0].toNat : Int) == 48) = true := by simp; omega
    have e3 : decide ((1 : Int) < (s.size : Int)) = true := by simp; omega
    have hl1' : (1 : Int) < s.size := by omega
    clear hl2
    go_enter Tryz.func42, Tryz.ntmps42
    go_wp2
    go_ret2
    exact ⟨by rw [numV_f HE.out, HE.out]; rfl, rfl⟩
  · have HZ := Lib.hid (show 1 < s.size → s[0].toNat ≠ 48 from fun h h' => hl ⟨h, h'⟩)
    have main : ∀ (hg : (s.size = 1 ∧ decide ((1 : Int) < (s.size : Int)) = false) ∨ ((1 : Int) < s.size ∧ ((s[0].toNat : Int) == 48) = false)), Calls Tryz.prog 42 #[.string s, .int .i64 most] w fun e w' => e = .returned (.tuple #[.int .i64 (numV s most), .bool (numB s most)]) ∧ w = w' := by
      intro hg
      rcases hg with ⟨hg1, hg⟩ | ⟨hg1, hg⟩
      all_goals
        have HG1 := Lib.hid hg1
        clear hg1 hl
        go_enter Tryz.func42, Tryz.ntmps42
        first
          | go_wp2_with fail
        go_loop [6, 7] (fun n i => ∃ (k v : Nat), k ≤ s.size ∧ i = .int .i64 k ∧ n = .int .i64 v ∧ (v : Int) ≤ most ∧ Hid (dval (s.data.toList.take k) = v) ∧ Hid ((s.data.toList.take k).all digB = true)) (fun _ i => s.size - (intOf i).toNat)
        case atStart => exact ⟨0, 0, Nat.zero_le _, rfl, rfl, by omega, Lib.hid (by simp [dval]), Lib.hid (by simp)⟩
        case round =>
          obtain ⟨k, v, hk, rfl, rfl, hv, hd, ha⟩ := hrel
          by_cases hlt : k < s.size
          · by_cases c1 : (s[k].toNat : Int) < 48
            · have HE := Lib.hid (num_nodig (most := most) (not_dig hlt (by omega)))
              go_wp2
              go_ret2
              exact ⟨by rw [numV_f HE.out, HE.out]; rfl, rfl⟩
            · by_cases c2 : (57 : Int) < (s[k].toNat : Int)
              · have HE := Lib.hid (num_nodig (most := most) (not_dig hlt (by omega)))
                go_wp2
                go_ret2
                exact ⟨by rw [numV_f HE.out, HE.out]; rfl, rfl⟩
              · have hd2 := Lib.hid ((take_dval hlt).trans (by rw [hd.out]))
                have ha2 := Lib.hid (take_all_dig hlt ha.out (dig_yes (by omega)))
                have hc : ((s[k].toNat - 48 : Nat) : Int) = (s[k].toNat : Int) - 48 := by omega
                have HC := Lib.hid hc
                clear hc
                by_cases c3 : most < (v : Int) * 10 + ((s[k].toNat : Int) - 48)
                · have HE := Lib.hid (num_big (s := s) (most := most) (k := k + 1) (by rw [hd2.out]; have := HC.out; omega))
                  go_wp2
                  go_ret2
                  exact ⟨by rw [numV_f HE.out, HE.out]; rfl, rfl⟩
                · go_wp2
                  go_round
                  case rel => exact ⟨k + 1, v * 10 + (s[k].toNat - 48), by omega, by go_num, by have := HC.out; simp; omega, by have := HC.out; omega, hd2, ha2⟩
                  case measure => simp [intOf]; omega
          · have ht : s.data.toList.take k = s.data.toList := List.take_of_length_le (by simp; omega)
            rw [ht] at hd ha
            have HE := Lib.hid (num_fine (most := most) hpos HZ.out ha.out (by rw [hd.out]; exact hv))
            have HV := Lib.hid ((numV_t HE.out).trans (by rw [hd.out]))
            clear ht
            go_wp2
            go_ret2
            exact ⟨by rw [HV.out, HE.out]; rfl, rfl⟩
    by_cases h2 : 1 < s.size
    · exact main (.inr ⟨by omega, by have := HZ.out h2; simp; omega⟩)
    · exact main (.inl ⟨by omega, by simp; omega⟩)

set_option maxHeartbeats 3200000 in
theorem l1Number_any (s : ByteArray) (hs : s.size ≤ maxLen) (w : World) :
    Calls Tryz.prog 20 #[.string s] w fun e w' => e = .returned (.int .i64 (fiveV s)) ∧ w = w' := by
  unfold maxLen at hs
  cases E1 : inB s.size 1 5
  · have HE : Hid (fiveV s = -1) := Lib.hid (by
      unfold fiveV
      rw [if_neg]
      intro h
      simp only [Bool.and_eq_true, decide_eq_true_eq] at h
      have : inB s.size 1 5 = true := inB_t (by omega)
      rw [E1] at this; cases this)
    go_enter Tryz.func20, Tryz.ntmps20
    go_wp2_with (go_at_call 34; refine (l6In_any _ _ _ _).mono ?_; rintro e w' ⟨rfl, rfl⟩; rw [E1])
    go_ret
    exact ⟨ret_int HE.out.symm, rfl⟩
  · have hr := inB_iff.1 E1
    obtain ⟨hr1, hr2⟩ := hr
    have HN : Hid (s.data.toList.all digB = false → fiveV s = -1) := Lib.hid (fun h => by unfold fiveV; rw [h, Bool.and_false, if_neg (by simp)])
    have HY : Hid (s.data.toList.all digB = true → fiveV s = (dval s.data.toList : Int)) := Lib.hid (fun h => by unfold fiveV; rw [h, decide_eq_true (by omega : 1 ≤ s.size), decide_eq_true (by omega : s.size ≤ 5)]; rfl)
    go_enter Tryz.func20, Tryz.ntmps20
    go_wp2_with (go_at_call 34; refine (l6In_any _ _ _ _).mono ?_; rintro e w' ⟨rfl, rfl⟩; rw [E1])
    go_loop [3, 4] (fun n i => ∃ (k v : Nat), k ≤ s.size ∧ i = .int .i64 k ∧ n = .int .i64 v ∧ v ≤ 1000000 ∧ Hid (dval (s.data.toList.take k) = v) ∧ Hid ((s.data.toList.take k).all digB = true)) (fun _ i => s.size - (intOf i).toNat)
    case atStart => exact ⟨0, 0, Nat.zero_le _, rfl, rfl, by omega, Lib.hid (by simp [dval]), Lib.hid (by simp)⟩
    case round =>
      obtain ⟨k, v, hk, rfl, rfl, hv, hd, ha⟩ := hrel
      by_cases hlt : k < s.size
      · by_cases c1 : (s[k].toNat : Int) < 48
        · have HE := Lib.hid (HN.out (not_dig hlt (by omega)))
          go_wp2
          go_ret
          exact ⟨ret_int HE.out.symm, rfl⟩
        · by_cases c2 : (57 : Int) < (s[k].toNat : Int)
          · have HE := Lib.hid (HN.out (not_dig hlt (by omega)))
            go_wp2
            go_ret
            exact ⟨ret_int HE.out.symm, rfl⟩
          · have hd2 := Lib.hid ((take_dval hlt).trans (by rw [hd.out]))
            have ha2 := Lib.hid (take_all_dig hlt ha.out (dig_yes (by omega)))
            have HC := Lib.hid (show ((s[k].toNat - 48 : Nat) : Int) = (s[k].toNat : Int) - 48 by omega)
            have hb : v * 10 + (s[k].toNat - 48) ≤ 1000000 := by
              have h1 := dval_lt _ ha2.out
              rw [hd2.out, List.length_take] at h1
              have hsz : s.data.toList.length = s.size := by simp
              have h2 : min (k + 1) s.data.toList.length ≤ 5 := by omega
              have h3 := Nat.pow_le_pow_right (show 1 ≤ 10 by omega) h2
              omega
            go_wp2
            go_round
            case rel => exact ⟨k + 1, v * 10 + (s[k].toNat - 48), by omega, by go_num, by have := HC.out; simp; omega, hb, hd2, ha2⟩
            case measure => simp [intOf]; omega
      · have ht : s.data.toList.take k = s.data.toList := List.take_of_length_le (by simp; omega)
        rw [ht] at hd ha
        have HE := Lib.hid ((HY.out ha.out).trans (by rw [hd.out]))
        clear ht
        go_wp2
        go_ret
        exact ⟨ret_int HE.out.symm, rfl⟩
end Go.Proofs.YtmnmaibhjhhakaaGreatDoor

/-
  The decimal text of a number: what l6Dec returns, for every number from 0 on. No condition.
-/
namespace Go.Proofs.YtmnmaibhjhhakaaGreatDoor
open Go.ChangeShapes Go.WideShapes Go.ChangeAt Go.RowKit

set_option maxHeartbeats 1600000 in
theorem l6Dec_all (k : Nat) : ∀ (n : Int) (w : World), n ≤ k → 0 ≤ n → n ≤ 9223372036854775807 →
    Calls Tryz.prog 53 #[.int .i64 n] w fun e w' => e = .returned (.string (decS n)) ∧ Below w.heap.size w w' := by
  induction k with
  | zero =>
    intro n w hk h0 h1
    have hc := fun (W : World) (a : Addr) (h : W.cell? a = some (.int .u8 (48 + n))) => conv_byte W a (48 + n) (by omega) (by omega) h 1
    have h10 : n < 10 := by omega
    have E : Hid (decS n = ⟨#[UInt8.ofNat (48 + n).toNat]⟩) := Lib.hid (by
      unfold decS; rw [Lib.decDigits_one (by omega)]; congr; omega)
    go_enter Tryz.func53, Tryz.ntmps53
    go_wp2_with fail
    go_ret
    exact ⟨ret_str E.out.symm, by go_grown⟩
  | succ k ih =>
    intro n w hk h0 h1
    by_cases h10 : n < 10
    · have hc := fun (W : World) (a : Addr) (h : W.cell? a = some (.int .u8 (48 + n))) => conv_byte W a (48 + n) (by omega) (by omega) h 1
      have E : Hid (decS n = ⟨#[UInt8.ofNat (48 + n).toNat]⟩) := Lib.hid (by
        unfold decS; rw [Lib.decDigits_one (by omega)]; congr; omega)
      clear ih
      go_enter Tryz.func53, Tryz.ntmps53
      go_wp2_with fail
      go_ret
      exact ⟨ret_str E.out.symm, by go_grown⟩
    · have hc := fun (W : World) (a : Addr) (h : W.cell? a = some (.int .u8 (48 + n % 10))) => conv_byte W a (48 + n % 10) (by omega) (by omega) h 1
      have hlen : (decS (n / 10)).size ≤ 100 := by
        show (Lib.decDigits (n / 10).toNat).toArray.size ≤ 100
        rw [List.size_toArray, Lib.decDigits_length]; exact nDigits_le _ 99 (by omega)
      have hlen2 : (decS (n / 10)).size + 1 ≤ 9223372036854775807 := by omega
      have E : Hid (decS n = decS (n / 10) ++ ⟨#[UInt8.ofNat (48 + n % 10).toNat]⟩) := Lib.hid (decS_big h0 h10)
      have IH := Lib.hid ih
      clear ih
      have d1 : n.tdiv 10 = n / 10 := Int.tdiv_eq_ediv_of_nonneg h0
      have d2 : n.tmod 10 = n % 10 := Int.tmod_eq_emod_of_nonneg h0
      have d3 : IntKind.i64.wrap (n / 10) = n / 10 := IntWalk.i64_in _ ⟨by omega, by omega⟩
      have d4 : IntKind.i64.wrap (n % 10) = n % 10 := IntWalk.i64_in _ ⟨by omega, by omega⟩
      have d5 : IntKind.i64.wrap (48 + n % 10) = 48 + n % 10 := IntWalk.i64_in _ ⟨by omega, by omega⟩
      have d6 : IntKind.u8.wrap (48 + n % 10) = 48 + n % 10 := IntWalk.u8_in _ ⟨by omega, by omega⟩
      go_enter Tryz.func53, Tryz.ntmps53
      go_wp2_with fail
      go_region_with (go_at_call 53; refine (IH.out (n / 10) _ (by omega) (by omega) (by omega)).mono ?_; rintro e1 w1 ⟨rfl, hb1⟩; obtain ⟨q1, q2, q3⟩ := bcell hb1)
      all_goals
        go_wp2
        go_ret
        exact ⟨ret_str E.out.symm, (by repeat' (first | (with_reducible exact Below.refl _ _) | (with_reducible assumption) | (with_reducible refine below_step (by assumption) ?_) | (with_reducible refine below_alloc ?_ _) | (with_reducible refine Below.drew ?_) | (with_reducible refine below_drewN ?_ _) | (with_reducible refine Below.setCell ?_ ?_ _) | go_size))⟩

theorem l6Dec_any (n : Int) (h0 : 0 ≤ n) (h1 : n ≤ 9223372036854775807) (w : World) :
    Calls Tryz.prog 53 #[.int .i64 n] w fun e w' => e = .returned (.string (decS n)) ∧ Below w.heap.size w w' := l6Dec_all n.toNat n w (by omega) h0 h1
end Go.Proofs.YtmnmaibhjhhakaaGreatDoor

/-
  Names of streams: what the program's and the reference's functions return, for every text. No condition beyond what the rows list.
-/
namespace Go.Proofs.YtmnmaibhjhhakaaGreatDoor
open Go.ChangeShapes Go.WideShapes Go.ChangeAt Go.RowKit

set_option maxHeartbeats 1600000 in
theorem l2At_any (s : ByteArray) (hs : s.size ≤ maxLen) (w : World) : Calls Tryz.prog 55 #[.string s] w fun e w' => e = .returned (.int .i64 (hyp s)) ∧ w = w' := by
  unfold maxLen at hs
  go_enter Tryz.func55, Tryz.ntmps55
  go_wp2
  go_loop [3] (fun i => ∃ k : Nat, k ≤ s.size ∧ i = .int .i64 k ∧ Hid (Lib.NoOcc s.data.toList [45] k)) (fun i => s.size - (intOf i).toNat)
  case atStart => exact ⟨0, Nat.zero_le _, rfl, Lib.hid (Lib.NoOcc.zero _ _)⟩
  case round =>
    obtain ⟨k, hk, rfl, hN⟩ := hrel
    by_cases hlt : k < s.size
    · by_cases hc : s[k].toNat = 45
      · have HE := Lib.hid (hyp_hit hlt hN.out hc)
        have e2 : ((s[k].toNat : Int) == 45) = true := by simp; omega
        clear hc
        go_wp2
        go_ret
        exact ⟨by rw [HE.out]; rfl, rfl⟩
      · have HE := Lib.hid (no_succ hlt hN.out hc)
        have e2 : ((s[k].toNat : Int) == 45) = false := by simp; omega
        clear hc
        go_wp2
        go_round
        case rel => exact ⟨k + 1, by omega, by go_num, HE⟩
        case measure => simp [intOf]; omega
    · obtain rfl : k = s.size := by omega
      have HE := Lib.hid (hyp_none hN.out)
      go_wp2
      go_ret
      exact ⟨by rw [HE.out]; rfl, rfl⟩

theorem nameOf_f {c : ByteArray} {n : Int} (h : (wordB c && inB n 0 999) = false) : nameOfS c n = ⟨#[]⟩ := by unfold nameOfS; rw [h]; rfl
theorem word_size {k : ByteArray} (h2 : wordB k = true) : k.size ≤ 6 := by
  have h4 : inB (k.size : Int) 1 6 = true := by
    unfold wordB at h2
    simp only [Bool.and_eq_true] at h2
    first | exact h2.1 | exact h2.2
  rw [inB_iff] at h4
  omega

set_option maxHeartbeats 1600000 in
theorem specNameOf_any (s : ByteArray) (hs : StrOk s) (n : Int) (w : World) : Calls Tryz.prog 56 #[.string s, .int .i64 n] w fun e w' => e = .returned (.string (nameOfS s n)) ∧ Below w.heap.size w w' := by
  cases cw : wordB s
  · have HE := Lib.hid (nameOf_f (c := s) (n := n) (by rw [cw]; rfl))
    go_enter Tryz.func56, Tryz.ntmps56
    go_wp2_with (first | (go_at_call 37; refine (l1Word_any _ hs _).mono ?_; rintro e1 w1 ⟨rfl, rfl⟩; rw [cw]))
    go_ret
    exact ⟨by rw [HE.out]; rfl, (by repeat' (first | (with_reducible exact Below.refl _ _) | (with_reducible assumption) | (with_reducible refine below_step (by assumption) ?_) | (with_reducible refine below_alloc ?_ _) | (with_reducible refine Below.drew ?_) | (with_reducible refine below_drewN ?_ _) | (with_reducible refine Below.setCell ?_ ?_ _) | go_size))⟩
  cases ei : inB n 0 999
  · have HE := Lib.hid (nameOf_f (c := s) (n := n) (by rw [cw, ei]; rfl))
    go_enter Tryz.func56, Tryz.ntmps56
    go_wp2_with (first | (go_at_call 37; refine (l1Word_any _ hs _).mono ?_; rintro e1 w1 ⟨rfl, rfl⟩; rw [cw]) | (go_at_call 34; refine (l6In_any _ _ _ _).mono ?_; rintro e1 w1 ⟨rfl, rfl⟩; rw [ei]))
    go_ret
    exact ⟨by rw [HE.out]; rfl, (by repeat' (first | (with_reducible exact Below.refl _ _) | (with_reducible assumption) | (with_reducible refine below_step (by assumption) ?_) | (with_reducible refine below_alloc ?_ _) | (with_reducible refine Below.drew ?_) | (with_reducible refine below_drewN ?_ _) | (with_reducible refine Below.setCell ?_ ?_ _) | go_size))⟩
  · have HE := Lib.hid (show nameOfS s n = s ++ ⟨#[45]⟩ ++ decS n by unfold nameOfS; rw [cw, ei]; rfl)
    have g := inB_iff.1 ei
    have z1 := word_size cw
    have hz : (decS n).size ≤ 20 := by
      show (Lib.decDigits n.toNat).toArray.size ≤ 20
      rw [List.size_toArray, Lib.decDigits_length]; exact nDigits_le _ 19 (by omega)
    have hz2 : s.size + 1 + (decS n).size ≤ 9223372036854775807 := by omega
    go_enter Tryz.func56, Tryz.ntmps56
    go_wp2_with (first | (go_at_call 37; refine (l1Word_any _ hs _).mono ?_; rintro e1 w1 ⟨rfl, rfl⟩; rw [cw]) | (go_at_call 34; refine (l6In_any _ _ _ _).mono ?_; rintro e1 w1 ⟨rfl, rfl⟩; rw [ei]) | (go_at_call 53; refine (l6Dec_any n (by omega) (by omega) _).mono ?_; rintro e1 w1 ⟨rfl, hb1⟩))
    go_ret
    exact ⟨by rw [HE.out]; rfl, (by repeat' (first | (with_reducible exact Below.refl _ _) | (with_reducible assumption) | (with_reducible refine below_step (by assumption) ?_) | (with_reducible refine below_alloc ?_ _) | (with_reducible refine Below.drew ?_) | (with_reducible refine below_drewN ?_ _) | (with_reducible refine Below.setCell ?_ ?_ _) | go_size))⟩

theorem catS_size (s : ByteArray) : (catS s).size ≤ s.size := by
  unfold catS
  simp
  omega
theorem restS_size (s : ByteArray) : (restS s).size ≤ s.size := by
  unfold restS
  simp
theorem name_f1 {s : ByteArray} (h : ¬ 0 ≤ hyp s) : nameB s = false := by unfold nameB; rw [decide_eq_false h]; rfl
theorem name_f2 {s : ByteArray} (h : wordB (catS s) = false) : nameB s = false := by unfold nameB; rw [h]; simp
theorem name_f3 {s : ByteArray} (h : numB (restS s) 999 = false) : nameB s = false := by unfold nameB; rw [h]; simp
theorem name_t {s : ByteArray} (h : 0 ≤ hyp s) (h2 : wordB (catS s) = true) (h3 : numB (restS s) 999 = true) : nameB s = true := by unfold nameB; rw [decide_eq_true h, h2, h3]; rfl

/-- The number of a name. -/
def nthS (s : ByteArray) : Int := numV (restS s) 999

theorem cut_any (s : ByteArray) (hs : s.size ≤ 1048576) (w : World) (hM : MaxL w) (h : 0 ≤ hyp s) :
    Calls Tryz.prog 25 #[.string s, .string ⟨#[45]⟩] w fun e w' => e = .returned (.tuple #[.string (catS s), .string (restS s), .bool true]) ∧ Below w.heap.size w w' := by
  obtain ⟨m, hm⟩ := hM
  refine (Tryz.strings_Cut s ⟨#[45]⟩ m w (by omega) hm).mono fun e w' ⟨he, n, hw⟩ => ?_
  subst hw
  refine ⟨?_, below_drewN (Below.refl _ _) n⟩
  rw [he, show (⟨#[45]⟩ : ByteArray).data.toList = [45] from rfl, cut_cat h, cut_rest h, cut_found, decide_eq_true h]
theorem cut_no (s : ByteArray) (hs : s.size ≤ 1048576) (w : World) (hM : MaxL w) (h : ¬ 0 ≤ hyp s) :
    Calls Tryz.prog 25 #[.string s, .string ⟨#[45]⟩] w fun e w' => (∃ c r : ByteArray, e = .returned (.tuple #[.string c, .string r, .bool false])) ∧ Below w.heap.size w w' := by
  obtain ⟨m, hm⟩ := hM
  refine (Tryz.strings_Cut s ⟨#[45]⟩ m w (by omega) hm).mono fun e w' ⟨he, n, hw⟩ => ?_
  subst hw
  refine ⟨⟨⟨(Lib.cut s.data.toList [45]).1.toArray⟩, ⟨(Lib.cut s.data.toList [45]).2.1.toArray⟩, ?_⟩, below_drewN (Below.refl _ _) n⟩
  rw [he, show (⟨#[45]⟩ : ByteArray).data.toList = [45] from rfl, cut_found, decide_eq_false h]

/-- errNoName's value. -/
def errV (a : Addr) : Value := .iface 136 (.pointer (some a))

set_option maxHeartbeats 1600000 in
theorem split_no (s : ByteArray) (hs : s.size ≤ 1048576) (a : Addr) (w : World) (hS : Sent a w) (hM : MaxL w) (h : nameB s = false) :
    Calls Tryz.prog 60 #[.string s] w fun e w' => e = .returned (.tuple #[.string ⟨#[]⟩, .int .i64 0, .iface 136 (.pointer (some a))]) ∧ Below w.heap.size w w' := by
  have k1 := catS_size s
  have k2 := restS_size s
  have hC1 : StrOk (catS s) := by unfold StrOk maxLen; omega
  have hC2 : (restS s).size ≤ maxLen := by unfold maxLen; omega
  have g0 := hS.cell
  by_cases hh : 0 ≤ hyp s
  · cases cw : wordB (catS s)
    · go_enter Tryz.func60, Tryz.ntmps60
      go_wp2_with (first | (go_at_call 25; refine (cut_any s hs _ hM hh).mono ?_; rintro e1 w1 ⟨rfl, hb1⟩; have g1 := box_cell hb1 g0) | (go_at_call 59; refine (wordValid_any _ hC1 _).mono ?_; rintro e1 w2 ⟨rfl, rfl⟩; rw [cw]))
      have RA_g1 := After.cell g1
      go_wp2_with fail
      refine wp_region_after (by kernel_rfl) (by kernel_rfl) ?_
      repeat (go_big_quiet_step ((fail)))
      refine wpQuiet_nil ?_
      intro wn hw'
      have hwn := after_below hw'
      clear hw'
      have g1 := box_cell hwn g1
      have hb1 := below_step hwn hb1
      clear RA_g1
      go_wp2
      go_ret3
      exact ⟨rfl, (by repeat' (first | (with_reducible exact Below.refl _ _) | (with_reducible assumption) | (with_reducible refine below_step (by assumption) ?_) | (with_reducible refine below_alloc ?_ _) | (with_reducible refine Below.drew ?_) | (with_reducible refine below_drewN ?_ _) | (with_reducible refine Below.setCell ?_ ?_ _) | go_size))⟩
    · cases cn : numB (restS s) 999
      · have HV := Lib.hid (numV_f cn)
        go_enter Tryz.func60, Tryz.ntmps60
        go_wp2_with (first | (go_at_call 25; refine (cut_any s hs _ hM hh).mono ?_; rintro e1 w1 ⟨rfl, hb1⟩; have g1 := box_cell hb1 g0) | (go_at_call 59; refine (wordValid_any _ hC1 _).mono ?_; rintro e1 w2 ⟨rfl, rfl⟩; rw [cw]) | (go_at_call 42; refine (numberFrom_any _ hC2 999 (by omega) (by omega) _).mono ?_; rintro e1 w3 ⟨rfl, rfl⟩; rw [cn]))
        have RA_g1 := After.cell g1
        go_wp2_with fail
        refine wp_region_after (by kernel_rfl) (by kernel_rfl) ?_
        repeat (go_big_quiet_step ((fail)))
        refine wpQuiet_nil ?_
        intro wn hw'
        have hwn := after_below hw'
        clear hw'
        have g1 := box_cell hwn g1
        have hb1 := below_step hwn hb1
        clear RA_g1
        go_wp2
        go_ret3
        exact ⟨rfl, (by repeat' (first | (with_reducible exact Below.refl _ _) | (with_reducible assumption) | (with_reducible refine below_step (by assumption) ?_) | (with_reducible refine below_alloc ?_ _) | (with_reducible refine Below.drew ?_) | (with_reducible refine below_drewN ?_ _) | (with_reducible refine Below.setCell ?_ ?_ _) | go_size))⟩
      · exact absurd (name_t hh cw cn) (by rw [h]; simp)
  · go_enter Tryz.func60, Tryz.ntmps60
    go_wp2_with (first | (go_at_call 25; refine (cut_no s hs _ hM hh).mono ?_; rintro e1 w1 ⟨⟨c, r, rfl⟩, hb1⟩; have g1 := box_cell hb1 g0))
    have RA_g1 := After.cell g1
    go_wp2_with fail
    refine wp_region_after (by kernel_rfl) (by kernel_rfl) ?_
    repeat (go_big_quiet_step ((fail)))
    refine wpQuiet_nil ?_
    intro wn hw'
    have hwn := after_below hw'
    clear hw'
    have g1 := box_cell hwn g1
    have hb1 := below_step hwn hb1
    clear RA_g1
    go_wp2
    go_ret3
    exact ⟨rfl, (by repeat' (first | (with_reducible exact Below.refl _ _) | (with_reducible assumption) | (with_reducible refine below_step (by assumption) ?_) | (with_reducible refine below_alloc ?_ _) | (with_reducible refine Below.drew ?_) | (with_reducible refine below_drewN ?_ _) | (with_reducible refine Below.setCell ?_ ?_ _) | go_size))⟩

set_option maxHeartbeats 1600000 in
theorem split_yes (s : ByteArray) (hs : s.size ≤ 1048576) (w : World) (hM : MaxL w) (h : nameB s = true) :
    Calls Tryz.prog 60 #[.string s] w fun e w' => e = .returned (.tuple #[.string (catS s), .int .i64 (nthS s), .nilIface]) ∧ Below w.heap.size w w' := by
  have k1 := catS_size s
  have k2 := restS_size s
  have hC1 : StrOk (catS s) := by unfold StrOk maxLen; omega
  have hC2 : (restS s).size ≤ maxLen := by unfold maxLen; omega
  unfold nameB at h
  simp only [Bool.and_eq_true] at h
  obtain ⟨⟨h0, cw⟩, cn⟩ := h
  have hh : 0 ≤ hyp s := of_decide_eq_true h0
  clear h0
  have HV := Lib.hid (show numV (restS s) 999 = nthS s from rfl)
  go_enter Tryz.func60, Tryz.ntmps60
  go_wp2_with (first | (go_at_call 25; refine (cut_any s hs _ hM hh).mono ?_; rintro e1 w1 ⟨rfl, hb1⟩) | (go_at_call 59; refine (wordValid_any _ hC1 _).mono ?_; rintro e1 w2 ⟨rfl, rfl⟩; rw [cw]) | (go_at_call 42; refine (numberFrom_any _ hC2 999 (by omega) (by omega) _).mono ?_; rintro e1 w3 ⟨rfl, rfl⟩; rw [cn]))
  go_ret3
  exact ⟨by rw [← HV.out]; rfl, (by repeat' (first | (with_reducible exact Below.refl _ _) | (with_reducible assumption) | (with_reducible refine below_step (by assumption) ?_) | (with_reducible refine below_alloc ?_ _) | (with_reducible refine Below.drew ?_) | (with_reducible refine below_drewN ?_ _) | (with_reducible refine Below.setCell ?_ ?_ _) | go_size))⟩
end Go.Proofs.YtmnmaibhjhhakaaGreatDoor

/-
  NameParts and NameValid, of the reference and of the program, for every text. No condition beyond what the rows list.
-/
namespace Go.Proofs.YtmnmaibhjhhakaaGreatDoor
open Go.ChangeShapes Go.WideShapes Go.ChangeAt Go.RowKit

theorem fiveV_le' (s : ByteArray) : -1 ≤ fiveV s ∧ fiveV s ≤ 99999 := by
  unfold fiveV
  split
  · rename_i h
    simp only [Bool.and_eq_true, decide_eq_true_eq] at h
    have h1 := dval_lt _ h.2
    have hsz : s.data.toList.length = s.size := by simp
    have h2 : s.data.toList.length ≤ 5 := by omega
    have h3 := Nat.pow_le_pow_right (show 1 ≤ 10 by omega) h2
    omega
  · omega

/-- What NameParts answers. -/
def partsV (s : ByteArray) : Value := if nameB s then .tuple #[.string (catS s), .int .i64 (nthS s), .bool true] else .tuple #[.string ⟨#[]⟩, .int .i64 0, .bool false]
theorem partsV_t {s : ByteArray} (h : nameB s = true) : partsV s = .tuple #[.string (catS s), .int .i64 (nthS s), .bool true] := by unfold partsV; rw [if_pos h]
theorem partsV_f {s : ByteArray} (h : nameB s = false) : partsV s = .tuple #[.string ⟨#[]⟩, .int .i64 0, .bool false] := by unfold partsV; rw [if_neg (by simp [h])]

set_option maxHeartbeats 3200000 in
theorem specParts_any (s : ByteArray) (hs : s.size ≤ 1048576) (w : World) :
    Calls Tryz.prog 36 #[.string s] w fun e w' => e = .returned (partsV s) ∧ Below w.heap.size w w' := by
  have hs' : s.size ≤ maxLen := by unfold maxLen; omega
  by_cases hh : 0 ≤ hyp s
  · have hroom := hyp_room hh
    have HI : hyp s = ((hyp s).toNat : Int) := by omega
    have HC : catS s = s.extract 0 (hyp s).toNat := rfl
    have HR : restS s = s.extract ((hyp s).toNat + 1) s.size := rfl
    have HN := name_spec hh
    have k1 := catS_size s
    have k2 := restS_size s
    have hC1 : StrOk (catS s) := by unfold StrOk maxLen; omega
    have hC2 : (restS s).size ≤ maxLen := by unfold maxLen; omega
    have hb := fiveV_le' (restS s)
    have HF : nameB s = true → nthS s = fiveV (restS s) := fun h => by
      unfold nameB at h
      simp only [Bool.and_eq_true] at h
      exact num_val (by omega) (by omega) h.2
    generalize hi : (hyp s).toNat = i at *
    generalize hc : catS s = c at *
    generalize hr : restS s = r at *
    replace HI := Lib.hid HI
    replace HC := Lib.hid HC
    replace HR := Lib.hid HR
    have HCC := Lib.hid hc
    clear hi hr hh hc
    by_cases hneg : fiveV r < 0
    · have hn : nameB s = false := by rw [Bool.eq_false_iff]; intro h; have := (HN.1 h).1; omega
      have HE := Lib.hid (partsV_f hn)
      clear hn HN HF
      go_enter Tryz.func36, Tryz.ntmps36
      go_wp2_with fail
      refine (l2At_any s hs' _).mono ?_
      rintro e1 w1 ⟨rfl, rfl⟩
      rw [HI.out]
      go_wp2_with fail
      rw [← HR.out]
      refine (l1Number_any r hC2 _).mono ?_
      rintro e1 w1 ⟨rfl, rfl⟩
      go_wp2
      go_ret3
      exact ⟨by rw [HE.out]; rfl, (by repeat' (first | (with_reducible exact Below.refl _ _) | (with_reducible assumption) | (with_reducible refine below_step (by assumption) ?_) | (with_reducible refine below_alloc ?_ _) | (with_reducible refine Below.drew ?_) | (with_reducible refine below_drewN ?_ _) | (with_reducible refine Below.setCell ?_ ?_ _) | go_size))⟩
    · by_cases he : nameOfS c (fiveV r) = s
      · have hn : nameB s = true := HN.2 ⟨by omega, he⟩
        have HE := Lib.hid (show partsV s = .tuple #[.string c, .int .i64 (fiveV r), .bool true] by rw [partsV_t hn, HCC.out, HF hn])
        have HH := Lib.hid he
        clear hn HN HF he
        go_enter Tryz.func36, Tryz.ntmps36
        go_wp2_with fail
        refine (l2At_any s hs' _).mono ?_
        rintro e1 w1 ⟨rfl, rfl⟩
        rw [HI.out]
        go_wp2_with fail
        rw [← HR.out]
        refine (l1Number_any r hC2 _).mono ?_
        rintro e1 w1 ⟨rfl, rfl⟩
        go_wp2_with fail
        rw [← HC.out]
        refine (specNameOf_any c hC1 (fiveV r) _).mono ?_
        rintro e2 w2 ⟨rfl, hb2⟩
        rw [HH.out]
        go_wp2
        go_ret3
        exact ⟨by rw [HE.out, HC.out]; rfl, (by repeat' (first | (with_reducible exact Below.refl _ _) | (with_reducible assumption) | (with_reducible refine below_step (by assumption) ?_) | (with_reducible refine below_alloc ?_ _) | (with_reducible refine Below.drew ?_) | (with_reducible refine below_drewN ?_ _) | (with_reducible refine Below.setCell ?_ ?_ _) | go_size))⟩
      · have hn : nameB s = false := by rw [Bool.eq_false_iff]; intro h; exact he (HN.1 h).2
        have HE := Lib.hid (partsV_f hn)
        obtain ⟨T, hT⟩ : ∃ T, nameOfS c (fiveV r) = T := ⟨_, rfl⟩
        rw [hT] at he
        have F1 : (T.toList == s.toList) = false := str_ne he
        have F2 : (T.toList != s.toList) = true := by unfold bne; rw [F1]; rfl
        have HH := Lib.hid hT
        clear hn HN HF he hT
        go_enter Tryz.func36, Tryz.ntmps36
        go_wp2_with fail
        refine (l2At_any s hs' _).mono ?_
        rintro e1 w1 ⟨rfl, rfl⟩
        rw [HI.out]
        go_wp2_with fail
        rw [← HR.out]
        refine (l1Number_any r hC2 _).mono ?_
        rintro e1 w1 ⟨rfl, rfl⟩
        go_wp2_with fail
        rw [← HC.out]
        refine (specNameOf_any c hC1 (fiveV r) _).mono ?_
        rintro e2 w2 ⟨rfl, hb2⟩
        rw [HH.out]
        go_wp2
        go_ret3
        exact ⟨by rw [HE.out]; rfl, (by repeat' (first | (with_reducible exact Below.refl _ _) | (with_reducible assumption) | (with_reducible refine below_step (by assumption) ?_) | (with_reducible refine below_alloc ?_ _) | (with_reducible refine Below.drew ?_) | (with_reducible refine below_drewN ?_ _) | (with_reducible refine Below.setCell ?_ ?_ _) | go_size))⟩
  · have HE := Lib.hid (partsV_f (name_f1 hh))
    have HI := Lib.hid (show hyp s = -1 by have := hyp_ge s; omega)
    clear hh
    go_enter Tryz.func36, Tryz.ntmps36
    go_wp2_with fail
    refine (l2At_any s hs' _).mono ?_
    rintro e1 w1 ⟨rfl, rfl⟩
    rw [HI.out]
    go_wp2
    go_ret3
    exact ⟨by rw [HE.out]; rfl, (by repeat' (first | (with_reducible exact Below.refl _ _) | (with_reducible assumption) | (with_reducible refine below_step (by assumption) ?_) | (with_reducible refine below_alloc ?_ _) | (with_reducible refine Below.drew ?_) | (with_reducible refine below_drewN ?_ _) | (with_reducible refine Below.setCell ?_ ?_ _) | go_size))⟩

end Go.Proofs.YtmnmaibhjhhakaaGreatDoor

/-
  NameValid and NameParts of the program, NameValid of the reference, for every text. No condition beyond what the rows list.
-/
namespace Go.Proofs.YtmnmaibhjhhakaaGreatDoor
open Go.ChangeShapes Go.WideShapes Go.ChangeAt Go.RowKit

set_option maxHeartbeats 1600000 in
theorem specNameValid_any (s : ByteArray) (hs : s.size ≤ 1048576) (w : World) :
    Calls Tryz.prog 22 #[.string s] w fun e w' => e = .returned (.bool (nameB s)) ∧ Below w.heap.size w w' := by
  cases E : nameB s
  · have HE := partsV_f E
    go_enter Tryz.func22, Tryz.ntmps22
    go_wp2_with (go_at_call 36; refine (specParts_any s hs _).mono ?_; rintro e1 w1 ⟨rfl, hb1⟩; rw [HE])
    go_ret
    exact ⟨rfl, (by repeat' (first | (with_reducible exact Below.refl _ _) | (with_reducible assumption) | (with_reducible refine below_step (by assumption) ?_) | (with_reducible refine below_alloc ?_ _) | (with_reducible refine Below.drew ?_) | (with_reducible refine below_drewN ?_ _) | (with_reducible refine Below.setCell ?_ ?_ _) | go_size))⟩
  · have HE := partsV_t E
    go_enter Tryz.func22, Tryz.ntmps22
    go_wp2_with (go_at_call 36; refine (specParts_any s hs _).mono ?_; rintro e1 w1 ⟨rfl, hb1⟩; rw [HE])
    go_ret
    exact ⟨rfl, (by repeat' (first | (with_reducible exact Below.refl _ _) | (with_reducible assumption) | (with_reducible refine below_step (by assumption) ?_) | (with_reducible refine below_alloc ?_ _) | (with_reducible refine Below.drew ?_) | (with_reducible refine below_drewN ?_ _) | (with_reducible refine Below.setCell ?_ ?_ _) | go_size))⟩

set_option maxHeartbeats 1600000 in
theorem implNameValid_any (s : ByteArray) (hs : s.size ≤ 1048576) (a : Addr) (w : World) (hS : Sent a w) (hM : MaxL w) :
    Calls Tryz.prog 44 #[.string s] w fun e w' => e = .returned (.bool (nameB s)) ∧ Below w.heap.size w w' := by
  have g0 := hS.cell
  cases E : nameB s
  · go_enter Tryz.func44, Tryz.ntmps44
    go_wp2_with (first | (go_at_call 60; refine (split_no s hs a _ hS hM E).mono ?_; rintro e1 w1 ⟨rfl, hb1⟩; have g1 := box_cell hb1 g0) | (go_at_call 61; refine (is_same a _).mono ?_; rintro e1 w2 ⟨rfl, rfl⟩))
    go_ret
    exact ⟨rfl, (by repeat' (first | (with_reducible exact Below.refl _ _) | (with_reducible assumption) | (with_reducible refine below_step (by assumption) ?_) | (with_reducible refine below_alloc ?_ _) | (with_reducible refine Below.drew ?_) | (with_reducible refine below_drewN ?_ _) | (with_reducible refine Below.setCell ?_ ?_ _) | go_size))⟩
  · go_enter Tryz.func44, Tryz.ntmps44
    go_wp2_with (first | (go_at_call 60; refine (split_yes s hs _ hM E).mono ?_; rintro e1 w1 ⟨rfl, hb1⟩; have g1 := box_cell hb1 g0) | (go_at_call 61; refine (is_nil a _).mono ?_; rintro e1 w2 ⟨rfl, rfl⟩))
    go_ret
    exact ⟨rfl, (by repeat' (first | (with_reducible exact Below.refl _ _) | (with_reducible assumption) | (with_reducible refine below_step (by assumption) ?_) | (with_reducible refine below_alloc ?_ _) | (with_reducible refine Below.drew ?_) | (with_reducible refine below_drewN ?_ _) | (with_reducible refine Below.setCell ?_ ?_ _) | go_size))⟩
end Go.Proofs.YtmnmaibhjhhakaaGreatDoor

/-
  NameParts of the program, for every text. No condition beyond what the rows list.
-/
namespace Go.Proofs.YtmnmaibhjhhakaaGreatDoor
open Go.ChangeShapes Go.WideShapes Go.ChangeAt Go.RowKit

end Go.Proofs.YtmnmaibhjhhakaaGreatDoor
