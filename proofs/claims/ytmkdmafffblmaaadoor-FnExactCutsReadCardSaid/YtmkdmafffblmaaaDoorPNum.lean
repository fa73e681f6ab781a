/-
  Numbers in digits, told plainly: the value of digits, decimals without leading zeros. No condition.
-/
import Derived.Test.YtmkdmafffblmaaaDoorDecS
namespace Go.Proofs.YtmkdmafffblmaaaDoor

def digB (c : UInt8) : Bool := decide (48 ≤ c.toNat) && decide (c.toNat ≤ 57)
def dval (l : List UInt8) : Nat := l.foldl (fun a c => a * 10 + (c.toNat - 48)) 0
theorem dval_snoc (l : List UInt8) (c : UInt8) : dval (l ++ [c]) = dval l * 10 + (c.toNat - 48) := by unfold dval; rw [List.foldl_append]; rfl
theorem snocs {α : Type} {P : List α → Prop} (h0 : P []) (h1 : ∀ xs x, P xs → P (xs ++ [x])) : ∀ xs, P xs := by
  have h : ∀ ys : List α, P ys.reverse := by
    intro ys
    induction ys with
    | nil => exact h0
    | cons y ys ih => rw [List.reverse_cons]; exact h1 _ _ ih
  intro xs
  have := h xs.reverse
  rwa [List.reverse_reverse] at this
/-- A leading zero before further digits. -/
def zeroB (l : List UInt8) : Bool := decide (1 < l.length) && decide (l.head? = some 48)
/-- Decimals of a number: not empty, digits alone, no leading zero. -/
def canonB (l : List UInt8) : Bool := !l.isEmpty && !zeroB l && l.all digB
theorem canon_parts {l : List UInt8} (h : canonB l = true) : l ≠ [] ∧ zeroB l = false ∧ l.all digB = true := by
  unfold canonB at h
  simp only [Bool.and_eq_true, Bool.not_eq_true'] at h
  refine ⟨fun e => ?_, h.1.2, h.2⟩
  rw [e] at h; simp at h
theorem canon_mk {l : List UInt8} (h1 : l ≠ []) (h2 : zeroB l = false) (h3 : l.all digB = true) : canonB l = true := by
  unfold canonB
  rw [h2, h3]
  cases l with
  | nil => exact absurd rfl h1
  | cons a l => rfl
theorem dig_range {c : UInt8} (h : digB c = true) : 48 ≤ c.toNat ∧ c.toNat ≤ 57 := by
  unfold digB at h
  simp only [Bool.and_eq_true, decide_eq_true_eq] at h
  exact h
theorem dig_ofNat {d : Nat} (h : d ≤ 9) : digB (UInt8.ofNat (48 + d)) = true ∧ (UInt8.ofNat (48 + d)).toNat = 48 + d := by
  have e : (UInt8.ofNat (48 + d)).toNat = 48 + d := by simp; omega
  exact ⟨by unfold digB; rw [e]; simp; omega, e⟩
theorem ofNat_dig {c : UInt8} (h : digB c = true) : UInt8.ofNat (48 + (c.toNat - 48)) = c := by
  have := dig_range h
  apply UInt8.toNat_inj.1
  simp; omega
/-- The head of a list of digits without leading zero is not 0, unless it stands alone. -/
theorem zero_snoc {l : List UInt8} {c : UInt8} (hl : l ≠ []) (h : zeroB (l ++ [c]) = false) : l.head? ≠ some 48 := by
  intro e
  unfold zeroB at h
  have h1 : (l ++ [c]).head? = some 48 := by
    cases l with
    | nil => exact absurd rfl hl
    | cons a l => simpa using e
  have h2 : 1 < (l ++ [c]).length := by
    cases l with
    | nil => exact absurd rfl hl
    | cons a l => simp
  rw [decide_eq_true h1, decide_eq_true h2] at h
  cases h
theorem dval_pos : ∀ (l : List UInt8), l ≠ [] → l.head? ≠ some 48 → l.all digB = true → 0 < dval l := by
  refine snocs (fun h => absurd rfl h) (fun l c ih h hh hd => ?_)
  rw [List.all_append] at hd
  simp only [Bool.and_eq_true, List.all_cons, List.all_nil, Bool.and_true] at hd
  rw [dval_snoc]
  cases l with
  | nil =>
    have := dig_range hd.2
    have h2 : c ≠ 48 := fun e => hh (by simp [e])
    have h3 : c.toNat ≠ 48 := fun e => h2 (UInt8.toNat_inj.1 (by simpa using e))
    show 0 < 0 * 10 + (c.toNat - 48)
    omega
  | cons a l =>
    have := ih (by simp) (by simpa using hh) hd.1
    omega
theorem canon_dec : ∀ (l : List UInt8), canonB l = true → Lib.decDigits (dval l) = l := by
  refine snocs (fun h => by cases h) (fun l c ih h => ?_)
  obtain ⟨_, h2, h3⟩ := canon_parts h
  rw [List.all_append] at h3
  simp only [Bool.and_eq_true, List.all_cons, List.all_nil, Bool.and_true] at h3
  rw [dval_snoc]
  have hc := dig_range h3.2
  cases l with
  | nil =>
    rw [Lib.decDigits_one (by show 0 * 10 + (c.toNat - 48) < 10; omega)]
    show [UInt8.ofNat (48 + (0 * 10 + (c.toNat - 48)))] = [c]
    rw [show 0 * 10 + (c.toNat - 48) = c.toNat - 48 by omega, ofNat_dig h3.2]
  | cons a l =>
    have hz := zero_snoc (by simp) h2
    have hp := dval_pos (a :: l) (by simp) hz h3.1
    rw [Lib.decDigits, dif_neg (by omega)]
    rw [show (dval (a :: l) * 10 + (c.toNat - 48)) / 10 = dval (a :: l) by omega, show (dval (a :: l) * 10 + (c.toNat - 48)) % 10 = c.toNat - 48 by omega, ofNat_dig h3.2]
    rw [ih (canon_mk (by simp) (by unfold zeroB; rw [decide_eq_false hz]; simp) h3.1)]
theorem dec_facts : ∀ (k n : Nat), n ≤ k → canonB (Lib.decDigits n) = true ∧ dval (Lib.decDigits n) = n ∧ (0 < n → (Lib.decDigits n).head? ≠ some 48) := by
  intro k
  induction k with
  | zero =>
    intro n hn
    obtain rfl : n = 0 := by omega
    rw [Lib.decDigits_one (by omega)]
    exact ⟨by decide, by decide, fun h => absurd h (by omega)⟩
  | succ k ih =>
    intro n hn
    by_cases h10 : n < 10
    · rw [Lib.decDigits_one h10]
      obtain ⟨d1, d2⟩ := dig_ofNat (d := n) (by omega)
      refine ⟨canon_mk (by simp) (by unfold zeroB; simp) (by rw [List.all_cons, d1]; rfl), ?_, fun h e => ?_⟩
      · show 0 * 10 + ((UInt8.ofNat (48 + n)).toNat - 48) = n; rw [d2]; omega
      · simp only [List.head?_cons, Option.some.injEq] at e
        rw [e] at d2; simp at d2; omega
    · obtain ⟨i1, i2, i3⟩ := ih (n / 10) (by omega)
      obtain ⟨c1, c2, c3⟩ := canon_parts i1
      rw [Lib.decDigits, dif_neg h10]
      obtain ⟨d1, d2⟩ := dig_ofNat (d := n % 10) (by omega)
      have hh := i3 (by omega)
      have hhead : (Lib.decDigits (n / 10) ++ [UInt8.ofNat (48 + n % 10)]).head? ≠ some 48 := by
        cases e : Lib.decDigits (n / 10) with
        | nil => exact absurd e c1
        | cons a l => rw [e] at hh; simpa using hh
      refine ⟨canon_mk (by simp) (by unfold zeroB; rw [decide_eq_false hhead]; simp) (by rw [List.all_append, c3, List.all_cons, d1]; rfl), by rw [dval_snoc, i2, d2]; omega, fun _ => hhead⟩
theorem dec_canon (n : Nat) : canonB (Lib.decDigits n) = true := (dec_facts n n (Nat.le_refl _)).1
theorem dec_val (n : Nat) : dval (Lib.decDigits n) = n := (dec_facts n n (Nat.le_refl _)).2.1
theorem dval_mono (l : List UInt8) : ∀ (k : Nat), dval (l.take k) ≤ dval l := by
  revert l
  refine snocs (fun k => by simp) (fun l c ih k => ?_)
  by_cases h : k ≤ l.length
  · rw [List.take_append_of_le_length h, dval_snoc]
    have := ih k; omega
  · rw [List.take_of_length_le (by simp; omega)]; exact Nat.le_refl _
theorem dval_lt : ∀ (l : List UInt8), l.all digB = true → dval l < 10 ^ l.length := by
  refine snocs (fun _ => by simp [dval]) (fun l c ih h => ?_)
  rw [List.all_append] at h
  simp only [Bool.and_eq_true, List.all_cons, List.all_nil, Bool.and_true] at h
  have := ih h.1
  have := dig_range h.2
  rw [dval_snoc, List.length_append]
  simp only [List.length_cons, List.length_nil]
  rw [Nat.zero_add, Nat.pow_succ]; omega
/-- Decimals of a number below 10 to the k have at most k signs. -/
theorem canon_len {l : List UInt8} (h : canonB l = true) (k : Nat) (hv : dval l < 10 ^ (k + 1)) : l.length ≤ k + 1 := by
  rw [← canon_dec l h, Lib.decDigits_length]
  exact nDigits_le _ k hv

/-- The number that a text tells, if it is at most a given one. -/
def numB (s : ByteArray) (most : Int) : Bool := canonB s.data.toList && decide ((dval s.data.toList : Int) ≤ most)
def numV (s : ByteArray) (most : Int) : Int := if numB s most then (dval s.data.toList : Int) else 0
theorem numV_t {s : ByteArray} {most : Int} (h : numB s most = true) : numV s most = (dval s.data.toList : Int) := by unfold numV; rw [if_pos h]
theorem numV_f {s : ByteArray} {most : Int} (h : numB s most = false) : numV s most = 0 := by unfold numV; rw [if_neg (by simp [h])]
/-- The number of at most five digits, or -1. -/
def fiveV (s : ByteArray) : Int := if (decide (1 ≤ s.size) && decide (s.size ≤ 5) && s.data.toList.all digB) = true then (dval s.data.toList : Int) else -1
theorem decS_eq {n : Int} {s : ByteArray} (h : decS n = s) : Lib.decDigits n.toNat = s.data.toList := by rw [← h]; unfold decS; simp
theorem eq_decS {n : Int} {s : ByteArray} (h : Lib.decDigits n.toNat = s.data.toList) : decS n = s := by
  apply ByteArray.ext
  unfold decS
  rw [h]
/-- Where the number's decimals are the text, the program takes it; and the other way round. -/
theorem num_five {s : ByteArray} {most : Int} (hm : most ≤ 99999) (h0 : 0 ≤ most) : numB s most = true ↔ (0 ≤ fiveV s ∧ fiveV s ≤ most ∧ decS (fiveV s) = s) := by
  constructor
  · intro h
    unfold numB at h
    simp only [Bool.and_eq_true, decide_eq_true_eq] at h
    obtain ⟨h1, h2⟩ := h
    obtain ⟨c1, c2, c3⟩ := canon_parts h1
    have hlen := canon_len h1 4 (by omega)
    have hpos : 0 < s.data.toList.length := by
      cases e : s.data.toList with
      | nil => exact absurd e c1
      | cons a l => simp
    have hsz : s.size = s.data.toList.length := by simp
    have hf : fiveV s = (dval s.data.toList : Int) := by
      unfold fiveV
      rw [if_pos (by rw [c3, decide_eq_true (by omega : 1 ≤ s.size), decide_eq_true (by omega : s.size ≤ 5)]; rfl)]
    rw [hf]
    refine ⟨by omega, h2, eq_decS ?_⟩
    rw [Int.toNat_natCast, canon_dec _ h1]
  · rintro ⟨h1, h2, h3⟩
    have e := decS_eq h3
    have hc := dec_canon (fiveV s).toNat
    have hv := dec_val (fiveV s).toNat
    rw [e] at hc hv
    unfold numB
    rw [hc, hv]
    simp only [Bool.true_and, decide_eq_true_eq]
    omega
theorem num_val {s : ByteArray} {most : Int} (hm : most ≤ 99999) (h0 : 0 ≤ most) (h : numB s most = true) : numV s most = fiveV s := by
  obtain ⟨h1, _, h3⟩ := (num_five hm h0).1 h
  rw [numV_t h]
  have e := decS_eq h3
  have hv := dec_val (fiveV s).toNat
  rw [e] at hv
  omega
end Go.Proofs.YtmkdmafffblmaaaDoor
