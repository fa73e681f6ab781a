/-
  The total of an entry, an entry added to totals, and the totals of a store, told plainly. No condition.
-/
import Derived.Test.YtipkhmcnkldbbaaDoorJoin
import Derived.Test.YtipkhmcnkldbbaaDoorBunS
namespace Go.Proofs.YtipkhmcnkldbbaaDoor
open Go.RowKit

theorem szT_neg2 {left : Int} {a b : ByteArray} (_h0 : 0 ≤ left) (h : szT left [a, b] < 0) : szT left [a, b] = -1 := by
  by_cases c : left < a.size
  · exact szT_lt c
  · rw [szT_ge c] at h ⊢
    by_cases d : left - a.size < b.size
    · exact szT_lt d
    · rw [szT_ge d] at h
      have : szT (left - a.size - b.size) [] = left - a.size - b.size := rfl
      omega
theorem szT_pos2 {left : Int} {a b : ByteArray} (_h0 : 0 ≤ left) (h1 : left ≤ 1048576) (h : ¬ szT left [a, b] < 0) : ∃ r, szT left [a, b] = r ∧ 0 ≤ r ∧ r ≤ 1048576 ∧ a.size ≤ 1048576 ∧ b.size ≤ 1048576 := by
  refine ⟨_, rfl, by omega, ?_⟩
  by_cases c : left < a.size
  · have := szT_lt (left := left) (s := a) (ss := [b]) c; omega
  · rw [szT_ge c] at h ⊢
    by_cases d : left - a.size < b.size
    · have := szT_lt (left := left - a.size) (s := b) (ss := []) d; omega
    · rw [szT_ge d] at h ⊢
      have : szT (left - a.size - b.size) [] = left - a.size - b.size := rfl
      omega
/-- The total of an entry. -/
def totE (x : EnT) : Tot := (catS x.1, 1, x.2.2.2)
theorem ent_parts {x : EnT} (h : entB x = true) : nameB x.1 = true ∧ evOk x.2 = true := by
  unfold entB at h; rwa [Bool.and_eq_true] at h
theorem ent_of {x : EnT} (h1 : nameB x.1 = true) (h2 : evOk x.2 = true) : entB x = true := by unfold entB; rw [h1, h2]; rfl
theorem ev_data {x : EvT} (h : evOk x = true) : 0 ≤ x.2.2 ∧ x.2.2 ≤ 999 := by
  unfold evOk eventB at h
  simp only [Bool.and_eq_true, inB_iff] at h
  omega
theorem name_cat {s : ByteArray} (h : nameB s = true) : wordB (catS s) = true := by
  unfold nameB at h
  simp only [Bool.and_eq_true] at h
  exact h.1.2
theorem name_hyp {s : ByteArray} (h : nameB s = true) : 0 ≤ hyp s := by
  unfold nameB at h
  simp only [Bool.and_eq_true, decide_eq_true_eq] at h
  exact h.1.1
theorem totE_bounds {x : EnT} (h : entB x = true) : (totE x).2.1 = 1 ∧ 0 ≤ (totE x).2.2 ∧ (totE x).2.2 ≤ 999 := by
  have := ev_data (ent_parts h).2
  exact ⟨rfl, this⟩
theorem totE_small {x : EnT} (h : entB x = true) : Small (totE x) := by
  have := totE_bounds h
  unfold Small; omega
theorem totE_one {x : EnT} (h : entB x = true) : totalsB [totE x] = true := by
  have hb := totE_bounds h
  have hc := name_cat (ent_parts h).1
  have : totalB (totE x) = true := by
    unfold totalB
    simp only [Bool.and_eq_true, inB_iff]
    exact ⟨⟨hc, by omega⟩, by omega⟩
  unfold totalsB totalsFrom
  rw [sortedBy, sortedBy, this]
  rfl
theorem putT_merge {ts : List Tot} (t : Tot) (h : AscT none ts) : putT t ts = mergeT ts [t] := putAll_merge _ ts [t] none none (Nat.le_refl _) h ⟨rfl, trivial⟩
theorem putT_end {ts : List Tot} (t : Tot) (h : AscT none ts) : putEnd t (putRun t (false, []) ts) = putT t ts := by rw [putRun_end t ts [] none h, List.nil_append]

def addB (xs : List Tot) (x : EnT) : Bool := totalsB xs && entB x && totalsB (putT (totE x) xs)
def addT (xs : List Tot) (x : EnT) : List Tot := if addB xs x then putT (totE x) xs else []
theorem addT_t {xs : List Tot} {x : EnT} (h : addB xs x = true) : addT xs x = putT (totE x) xs := by unfold addT; rw [if_pos h]
theorem addT_f {xs : List Tot} {x : EnT} (h : addB xs x = false) : addT xs x = [] := by unfold addT; rw [if_neg (by simp [h])]
theorem add_join {xs : List Tot} {x : EnT} (h1 : totalsB xs = true) (h2 : entB x = true) : joinB xs [totE x] = addB xs x ∧ joinT xs [totE x] = addT xs x := by
  have hp := putT_merge (totE x) (totals_parts h1).2.2
  have e : joinB xs [totE x] = addB xs x := by unfold joinB addB; rw [h1, h2, totE_one h2, hp]
  refine ⟨e, ?_⟩
  unfold joinT addT
  rw [e, hp]

/-- The totals of entries. -/
def ofL (xs : List EnT) : List Tot := xs.foldl (fun l x => putT (totE x) l) []
def ofT (xs : List EnT) : List Tot := if storeB xs then ofL xs else []
theorem ofL_succ {xs : List EnT} {k : Nat} {x : EnT} (h : xs[k]? = some x) : ofL (xs.take (k + 1)) = putT (totE x) (ofL (xs.take k)) := by
  unfold ofL; rw [take_succ_of h, List.foldl_append]; rfl
/-- What holds of the totals of k entries. -/
def OfOk (k : Nat) (ts : List Tot) : Prop := AscT none ts ∧ ts.length ≤ k ∧ ∀ t ∈ ts, (1 ≤ t.2.1 ∧ t.2.1 ≤ k) ∧ 0 ≤ t.2.2 ∧ t.2.2 ≤ 999 * k
theorem ofOk_step {k : Nat} {ts : List Tot} {x : EnT} (h : OfOk k ts) (hx : entB x = true) : OfOk (k + 1) (putT (totE x) ts) := by
  obtain ⟨h1, h2, h3⟩ := h
  have hb := totE_bounds hx
  rw [putT_merge _ h1]
  refine ⟨mergeT_asc _ ts [totE x] none (Nat.le_refl _) h1 ⟨rfl, trivial⟩, Nat.le_trans (mergeT_length _ ts [totE x] (Nat.le_refl _)) (by simp; omega), ?_⟩
  refine mergeT_all (Q := fun t => (1 ≤ t.2.1 ∧ t.2.1 ≤ ((k + 1 : Nat) : Int)) ∧ 0 ≤ t.2.2 ∧ t.2.2 ≤ 999 * ((k + 1 : Nat) : Int)) _ ts [totE x] (Nat.le_refl _) (fun t ht => ?_) (fun t ht => ?_) (fun t ht u hu => ?_)
  · have := h3 t ht
    omega
  · rw [List.mem_singleton.1 ht]
    omega
  · rw [List.mem_singleton.1 hu]
    have := h3 t ht
    show (1 ≤ t.2.1 + (totE x).2.1 ∧ t.2.1 + (totE x).2.1 ≤ _) ∧ 0 ≤ t.2.2 + (totE x).2.2 ∧ t.2.2 + (totE x).2.2 ≤ _
    omega
theorem ofOk_fold : ∀ (xs : List EnT) (k : Nat) (ts : List Tot), OfOk k ts → (∀ x ∈ xs, entB x = true) → OfOk (k + xs.length) (xs.foldl (fun l x => putT (totE x) l) ts)
  | [], _, _, h, _ => h
  | x :: xs, k, ts, h, hx => by
    have := ofOk_fold xs (k + 1) _ (ofOk_step h (hx x (by simp))) (fun y hy => hx y (by simp [hy]))
    simp only [List.foldl_cons, List.length_cons]
    rwa [show k + (xs.length + 1) = k + 1 + xs.length by omega]
theorem ofL_ok {xs : List EnT} (h : storeB xs = true) (k : Nat) : OfOk 24 (ofL (xs.take k)) := by
  obtain ⟨h1, h2, _⟩ := (store_iff xs).1 h
  obtain ⟨a, b, c⟩ := ofOk_fold (xs.take k) 0 [] ⟨trivial, Nat.le_refl _, fun t ht => by cases ht⟩ (fun x hx => h2 x (List.mem_of_mem_take hx))
  have hl := List.length_take_le k xs
  have hl2 : (xs.take k).length ≤ 24 := by rw [List.length_take]; omega
  exact ⟨a, by unfold ofL; omega, fun t ht => by have := c t ht; omega⟩
theorem ofOk_small {ts : List Tot} (h : OfOk 24 ts) : ∀ t ∈ ts, Small t := fun t ht => by
  have := h.2.2 t ht
  unfold Small; omega
theorem ofT_ok (xs : List EnT) : (ofT xs).length ≤ 24 := by
  unfold ofT
  split
  · rename_i h
    have := (ofL_ok h xs.length).2.1
    rwa [List.take_length] at this
  · simp
theorem ofT_t {xs : List EnT} (h : storeB xs = true) : ofT xs = ofL xs := by unfold ofT; rw [if_pos h]
theorem ofT_f {xs : List EnT} (h : storeB xs = false) : ofT xs = [] := by unfold ofT; rw [if_neg (by simp [h])]
theorem ofL_take {xs : List EnT} {n : Nat} (h : xs.length ≤ n) : ofL (xs.take n) = ofL xs := by rw [List.take_of_length_le h]
end Go.Proofs.YtipkhmcnkldbbaaDoor
