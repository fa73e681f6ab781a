/-
  TotalsJoin of the program and of the reference. No condition.
-/
import Derived.Test.YtipkhmcnkldbbaaDoorPut16
namespace Go.Proofs.YtipkhmcnkldbbaaDoor
open Go.ChangeShapes Go.WideShapes Go.ChangeAt Go.RowKit

theorem totals_parts {xs : List Tot} (h : totalsB xs = true) : xs.length ≤ 24 ∧ (∀ x ∈ xs, (1 ≤ x.2.1 ∧ x.2.1 ≤ 99) ∧ 0 ≤ x.2.2 ∧ x.2.2 ≤ 98901) ∧ AscT none xs := by
  unfold totalsB at h
  simp only [Bool.and_eq_true, decide_eq_true_eq] at h
  refine ⟨h.1, ?_, ascT_of h.2⟩
  have key : ∀ (ys : List Tot) (p : Option ByteArray), sortedBy totalB (fun x => x.1) p ys = true → ∀ x ∈ ys, totalB x = true := by
    intro ys
    induction ys with
    | nil => intro _ _ x hx; simp at hx
    | cons y ys ih =>
      intro p hs x hx
      rw [sortedBy] at hs
      simp only [Bool.and_eq_true] at hs
      rcases List.mem_cons.1 hx with rfl | hx
      · exact hs.1.1
      · exact ih _ hs.2 x hx
  intro x hx
  have hb := key xs none h.2 x hx
  unfold totalB at hb
  simp only [Bool.and_eq_true] at hb
  have h1 := inB_iff.1 hb.1.2
  have h2 := inB_iff.1 hb.2
  omega
theorem totals_small {xs : List Tot} (h : totalsB xs = true) : ∀ x ∈ xs, Small x := fun x hx => by
  have := (totals_parts h).2.1 x hx
  unfold Small; omega
theorem mergeT_asc : ∀ (n : Nat) (xs ys : List Tot) (p : Option ByteArray), xs.length + ys.length ≤ n → AscT p xs → AscT p ys → AscT p (mergeT xs ys) := by
  intro n
  induction n with
  | zero =>
    intro xs ys p h hx hy
    cases xs with
    | nil => rw [mergeT_nil_l]; exact hy
    | cons x xs => simp at h
  | succ n ih =>
    intro xs ys p h hx hy
    cases xs with
    | nil => rw [mergeT_nil_l]; exact hy
    | cons x xs =>
      cases ys with
      | nil => rw [mergeT_nil_r]; exact hx
      | cons y ys =>
        simp only [List.length_cons] at h
        obtain ⟨hx1, hx2⟩ := hx
        obtain ⟨hy1, hy2⟩ := hy
        cases h1 : ltS x.1 y.1
        · cases h2 : ltS y.1 x.1
          · have e := ltS_tri h1 h2
            rw [mergeT_eq _ _ h1 h2]
            exact ⟨hx1, ih xs ys (some x.1) (by omega) hx2 (by rw [e]; exact hy2)⟩
          · rw [mergeT_gt _ _ h1 h2]
            exact ⟨hy1, ih (x :: xs) ys (some y.1) (by simp only [List.length_cons]; omega) ⟨h2, hx2⟩ hy2⟩
        · rw [mergeT_lt _ _ h1]
          exact ⟨hx1, ih xs (y :: ys) (some x.1) (by simp only [List.length_cons]; omega) hx2 ⟨h1, hy2⟩⟩
theorem ascT_take : ∀ (ys : List Tot) (k : Nat) (p : Option ByteArray), AscT p ys → AscT p (ys.take k)
  | [], _, _, _ => by rw [List.take_nil]; trivial
  | y :: ys, 0, _, _ => trivial
  | y :: ys, k + 1, _, ⟨h1, h2⟩ => ⟨h1, ascT_take ys k _ h2⟩
def joinB (xs ys : List Tot) : Bool := totalsB xs && totalsB ys && totalsB (mergeT xs ys)
def joinT (xs ys : List Tot) : List Tot := if joinB xs ys then mergeT xs ys else []
theorem joinT_t {xs ys : List Tot} (h : joinB xs ys = true) : joinT xs ys = mergeT xs ys := by unfold joinT; rw [if_pos h]
theorem joinT_f {xs ys : List Tot} (h : joinB xs ys = false) : joinT xs ys = [] := by unfold joinT; rw [if_neg (by simp [h])]
theorem join_ok {xs ys : List Tot} (hx : ∀ x ∈ xs, totalOk x) (hy : ∀ y ∈ ys, totalOk y) (h1 : totalsB xs = true) (h2 : totalsB ys = true) : ∀ z ∈ mergeT xs ys, totalOk z :=
  mergeT_all _ xs ys (Nat.le_refl _) hx hy (fun x hx' y hy' => by
    have a := (totals_parts h1).2.1 x hx'
    have b := (totals_parts h2).2.1 y hy'
    exact ⟨(hx x hx').1, ⟨by show _ ≤ x.2.1 + y.2.1; omega, by show x.2.1 + y.2.1 ≤ _; omega⟩, ⟨by show _ ≤ x.2.2 + y.2.2; omega, by show x.2.2 + y.2.2 ≤ _; omega⟩⟩)
theorem join_small {xs ys : List Tot} (h1 : totalsB xs = true) (h2 : totalsB ys = true) (k : Nat) : ∀ z ∈ mergeT xs (ys.take k), Small z :=
  mergeT_all _ xs (ys.take k) (Nat.le_refl _) (totals_small h1) (fun y hy => totals_small h2 y (List.mem_of_mem_take hy)) (fun x hx y hy => by
    have a := (totals_parts h1).2.1 x hx
    have b := (totals_parts h2).2.1 y (List.mem_of_mem_take hy)
    exact ⟨⟨by show 0 ≤ x.2.1 + y.2.1; omega, by show x.2.1 + y.2.1 ≤ _; omega⟩, ⟨by show 0 ≤ x.2.2 + y.2.2; omega, by show x.2.2 + y.2.2 ≤ _; omega⟩⟩)
theorem merge_step {xs ys : List Tot} (h1 : totalsB xs = true) (h2 : totalsB ys = true) {k : Nat} {y : Tot} (hy : ys[k]? = some y) :
    putEnd y (putRun y (false, []) (mergeT xs (ys.take k))) = mergeT xs (ys.take (k + 1)) := by
  have ha := (totals_parts h1).2.2
  have hb := (totals_parts h2).2.2
  rw [putRun_end y _ [] none (mergeT_asc _ xs (ys.take k) none (Nat.le_refl _) ha (ascT_take ys k none hb)), List.nil_append]
  rw [← putAll_merge _ xs (ys.take k) none none (Nat.le_refl _) ha (ascT_take ys k none hb), ← putAll_merge _ xs (ys.take (k + 1)) none none (Nat.le_refl _) ha (ascT_take ys (k + 1) none hb)]
  rw [take_succ_of hy]
  unfold putAll
  rw [List.foldl_append]; rfl

end Go.Proofs.YtipkhmcnkldbbaaDoor
