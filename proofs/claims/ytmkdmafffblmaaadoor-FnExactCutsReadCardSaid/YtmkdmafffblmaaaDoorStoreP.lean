/-
  Valid stores, told plainly: each entry valid, and no stream has an id twice; the same told stream by stream. No condition.
-/
import Derived.Test.YtmkdmafffblmaaaDoorStreams
import Derived.Test.YtmkdmafffblmaaaDoorNameV
namespace Go.Proofs.YtmkdmafffblmaaaDoor
open Go.RowKit

/-- A valid entry. -/
def entB (x : EnT) : Bool := nameB x.1 && evOk x.2
def idOf (x : EnT) : ByteArray × Int := (x.1, x.2.1)
def freshB (pre : List EnT) (x : EnT) : Bool := pre.all (fun y => decide (idOf y ≠ idOf x))
theorem fresh_iff {pre : List EnT} {x : EnT} : freshB pre x = true ↔ idOf x ∉ pre.map idOf := by
  unfold freshB
  rw [List.all_eq_true]
  simp only [decide_eq_true_eq, List.mem_map, not_exists, not_and]
/-- Valid entries, none of the stream and the id of one before. -/
def stFrom (pre : List EnT) : List EnT → Bool
  | [] => true
  | x :: xs => entB x && freshB pre x && stFrom (pre ++ [x]) xs
def storeB (xs : List EnT) : Bool := decide (xs.length ≤ 24) && stFrom [] xs
theorem st_step {xs : List EnT} {k : Nat} {x : EnT} (hx : xs[k]? = some x) (h : stFrom [] xs = stFrom (xs.take k) (xs.drop k)) :
    stFrom [] xs = (entB x && freshB (xs.take k) x && stFrom (xs.take (k + 1)) (xs.drop (k + 1))) := by
  rw [h, drop_of hx, stFrom, take_succ_of hx]
theorem st_bad {xs : List EnT} {k : Nat} {x : EnT} (hx : xs[k]? = some x) (h : stFrom [] xs = stFrom (xs.take k) (xs.drop k)) (hb : entB x = false) : stFrom [] xs = false := by
  rw [st_step hx h, hb]; rfl
theorem st_twice {xs : List EnT} {k j : Nat} {x y : EnT} (hx : xs[k]? = some x) (h : stFrom [] xs = stFrom (xs.take k) (xs.drop k)) (hy : xs[j]? = some y) (hj : j < k) (he : idOf y = idOf x) : stFrom [] xs = false := by
  rw [st_step hx h]
  have hm : idOf x ∈ (xs.take k).map idOf := by
    rw [← he]
    exact List.mem_map_of_mem (List.mem_of_getElem? (by rw [List.getElem?_take, if_pos hj]; exact hy))
  rw [show freshB (xs.take k) x = false from by rw [Bool.eq_false_iff]; intro hf; exact fresh_iff.1 hf hm]; simp
theorem st_on {xs : List EnT} {k : Nat} {x : EnT} (hx : xs[k]? = some x) (h : stFrom [] xs = stFrom (xs.take k) (xs.drop k)) (hb : entB x = true) (hn : idOf x ∉ (xs.take k).map idOf) : stFrom [] xs = stFrom (xs.take (k + 1)) (xs.drop (k + 1)) := by
  rw [st_step hx h, hb, fresh_iff.2 hn]; rfl
theorem store_no {xs : List EnT} (h : stFrom [] xs = false) : storeB xs = false := by unfold storeB; rw [h]; simp
theorem not_id_succ {xs : List EnT} {j : Nat} {y : EnT} {v : ByteArray × Int} (hy : xs[j]? = some y) (h : v ∉ (xs.take j).map idOf) (hne : idOf y ≠ v) : v ∉ (xs.take (j + 1)).map idOf := by
  rw [take_succ_of hy, List.map_append, List.mem_append]
  rintro (g | g)
  · exact h g
  · simp at g; exact hne g.symm

theorem st_iff : ∀ (xs pre : List EnT), stFrom pre xs = true ↔ (∀ x ∈ xs, entB x = true) ∧ (∀ x ∈ xs, idOf x ∉ pre.map idOf) ∧ xs.Pairwise (fun x y => idOf x ≠ idOf y)
  | [], pre => by simp [stFrom]
  | x :: xs, pre => by
    rw [stFrom, Bool.and_eq_true, Bool.and_eq_true, st_iff xs (pre ++ [x]), fresh_iff, List.pairwise_cons]
    have hm : ∀ v, v ∈ (pre ++ [x]).map idOf ↔ v ∈ pre.map idOf ∨ v = idOf x := fun v => by rw [List.map_append, List.mem_append]; simp
    constructor
    · rintro ⟨⟨h1, h2⟩, h3, h4, h5⟩
      refine ⟨fun y hy => ?_, fun y hy => ?_, fun y hy e => h4 y hy ((hm _).2 (.inr e.symm)), h5⟩
      · rcases List.mem_cons.1 hy with rfl | hy
        · exact h1
        · exact h3 y hy
      · rcases List.mem_cons.1 hy with rfl | hy
        · exact h2
        · exact fun h => h4 y hy ((hm _).2 (.inl h))
    · rintro ⟨h1, h2, h6, h5⟩
      refine ⟨⟨h1 x (by simp), h2 x (by simp)⟩, fun y hy => h1 y (by simp [hy]), fun y hy h => ?_, h5⟩
      rcases (hm _).1 h with h | h
      · exact h2 y (by simp [hy]) h
      · exact h6 y hy h.symm
theorem evs_iff : ∀ (xs pre : List EvT), evs pre xs = true ↔ (∀ x ∈ xs, evOk x = true) ∧ (∀ x ∈ xs, x.1 ∉ pre.map (·.1)) ∧ xs.Pairwise (fun x y => x.1 ≠ y.1)
  | [], pre => by simp [evs]
  | x :: xs, pre => by
    rw [evs, Bool.and_eq_true, Bool.and_eq_true, evs_iff xs (pre ++ [x]), decide_eq_true_eq, List.pairwise_cons]
    have hm : ∀ v, v ∈ (pre ++ [x]).map (·.1) ↔ v ∈ pre.map (·.1) ∨ v = x.1 := fun v => by rw [List.map_append, List.mem_append]; simp
    constructor
    · rintro ⟨⟨h1, h2⟩, h3, h4, h5⟩
      refine ⟨fun y hy => ?_, fun y hy => ?_, fun y hy e => h4 y hy ((hm _).2 (.inr e.symm)), h5⟩
      · rcases List.mem_cons.1 hy with rfl | hy
        · exact h1
        · exact h3 y hy
      · rcases List.mem_cons.1 hy with rfl | hy
        · exact h2
        · exact fun h => h4 y hy ((hm _).2 (.inl h))
    · rintro ⟨h1, h2, h6, h5⟩
      refine ⟨⟨h1 x (by simp), h2 x (by simp)⟩, fun y hy => h1 y (by simp [hy]), fun y hy h => ?_, h5⟩
      rcases (hm _).1 h with h | h
      · exact h2 y (by simp [hy]) h
      · exact h6 y hy h.symm
theorem events_iff (ys : List EvT) : eventsB ys = true ↔ ys.length ≤ 24 ∧ (∀ x ∈ ys, evOk x = true) ∧ ys.Pairwise (fun x y => x.1 ≠ y.1) := by
  unfold eventsB
  rw [Bool.and_eq_true, decide_eq_true_eq, evs_iff]
  simp
theorem store_iff (xs : List EnT) : storeB xs = true ↔ xs.length ≤ 24 ∧ (∀ x ∈ xs, entB x = true) ∧ xs.Pairwise (fun x y => idOf x ≠ idOf y) := by
  unfold storeB
  rw [Bool.and_eq_true, decide_eq_true_eq, st_iff]
  simp
/-- Ids are told apart stream by stream. -/
theorem apart_iff : ∀ xs : List EnT, xs.Pairwise (fun x y => idOf x ≠ idOf y) ↔ ∀ s, (evOf s xs).Pairwise (fun x y => x.1 ≠ y.1)
  | [] => by simp [evOf]
  | x :: xs => by
    have cons : ∀ s, evOf s (x :: xs) = (if x.1 = s then [x.2] else []) ++ evOf s xs := by
      intro s
      unfold evOf
      by_cases h : x.1 = s <;> simp [h]
    have mem : ∀ s (e : EvT), e ∈ evOf s xs ↔ (s, e) ∈ xs := by
      intro s e
      unfold evOf
      simp only [List.mem_map, List.mem_filter, decide_eq_true_eq]
      constructor
      · rintro ⟨⟨a, b⟩, ⟨h1, h2⟩, h3⟩
        simp at h2 h3; subst h2; subst h3; exact h1
      · intro h; exact ⟨(s, e), ⟨h, rfl⟩, rfl⟩
    rw [List.pairwise_cons, apart_iff xs]
    constructor
    · rintro ⟨h1, h2⟩ s
      rw [cons]
      by_cases h : x.1 = s
      · rw [if_pos h, List.singleton_append, List.pairwise_cons]
        refine ⟨fun e he hh => ?_, h2 s⟩
        exact h1 (s, e) ((mem s e).1 he) (by unfold idOf; rw [h, hh])
      · rw [if_neg h, List.nil_append]; exact h2 s
    · intro h
      refine ⟨fun y hy hh => ?_, fun s => ?_⟩
      · have h1 := h x.1
        rw [cons, if_pos rfl, List.singleton_append, List.pairwise_cons] at h1
        unfold idOf at hh
        simp only [Prod.mk.injEq] at hh
        exact h1.1 y.2 ((mem x.1 y.2).2 (by rw [hh.1]; exact hy)) hh.2
      · have h1 := h s
        rw [cons] at h1
        exact (List.pairwise_append.1 h1).2.1
theorem evOf_mem {s : ByteArray} {xs : List EnT} {e : EvT} (h : e ∈ evOf s xs) : (s, e) ∈ xs := by
  unfold evOf at h
  simp only [List.mem_map, List.mem_filter, decide_eq_true_eq] at h
  obtain ⟨⟨a, b⟩, ⟨h1, h2⟩, h3⟩ := h
  simp at h2 h3; subst h2; subst h3; exact h1
/-- A stream that is not valid: nor is the store. -/
theorem store_stream {xs : List EnT} {s : ByteArray} (h : eventsB (evOf s xs) = false) : storeB xs = false := by
  rw [Bool.eq_false_iff]
  intro hs
  obtain ⟨h1, h2, h3⟩ := (store_iff xs).1 hs
  rw [Bool.eq_false_iff] at h
  refine h ((events_iff _).2 ⟨Nat.le_trans (evOf_length s xs) h1, fun e he => ?_, (apart_iff xs).1 h3 s⟩)
  have := h2 _ (evOf_mem he)
  unfold entB at this
  simp only [Bool.and_eq_true] at this
  exact this.2
theorem store_yes {xs : List EnT} (h1 : xs.length ≤ 24) (h2 : ∀ x ∈ xs, entB x = true) (h3 : ∀ s, evOf s xs ≠ [] → eventsB (evOf s xs) = true) : storeB xs = true := by
  refine (store_iff xs).2 ⟨h1, h2, (apart_iff xs).2 (fun s => ?_)⟩
  by_cases h : evOf s xs = []
  · rw [h]; exact List.Pairwise.nil
  · exact ((events_iff _).1 (h3 s h)).2.2
/-- What the walks ask of an entry: its texts are short. -/
def enS (x : EnT) : Prop := x.1.size ≤ 1048576 ∧ x.2.2.1.size ≤ 1048576
end Go.Proofs.YtmkdmafffblmaaaDoor
