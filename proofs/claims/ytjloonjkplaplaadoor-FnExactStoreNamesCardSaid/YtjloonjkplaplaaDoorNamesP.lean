/-
  The names of a store, told plainly: put in one by one, an ascending list without doubles. No condition.
-/
import Derived.Test.YtjloonjkplaplaaDoorOrd
import Derived.Test.YtjloonjkplaplaaDoorMade
namespace Go.Proofs.YtjloonjkplaplaaDoor

/-- A text put into an ascending list, unless it stands there. -/
def putS (s : ByteArray) : List ByteArray → List ByteArray
  | [] => [s]
  | x :: xs => if x = s then x :: xs else if ltS s x then s :: x :: xs else x :: putS s xs
def AscS : Option ByteArray → List ByteArray → Prop
  | _, [] => True
  | p, x :: xs => ltO p x = true ∧ AscS (some x) xs
theorem putS_mem {s t : ByteArray} : ∀ {xs : List ByteArray}, t ∈ putS s xs ↔ t = s ∨ t ∈ xs
  | [] => by simp [putS]
  | x :: xs => by
    rw [putS]
    split
    · rename_i h
      subst h
      simp
    · split
      · simp
      · rw [List.mem_cons, putS_mem, List.mem_cons]
        constructor
        · rintro (h | h | h)
          · exact .inr (.inl h)
          · exact .inl h
          · exact .inr (.inr h)
        · rintro (h | h | h)
          · exact .inr (.inl h)
          · exact .inl h
          · exact .inr (.inr h)
theorem putS_asc {s : ByteArray} : ∀ {xs : List ByteArray} {p : Option ByteArray}, AscS p xs → ltO p s = true → AscS p (putS s xs)
  | [], _, _, h => ⟨h, trivial⟩
  | x :: xs, p, ⟨h1, h2⟩, h => by
    rw [putS]
    split
    · exact ⟨h1, h2⟩
    · rename_i hne
      split
      · rename_i hl
        exact ⟨h, hl, h2⟩
      · rename_i hl
        refine ⟨h1, putS_asc h2 ?_⟩
        show ltS x s = true
        cases e : ltS x s
        · exact absurd (ltS_tri e (by simpa using hl)) hne
        · rfl
theorem ascS_above : ∀ {xs : List ByteArray} {q : ByteArray}, AscS (some q) xs → ∀ x ∈ xs, ltS q x = true
  | [], _, _, _, hx => by simp at hx
  | y :: xs, q, ⟨h1, h2⟩, x, hx => by
    rcases List.mem_cons.1 hx with rfl | hx
    · exact h1
    · exact ltS_trans h1 (ascS_above h2 x hx)
/-- Two ascending lists with the same texts are one. -/
theorem ascS_ext : ∀ {xs ys : List ByteArray} {p q : Option ByteArray}, AscS p xs → AscS q ys → (∀ t, t ∈ xs ↔ t ∈ ys) → xs = ys
  | [], [], _, _, _, _, _ => rfl
  | [], y :: ys, _, _, _, _, h => by have := (h y).2 (by simp); simp at this
  | x :: xs, [], _, _, _, _, h => by have := (h x).1 (by simp); simp at this
  | x :: xs, y :: ys, p, q, ⟨_, hx⟩, ⟨_, hy⟩, h => by
    have ax := ascS_above hx
    have ay := ascS_above hy
    have e : x = y := by
      rcases List.mem_cons.1 ((h x).1 (by simp)) with e | e
      · exact e
      · rcases List.mem_cons.1 ((h y).2 (by simp)) with e' | e'
        · exact e'.symm
        · have := ltS_trans (ay x e) (ax y e')
          exact absurd rfl (ltS_ne this)
    subst e
    refine congrArg (x :: ·) (ascS_ext hx hy (fun t => ?_))
    constructor
    · intro ht
      rcases List.mem_cons.1 ((h t).1 (by simp [ht])) with e | e
      · exact absurd e.symm (ltS_ne (ax t ht))
      · exact e
    · intro ht
      rcases List.mem_cons.1 ((h t).2 (by simp [ht])) with e | e
      · exact absurd e.symm (ltS_ne (ay t ht))
      · exact e

/-- The reference's one pass with a mark. -/
def nameStep (s : ByteArray) (st : Bool × List ByteArray) (x : ByteArray) : Bool × List ByteArray :=
  if ltS x s then (st.1, st.2 ++ [x]) else (true, (if st.1 then st.2 else st.2 ++ [s]) ++ (if x = s then [] else [x]))
def nameRun (s : ByteArray) (st : Bool × List ByteArray) (xs : List ByteArray) : Bool × List ByteArray := xs.foldl (nameStep s) st
def nameEnd (s : ByteArray) (st : Bool × List ByteArray) : List ByteArray := if st.1 then st.2 else st.2 ++ [s]
theorem nameRun_succ {s : ByteArray} {xs : List ByteArray} {k : Nat} {x : ByteArray} (h : xs[k]? = some x) (st : Bool × List ByteArray) : nameRun s st (xs.take (k + 1)) = nameStep s (nameRun s st (xs.take k)) x := by
  unfold nameRun; rw [take_succ_of h, List.foldl_append]; rfl
theorem nameRun_done (s : ByteArray) : ∀ (xs : List ByteArray) (out : List ByteArray), (∀ x ∈ xs, ltS s x = true) → nameRun s (true, out) xs = (true, out ++ xs)
  | [], out, _ => by simp [nameRun]
  | x :: xs, out, h => by
    have hx := h x (by simp)
    have e : nameStep s (true, out) x = (true, out ++ [x]) := by
      have hne : ¬ x = s := fun e => ltS_ne hx e.symm
      unfold nameStep
      rw [ltS_asymm hx]
      simp [hne]
    show nameRun s (nameStep s (true, out) x) xs = _
    rw [e, nameRun_done s xs _ (fun y hy => h y (by simp [hy]))]; simp
theorem nameRun_end (s : ByteArray) : ∀ (xs : List ByteArray) (out : List ByteArray) (p : Option ByteArray), AscS p xs → nameEnd s (nameRun s (false, out) xs) = out ++ putS s xs
  | [], out, _, _ => by simp [nameRun, nameEnd, putS]
  | x :: xs, out, p, ⟨_, h2⟩ => by
    have ha := ascS_above h2
    show nameEnd s (nameRun s (nameStep s (false, out) x) xs) = _
    rw [putS]
    cases hl : ltS x s
    · by_cases e : x = s
      · have hs : nameStep s (false, out) x = (true, out ++ [s]) := by unfold nameStep; rw [hl]; simp [e]
        rw [hs, nameRun_done s xs _ (fun y hy => by rw [← e]; exact ha y hy), if_pos e]
        simp [nameEnd, e]
      · have hs : nameStep s (false, out) x = (true, out ++ [s] ++ [x]) := by unfold nameStep; rw [hl]; simp [e]
        have hsx : ltS s x = true := by
          cases g : ltS s x
          · exact absurd (ltS_tri hl g) e
          · rfl
        rw [hs, nameRun_done s xs _ (fun y hy => ltS_trans hsx (ha y hy)), if_neg e, if_pos hsx]
        simp [nameEnd]
    · have hs : nameStep s (false, out) x = (false, out ++ [x]) := by unfold nameStep; rw [hl]; simp
      rw [hs, nameRun_end s xs _ _ h2, if_neg (ltS_ne hl), if_neg (by simp [ltS_asymm hl])]
      simp
/-- The names of entries, one by one. -/
def namesOf (ss : List ByteArray) : List ByteArray := ss.foldl (fun l s => putS s l) []
theorem namesOf_succ {ss : List ByteArray} {k : Nat} {s : ByteArray} (h : ss[k]? = some s) : namesOf (ss.take (k + 1)) = putS s (namesOf (ss.take k)) := by
  unfold namesOf; rw [take_succ_of h, List.foldl_append]; rfl
theorem namesOf_asc (ss : List ByteArray) : AscS none (namesOf ss) ∧ ∀ t, t ∈ namesOf ss ↔ t ∈ ss := by
  have key : ∀ (ss l : List ByteArray), AscS none l → AscS none (ss.foldl (fun l s => putS s l) l) ∧ ∀ t, t ∈ ss.foldl (fun l s => putS s l) l ↔ t ∈ ss ∨ t ∈ l := by
    intro ss
    induction ss with
    | nil => intro l h; exact ⟨h, fun t => by simp⟩
    | cons s ss ih =>
      intro l h
      obtain ⟨h1, h2⟩ := ih (putS s l) (putS_asc h rfl)
      refine ⟨h1, fun t => ?_⟩
      rw [List.foldl_cons, h2 t, putS_mem, List.mem_cons]
      constructor
      · rintro (g | g | g)
        · exact .inl (.inr g)
        · exact .inl (.inl g)
        · exact .inr g
      · rintro ((g | g) | g)
        · exact .inr (.inl g)
        · exact .inl g
        · exact .inr (.inr g)
  obtain ⟨h1, h2⟩ := key ss [] trivial
  exact ⟨h1, fun t => by rw [show namesOf ss = ss.foldl (fun l s => putS s l) [] from rfl, h2 t]; simp⟩
end Go.Proofs.YtjloonjkplaplaaDoor
