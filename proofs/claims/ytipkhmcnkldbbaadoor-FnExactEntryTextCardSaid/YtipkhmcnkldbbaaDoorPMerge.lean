/-
  Two ascending lists of totals as one, told plainly: put in one by one, or merged. No condition.
-/
import Derived.Test.YtipkhmcnkldbbaaDoorTFind
import Derived.Test.YtipkhmcnkldbbaaDoorPIns
namespace Go.Proofs.YtipkhmcnkldbbaaDoor

def bothT (x y : Tot) : Tot := (x.1, x.2.1 + y.2.1, x.2.2 + y.2.2)
/-- Two lists as one, by their keys. -/
def mergeT : List Tot → List Tot → List Tot
  | [], ys => ys
  | xs, [] => xs
  | x :: xs, y :: ys =>
    if ltS x.1 y.1 then x :: mergeT xs (y :: ys)
    else if ltS y.1 x.1 then y :: mergeT (x :: xs) ys
    else bothT x y :: mergeT xs ys
termination_by xs ys => xs.length + ys.length
theorem mergeT_nil_l (ys : List Tot) : mergeT [] ys = ys := by rw [mergeT]
theorem mergeT_nil_r (xs : List Tot) : mergeT xs [] = xs := by
  cases xs with
  | nil => rw [mergeT]
  | cons x xs => rw [mergeT]; simp
theorem mergeT_lt {x y : Tot} (xs ys : List Tot) (h : ltS x.1 y.1 = true) : mergeT (x :: xs) (y :: ys) = x :: mergeT xs (y :: ys) := by rw [mergeT, if_pos h]
theorem mergeT_gt {x y : Tot} (xs ys : List Tot) (h : ltS x.1 y.1 = false) (h' : ltS y.1 x.1 = true) : mergeT (x :: xs) (y :: ys) = y :: mergeT (x :: xs) ys := by rw [mergeT, if_neg (by simp [h]), if_pos h']
theorem mergeT_eq {x y : Tot} (xs ys : List Tot) (h : ltS x.1 y.1 = false) (h' : ltS y.1 x.1 = false) : mergeT (x :: xs) (y :: ys) = bothT x y :: mergeT xs ys := by rw [mergeT, if_neg (by simp [h]), if_neg (by simp [h'])]
theorem mergeT_length : ∀ (n : Nat) (xs ys : List Tot), xs.length + ys.length ≤ n → (mergeT xs ys).length ≤ xs.length + ys.length := by
  intro n
  induction n with
  | zero => intro xs ys h; cases xs with
    | nil => rw [mergeT_nil_l]; simp
    | cons x xs => simp at h
  | succ n ih =>
    intro xs ys h
    cases xs with
    | nil => rw [mergeT_nil_l]; simp
    | cons x xs =>
      cases ys with
      | nil => rw [mergeT_nil_r]; simp
      | cons y ys =>
        simp only [List.length_cons] at h
        cases h1 : ltS x.1 y.1
        · cases h2 : ltS y.1 x.1
          · rw [mergeT_eq _ _ h1 h2]; have := ih xs ys (by omega); simp only [List.length_cons]; omega
          · rw [mergeT_gt _ _ h1 h2]; have := ih (x :: xs) ys (by simp only [List.length_cons]; omega); simp only [List.length_cons] at this ⊢; omega
        · rw [mergeT_lt _ _ h1]; have := ih xs (y :: ys) (by simp only [List.length_cons]; omega); simp only [List.length_cons] at this ⊢; omega
/-- Whatever holds of both lists and of sums holds of the merged one. -/
theorem mergeT_all {Q : Tot → Prop} : ∀ (n : Nat) (xs ys : List Tot), xs.length + ys.length ≤ n → (∀ x ∈ xs, Q x) → (∀ y ∈ ys, Q y) → (∀ x ∈ xs, ∀ y ∈ ys, Q (bothT x y)) → ∀ z ∈ mergeT xs ys, Q z := by
  intro n
  induction n with
  | zero =>
    intro xs ys h _ hy _ z hz
    cases xs with
    | nil => rw [mergeT_nil_l] at hz; exact hy z hz
    | cons x xs => simp at h
  | succ n ih =>
    intro xs ys h hx hy hb z hz
    cases xs with
    | nil => rw [mergeT_nil_l] at hz; exact hy z hz
    | cons x xs =>
      cases ys with
      | nil => rw [mergeT_nil_r] at hz; exact hx z hz
      | cons y ys =>
        simp only [List.length_cons] at h
        cases h1 : ltS x.1 y.1
        · cases h2 : ltS y.1 x.1
          · rw [mergeT_eq _ _ h1 h2] at hz
            rcases List.mem_cons.1 hz with rfl | hz
            · exact hb x (by simp) y (by simp)
            · exact ih xs ys (by omega) (fun a ha => hx a (by simp [ha])) (fun a ha => hy a (by simp [ha])) (fun a ha b hb' => hb a (by simp [ha]) b (by simp [hb'])) z hz
          · rw [mergeT_gt _ _ h1 h2] at hz
            rcases List.mem_cons.1 hz with rfl | hz
            · exact hy z (by simp)
            · exact ih (x :: xs) ys (by simp only [List.length_cons]; omega) hx (fun a ha => hy a (by simp [ha])) (fun a ha b hb' => hb a ha b (by simp [hb'])) z hz
        · rw [mergeT_lt _ _ h1] at hz
          rcases List.mem_cons.1 hz with rfl | hz
          · exact hx z (by simp)
          · exact ih xs (y :: ys) (by simp only [List.length_cons]; omega) (fun a ha => hx a (by simp [ha])) hy (fun a ha b hb' => hb a (by simp [ha]) b hb') z hz

/-- Keys behind p ascend. -/
def AscT : Option ByteArray → List Tot → Prop
  | _, [] => True
  | p, x :: xs => ltO p x.1 = true ∧ AscT (some x.1) xs
theorem ascT_of {p : Option ByteArray} : ∀ {xs : List Tot}, totalsFrom p xs = true → AscT p xs := by
  intro xs
  induction xs generalizing p with
  | nil => intro _; trivial
  | cons x xs ih =>
    intro h
    unfold totalsFrom at h
    rw [sortedBy] at h
    simp only [Bool.and_eq_true] at h
    exact ⟨h.1.2, ih h.2⟩
theorem ascT_above : ∀ {xs : List Tot} {q : ByteArray}, AscT (some q) xs → ∀ x ∈ xs, ltS q x.1 = true
  | [], _, _, x, hx => by simp at hx
  | y :: xs, q, ⟨h1, h2⟩, x, hx => by
    rcases List.mem_cons.1 hx with rfl | hx
    · exact h1
    · exact ltS_trans h1 (ascT_above h2 x hx)

/-- A total put in. -/
def putT (t : Tot) : List Tot → List Tot
  | [] => [t]
  | x :: xs => if x.1 = t.1 then bothT x t :: xs else if ltS t.1 x.1 then t :: x :: xs else x :: putT t xs
def putAll (xs ys : List Tot) : List Tot := ys.foldl (fun l t => putT t l) xs
theorem putT_below {x t : Tot} (xs : List Tot) (h : ltS x.1 t.1 = true) : putT t (x :: xs) = x :: putT t xs := by rw [putT, if_neg (ltS_ne h), if_neg (by simp [ltS_asymm h])]
theorem putAll_cons : ∀ (ys : List Tot) (x : Tot) (xs : List Tot), (∀ y ∈ ys, ltS x.1 y.1 = true) → putAll (x :: xs) ys = x :: putAll xs ys
  | [], _, _, _ => rfl
  | y :: ys, x, xs, h => by
    show putAll (putT y (x :: xs)) ys = x :: putAll (putT y xs) ys
    rw [putT_below xs (h y (by simp)), putAll_cons ys x _ (fun z hz => h z (by simp [hz]))]
theorem putAll_merge : ∀ (n : Nat) (xs ys : List Tot) (p q : Option ByteArray), xs.length + ys.length ≤ n → AscT p xs → AscT q ys → putAll xs ys = mergeT xs ys := by
  intro n
  induction n with
  | zero =>
    intro xs ys p q h _ _
    cases ys with
    | nil => rw [mergeT_nil_r]; rfl
    | cons y ys => simp at h
  | succ n ih =>
    intro xs ys p q h hx hy
    cases ys with
    | nil => rw [mergeT_nil_r]; rfl
    | cons y ys =>
      obtain ⟨_, hy2⟩ := hy
      have hya := ascT_above hy2
      cases xs with
      | nil =>
        rw [mergeT_nil_l]
        show putAll [y] ys = y :: ys
        rw [putAll_cons ys y [] hya, ih [] ys none (some y.1) (by simp at h ⊢; omega) trivial hy2, mergeT_nil_l]
      | cons x xs =>
        obtain ⟨hx1, hx2⟩ := hx
        simp only [List.length_cons] at h
        cases h1 : ltS x.1 y.1
        · cases h2 : ltS y.1 x.1
          · have e := ltS_tri h1 h2
            rw [mergeT_eq _ _ h1 h2]
            show putAll (putT y (x :: xs)) ys = _
            rw [putT, if_pos e, putAll_cons ys (bothT x y) xs (fun z hz => by show ltS x.1 z.1 = true; rw [e]; exact hya z hz), ih xs ys (some x.1) (some y.1) (by omega) hx2 hy2]
          · rw [mergeT_gt _ _ h1 h2]
            show putAll (putT y (x :: xs)) ys = _
            rw [putT, if_neg (fun e => ltS_ne h2 e.symm), if_pos h2, putAll_cons ys y (x :: xs) hya, ih (x :: xs) ys p (some y.1) (by simp only [List.length_cons]; omega) ⟨hx1, hx2⟩ hy2]
        · rw [mergeT_lt _ _ h1, putAll_cons (y :: ys) x xs (fun z hz => by
            rcases List.mem_cons.1 hz with rfl | hz
            · exact h1
            · exact ltS_trans h1 (hya z hz)), ih xs (y :: ys) (some x.1) none (by simp only [List.length_cons]; omega) hx2 ⟨rfl, hy2⟩]

/-- The reference's one pass with a mark. -/
def putStep (t : Tot) (s : Bool × List Tot) (x : Tot) : Bool × List Tot :=
  if x.1 = t.1 then (true, s.2 ++ [bothT x t]) else if !s.1 && ltS t.1 x.1 then (true, s.2 ++ [t] ++ [x]) else (s.1, s.2 ++ [x])
def putRun (t : Tot) (s : Bool × List Tot) (xs : List Tot) : Bool × List Tot := xs.foldl (putStep t) s
def putEnd (t : Tot) (s : Bool × List Tot) : List Tot := if s.1 then s.2 else s.2 ++ [t]
theorem putRun_succ {t : Tot} {xs : List Tot} {k : Nat} {x : Tot} (h : xs[k]? = some x) (s : Bool × List Tot) : putRun t s (xs.take (k + 1)) = putStep t (putRun t s (xs.take k)) x := by
  unfold putRun; rw [take_succ_of h, List.foldl_append]; rfl
theorem putRun_done (t : Tot) : ∀ (xs : List Tot) (out : List Tot), (∀ x ∈ xs, x.1 ≠ t.1) → putRun t (true, out) xs = (true, out ++ xs)
  | [], out, _ => by simp [putRun]
  | x :: xs, out, h => by
    show putRun t (putStep t (true, out) x) xs = _
    have e : putStep t (true, out) x = (true, out ++ [x]) := by unfold putStep; rw [if_neg (h x (by simp))]; simp
    rw [e, putRun_done t xs _ (fun y hy => h y (by simp [hy]))]; simp
theorem putRun_end (t : Tot) : ∀ (xs : List Tot) (out : List Tot) (p : Option ByteArray), AscT p xs → putEnd t (putRun t (false, out) xs) = out ++ putT t xs
  | [], out, _, _ => by simp [putRun, putEnd, putT]
  | x :: xs, out, p, ⟨_, h2⟩ => by
    have ha := ascT_above h2
    show putEnd t (putRun t (putStep t (false, out) x) xs) = _
    rw [putT]
    by_cases e : x.1 = t.1
    · have hs : putStep t (false, out) x = (true, out ++ [bothT x t]) := by unfold putStep; rw [if_pos e]
      rw [hs, putRun_done t xs _ (fun y hy => by have := ha y hy; rw [e] at this; exact fun e' => ltS_ne this e'.symm), if_pos e]
      simp [putEnd]
    · cases hl : ltS t.1 x.1
      · have hs : putStep t (false, out) x = (false, out ++ [x]) := by unfold putStep; rw [if_neg e]; simp [hl]
        rw [hs, putRun_end t xs _ _ h2, if_neg e]; simp
      · have hs : putStep t (false, out) x = (true, out ++ [t] ++ [x]) := by unfold putStep; rw [if_neg e]; simp [hl]
        rw [hs, putRun_done t xs _ (fun y hy => by have := ltS_trans hl (ha y hy); exact fun e' => ltS_ne this e'.symm), if_neg e]
        simp [putEnd]
end Go.Proofs.YtipkhmcnkldbbaaDoor
