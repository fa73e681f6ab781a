/-
  Locks and who holds each of the eight stripes, told plainly. No condition.
-/
import Derived.Test.YtfbnpnajpkhkdaaAsc
import Derived.Test.YtfbnpnajpkhkdaaLocks
namespace Go.Proofs.Ytfbnpnajpkhkdaa

theorem snoc_ind {α : Type} {P : List α → Prop} (h0 : P []) (h1 : ∀ xs x, P xs → P (xs ++ [x])) : ∀ xs, P xs := by
  have h : ∀ ys : List α, P ys.reverse := by
    intro ys
    induction ys with
    | nil => exact h0
    | cons y ys ih => rw [List.reverse_cons]; exact h1 _ _ ih
  intro xs
  have := h xs.reverse
  rwa [List.reverse_reverse] at this

/-- Who holds a stripe behind some locks, a before them. -/
def holdFrom (a : Int) (xs : List (Int × Int)) (s : Int) : Int := xs.foldl (fun a x => if x.1 = s then x.2 else a) a
theorem holdFrom_cons (a : Int) (x : Int × Int) (xs : List (Int × Int)) (s : Int) : holdFrom a (x :: xs) s = holdFrom (if x.1 = s then x.2 else a) xs s := rfl
theorem holdFrom_snoc (a : Int) (x : Int × Int) (xs : List (Int × Int)) (s : Int) : holdFrom a (xs ++ [x]) s = if x.1 = s then x.2 else holdFrom a xs s := by
  unfold holdFrom; rw [List.foldl_append]; rfl
theorem holdFrom_none : ∀ (xs : List (Int × Int)) (a s : Int), (∀ x ∈ xs, x.1 ≠ s) → holdFrom a xs s = a
  | [], _, _, _ => rfl
  | x :: xs, a, s, h => by
    rw [holdFrom_cons, if_neg (h x (by simp))]
    exact holdFrom_none xs a s (fun y hy => h y (by simp [hy]))
/-- The holders of the stripes from s on. -/
def holdsOn (xs : List (Int × Int)) (s n : Nat) : List Int := (List.range' s n).map (fun (i : Nat) => holdFrom 0 xs (i : Int))
def holdsL (xs : List (Int × Int)) : List Int := holdsOn xs 0 8
theorem holdsL_length (xs : List (Int × Int)) : (holdsL xs).length = 8 := by simp [holdsL, holdsOn]
theorem holdsL_get (xs : List (Int × Int)) (k : Nat) (hk : k < 8) : (holdsL xs)[k]? = some (holdFrom 0 xs (k : Int)) := by
  unfold holdsL holdsOn
  rw [List.getElem?_map, List.getElem?_range' hk]; simp
/-- The locks of the stripes from s on that somebody holds. -/
def locksArr (s : Nat) : List Int → List (Int × Int)
  | [] => []
  | h :: hs => if h = 0 then locksArr (s + 1) hs else ((s : Int), h) :: locksArr (s + 1) hs
theorem locksArr_snoc : ∀ (hs : List Int) (s : Nat) (h : Int), locksArr s (hs ++ [h]) = locksArr s hs ++ (if h = 0 then [] else [(((s + hs.length : Nat) : Int), h)])
  | [], s, h => by simp only [List.nil_append, locksArr, List.length_nil, Nat.add_zero]
  | g :: hs, s, h => by
    rw [List.cons_append, locksArr, locksArr, locksArr_snoc hs (s + 1) h]
    have e : s + 1 + hs.length = s + (g :: hs).length := by simp; omega
    rw [e]
    by_cases c : g = 0 <;> simp [c]
theorem locksFrom_cons {L : Int} {x : Int × Int} {xs : List (Int × Int)} (h : locksFrom L (x :: xs) = true) : L < x.1 ∧ x.1 ≤ 7 ∧ 1 ≤ x.2 ∧ x.2 ≤ 99 ∧ locksFrom x.1 xs = true := by
  unfold locksFrom at h
  simp only [Bool.and_eq_true, decide_eq_true_eq] at h
  have := inB_iff.1 h.1.2
  exact ⟨h.1.1.1, h.1.1.2, this.1, this.2, h.2⟩
theorem locksFrom_mk {L : Int} {x : Int × Int} {xs : List (Int × Int)} (h1 : L < x.1) (h2 : x.1 ≤ 7) (h3 : 1 ≤ x.2) (h4 : x.2 ≤ 99) (h5 : locksFrom x.1 xs = true) : locksFrom L (x :: xs) = true := by
  unfold locksFrom
  simp only [Bool.and_eq_true, decide_eq_true_eq]
  exact ⟨⟨⟨h1, h2⟩, inB_t ⟨h3, h4⟩⟩, h5⟩
theorem locks_above : ∀ {xs : List (Int × Int)} {L : Int}, locksFrom L xs = true → ∀ x ∈ xs, L < x.1 ∧ x.1 ≤ 7 ∧ 1 ≤ x.2 ∧ x.2 ≤ 99
  | [], _, _, x, hx => by simp at hx
  | y :: xs, L, h, x, hx => by
    obtain ⟨h1, h2, h3, h4, h5⟩ := locksFrom_cons h
    rcases List.mem_cons.1 hx with rfl | hx
    · exact ⟨h1, h2, h3, h4⟩
    · have := locks_above h5 x hx; exact ⟨by omega, this.2⟩
theorem locks_mono {xs : List (Int × Int)} {L L' : Int} (h : locksFrom L xs = true) (hL : L' ≤ L) : locksFrom L' xs = true := by
  cases xs with
  | nil => rfl
  | cons x xs => obtain ⟨h1, h2, h3, h4, h5⟩ := locksFrom_cons h; exact locksFrom_mk (by omega) h2 h3 h4 h5
theorem holdFrom_hit {x : Int × Int} {xs : List (Int × Int)} (h : locksFrom x.1 xs = true) (a : Int) : holdFrom a (x :: xs) x.1 = x.2 := by
  rw [holdFrom_cons, if_pos rfl]
  exact holdFrom_none _ _ _ (fun y hy => by have := locks_above h y hy; omega)
/-- Valid locks are those of the holders that they give. -/
theorem locksArr_holds : ∀ (n s : Nat) (xs : List (Int × Int)), s + n = 8 → locksFrom ((s : Int) - 1) xs = true → locksArr s (holdsOn xs s n) = xs
  | 0, s, xs, hs, h => by
    cases xs with
    | nil => rfl
    | cons x xs => obtain ⟨h1, h2, _⟩ := locksFrom_cons h; omega
  | n + 1, s, xs, hs, h => by
    have er : holdsOn xs s (n + 1) = holdFrom 0 xs (s : Int) :: holdsOn xs (s + 1) n := rfl
    rw [er, locksArr]
    cases xs with
    | nil =>
      rw [if_pos (show holdFrom 0 [] (s : Int) = 0 from rfl)]
      exact locksArr_holds n (s + 1) [] (by omega) rfl
    | cons x xs =>
      obtain ⟨h1, h2, h3, h4, h5⟩ := locksFrom_cons h
      by_cases c : x.1 = (s : Int)
      · have e0 : holdFrom 0 (x :: xs) (s : Int) = x.2 := by rw [← c]; exact holdFrom_hit h5 0
        rw [e0, if_neg (by omega)]
        have e1 : holdsOn (x :: xs) (s + 1) n = holdsOn xs (s + 1) n := by
          unfold holdsOn
          refine List.map_congr_left (fun i hi => ?_)
          rw [List.mem_range'_1] at hi
          rw [holdFrom_cons, if_neg (by omega)]
        rw [e1, locksArr_holds n (s + 1) xs (by omega) (locks_mono h5 (by omega)), ← c]
      · have e0 : holdFrom 0 (x :: xs) (s : Int) = 0 := by
          refine holdFrom_none _ _ _ (fun y hy => ?_)
          rcases List.mem_cons.1 hy with rfl | hy
          · exact c
          · have := locks_above h5 y hy; omega
        rw [e0, if_pos rfl]
        exact locksArr_holds n (s + 1) (x :: xs) (by omega) (locksFrom_mk (by omega) h2 h3 h4 h5)
theorem locks_of_holds {xs : List (Int × Int)} (h : locksFrom (-1) xs = true) : locksArr 0 (holdsL xs) = xs := locksArr_holds 8 0 xs rfl h

/-- Locks without those of an owner. -/
def without (o : Int) (xs : List (Int × Int)) : List (Int × Int) := xs.filter (fun x => decide (x.2 ≠ o))
theorem without_valid (o : Int) : ∀ {xs : List (Int × Int)} {L : Int}, locksFrom L xs = true → locksFrom L (without o xs) = true
  | [], _, _ => rfl
  | x :: xs, L, h => by
    obtain ⟨h1, h2, h3, h4, h5⟩ := locksFrom_cons h
    unfold without
    rw [List.filter_cons]
    split
    · exact locksFrom_mk h1 h2 h3 h4 (without_valid o h5)
    · exact locks_mono (without_valid o h5) (by omega)
theorem hold_without (o : Int) : ∀ {xs : List (Int × Int)} {L : Int}, locksFrom L xs = true → ∀ s, holdFrom 0 (without o xs) s = if holdFrom 0 xs s = o then 0 else holdFrom 0 xs s
  | [], _, _, s => by show (0 : Int) = if (0 : Int) = o then 0 else 0; simp
  | x :: xs, L, h, s => by
    obtain ⟨h1, h2, h3, h4, h5⟩ := locksFrom_cons h
    have ih := hold_without o h5 s
    by_cases c : x.1 = s
    · subst c
      rw [holdFrom_hit h5]
      unfold without
      rw [List.filter_cons]
      by_cases d : x.2 = o
      · rw [if_neg (by simp [d]), if_pos d]
        exact holdFrom_none _ _ _ (fun y hy => by
          have := locks_above h5 y ((List.mem_filter.1 hy).1); omega)
      · rw [if_pos (by simp [d]), if_neg d]
        exact holdFrom_hit (without_valid o h5) 0
    · have e : holdFrom 0 (x :: xs) s = holdFrom 0 xs s := by rw [holdFrom_cons, if_neg c]
      rw [e, ← ih]
      unfold without
      rw [List.filter_cons]
      split
      · rw [holdFrom_cons, if_neg c]
      · rfl
/-- LocksGive of valid locks: the holders, the owner's places cleared. -/
theorem give_holds {xs : List (Int × Int)} (o : Int) (h : locksFrom (-1) xs = true) : locksArr 0 ((holdsL xs).map (fun a => if a = o then 0 else a)) = without o xs := by
  have e : (holdsL xs).map (fun a => if a = o then 0 else a) = holdsL (without o xs) := by
    unfold holdsL holdsOn
    rw [List.map_map]
    exact List.map_congr_left (fun i _ => (hold_without o h (i : Int)).symm)
  rw [e]
  exact locks_of_holds (without_valid o h)

/-- Ascending stripes of which nobody but an owner holds one. -/
def freeB (xs : List (Int × Int)) (o : Int) (ss : List Int) : Bool := ss.all (fun s => decide (holdFrom 0 xs s = 0 ∨ holdFrom 0 xs s = o))
/-- The reference's way: no lock of another owner on one of the stripes. -/
def freeP (xs : List (Int × Int)) (o : Int) (ss : List Int) : Bool := xs.all (fun x => ss.all (fun s => decide (¬ (x.1 = s ∧ x.2 ≠ o))))
theorem hold_mem : ∀ {xs : List (Int × Int)} {L : Int}, locksFrom L xs = true → ∀ x ∈ xs, holdFrom 0 xs x.1 = x.2
  | [], _, _, x, hx => by simp at hx
  | y :: xs, L, h, x, hx => by
    obtain ⟨h1, h2, h3, h4, h5⟩ := locksFrom_cons h
    rcases List.mem_cons.1 hx with rfl | hx
    · exact holdFrom_hit h5 0
    · have := locks_above h5 x hx
      rw [holdFrom_cons, if_neg (by omega)]
      exact hold_mem h5 x hx
theorem hold_zero {s : Int} : ∀ (xs : List (Int × Int)), holdFrom 0 xs s ≠ 0 → ∃ x ∈ xs, x.1 = s ∧ holdFrom 0 xs s = x.2 := by
  refine snoc_ind (fun h => absurd rfl h) (fun xs x ih h => ?_)
  · skip
    rw [holdFrom_snoc] at h ⊢
    by_cases c : x.1 = s
    · exact ⟨x, by simp, c, by rw [if_pos c]⟩
    · rw [if_neg c] at h ⊢
      obtain ⟨y, hy, h1, h2⟩ := ih h
      exact ⟨y, by simp [hy], h1, h2⟩
theorem free_same {xs : List (Int × Int)} (o : Int) (ss : List Int) (h : locksFrom (-1) xs = true) : freeB xs o ss = freeP xs o ss := by
  unfold freeB freeP
  rw [Bool.eq_iff_iff]
  simp only [List.all_eq_true, decide_eq_true_eq]
  constructor
  · rintro hb x hx s hs ⟨h1, h2⟩
    have e := hold_mem h x hx
    have := hb s hs
    rw [h1] at e
    have := locks_above h x hx
    omega
  · intro hp s hs
    by_cases c : holdFrom 0 xs s = 0
    · exact .inl c
    · obtain ⟨x, hx, h1, h2⟩ := hold_zero xs c
      have := hp x hx s hs
      rw [h2]
      right
      by_cases d : x.2 = o
      · exact d
      · exact absurd ⟨h1, d⟩ this

/-- Locks with another one. -/
def withLock (x : Int × Int) : List (Int × Int) → List (Int × Int)
  | [] => [x]
  | y :: ys => if y.1 < x.1 then y :: withLock x ys else if y.1 = x.1 then x :: ys else x :: y :: ys
theorem with_mem {x z : Int × Int} : ∀ {ys : List (Int × Int)}, z ∈ withLock x ys → z = x ∨ z ∈ ys
  | [], h => by rw [withLock] at h; exact .inl (by simpa using h)
  | y :: ys, h => by
    rw [withLock] at h
    split at h
    · rcases List.mem_cons.1 h with rfl | h
      · exact .inr (by simp)
      · rcases with_mem h with h | h
        · exact .inl h
        · exact .inr (by simp [h])
    · split at h
      · rcases List.mem_cons.1 h with rfl | h
        · exact .inl rfl
        · exact .inr (by simp [h])
      · rcases List.mem_cons.1 h with rfl | h
        · exact .inl rfl
        · exact .inr h
theorem with_valid (x : Int × Int) (hx : x.1 ≤ 7) (ho : 1 ≤ x.2 ∧ x.2 ≤ 99) : ∀ {ys : List (Int × Int)} {L : Int}, L < x.1 → locksFrom L ys = true → locksFrom L (withLock x ys) = true
  | [], _, hL, _ => locksFrom_mk hL hx ho.1 ho.2 rfl
  | y :: ys, L, hL, h => by
    obtain ⟨h1, h2, h3, h4, h5⟩ := locksFrom_cons h
    rw [withLock]
    split
    · exact locksFrom_mk h1 h2 h3 h4 (with_valid x hx ho (by omega) h5)
    · split
      · rename_i c
        exact locksFrom_mk hL hx ho.1 ho.2 (c ▸ h5)
      · exact locksFrom_mk hL hx ho.1 ho.2 (locksFrom_mk (by omega) h2 h3 h4 h5)
theorem hold_with (x : Int × Int) : ∀ {ys : List (Int × Int)} {L : Int}, locksFrom L ys = true → ∀ s, holdFrom 0 (withLock x ys) s = if s = x.1 then x.2 else holdFrom 0 ys s
  | [], _, _, s => by
    rw [withLock, holdFrom_cons]
    show (if x.1 = s then x.2 else (0 : Int)) = if s = x.1 then x.2 else 0
    by_cases c : s = x.1
    · rw [if_pos c, if_pos c.symm]
    · rw [if_neg c, if_neg (fun h => c h.symm)]
  | y :: ys, L, h, s => by
    obtain ⟨h1, h2, h3, h4, h5⟩ := locksFrom_cons h
    have above : ∀ (a : Int), s ≤ y.1 → holdFrom a ys s = a := fun a hs => holdFrom_none _ _ _ (fun z hz => by have := locks_above h5 z hz; omega)
    rw [withLock]
    split
    · rename_i c
      by_cases d : y.1 = s
      · rw [if_neg (by omega), ← d, holdFrom_hit h5, holdFrom_cons, if_pos rfl]
        refine holdFrom_none _ _ _ (fun z hz => ?_)
        rcases with_mem hz with rfl | hz'
        · omega
        · have := locks_above h5 z hz'; omega
      · rw [holdFrom_cons, if_neg d, hold_with x h5 s, holdFrom_cons, if_neg d]
    · split
      · rename_i c d
        rw [holdFrom_cons, holdFrom_cons]
        by_cases e : s = x.1
        · rw [if_pos e, if_pos e.symm]; exact above _ (by omega)
        · rw [if_neg e, if_neg (fun h => e h.symm), if_neg (fun h => e (by omega))]
      · rename_i c d
        rw [holdFrom_cons]
        by_cases e : s = x.1
        · rw [if_pos e, if_pos e.symm, holdFrom_cons, if_neg (by omega)]; exact above _ (by omega)
        · rw [if_neg e, if_neg (fun h => e h.symm)]
theorem take_holds {xs : List (Int × Int)} (o : Int) (ho : 1 ≤ o ∧ o ≤ 99) (h : locksFrom (-1) xs = true) : ∀ (ss : List Int), (∀ s ∈ ss, 0 ≤ s ∧ s ≤ 7) →
    locksFrom (-1) (ss.foldl (fun l s => withLock (s, o) l) xs) = true ∧ holdsL (ss.foldl (fun l s => withLock (s, o) l) xs) = ss.foldl (fun hs s => hs.set s.toNat o) (holdsL xs) := by
  refine snoc_ind (fun _ => ⟨h, rfl⟩) (fun ss s ih hs => ?_)
  · skip
    obtain ⟨i1, i2⟩ := ih (fun t ht => hs t (by simp [ht]))
    have hs0 := hs s (by simp)
    simp only [List.foldl_append, List.foldl_cons, List.foldl_nil]
    refine ⟨with_valid _ hs0.2 ho (by show -1 < s; omega) i1, ?_⟩
    rw [← i2]
    refine List.ext_getElem? (fun k => ?_)
    by_cases hk : k < 8
    · rw [holdsL_get _ k hk, List.getElem?_set, hold_with _ i1]
      by_cases c : s.toNat = k
      · rw [if_pos c, if_pos (show (k : Int) = s by omega), if_pos (by rw [holdsL_length]; omega)]
      · rw [if_neg c, if_neg (show ¬ (k : Int) = s by omega), holdsL_get _ k hk]
    · rw [List.getElem?_eq_none (by rw [holdsL_length]; omega), List.getElem?_eq_none (by rw [List.length_set, holdsL_length]; omega)]
end Go.Proofs.Ytfbnpnajpkhkdaa
