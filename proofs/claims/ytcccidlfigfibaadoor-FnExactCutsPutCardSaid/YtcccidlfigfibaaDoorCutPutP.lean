/-
  Putting a cut among cuts, told plainly. No condition.
-/
import Derived.Test.YtcccidlfigfibaaDoorPIns
import Derived.Test.YtcccidlfigfibaaDoorCutFrom
import Derived.Test.YtcccidlfigfibaaDoorCuts
namespace Go.Proofs.YtcccidlfigfibaaDoor

def cutGe (s : ByteArray) (y : ByteArray × Int) : Bool := !(ltS y.1 s)
def cutEq (s : ByteArray) (y : ByteArray × Int) : Bool := decide (y.1 = s)
/-- The cut as it is put: never less than before. -/
def cutX (xs : List (ByteArray × Int)) (s : ByteArray) (m : Int) : ByteArray × Int := (s, max m (fromI xs s))
def cutPut (xs : List (ByteArray × Int)) (s : ByteArray) (m : Int) : List (ByteArray × Int) := insL (cutGe s) (cutEq s) (cutX xs s m) xs
def cutPutB (xs : List (ByteArray × Int)) (s : ByteArray) (m : Int) : Bool := cutsB xs && cutB (s, m) && cutsB (cutPut xs s m)
def cutPutL (xs : List (ByteArray × Int)) (s : ByteArray) (m : Int) : List (ByteArray × Int) := if cutPutB xs s m then cutPut xs s m else []

theorem cuts_above : ∀ {xs : List (ByteArray × Int)} {p : Option ByteArray} {q : ByteArray}, cutsFrom (some q) xs = true → p = some q → ∀ y ∈ xs, ltS q y.1 = true
  | [], _, _, _, _, y, hy => by simp at hy
  | x :: xs, p, q, h, _, y, hy => by
    unfold cutsFrom at h
    rw [sortedBy, Bool.and_eq_true, Bool.and_eq_true] at h
    obtain ⟨⟨_, h1⟩, h2⟩ := h
    rcases List.mem_cons.1 hy with rfl | hy
    · exact h1
    · exact ltS_trans h1 (cuts_above (p := some x.1) h2 rfl y hy)
theorem cuts_insOk (s : ByteArray) : ∀ {xs : List (ByteArray × Int)} {p : Option ByteArray}, cutsFrom p xs = true → InsOk (cutGe s) (cutEq s) xs
  | [], _, _ => trivial
  | x :: xs, p, h => by
    unfold cutsFrom at h
    rw [sortedBy, Bool.and_eq_true, Bool.and_eq_true] at h
    obtain ⟨⟨_, _⟩, h2⟩ := h
    refine ⟨fun e => ?_, fun e z hz => ?_, cuts_insOk s h2⟩
    · have : x.1 = s := of_decide_eq_true e
      unfold cutGe; rw [this, ltS_irrefl]; rfl
    · have hxz := cuts_above (p := some x.1) h2 rfl z hz
      unfold cutGe at e
      have e1 : ltS x.1 s = false := by simpa using e
      unfold cutEq
      apply decide_eq_false
      intro hzs
      rw [hzs] at hxz
      rw [hxz] at e1; cases e1

theorem insL_at {α : Type} (ge eq : α → Bool) (x : α) : ∀ (ys : List α) (k : Nat), k ≤ ys.length → (∀ j y, j < k → ys[j]? = some y → ge y = false) → (∀ y, ys[k]? = some y → ge y = true) → (∀ y ∈ ys, eq y = false) → insL ge eq x ys = ys.take k ++ x :: ys.drop k
  | [], 0, _, _, _, _ => rfl
  | [], k + 1, h, _, _, _ => by simp at h
  | y :: ys, 0, _, _, h2, h3 => by
    rw [insL, h2 y rfl, h3 y (by simp)]; rfl
  | y :: ys, k + 1, hk, h1, h2, h3 => by
    rw [insL, h1 0 y (by omega) rfl, insL_at ge eq x ys k (by simpa using hk) (fun j z hj hz => h1 (j + 1) z (by omega) hz) (fun z hz => h2 z hz) (fun z hz => h3 z (by simp [hz]))]
    simp
theorem insL_set {α : Type} (ge eq : α → Bool) (x : α) : ∀ (ys : List α) (i : Nat) (y : α), InsOk ge eq ys → ys[i]? = some y → eq y = true → insL ge eq x ys = ys.set i x
  | [], _, _, _, h, _ => by simp at h
  | z :: ys, 0, y, ⟨h1, _, _⟩, h, he => by
    obtain rfl : z = y := by simpa using h
    rw [insL, h1 he, he]; rfl
  | z :: ys, i + 1, y, ⟨h1, h2, h3⟩, h, he => by
    have hy : ys[i]? = some y := by simpa using h
    rw [insL]
    cases hg : ge z
    · rw [insL_set ge eq x ys i y h3 hy he]; simp
    · have := h2 hg y (List.mem_of_getElem? hy)
      rw [this] at he; cases he

theorem from_found : ∀ {xs : List (ByteArray × Int)} {i : Nat} {s : ByteArray} {v : Int}, xs[i]? = some (s, v) → (∀ j y, j < i → xs[j]? = some y → y.1 ≠ s) → fromI xs s = v
  | [], _, _, _, h, _ => by simp at h
  | x :: xs, 0, s, v, h, _ => by
    obtain rfl : x = (s, v) := by simpa using h
    simp [fromI]
  | x :: xs, i + 1, s, v, h, hn => by
    rw [fromI, if_neg (hn 0 x (by omega) rfl)]
    exact from_found (by simpa using h) (fun j y hj hy => hn (j + 1) y (by omega) (by simpa using hy))
theorem from_none : ∀ {xs : List (ByteArray × Int)} {s : ByteArray}, (∀ y ∈ xs, y.1 ≠ s) → fromI xs s = 0
  | [], _, _ => rfl
  | x :: xs, s, h => by
    rw [fromI, if_neg (h x (by simp))]
    exact from_none (fun y hy => h y (by simp [hy]))
theorem cuts_set {m : Int} (hm : inB m 1 24 = true) : ∀ {xs : List (ByteArray × Int)} {p : Option ByteArray} {i : Nat} {s : ByteArray} {v : Int}, cutsFrom p xs = true → xs[i]? = some (s, v) → cutsFrom p (xs.set i (s, m)) = true
  | [], _, _, _, _, _, h => by simp at h
  | x :: xs, p, 0, s, v, h, hi => by
    obtain rfl : x = (s, v) := by simpa using hi
    unfold cutsFrom at h ⊢
    rw [sortedBy, Bool.and_eq_true, Bool.and_eq_true] at h
    obtain ⟨⟨h1, h2⟩, h3⟩ := h
    rw [List.set_cons_zero, sortedBy, Bool.and_eq_true, Bool.and_eq_true]
    refine ⟨⟨?_, h2⟩, h3⟩
    unfold cutB at h1 ⊢
    rw [Bool.and_eq_true] at h1 ⊢
    exact ⟨h1.1, hm⟩
  | x :: xs, p, i + 1, s, v, h, hi => by
    unfold cutsFrom at h ⊢
    rw [sortedBy, Bool.and_eq_true, Bool.and_eq_true] at h
    obtain ⟨⟨h1, h2⟩, h3⟩ := h
    rw [List.set_cons_succ, sortedBy, Bool.and_eq_true, Bool.and_eq_true]
    exact ⟨⟨h1, h2⟩, cuts_set hm (p := some x.1) h3 (by simpa using hi)⟩
/-- The stream has a cut: it is put in its place. -/
theorem cutPut_found {xs : List (ByteArray × Int)} {i : Nat} {s : ByteArray} {v m : Int} (hc : cutsB xs = true) (hb : cutB (s, m) = true) (hi : xs[i]? = some (s, v)) (hn : ∀ j y, j < i → xs[j]? = some y → y.1 ≠ s) :
    fromI xs s = v ∧ cutPut xs s m = xs.set i (s, max v m) ∧ cutPutB xs s m = true := by
  have hf := from_found hi hn
  have hc0 := hc
  unfold cutsB at hc
  rw [Bool.and_eq_true] at hc
  obtain ⟨hl, hc⟩ := hc
  have hp : cutPut xs s m = xs.set i (s, max v m) := by
    unfold cutPut
    rw [insL_set _ _ _ _ i (s, v) (cuts_insOk s hc) hi (by unfold cutEq; simp)]
    unfold cutX
    rw [hf, Int.max_comm]
  refine ⟨hf, hp, ?_⟩
  have hv := from_small xs none s hc
  have hm : inB m 1 24 = true := by unfold cutB at hb; rw [Bool.and_eq_true] at hb; exact hb.2
  obtain ⟨m1, m2⟩ := inB_iff.1 hm
  have hx : inB (max v m) 1 24 = true := inB_iff.2 ⟨by omega, by omega⟩
  unfold cutPutB
  rw [hc0, hb, hp]
  have hs := cuts_set hx hc hi
  unfold cutsB
  rw [hs, List.length_set, hl]; rfl
/-- The stream has none: it is put between the lesser ones and the others. -/
theorem cutPut_none {xs : List (ByteArray × Int)} {k : Nat} {s : ByteArray} {m : Int} (hb : cutB (s, m) = true) (hn : ∀ y ∈ xs, y.1 ≠ s) (hk : k ≤ xs.length) (h1 : ∀ j y, j < k → xs[j]? = some y → ltS y.1 s = true) (h2 : ∀ y, xs[k]? = some y → ltS y.1 s = false) :
    cutPut xs s m = xs.take k ++ (s, m) :: xs.drop k := by
  have hm : inB m 1 24 = true := by unfold cutB at hb; rw [Bool.and_eq_true] at hb; exact hb.2
  obtain ⟨m1, m2⟩ := inB_iff.1 hm
  unfold cutPut cutX
  rw [from_none hn, show max m (0 : Int) = m by omega]
  exact insL_at _ _ _ xs k hk (fun j y hj hy => by unfold cutGe; rw [h1 j y hj hy]; rfl) (fun y hy => by unfold cutGe; rw [h2 y hy]; rfl) (fun y hy => by unfold cutEq; exact decide_eq_false (hn y hy))
theorem cutPut_len (xs : List (ByteArray × Int)) (s : ByteArray) (m : Int) : (cutPut xs s m).length ≤ xs.length + 1 := by
  unfold cutPut
  generalize cutX xs s m = x
  induction xs with
  | nil => simp [insL]
  | cons y ys ih =>
    rw [insL]
    split
    · split <;> simp
    · simp only [List.length_cons]; omega
theorem cutPutL_len (xs : List (ByteArray × Int)) (s : ByteArray) (m : Int) : (cutPutL xs s m).length ≤ 12 := by
  unfold cutPutL
  split
  · rename_i h
    unfold cutPutB at h
    rw [Bool.and_eq_true] at h
    have := h.2
    unfold cutsB at this
    rw [Bool.and_eq_true] at this
    exact of_decide_eq_true this.1
  · simp
end Go.Proofs.YtcccidlfigfibaaDoor
