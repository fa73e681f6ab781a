/-
  What a subscriber gets, and what is left for it, told plainly. No condition.
-/
import Derived.Test.YtcccidlfigfibaaDoorBunS
import Derived.Test.YtcccidlfigfibaaDoorSub
namespace Go.Proofs.YtcccidlfigfibaaDoor

def fitsB (c : ByteArray) (x : EnT) : Bool := c.toList.isEmpty || decide (catS x.1 = c)
/-- How many are left. -/
def subLeft (xs : List EnT) (c : ByteArray) (at' : Int) : Int := if storeB xs && subB c at' then ((xs.drop at'.toNat).countP (fitsB c) : Nat) else -1
theorem left_no {xs : List EnT} {c : ByteArray} {p : Int} (h : (storeB xs && subB c p) = false) : subLeft xs c p = -1 := by unfold subLeft; rw [h]; rfl
theorem left_yes {xs : List EnT} {c : ByteArray} {p : Int} (h1 : storeB xs = true) (h2 : subB c p = true) : subLeft xs c p = ((xs.drop p.toNat).countP (fitsB c) : Nat) := by unfold subLeft; rw [h1, h2]; rfl

/-- One entry taken, or passed by, or none as there are enough. -/
def subStep (xs : List EnT) (c : ByteArray) (many : Int) (st : List EnT × Int) (j : Nat) : List EnT × Int :=
  if (st.1.length : Int) = many then st else (if ((xs[j]?).map (fitsB c)).getD false then st.1 ++ (xs[j]?).toList else st.1, (j : Int) + 1)
def subRun (xs : List EnT) (c : ByteArray) (many : Int) (st : List EnT × Int) (js : List Nat) : List EnT × Int := js.foldl (subStep xs c many) st
theorem subStep_full {xs : List EnT} {c : ByteArray} {many : Int} {st : List EnT × Int} {j : Nat} (h : (st.1.length : Int) = many) : subStep xs c many st j = st := by unfold subStep; rw [if_pos h]
theorem subStep_hit {xs : List EnT} {c : ByteArray} {many : Int} {st : List EnT × Int} {j : Nat} {x : EnT} (h : (st.1.length : Int) ≠ many) (hx : xs[j]? = some x) (hf : fitsB c x = true) : subStep xs c many st j = (st.1 ++ [x], (j : Int) + 1) := by
  unfold subStep; rw [if_neg h, hx]; simp [hf]
theorem subStep_miss {xs : List EnT} {c : ByteArray} {many : Int} {st : List EnT × Int} {j : Nat} {x : EnT} (h : (st.1.length : Int) ≠ many) (hx : xs[j]? = some x) (hf : fitsB c x = false) : subStep xs c many st j = (st.1, (j : Int) + 1) := by
  unfold subStep; rw [if_neg h, hx]; simp [hf]
theorem subRun_snoc (xs : List EnT) (c : ByteArray) (many : Int) (st : List EnT × Int) (js : List Nat) (j : Nat) : subRun xs c many st (js ++ [j]) = subStep xs c many (subRun xs c many st js) j := by
  unfold subRun; rw [List.foldl_append]; rfl
theorem subRun_full {xs : List EnT} {c : ByteArray} {many : Int} {st : List EnT × Int} (h : (st.1.length : Int) = many) : ∀ js, subRun xs c many st js = st
  | [] => rfl
  | j :: js => by
    show subRun xs c many (subStep xs c many st j) js = st
    rw [subStep_full h]; exact subRun_full h js
theorem subRun_append (xs : List EnT) (c : ByteArray) (many : Int) (st : List EnT × Int) (js ks : List Nat) : subRun xs c many st (js ++ ks) = subRun xs c many (subRun xs c many st js) ks := by
  unfold subRun; rw [List.foldl_append]
theorem subStep_len (xs : List EnT) (c : ByteArray) (many : Int) (st : List EnT × Int) (j : Nat) : (subStep xs c many st j).1.length ≤ st.1.length + 1 := by
  unfold subStep
  split
  · omega
  · split
    · cases xs[j]? <;> simp
    · simp
theorem subRun_len (xs : List EnT) (c : ByteArray) (many : Int) : ∀ (js : List Nat) (st : List EnT × Int), (subRun xs c many st js).1.length ≤ st.1.length + js.length
  | [], st => by simp [subRun]
  | j :: js, st => by
    have h1 := subStep_len xs c many st j
    have h2 := subRun_len xs c many js (subStep xs c many st j)
    show (subRun xs c many (subStep xs c many st j) js).1.length ≤ _
    simp only [List.length_cons]; omega
/-- Where a subscriber stands behind the entries from p to k. -/
def subTo (xs : List EnT) (c : ByteArray) (many : Int) (p k : Nat) : List EnT × Int := subRun xs c many ([], (p : Int)) (List.range' p (k - p))
theorem subTo_start (xs : List EnT) (c : ByteArray) (many : Int) (p : Nat) : subTo xs c many p p = ([], (p : Int)) := by unfold subTo; rw [Nat.sub_self]; rfl
theorem subTo_succ (xs : List EnT) (c : ByteArray) (many : Int) {p k : Nat} (h : p ≤ k) : subTo xs c many p (k + 1) = subStep xs c many (subTo xs c many p k) k := by
  unfold subTo
  rw [show k + 1 - p = (k - p) + 1 by omega, List.range'_concat, subRun_snoc, show p + 1 * (k - p) = k by omega]
theorem subTo_full {xs : List EnT} {c : ByteArray} {many : Int} {p k n : Nat} (h : ((subTo xs c many p k).1.length : Int) = many) (hpk : p ≤ k) (hkn : k ≤ n) : subTo xs c many p n = subTo xs c many p k := by
  have e : List.range' p (n - p) = List.range' p (k - p) ++ List.range' k (n - k) := by
    have := @List.range'_append p (k - p) (n - k) 1
    rw [show p + 1 * (k - p) = k by omega, show (k - p) + (n - k) = n - p by omega] at this
    exact this.symm
  unfold subTo at h ⊢
  rw [e, subRun_append, subRun_full h]
theorem subTo_len (xs : List EnT) (c : ByteArray) (many : Int) (p k : Nat) : (subTo xs c many p k).1.length ≤ k - p := by
  have := subRun_len xs c many (List.range' p (k - p)) ([], (p : Int))
  simpa [subTo] using this
def subTakeB (xs : List EnT) (c : ByteArray) (p many : Int) : Bool := storeB xs && subB c p && inB many 0 99
def subTook (xs : List EnT) (c : ByteArray) (p many : Int) : List EnT := if subTakeB xs c p many then (subTo xs c many p.toNat xs.length).1 else []
def subCat (xs : List EnT) (c : ByteArray) (p many : Int) : ByteArray := if subTakeB xs c p many then c else ⟨#[]⟩
def subAt (xs : List EnT) (c : ByteArray) (p many : Int) : Int := if subTakeB xs c p many then (subTo xs c many p.toNat xs.length).2 else 0
theorem subTook_len (xs : List EnT) (c : ByteArray) (p many : Int) : (subTook xs c p many).length ≤ xs.length := by
  unfold subTook
  split
  · have := subTo_len xs c many p.toNat xs.length; omega
  · simp
end Go.Proofs.YtcccidlfigfibaaDoor
