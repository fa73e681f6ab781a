/-
  Putting an element into an ascending list, told plainly: the reference's one pass with a mark 'done', and what it leaves. No condition.
-/
import Derived.Test.YtcccidlfigfibaaDoorMade
namespace Go.Proofs.YtcccidlfigfibaaDoor

section
variable {α : Type} (ge eq : α → Bool) (x : α)
/-- One element of the pass. -/
def insStep (s : Bool × List α) (y : α) : Bool × List α := (s.1 || ge y, s.2 ++ (if !s.1 && ge y then [x] else []) ++ (if eq y then [] else [y]))
def insRun (s : Bool × List α) (ys : List α) : Bool × List α := ys.foldl (insStep ge eq x) s
def insEnd (s : Bool × List α) : List α := if s.1 then s.2 else s.2 ++ [x]
/-- The element in its place. -/
def insL : List α → List α
  | [] => [x]
  | y :: ys => if ge y then x :: (if eq y then ys else y :: ys) else y :: insL ys
/-- Behind an element from x on none is equal to x; what is equal is from x on. -/
def InsOk : List α → Prop
  | [] => True
  | y :: ys => (eq y = true → ge y = true) ∧ (ge y = true → ∀ z ∈ ys, eq z = false) ∧ InsOk ys
theorem insRun_done : ∀ (ys : List α) (out : List α), (∀ z ∈ ys, eq z = false) → insRun ge eq x (true, out) ys = (true, out ++ ys)
  | [], out, _ => by simp [insRun]
  | y :: ys, out, h => by
    have h1 : insStep ge eq x (true, out) y = (true, out ++ [y]) := by
      unfold insStep; simp [h y (by simp)]
    show insRun ge eq x (insStep ge eq x (true, out) y) ys = _
    rw [h1, insRun_done ys _ (fun z hz => h z (by simp [hz]))]; simp
theorem insRun_end : ∀ (ys : List α) (out : List α), InsOk ge eq ys → insEnd x (insRun ge eq x (false, out) ys) = out ++ insL ge eq x ys
  | [], out, _ => by simp [insRun, insEnd, insL]
  | y :: ys, out, ⟨h1, h2, h3⟩ => by
    show insEnd x (insRun ge eq x (insStep ge eq x (false, out) y) ys) = _
    rw [insL]
    cases hg : ge y
    · have he : eq y = false := by
        cases e : eq y
        · rfl
        · rw [h1 e] at hg; cases hg
      have hs : insStep ge eq x (false, out) y = (false, out ++ [y]) := by unfold insStep; simp [hg, he]
      rw [hs, insRun_end ys _ h3]; simp
    · have hs : insStep ge eq x (false, out) y = (true, out ++ [x] ++ (if eq y then [] else [y])) := by unfold insStep; simp [hg]
      rw [hs, insRun_done ge eq x ys _ (h2 hg)]
      unfold insEnd
      cases eq y <;> simp
theorem insRun_succ {ys : List α} {k : Nat} {y : α} (h : ys[k]? = some y) (s : Bool × List α) : insRun ge eq x s (ys.take (k + 1)) = insStep ge eq x (insRun ge eq x s (ys.take k)) y := by
  unfold insRun; rw [take_succ_of h, List.foldl_append]; rfl
end
end Go.Proofs.YtcccidlfigfibaaDoor
