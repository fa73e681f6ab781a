/-
  A map from names to slices of events that the call has made: what its block holds, told by a function from texts to slices; how an append at one name turns it. No condition.
-/
import Derived.Test.YtmnmaibhjhhakaaDoorKEntry
import Derived.Test.YtmnmaibhjhhakaaDoorEvents
import Derived.Maps.RangeWalk
import Derived.Maps.Views
namespace Go.Proofs.YtmnmaibhjhhakaaDoor
open Go.ChangeShapes Go.WideShapes Go.ChangeAt Go.RowKit Go.Maps

abbrev EvT := Int × ByteArray × Int
abbrev EnT := ByteArray × Int × ByteArray × Int

/-- A slice's value told as a datum: which one it is. -/
def encV : Value → Option (DataW Unit × List MemPlace)
  | .slice none 0 0 => some (.nil, [])
  | .slice (some ⟨g, 0, none⟩) n c => some (.slice [.lit (.int .i64 g), .lit (.int .i64 n), .lit (.int .i64 c)] [], [])
  | _ => none
theorem encV_nil : encV (.slice none 0 0) = some (.nil, []) := rfl
theorem encV_some (g n c : Nat) : encV (.slice (some ⟨g, 0, none⟩) n c) = some (.slice [.lit (.int .i64 g), .lit (.int .i64 n), .lit (.int .i64 c)] [], []) := rfl
theorem encV_form {v : Value} {y : DataW Unit × List MemPlace} (h : encV v = some y) : v = .slice none 0 0 ∨ ∃ g n c, v = .slice (some ⟨g, 0, none⟩) n c := by
  unfold encV at h
  split at h
  · exact .inl rfl
  · exact .inr ⟨_, _, _, rfl⟩
  · cases h
theorem encV_inj {v v' : Value} {y y' : DataW Unit × List MemPlace} (h : encV v = some y) (h' : encV v' = some y') (e : y.1 = y'.1) : v = v' := by
  rcases encV_form h with rfl | ⟨g, n, c, rfl⟩
  · rcases encV_form h' with rfl | ⟨g', n', c', rfl⟩
    · rfl
    · rw [encV_nil] at h; rw [encV_some] at h'
      cases h; cases h'; cases e
  · rcases encV_form h' with rfl | ⟨g', n', c', rfl⟩
    · rw [encV_some] at h; rw [encV_nil] at h'
      cases h; cases h'; cases e
    · rw [encV_some] at h h'
      cases h; cases h'
      simp only [DataW.slice.injEq, List.cons.injEq, DataW.lit.injEq, Lit.int.injEq, true_and, and_true] at e
      obtain ⟨h1, h2, h3⟩ := e
      have h1 : g = g' := by omega
      have h2 : n = n' := by omega
      have h3 : c = c' := by omega
      subst h1; subst h2; subst h3; rfl
theorem encV_ex {w : World} {B : Nat} {e : TypeId} {size n : Nat} {v : Value} {xs : List Value} (h : w.ownsRow B e size v n xs) : ∃ y, encV v = some y := by
  rcases h.2 with ⟨rfl, _⟩ | ⟨g, c, _, rfl, _⟩
  · exact ⟨_, encV_nil⟩
  · exact ⟨_, encV_some _ _ _⟩

/-- The events of a name. -/
def evOf (s : ByteArray) (xs : List EnT) : List EvT := (xs.filter (fun x => decide (x.1 = s))).map (·.2)
theorem evOf_snoc (s : ByteArray) (xs : List EnT) (x : EnT) : evOf s (xs ++ [x]) = evOf s xs ++ (if x.1 = s then [x.2] else []) := by
  unfold evOf
  rw [List.filter_append, List.map_append]
  congr 1
  by_cases h : x.1 = s <;> simp [h]
theorem evOf_length (s : ByteArray) (xs : List EnT) : (evOf s xs).length ≤ xs.length := by
  unfold evOf; rw [List.length_map]; exact List.length_filter_le _ _

def keyL (s : ByteArray) : Lit := .string s.data.toList
theorem keyL_inj {s t : ByteArray} (h : keyL s = keyL t) : s = t := by
  unfold keyL at h
  injection h with h
  exact WideShapes.bytes_inj h
theorem keyed : Keyed Tryd.prog 9 := string_keyed Tryd.underlying9
theorem keyL_of {s : ByteArray} (h : s.size ≤ maxLen) : keyOf Tryd.prog 9 (.string s) = some (keyL s) := Go.WideMaps.keyOf_string_mk Tryd.underlying9 h
/-- Block b is a map from names to slices: at each name the slice V s, which owns the events of that name; no two lie in one row. -/
structure Streams (w : World) (b : Nat) (xs : List EnT) (D : DataW Unit) (V : ByteArray → Value) : Prop where
  owns : w.ownsMap Tryd.prog 9 encV b xs.length D
  tells : ∀ s : ByteArray, ∃ ps, encV (V s) = some (D.atKey (keyL s) .nil, ps)
  rows : ∀ s : ByteArray, w.ownsRow (b + 1) 23 3 (V s) (evOf s xs).length ((evOf s xs).flatMap eventCells)
  apart : ∀ s t : ByteArray, s ≠ t → (V s).ownBlock = none ∨ (V s).ownBlock ≠ (V t).ownBlock
  keys : ∀ s : ByteArray, Maps.has D (keyL s) = true → evOf s xs ≠ []

theorem ownBlock_lt {w : World} {B : Nat} {e : TypeId} {size n : Nat} {v : Value} {xs : List Value} (h : w.ownsRow B e size v n xs) {g : Nat} (hg : v.ownBlock = some g) : B ≤ g ∧ g < w.heap.size := by
  rcases h.2 with ⟨rfl, _⟩ | ⟨g', c, cur, rfl, hb, hh, _⟩
  · cases hg
  · have : g' = g := by injection hg
    subst this
    exact ⟨hb, (Array.getElem?_eq_some_iff.1 hh).1⟩
theorem Streams.kept {w w' : World} {b : Nat} {xs : List EnT} {D : DataW Unit} {V : ByteArray → Value} (h : Streams w b xs D V) (k : Below w.heap.size w w') : Streams w' b xs D V := by
  have hg : w.grownBy w' none := ⟨k.os, k.tape, k.output, k.size, fun i hi _ => k.block i hi⟩
  exact ⟨h.owns.kept hg (by simp), h.tells, fun s => (h.rows s).kept hg (by
    cases e : (V s).ownBlock
    · exact .inl rfl
    · exact .inr (by simp)), h.apart, h.keys⟩
theorem Streams.made (w : World) : Streams (w.alloc (.map #[] 0)) w.heap.size [] (.map []) (fun _ => .slice none 0 0) :=
  ⟨World.ownsMap_made _ _ _ _, fun _ => ⟨[], rfl⟩, fun _ => World.ownsRow_nil _ _ _ _, fun _ _ _ => .inl rfl, fun _ h => by simp [Maps.has] at h⟩
end Go.Proofs.YtmnmaibhjhhakaaDoor
