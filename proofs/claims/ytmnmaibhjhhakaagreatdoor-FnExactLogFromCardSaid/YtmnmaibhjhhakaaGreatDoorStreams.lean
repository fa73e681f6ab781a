/-
  A map from names to slices of events that the call has made: what its block holds, told by a function from texts to slices; how an append at one name turns it. No condition.
-/
import Derived.Test.YtmnmaibhjhhakaaGreatDoorKEntry
import Derived.Test.YtmnmaibhjhhakaaGreatDoorEvents
import Derived.Maps.RangeWalk
import Derived.Maps.Views
namespace Go.Proofs.YtmnmaibhjhhakaaGreatDoor
open Go.ChangeShapes Go.WideShapes Go.ChangeAt Go.RowKit Go.Maps

abbrev EvT := Int × ByteArray × Int
abbrev EnT := ByteArray × Int × ByteArray × Int

/-- A slice's value told as a datum: which one it is. -/
def encV : Value → Option (DataW Unit × List MemPlace)
  | .slice none 0 0 => some (.nil, [])
  | .slice (some ⟨g, 0, none⟩) n c => some (.slice [.lit (.int .i64 g), .lit (.int .i64 n), .lit (.int .i64 c)] [], [])
  | _ => none
theorem encV_nil : encV (.slice none 0 0) = some (.nil, []) := rfl
theorem encV_some (g n c : Nat) : encV (.slice (some ⟨g, 0, none⟩) n c) = some (.slice [.lit (.int .i64 g), .lit (.int .i64 n), .lit (.int .i64 c)] [], []) := rfl
theorem encV_form {v : Value} {y : DataW Unit × List MemPlace} (h : encV v = some y) : v = .slice none 0 0 ∨ ∃ g n c, v = .slice (some ⟨g, 0, none⟩) n c := by
  unfold encV at h
  split at h
  · exact .inl rfl
  · exact .inr ⟨_, _, _, rfl⟩
  · cases h
theorem encV_inj {v v' : Value} {y y' : DataW Unit × List MemPlace} (h : encV v = some y) (h' : encV v' = some y') (e : y.1 = y'.1) : v = v' := by
  rcases encV_form h with rfl | ⟨g, n, c, rfl⟩
  · rcases encV_form h' with rfl | ⟨g', n', c', rfl⟩
    · rfl
    · rw [encV_nil] at h; rw [encV_some] at h'
      cases h; cases h'; cases e
  · rcases encV_form h' with rfl | ⟨g', n', c', rfl⟩
    · rw [encV_some] at h; rw [encV_nil] at h'
      cases h; cases h'; cases e
    · rw [encV_some] at h h'
      cases h; cases h'
      simp only [DataW.slice.injEq, List.cons.injEq, DataW.lit.injEq, Lit.int.injEq, true_and, and_true] at e
      obtain ⟨h1, h2, h3⟩ := e
      have h1 : g = g' := by omega
      have h2 : n = n' := by omega
      have h3 : c = c' := by omega
      subst h1; subst h2; subst h3; rfl
theorem encV_ex {w : World} {B : Nat} {e : TypeId} {size n : Nat} {v : Value} {xs : List Value} (h : w.ownsRow B e size v n xs) : ∃ y, encV v = some y := by
  rcases h.2 with ⟨rfl, _⟩ | ⟨g, c, _, rfl, _⟩
  · exact ⟨_, encV_nil⟩
  · exact ⟨_, encV_some _ _ _⟩

/-- The events of a name. -/
def evOf (s : ByteArray) (xs : List EnT) : List EvT := (xs.filter (fun x => decide (x.1 = s))).map (·.2)
theorem evOf_snoc (s : ByteArray) (xs : List EnT) (x : EnT) : evOf s (xs ++ [x]) = evOf s xs ++ (if x.1 = s then [x.2] else []) := by
  unfold evOf
  rw [List.filter_append, List.map_append]
  congr 1
  by_cases h : x.1 = s <;> simp [h]
theorem evOf_length (s : ByteArray) (xs : List EnT) : (evOf s xs).length ≤ xs.length := by
  unfold evOf; rw [List.length_map]; exact List.length_filter_le _ _

def keyL (s : ByteArray) : Lit := .string s.data.toList
theorem keyL_inj {s t : ByteArray} (h : keyL s = keyL t) : s = t := by
  unfold keyL at h
  injection h with h
  exact WideShapes.bytes_inj h
theorem keyed : Keyed Tryz.prog 9 := string_keyed Tryz.underlying9
theorem keyL_of {s : ByteArray} (h : s.size ≤ maxLen) : keyOf Tryz.prog 9 (.string s) = some (keyL s) := Go.WideMaps.keyOf_string_mk Tryz.underlying9 h
theorem zeroS (w : World) : (zeroValue 43).run Tryz.prog w = .ok (.slice none 0 0) w := by kernel_rfl

/-- Block b is a map from names to slices: at each name the slice V s, which owns the events of that name; no two lie in one row. -/
structure Streams (w : World) (b : Nat) (xs : List EnT) (D : DataW Unit) (V : ByteArray → Value) : Prop where
  owns : w.ownsMap Tryz.prog 9 encV b xs.length D
  tells : ∀ s : ByteArray, ∃ ps, encV (V s) = some (D.atKey (keyL s) .nil, ps)
  rows : ∀ s : ByteArray, w.ownsRow (b + 1) 30 3 (V s) (evOf s xs).length ((evOf s xs).flatMap eventCells)
  apart : ∀ s t : ByteArray, s ≠ t → (V s).ownBlock = none ∨ (V s).ownBlock ≠ (V t).ownBlock
  keys : ∀ s : ByteArray, Maps.has D (keyL s) = true → evOf s xs ≠ []

theorem ownBlock_lt {w : World} {B : Nat} {e : TypeId} {size n : Nat} {v : Value} {xs : List Value} (h : w.ownsRow B e size v n xs) {g : Nat} (hg : v.ownBlock = some g) : B ≤ g ∧ g < w.heap.size := by
  rcases h.2 with ⟨rfl, _⟩ | ⟨g', c, cur, rfl, hb, hh, _⟩
  · cases hg
  · have : g' = g := by injection hg
    subst this
    exact ⟨hb, (Array.getElem?_eq_some_iff.1 hh).1⟩
theorem Streams.kept {w w' : World} {b : Nat} {xs : List EnT} {D : DataW Unit} {V : ByteArray → Value} (h : Streams w b xs D V) (k : Below w.heap.size w w') : Streams w' b xs D V := by
  have hg : w.grownBy w' none := ⟨k.os, k.tape, k.output, k.size, fun i hi _ => k.block i hi⟩
  exact ⟨h.owns.kept hg (by simp), h.tells, fun s => (h.rows s).kept hg (by
    cases e : (V s).ownBlock
    · exact .inl rfl
    · exact .inr (by simp)), h.apart, h.keys⟩
theorem Streams.made (w : World) : Streams (w.alloc (.map #[] 0)) w.heap.size [] (.map []) (fun _ => .slice none 0 0) :=
  ⟨World.ownsMap_made _ _ _ _, fun _ => ⟨[], rfl⟩, fun _ => World.ownsRow_nil _ _ _ _, fun _ _ _ => .inl rfl, fun _ h => by simp [Maps.has] at h⟩
/-- What a look-up gives. -/
theorem Streams.look {w : World} {b : Nat} {xs : List EnT} {D : DataW Unit} {V : ByteArray → Value} (h : Streams w b xs D V) {s : ByteArray} (hs : s.size ≤ maxLen) :
    (Instr.lookup 61 (.map (some b)) (.string s) false).run Tryz.prog w = .ok (V s) w := by
  obtain ⟨v, ps, hrun, hv⟩ := h.owns.lookup keyed Tryz.underlying61 (zeroS w) encV_nil (keyL_of hs)
  obtain ⟨ps', hV⟩ := h.tells s
  rw [encV_inj hV hv rfl]
  exact hrun
/-- An append at one name, and the store of the new slice. -/
theorem Streams.put {w w4 : World} {b : Nat} {xs : List EnT} {D : DataW Unit} {V : ByteArray → Value} (h : Streams w b xs D V) (x : EnT) (hs : x.1.size ≤ maxLen) (hn : xs.length < maxLen) {v' : Value}
    (hg : w.grownBy w4 (V x.1).ownBlock) (hr : w4.ownsRow (b + 1) 30 3 v' ((evOf x.1 xs).length + 1) ((evOf x.1 xs).flatMap eventCells ++ eventCells x.2))
    (hloc : v'.ownBlock = (V x.1).ownBlock ∨ ∃ g, v'.ownBlock = some g ∧ w.heap.size ≤ g) :
    ∃ w5 D' V', (Instr.mapUpdate 61 (.map (some b)) (.string x.1) v').run Tryz.prog w4 = .ok () w5 ∧ Streams w5 b (xs ++ [x]) D' V' ∧ w4.grownBy w5 (some b) := by
  have hb := h.owns.lt
  have hne : some b ≠ (V x.1).ownBlock := by
    intro e
    have := (ownBlock_lt (h.rows x.1) e.symm).1
    omega
  obtain ⟨y, hy⟩ := encV_ex hr
  obtain ⟨w5, hrun, ho5, hg5⟩ := (h.owns.kept hg hne).update keyed Tryz.underlying61 hn (keyL_of hs) (d := y.1) (ps := y.2) hy
  have hD : IsMap D := by obtain ⟨es, c, _, _, _, e⟩ := h.owns; exact ⟨_, e⟩
  refine ⟨w5, D.put (keyL x.1) y.1, fun t => if t = x.1 then v' else V t, hrun, ⟨by simpa using ho5, fun t => ?_, fun t => ?_, fun s t hst => ?_, fun t ht => ?_⟩, hg5⟩
  · by_cases e : t = x.1
    · subst e
      rw [if_pos rfl, atKey_put_same hD (keyed.key (keyL_of hs))]
      exact ⟨y.2, hy⟩
    · rw [if_neg e, atKey_put_other (fun e' => e (keyL_inj e'))]
      exact h.tells t
  · by_cases e : t = x.1
    · subst e
      rw [if_pos rfl, evOf_snoc, if_pos rfl, List.flatMap_append, List.length_append]
      have hk : v'.ownBlock = none ∨ v'.ownBlock ≠ some b := by
        cases ev : v'.ownBlock with
        | none => exact .inl rfl
        | some g => exact .inr (fun e => by injection e with e; have := (ownBlock_lt hr ev).1; omega)
      simpa using hr.kept hg5 hk
    · rw [if_neg e, evOf_snoc, if_neg (fun e' => e e'.symm), List.append_nil]
      have hk : (V t).ownBlock = none ∨ (V t).ownBlock ≠ some b := by
        cases ev : (V t).ownBlock with
        | none => exact .inl rfl
        | some g => exact .inr (fun e => by injection e with e; have := (ownBlock_lt (h.rows t) ev).1; omega)
      exact ((h.rows t).kept hg (h.apart t x.1 e)).kept hg5 hk
  · have far : ∀ t, t ≠ x.1 → v'.ownBlock ≠ none → v'.ownBlock ≠ (V t).ownBlock := by
      intro t ht hnn e
      rcases hloc with hl | ⟨g, hl, hge⟩
      · rcases h.apart t x.1 ht with h1 | h1
        · rw [h1] at e; exact hnn e
        · exact h1 (e.symm.trans hl)
      · rw [hl] at e
        have := (ownBlock_lt (h.rows t) e.symm).2
        omega
    show (if s = x.1 then v' else V s).ownBlock = none ∨ (if s = x.1 then v' else V s).ownBlock ≠ (if t = x.1 then v' else V t).ownBlock
    by_cases es : s = x.1
    · rw [if_pos es, if_neg (fun et => hst (es.trans et.symm))]
      by_cases hn0 : v'.ownBlock = none
      · exact .inl hn0
      · exact .inr (far t (fun et => hst (es.trans et.symm)) hn0)
    · rw [if_neg es]
      by_cases et : t = x.1
      · rw [if_pos et]
        by_cases hn0 : (V s).ownBlock = none
        · exact .inl hn0
        · refine .inr (fun e => far s es (fun h0 => hn0 (e.trans h0)) e.symm)
      · rw [if_neg et]; exact h.apart s t hst
  · by_cases e : t = x.1
    · subst e
      rw [evOf_snoc, if_pos rfl]
      simp
    · rw [has_put_other (fun e' => e (keyL_inj e'))] at ht
      rw [evOf_snoc, if_neg (fun e' => e e'.symm), List.append_nil]
      exact h.keys t ht
end Go.Proofs.YtmnmaibhjhhakaaGreatDoor
