/-
  Slices that the call itself makes and fills, element by element: lemmas on worlds and lists. No condition.
-/
import Derived.Test.YtmnmaibhjhhakaaGreatDoorBase
import Derived.Deep.Slices
namespace Go.Proofs.YtmnmaibhjhhakaaGreatDoor
open Go.ChangeShapes Go.WideShapes Go.ChangeAt Go.RowKit Go.Deep

theorem run_make_rowN {P : Program} (t e : TypeId) (i : TypeInfo) (z : Value) (ht : P.underlying t = some (.slice e)) (hi : P.info? e = some i) (hz : i.zero = some z)
    (kl kc : IntKind) (n c : Nat) (hnc : n ≤ c) (hbytes : i.bytes * c ≤ 281474976710656) (h63 : c ≤ 9223372036854775807) (w : World) :
    (Instr.makeSlice t (.int kl (n : Int)) (.int kc (c : Int))).run P w = .ok (.slice (some ⟨w.heap.size, 0, none⟩) n c) (w.alloc (.cells (madeCells z.cells (c * i.size)) e)) := by
  have hb : (i.bytes : Int) * (c : Int) ≤ 281474976710656 := by
    have h : ((i.bytes * c : Nat) : Int) ≤ 281474976710656 := by omega
    rwa [Int.natCast_mul] at h
  have hr := run_make (P := P) w t e i z ht hi hz kl kc n c (by omega) (by omega) hb (by omega)
  simp only [Int.toNat_natCast] at hr
  exact hr

/-- Block g holds the n elements ys of type e; its first k elements are those of xs. -/
def Filled (w : World) (base : Nat) (e : TypeId) (size : Nat) (g n : Nat) (done : List Value) (k : Nat) : Prop :=
  ∃ ys : List Value, w.ownsRow base e size (.slice (some ⟨g, 0, none⟩) n n) n ys ∧ ys.take (k * size) = done ∧ done.length = k * size

theorem Filled.start {w : World} {base : Nat} {e : TypeId} {size : Nat} (cs : Array Value) (n : Nat) (hb : base ≤ w.heap.size) (hm : n ≤ maxLen) (hs : cs.size = n * size) :
    Filled (w.alloc (.cells cs e)) base e size w.heap.size n [] 0 :=
  ⟨cs.toList, World.ownsRow_lit w cs n hb hm hs, by simp, by simp⟩
theorem Filled.cell {w : World} {base : Nat} {e : TypeId} {size g n k : Nat} {done : List Value} (h : Filled w base e size g n done k) (j : Nat) (hj : j < n * size) : ∃ u, w.cell? ⟨g, j, none⟩ = some u := by
  obtain ⟨ys, ho, _, _⟩ := h
  have hl := ho.1
  exact ⟨ys[j]'(by omega), by rw [ho.cellAt j hj]; exact List.getElem?_eq_getElem _⟩
theorem Filled.frozen {w : World} {base : Nat} {e : TypeId} {size g n k : Nat} {done : List Value} (h : Filled w base e size g n done k) (j : Nat) : w.frozen? ⟨g, j, none⟩ = false := by
  obtain ⟨ys, ho, _, _⟩ := h
  exact ho.frozenAt j
theorem Filled.step {w w' : World} {base : Nat} {e : TypeId} {size g n k : Nat} {done : List Value} (h : Filled w base e size g n done k) (hb : Below w.heap.size w w') : Filled w' base e size g n done k := by
  obtain ⟨ys, ho, h1, h2⟩ := h
  refine ⟨ys, ho.kept (row := none) ⟨hb.os, hb.tape, hb.output, hb.size, fun k hk _ => hb.block k hk⟩ (by simp [Value.ownBlock]), h1, h2⟩
theorem Filled.lt {w : World} {base : Nat} {e : TypeId} {size g n k : Nat} {done : List Value} (h : Filled w base e size g n done k) : base ≤ g ∧ g < w.heap.size := by
  obtain ⟨ys, ho, _⟩ := h
  exact ho.lt g (by simp [Value.ownBlock])

/-- The stores of the cells us at j, j + 1, .. of block g. -/
def setAll (w : World) (g : Nat) : Nat → List Value → World
  | _, [] => w
  | j, u :: us => setAll (w.setCell ⟨g, j, none⟩ u) g (j + 1) us
def setList (ys : List Value) : Nat → List Value → List Value
  | _, [] => ys
  | j, u :: us => setList (ys.set j u) (j + 1) us
theorem setList_length : ∀ (us ys : List Value) (j : Nat), (setList ys j us).length = ys.length
  | [], _, _ => rfl
  | u :: us, ys, j => by rw [setList, setList_length us]; simp
theorem setList_take : ∀ (us ys : List Value) (j : Nat), j + us.length ≤ ys.length → (setList ys j us).take (j + us.length) = ys.take j ++ us
  | [], ys, j, _ => by simp [setList]
  | u :: us, ys, j, h => by
    simp only [List.length_cons] at h
    rw [setList]
    have h1 := setList_take us (ys.set j u) (j + 1) (by simp; omega)
    have e : j + 1 + us.length = j + (u :: us).length := by simp; omega
    rw [e] at h1
    rw [h1, List.take_succ_eq_append_getElem (by simp; omega)]
    simp [List.take_set]
    exact List.set_eq_of_length_le (by simp; omega)
theorem ownsRow_setAll : ∀ (us : List Value) {w : World} {base : Nat} {e : TypeId} {size g n c : Nat} {ys : List Value} (j : Nat), w.ownsRow base e size (.slice (some ⟨g, 0, none⟩) n c) n ys →
    (setAll w g j us).ownsRow base e size (.slice (some ⟨g, 0, none⟩) n c) n (setList ys j us)
  | [], _, _, _, _, _, _, _, _, _, h => h
  | u :: us, _, _, _, _, _, _, _, _, j, h => ownsRow_setAll us (j + 1) (h.stored j u).1
theorem Filled.stored {w : World} {base : Nat} {e : TypeId} {size g n k : Nat} {done : List Value} (h : Filled w base e size g n done k) (us : List Value) (hu : us.length = size) (hk : k < n) :
    Filled (setAll w g (k * size) us) base e size g n (done ++ us) (k + 1) := by
  obtain ⟨ys, ho, h1, h2⟩ := h
  have hl := ho.1
  have hle : k * size + size ≤ n * size := by rw [← Nat.succ_mul]; exact Nat.mul_le_mul_right _ hk
  refine ⟨setList ys (k * size) us, ownsRow_setAll us _ ho, ?_, by rw [List.length_append, h2, hu, Nat.succ_mul]⟩
  have h3 := setList_take us ys (k * size) (by omega)
  rw [hu, ← Nat.succ_mul] at h3
  rw [h3, h1]
theorem setAll_below : ∀ (us : List Value) {w a : World} {B : Nat} (g j : Nat), B ≤ g → Below B a w → Below B a (setAll w g j us)
  | [], _, _, _, _, _, _, h => h
  | u :: us, _, _, _, g, j, hg, h => setAll_below us g (j + 1) hg (h.setCell hg u)
theorem Filled.owns {w : World} {base : Nat} {e : TypeId} {size g n : Nat} {done : List Value} (h : Filled w base e size g n done n) : w.ownsRow base e size (.slice (some ⟨g, 0, none⟩) n n) n done := by
  obtain ⟨ys, ho, h1, _⟩ := h
  rw [List.take_of_length_le (by rw [ho.1]; exact Nat.le_refl _)] at h1
  subst h1; exact ho

theorem ownsRow_base {w : World} {base base' : Nat} {e : TypeId} {size n : Nat} {v : Value} {xs : List Value} (h : w.ownsRow base e size v n xs) (hb : base' ≤ base) : w.ownsRow base' e size v n xs := by
  obtain ⟨h1, h2⟩ := h
  refine ⟨h1, ?_⟩
  rcases h2 with h2 | ⟨g, cap, cur, hv, hg, r⟩
  · exact .inl h2
  · exact .inr ⟨g, cap, cur, hv, by omega, r⟩
/-- A store into another block. -/
theorem ownsRow_other {w : World} {base : Nat} {e : TypeId} {size n m c g : Nat} {xs : List Value} (h : w.ownsRow base e size (.slice (some ⟨g, 0, none⟩) m c) n xs) {a : Addr} (ha : a.block ≠ g) (u : Value) : (w.setCell a u).ownsRow base e size (.slice (some ⟨g, 0, none⟩) m c) n xs := by
  refine h.kept (row := some a.block) ⟨rfl, rfl, rfl, by simp [World.setCell], fun k _ hk => Below.heap_setCell _ _ _ _ (fun e => hk (by rw [e]))⟩ (.inr ?_)
  simp only [Value.ownBlock]
  intro e
  injection e with e
  exact ha e.symm

theorem only_refl (w : World) (row : Option Nat) : w.grownBy w row := ⟨rfl, rfl, rfl, Nat.le_refl _, fun _ _ _ => rfl⟩
theorem only_drew {a w : World} {row : Option Nat} (h : a.grownBy w row) : a.grownBy w.drew row := ⟨h.os, h.tape, h.output, h.size, h.block⟩
theorem only_alloc {a w : World} {row : Option Nat} (h : a.grownBy w row) (o : Obj) : a.grownBy (w.alloc o) row :=
  ⟨h.os, h.tape, h.output, Nat.le_trans h.size (by simp), fun i hi hne => (Below.heap_alloc w o i (Nat.lt_of_lt_of_le hi h.size)).trans (h.block i hi hne)⟩
theorem only_setCell {a w : World} {g : Nat} (h : a.grownBy w (some g)) {p : Addr} (hp : p.block = g ∨ a.heap.size ≤ p.block) (u : Value) : a.grownBy (w.setCell p u) (some g) :=
  ⟨h.os, h.tape, h.output, by simpa [World.setCell] using h.size, fun i hi hne => (Below.heap_setCell w p u i (by
    rintro rfl
    rcases hp with hp | hp
    · exact hne (by rw [hp])
    · omega)).trans (h.block i hi hne)⟩
theorem only_of_below {a w : World} (h : Below a.heap.size a w) (row : Option Nat) : a.grownBy w row := ⟨h.os, h.tape, h.output, h.size, fun i hi _ => h.block i hi⟩
theorem only_trans {a b c : World} {g : Nat} (h : a.grownBy b (some g)) (k : b.grownBy c (some g)) : a.grownBy c (some g) :=
  ⟨k.os.trans h.os, k.tape.trans h.tape, k.output.trans h.output, Nat.le_trans h.size k.size, fun i hi hne => (k.block i (Nat.lt_of_lt_of_le hi h.size) hne).trans (h.block i hi hne)⟩
theorem only_cell {a w : World} {g b o : Nat} {u : Value} (h : a.grownBy w (some g)) (hne : b ≠ g) (hc : a.cell? ⟨b, o, none⟩ = some u) : w.cell? ⟨b, o, none⟩ = some u :=
  h.cell (a := ⟨b, o, none⟩) hc (fun e => hne (by injection e))
theorem only_frozen {a w : World} {g b o : Nat} (h : a.grownBy w (some g)) (hne : b ≠ g) (hlt : b < a.heap.size) (hf : a.frozen? ⟨b, o, none⟩ = false) : w.frozen? ⟨b, o, none⟩ = false :=
  (World.frozen?_of_block (a := ⟨b, o, none⟩) (h.block b hlt (fun e => hne (by injection e)))).trans hf
theorem only_below {a w : World} {g B : Nat} (h : a.grownBy w (some g)) (hB : B ≤ a.heap.size) (hg : B ≤ g) : Below B a w :=
  ⟨h.os, h.tape, h.output, h.size, fun k hk => h.block k (by omega) (fun e => by injection e; omega)⟩

/-- A row that the call made lies behind its address. -/
theorem lies_of_own {w : World} {base : Nat} {e : TypeId} {size n c : Nat} {A : Option Addr} {xs : List Value} (h : w.ownsRow base e size (.slice A n c) n xs) : Lies w size A n xs := by
  refine ⟨h.1, fun hn => ?_⟩
  rcases h.2 with ⟨h', _⟩ | ⟨g', cap', cur, h', _, hg, _, _, _, _⟩
  · simp only [Value.slice.injEq] at h'; omega
  · simp only [Value.slice.injEq] at h'
    obtain ⟨rfl, _, _⟩ := h'
    refine ⟨g', 0, rfl, (Array.getElem?_eq_some_iff.1 hg).1, fun j u hu => ?_⟩
    have hc := h.cells (g := g') rfl j u hu
    rwa [add_plain] at hc

theorem lies_only {w w' : World} {size n g : Nat} {A : Option Addr} {xs : List Value} (h : Lies w size A n xs) (hg : w.grownBy w' (some g)) (hne : 0 < n → ∀ b o, A = some ⟨b, o, none⟩ → b ≠ g) : Lies w' size A n xs :=
  ⟨h.1, fun hn => by
    obtain ⟨b, o, e, hlt, hc⟩ := h.2 hn
    exact ⟨b, o, e, Nat.lt_of_lt_of_le hlt hg.size, fun j u hu => only_cell hg (hne hn b o e) (hc j u hu)⟩⟩
theorem Lies.arg_lt {w : World} {size n b o : Nat} {A : Option Addr} {xs : List Value} (h : Lies w size A n xs) (hn : 0 < n) (e : A = some ⟨b, o, none⟩) : b < w.heap.size := by
  obtain ⟨b', o', e', hlt, _⟩ := h.2 hn
  rw [e] at e'
  injection e' with e'
  injection e' with e' _
  omega
theorem Lies.setOther {w : World} {size n : Nat} {A : Option Addr} {xs : List Value} (h : Lies w size A n xs) {p : Addr} (hne : 0 < n → ∀ b o, A = some ⟨b, o, none⟩ → b ≠ p.block) (u : Value) : Lies (w.setCell p u) size A n xs :=
  lies_only (g := p.block) h (only_setCell (only_refl _ _) (.inl rfl) u) hne
/-- Element k of rows: its cell j. -/
theorem Lies.at_ {α : Type} {w : World} {size : Nat} {A : Option Addr} {n : Nat} {f : α → List Value} {xs : List α} (h : Lies w size A n (xs.flatMap f)) (hl : ∀ x, (f x).length = size) (hx : xs.length = n) {k : Nat} (hk : k < n) :
    ∃ b o x, A = some ⟨b, o, none⟩ ∧ b < w.heap.size ∧ xs[k]? = some x ∧ ∀ j u, (f x)[j]? = some u → w.cell? ⟨b, o + k * size + j, none⟩ = some u := by
  obtain ⟨b, o, e, hb, hc⟩ := h.2 (by omega)
  refine ⟨b, o, xs[k]'(by omega), e, hb, List.getElem?_eq_getElem (by omega), fun j u hu => ?_⟩
  have hj : j < size := by rw [← hl (xs[k]'(by omega))]; exact (List.getElem?_eq_some_iff.1 hu).1
  rw [Nat.add_assoc]
  refine hc _ u ?_
  rw [flat_get f size hl xs k j _ (List.getElem?_eq_getElem (by omega)) hj]
  exact hu
/-- All rows at once. -/
theorem Lies.row {α : Type} {w : World} {size : Nat} {A : Option Addr} {n : Nat} {f : α → List Value} {xs : List α} (h : Lies w size A n (xs.flatMap f)) (hl : ∀ x, (f x).length = size) (hn : 0 < n) :
    ∃ b o, A = some ⟨b, o, none⟩ ∧ b < w.heap.size ∧ ∀ k x, xs[k]? = some x → ∀ j u, (f x)[j]? = some u → w.cell? ⟨b, o + k * size + j, none⟩ = some u := by
  obtain ⟨b, o, e, hb, hc⟩ := h.2 hn
  refine ⟨b, o, e, hb, fun k x hx j u hu => ?_⟩
  have hj : j < size := by rw [← hl x]; exact (List.getElem?_eq_some_iff.1 hu).1
  rw [Nat.add_assoc]
  refine hc _ u ?_
  rw [flat_get f size hl xs k j _ hx hj]
  exact hu
theorem get_lt {α : Type} {xs : List α} {n k : Nat} (h : xs.length = n) (hk : k < n) : ∃ x, xs[k]? = some x := ⟨xs[k]'(by omega), List.getElem?_eq_getElem (by omega)⟩
theorem take_succ_of {α : Type} {xs : List α} {k : Nat} {x : α} (h : xs[k]? = some x) : xs.take (k + 1) = xs.take k ++ [x] := by
  obtain ⟨hlt, rfl⟩ := List.getElem?_eq_some_iff.1 h
  exact List.take_succ_eq_append_getElem hlt
theorem flat_succ {α : Type} (f : α → List Value) {xs : List α} {k : Nat} {x : α} (h : xs[k]? = some x) : (xs.take (k + 1)).flatMap f = (xs.take k).flatMap f ++ f x := by
  rw [take_succ_of h, List.flatMap_append]
  simp
end Go.Proofs.YtmnmaibhjhhakaaGreatDoor
