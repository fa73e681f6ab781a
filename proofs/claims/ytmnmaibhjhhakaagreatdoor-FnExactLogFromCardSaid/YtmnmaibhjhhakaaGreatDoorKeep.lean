/-
  Worlds that differ within an interval of blocks alone, and rows that lie within one: how facts are carried along a law. No condition.
-/
import Derived.Test.YtmnmaibhjhhakaaGreatDoorOwn
namespace Go.Proofs.YtmnmaibhjhhakaaGreatDoor
open Go.ChangeShapes Go.WideShapes Go.ChangeAt Go.RowKit

/-- w' is w with new blocks, and with other contents in the blocks from lo to hi - 1 alone. -/
structure Within (w w' : World) (lo hi : Nat) : Prop where
  os : w'.os = w.os
  tape : w'.tape = w.tape
  output : w'.output = w.output
  size : w.heap.size ≤ w'.heap.size
  block : ∀ b, b < w.heap.size → ¬ (lo ≤ b ∧ b < hi) → w'.heap[b]? = w.heap[b]?
theorem Within.of_below {w w' : World} (h : Below w.heap.size w w') (lo hi : Nat) : Within w w' lo hi := ⟨h.os, h.tape, h.output, h.size, fun b hb _ => h.block b hb⟩
theorem Within.refl (w : World) (lo hi : Nat) : Within w w lo hi := ⟨rfl, rfl, rfl, Nat.le_refl _, fun _ _ _ => rfl⟩
theorem Within.of_grown {w w' : World} {g lo hi : Nat} (h : w.grownBy w' (some g)) (h1 : lo ≤ g) (h2 : g < hi) : Within w w' lo hi :=
  ⟨h.os, h.tape, h.output, h.size, fun b hb hne => h.block b hb (fun e => hne (by injection e with e; omega))⟩
theorem Within.trans {a b c : World} {lo hi : Nat} (h : Within a b lo hi) (k : Within b c lo hi) : Within a c lo hi :=
  ⟨k.os.trans h.os, k.tape.trans h.tape, k.output.trans h.output, Nat.le_trans h.size k.size, fun i hi' hne => (k.block i (Nat.lt_of_lt_of_le hi' h.size) hne).trans (h.block i hi' hne)⟩
theorem Within.mono {a b : World} {lo hi lo' hi' : Nat} (h : Within a b lo hi) (h1 : lo' ≤ lo) (h2 : hi ≤ hi') : Within a b lo' hi' :=
  ⟨h.os, h.tape, h.output, h.size, fun i hi'' hne => h.block i hi'' (by omega)⟩
theorem Within.below {B : Nat} {a w w' : World} {lo hi : Nat} (h : Below B a w) (k : Within w w' lo hi) (h1 : B ≤ lo) (h2 : B ≤ w.heap.size) : Below B a w' :=
  h.trans ⟨k.os, k.tape, k.output, k.size, fun b hb => k.block b (by omega) (by omega)⟩

theorem cell_keep {w w' : World} {lo hi b o : Nat} {u : Value} (k : Within w w' lo hi) (hne : ¬ (lo ≤ b ∧ b < hi)) (h : w.cell? ⟨b, o, none⟩ = some u) : w'.cell? ⟨b, o, none⟩ = some u :=
  (World.cell?_of_block (a := ⟨b, o, none⟩) (k.block b (World.block_lt_of_cell? w _ h) hne)).trans h

/-- v is a row of n elements, its block between lo and hi. -/
def RowAt (w : World) (lo hi : Nat) (e : TypeId) (size : Nat) (v : Value) (n : Nat) (cells : List Value) : Prop :=
  ∃ g c, v = .slice (some ⟨g, 0, none⟩) n c ∧ lo ≤ g ∧ g < hi ∧ hi ≤ w.heap.size ∧ w.ownsRow lo e size (.slice (some ⟨g, 0, none⟩) n c) n cells
theorem RowAt.keep {w w' : World} {lo hi lo' hi' : Nat} {e : TypeId} {size n : Nat} {v : Value} {cells : List Value} (h : RowAt w lo hi e size v n cells) (k : Within w w' lo' hi') (d : hi ≤ lo' ∨ hi' ≤ lo) : RowAt w' lo hi e size v n cells := by
  obtain ⟨g, c, rfl, h1, h2, h3, ho⟩ := h
  refine ⟨g, c, rfl, h1, h2, Nat.le_trans h3 k.size, ?_⟩
  obtain ⟨q1, q2⟩ := ho
  refine ⟨q1, ?_⟩
  rcases q2 with q2 | ⟨g', cap, cur, hv, hg, hh, r⟩
  · exact .inl q2
  · refine .inr ⟨g', cap, cur, hv, hg, (k.block g' (Array.getElem?_eq_some_iff.1 hh).1 ?_).trans hh, r⟩
    have : g = g' := by simp only [Value.slice.injEq, Option.some.injEq, Addr.mk.injEq] at hv; exact hv.1.1
    omega
theorem RowAt.keepB {w w' : World} {lo hi : Nat} {e : TypeId} {size n : Nat} {v : Value} {cells : List Value} (h : RowAt w lo hi e size v n cells) (k : Below w.heap.size w w') : RowAt w' lo hi e size v n cells :=
  h.keep (Within.of_below k 0 0) (.inr (Nat.zero_le _))
theorem RowAt.made {w w' : World} {e : TypeId} {size n g c : Nat} {cells : List Value} (h : w'.ownsRow w.heap.size e size (.slice (some ⟨g, 0, none⟩) n c) n cells) : RowAt w' w.heap.size w'.heap.size e size (.slice (some ⟨g, 0, none⟩) n c) n cells :=
  ⟨g, c, rfl, (owns_lt h).1, (owns_lt h).2, Nat.le_refl _, h⟩
theorem RowAt.bound {w : World} {lo hi : Nat} {e : TypeId} {size n : Nat} {v : Value} {cells : List Value} (h : RowAt w lo hi e size v n cells) : lo < hi ∧ hi ≤ w.heap.size := by
  obtain ⟨g, c, _, h1, h2, h3, _⟩ := h; omega

/-- An argument's slice: its block below B. -/
def ArgAt (w : World) (B : Nat) (A : Option Addr) (size n : Nat) (cells : List Value) : Prop := Lies w size A n cells ∧ (0 < n → ∀ b o, A = some ⟨b, o, none⟩ → b < B) ∧ B ≤ w.heap.size
theorem ArgAt.mk' {w : World} {A : Option Addr} {size n : Nat} {cells : List Value} (h : Lies w size A n cells) : ArgAt w w.heap.size A size n cells := ⟨h, fun hn _ _ e => h.arg_lt hn e, Nat.le_refl _⟩
theorem ArgAt.keep {w w' : World} {B lo hi : Nat} {A : Option Addr} {size n : Nat} {cells : List Value} (h : ArgAt w B A size n cells) (k : Within w w' lo hi) (d : B ≤ lo ∨ hi ≤ 0) : ArgAt w' B A size n cells := by
  obtain ⟨h1, h2, h3⟩ := h
  refine ⟨⟨h1.1, fun hn => ?_⟩, h2, Nat.le_trans h3 k.size⟩
  obtain ⟨b, o, e, hlt, hc⟩ := h1.2 hn
  have hb := h2 hn b o e
  refine ⟨b, o, e, Nat.lt_of_lt_of_le hlt k.size, fun j u hu => ?_⟩
  exact (World.cell?_of_block (a := ⟨b, o + j, none⟩) (k.block b hlt (by omega))).trans (hc j u hu)
theorem ArgAt.keepB {w w' : World} {B : Nat} {A : Option Addr} {size n : Nat} {cells : List Value} (h : ArgAt w B A size n cells) (k : Below w.heap.size w w') : ArgAt w' B A size n cells := h.keep (Within.of_below k 0 0) (.inr (Nat.zero_le _))

theorem owns_cell {w : World} {B : Nat} {e : TypeId} {size n g c : Nat} {xs : List Value} (h : w.ownsRow B e size (.slice (some ⟨g, 0, none⟩) n c) n xs) {j : Nat} (hj : j < n * size) : ∃ u, w.cell? ⟨g, j, none⟩ = some u :=
  ⟨xs[j]'(by rw [h.1]; exact hj), (h.cellAt j (by have := h.1; omega)).trans (List.getElem?_eq_getElem (by rw [h.1]; exact hj))⟩
/-- Element k filled, its cells stored one by one. -/
theorem fillC_of {w' : World} {B : Nat} {e : TypeId} {size n g c k : Nat} {ys done : List Value} (ht : ys.take (k * size) = done) (hd : done.length = k * size) (hk : k < n) (us : List Value) (hu : us.length = size)
    (h : w'.ownsRow B e size (.slice (some ⟨g, 0, none⟩) n c) n (setList ys (k * size) us)) : FillC w' B e size g n c (done ++ us) (k + 1) := by
  refine ⟨_, h, ?_, by rw [List.length_append, hd, hu, Nat.succ_mul]⟩
  have hle : k * size + size ≤ n * size := by rw [← Nat.succ_mul]; exact Nat.mul_le_mul_right _ hk
  have hl : ys.length = n * size := by have := h.1; rw [setList_length] at this; exact this
  have h3 := setList_take us ys (k * size) (by omega)
  rw [hu, ← Nat.succ_mul] at h3
  rw [h3, ht]

/-- What a marking function writes: f's cells for each element, the numbers running on. -/
def marksBy (f : Int → List Value) (size : Nat) (q : Int) : Nat → List Value
  | 0 => []
  | n + 1 => marksBy f size q n ++ f (q + ((n * size : Nat) : Int))
theorem marksBy_length (f : Int → List Value) (size : Nat) (hf : ∀ q, (f q).length = size) (q : Int) : ∀ n, (marksBy f size q n).length = n * size
  | 0 => by simp [marksBy]
  | n + 1 => by rw [marksBy, List.length_append, marksBy_length f size hf q n, hf, Nat.succ_mul]
theorem marksBy_get (f : Int → List Value) (size : Nat) (hf : ∀ q, (f q).length = size) (q : Int) : ∀ (n k j : Nat) (u : Value), k < n → (f (q + ((k * size : Nat) : Int)))[j]? = some u → (marksBy f size q n)[k * size + j]? = some u
  | 0, k, j, u, h, _ => by omega
  | n + 1, k, j, u, h, hu => by
    have hj : j < size := by rw [← hf (q + ((k * size : Nat) : Int))]; exact (List.getElem?_eq_some_iff.1 hu).1
    rw [marksBy]
    by_cases e : k < n
    · have hle : k * size + size ≤ n * size := by rw [← Nat.succ_mul]; exact Nat.mul_le_mul_right _ e
      rw [List.getElem?_append_left (by rw [marksBy_length f size hf]; omega)]
      exact marksBy_get f size hf q n k j u e hu
    · obtain rfl : k = n := by omega
      rw [List.getElem?_append_right (by rw [marksBy_length f size hf]; omega), marksBy_length f size hf, show k * size + j - k * size = j by omega]
      exact hu
end Go.Proofs.YtmnmaibhjhhakaaGreatDoor
