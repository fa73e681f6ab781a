/-
  Row: a text and a slice of numbers that lies elsewhere: its cells, and how the laws count the size of rows. For every readable one. No condition.
-/
import Derived.Test.YtkianldpmlbgcaaTInt
namespace Go.Proofs.Ytkianldpmlbgcaa
open Go.ChangeShapes Go.WideShapes Go.ChangeAt Go.RowKit

structure RowX where
  key : ByteArray
  A : Option Addr
  n : Nat
  c : Nat
  zs : List Int
def rowCells (x : RowX) : List Value := [.string x.key, .slice x.A x.n x.c]
/-- The row's numbers lie behind its slice. -/
structure RowOk (w : World) (x : RowX) : Prop where
  key : StrOk x.key
  cap : x.n ≤ x.c
  most : x.c ≤ maxLen
  len : x.zs.length = x.n
  lies : Lies w 1 x.A x.n (x.zs.map (.int .i64))
  ints : ∀ z ∈ x.zs, IntOk z
theorem rowDec (w : World) : ∀ row, CellsAre w [1, 3] row → ∃ x, row = rowCells x ∧ RowOk w x := by
  intro row h
  have hl := h.length
  match row, hl with
  | [_, _], _ =>
    obtain ⟨⟨x0, rfl, o0⟩, ⟨A, n, c, zs, rfl, nc, cm, zl, zL, zo⟩, _⟩ := h
    exact ⟨⟨x0, A, n, c, zs⟩, rfl, o0, nc, cm, zl, zL, zo⟩
theorem RowOk.below {w w' : World} {x : RowX} (h : RowOk w x) (hb : Below w.heap.size w w') : RowOk w' x :=
  ⟨h.key, h.cap, h.most, h.len, h.lies.below hb, h.ints⟩
/-- A row of a size that the laws let pass. -/
def RowFit (x : RowX) : Prop := x.key.size ≤ 1048576 ∧ x.n ≤ 1048576

set_option maxHeartbeats 1600000 in
theorem szRow_any (x : RowX) (left : Int) (h0 : 0 ≤ left) (h1 : left ≤ 1048576) (w : World) (hx : RowOk w x) :
    Calls Try.prog 31 #[.agg #[.string x.key, .slice x.A x.n x.c], .int .i64 left] w fun e w' => (∃ r : Int, e = .returned (.int .i64 r) ∧ (r = -1 ∨ (0 ≤ r ∧ r ≤ left ∧ RowFit x))) ∧ Below w.heap.size w w' := by
  obtain ⟨k, A, n, c, zs⟩ := x
  have hs : k.size ≤ maxLen := hx.key
  have hn : n ≤ maxLen := Nat.le_trans hx.cap hx.most
  clear hx
  unfold maxLen at hs
  by_cases c0 : left < k.size
  · go_enter Try.func31, Try.ntmps31
    go_wp2
    go_ret
    exact ⟨⟨-1, rfl, .inl rfl⟩, (by repeat' (first | (with_reducible exact Below.refl _ _) | (with_reducible assumption) | (with_reducible refine below_step (by assumption) ?_) | (with_reducible refine below_alloc ?_ _) | (with_reducible refine Below.drew ?_) | (with_reducible refine below_drewN ?_ _) | (with_reducible refine Below.setCell ?_ ?_ _) | go_size))⟩
  · by_cases c1 : left - k.size < n
    · have e := Lib.hid (show szN (left - k.size) n = -1 by unfold szN; rw [if_pos c1])
      go_enter Try.func31, Try.ntmps31
      go_wp2_with (go_at_call 37; refine (szIntS_any A n c hn (left - k.size) (by omega) (by omega) _).mono ?_; rintro e1 w1 ⟨rfl, rfl⟩; rw [e.out])
      go_ret
      exact ⟨⟨-1, rfl, .inl rfl⟩, (by repeat' (first | (with_reducible exact Below.refl _ _) | (with_reducible assumption) | (with_reducible refine below_step (by assumption) ?_) | (with_reducible refine below_alloc ?_ _) | (with_reducible refine Below.drew ?_) | (with_reducible refine below_drewN ?_ _) | (with_reducible refine Below.setCell ?_ ?_ _) | go_size))⟩
    · have e := Lib.hid (show szN (left - k.size) n = left - k.size - n by unfold szN; rw [if_neg c1])
      go_enter Try.func31, Try.ntmps31
      go_wp2_with (go_at_call 37; refine (szIntS_any A n c hn (left - k.size) (by omega) (by omega) _).mono ?_; rintro e1 w1 ⟨rfl, rfl⟩; rw [e.out])
      go_ret
      exact ⟨⟨left - k.size - n, rfl, .inr ⟨by omega, by omega, by show k.size ≤ 1048576; omega, by show n ≤ 1048576; omega⟩⟩, (by repeat' (first | (with_reducible exact Below.refl _ _) | (with_reducible assumption) | (with_reducible refine below_step (by assumption) ?_) | (with_reducible refine below_alloc ?_ _) | (with_reducible refine Below.drew ?_) | (with_reducible refine below_drewN ?_ _) | (with_reducible refine Below.setCell ?_ ?_ _) | go_size))⟩

set_option maxHeartbeats 1600000 in
theorem szRowS_any (A : Option Addr) (n c : Nat) (hn : n ≤ maxLen) (xs : List RowX) (hx : xs.length = n) (left : Int) (h0 : 0 ≤ left) (h1 : left ≤ 1048576) (w : World) (hok : ∀ x ∈ xs, RowOk w x) (hL : Lies w 2 A n (xs.flatMap rowCells)) :
    Calls Try.prog 8 #[.slice A n c, .int .i64 left] w fun e w' => (∃ r : Int, e = .returned (.int .i64 r) ∧ (r = -1 ∨ (0 ≤ r ∧ n ≤ 1048576 ∧ ∀ x ∈ xs, RowFit x))) ∧ Below w.heap.size w w' := by
  unfold maxLen at hn
  by_cases c : left < n
  · go_enter Try.func8, Try.ntmps8
    go_wp2
    go_ret
    exact ⟨⟨-1, rfl, .inl rfl⟩, Below.refl _ _⟩
  · have HX := Lib.hid hx
    have HK := Lib.hid hok
    clear hx hok
    go_enter Try.func8, Try.ntmps8
    go_wp2
    go_loopw [1, 5] (fun l i wr => ∃ (k : Nat) (r : Int), k ≤ n ∧ i = .int .i64 k ∧ l = .int .i64 r ∧ 0 ≤ r ∧ r ≤ 1048576 ∧ Hid (∀ x ∈ xs.take k, RowFit x) ∧ Below w.heap.size w wr) (fun _ i _ => n - (intOf i).toNat)
    case atStart => exact ⟨0, left - n, Nat.zero_le _, rfl, rfl, by omega, by omega, Lib.hid (by simp), Below.refl _ _⟩
    case round =>
      obtain ⟨k, r, hk, rfl, rfl, hl0, hl1, hT, hB⟩ := hrel
      by_cases hlt : k < n
      · obtain ⟨b, o, rfl, hb, hc⟩ := (hL.below hB).row (fun _ => rfl) (by omega)
        obtain ⟨x, hxk⟩ := get_lt HX.out hlt
        have c0 : wr.cell? ⟨b, o + k * 2, none⟩ = some (.string x.key) := hc k _ hxk 0 _ rfl
        have c1 : wr.cell? ⟨b, o + k * 2 + 1, none⟩ = some (.slice x.A x.n x.c) := hc k _ hxk 1 _ rfl
        have OK := Lib.hid ((HK.out _ (List.mem_of_getElem? hxk)).below hB)
        have HXK := Lib.hid hxk
        clear hxk hc
        go_wp2_with fail
        refine (szRow_any x r hl0 hl1 _ OK.out).mono ?_
        rintro e1 w1 ⟨⟨r', rfl, hr⟩, hb1⟩
        rcases hr with rfl | ⟨q0, q1, q2⟩
        · go_wp2
          go_ret
          exact ⟨⟨-1, rfl, .inl rfl⟩, (by repeat' (first | (with_reducible exact Below.refl _ _) | (with_reducible assumption) | (with_reducible refine below_step (by assumption) ?_) | (with_reducible refine below_alloc ?_ _) | (with_reducible refine Below.drew ?_) | (with_reducible refine below_drewN ?_ _) | (with_reducible refine Below.setCell ?_ ?_ _) | go_size))⟩
        · have HF := Lib.hid (show ∀ y ∈ xs.take (k + 1), RowFit y by
            rw [take_succ_of HXK.out]
            intro y hy
            rcases List.mem_append.1 hy with h | h
            · exact hT.out y h
            · obtain rfl := List.mem_singleton.1 h
              exact q2)
          have q3 : r' ≤ 1048576 := by omega
          clear q2
          go_wp2
          go_roundw
          case rel => exact ⟨k + 1, r', by omega, by go_num, rfl, q0, q3, HF, (by repeat' (first | (with_reducible exact Below.refl _ _) | (with_reducible assumption) | (with_reducible refine below_step (by assumption) ?_) | (with_reducible refine below_alloc ?_ _) | (with_reducible refine Below.drew ?_) | (with_reducible refine below_drewN ?_ _) | (with_reducible refine Below.setCell ?_ ?_ _) | go_size))⟩
          case measure => simp [intOf]; omega
      · have HF := Lib.hid (show ∀ x ∈ xs, RowFit x by
          have h := hT.out
          rw [List.take_of_length_le (by have := HX.out; omega)] at h
          exact h)
        go_wp2
        go_ret
        exact ⟨⟨r, rfl, .inr ⟨hl0, by omega, HF.out⟩⟩, (by repeat' (first | (with_reducible exact Below.refl _ _) | (with_reducible assumption) | (with_reducible refine below_step (by assumption) ?_) | (with_reducible refine below_alloc ?_ _) | (with_reducible refine Below.drew ?_) | (with_reducible refine below_drewN ?_ _) | (with_reducible refine Below.setCell ?_ ?_ _) | go_size))⟩
end Go.Proofs.Ytkianldpmlbgcaa
