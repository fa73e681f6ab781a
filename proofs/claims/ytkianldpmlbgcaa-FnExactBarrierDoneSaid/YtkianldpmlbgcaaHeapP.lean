/-
  The heap of open positions: Pop and Push, and draining the heap of an ascending list. For every list of at most 1048576 numbers. No condition.
-/
import Derived.Test.YtkianldpmlbgcaaHeapW
import Derived.Deep.LoopGhost
namespace Go.Proofs.Ytkianldpmlbgcaa
open Go.ChangeShapes Go.WideShapes Go.ChangeAt Go.RowKit

/-- Two blocks may have turned. -/
structure Two (w w' : World) (g h : Nat) : Prop where
  os : w'.os = w.os
  tape : w'.tape = w.tape
  output : w'.output = w.output
  size : w.heap.size ≤ w'.heap.size
  block : ∀ b, b < w.heap.size → b ≠ g → b ≠ h → w'.heap[b]? = w.heap[b]?
theorem Two.of_g {w w' : World} {g : Nat} (h : Nat) (k : w.grownBy w' (some g)) : Two w w' g h := ⟨k.os, k.tape, k.output, k.size, fun b hb h1 _ => k.block b hb (fun e => h1 (by injection e))⟩
theorem Two.of_h {w w' : World} {h : Nat} (g : Nat) (k : w.grownBy w' (some h)) : Two w w' g h := ⟨k.os, k.tape, k.output, k.size, fun b hb _ h2 => k.block b hb (fun e => h2 (by injection e))⟩
theorem Two.of_below {w w' : World} (k : Below w.heap.size w w') (g h : Nat) : Two w w' g h := ⟨k.os, k.tape, k.output, k.size, fun b hb _ _ => k.block b hb⟩
theorem Two.trans {a b c : World} {g h : Nat} (x : Two a b g h) (y : Two b c g h) : Two a c g h :=
  ⟨y.os.trans x.os, y.tape.trans x.tape, y.output.trans x.output, Nat.le_trans x.size y.size, fun i hi h1 h2 => (y.block i (Nat.lt_of_lt_of_le hi x.size) h1 h2).trans (x.block i hi h1 h2)⟩
theorem Two.below {B : Nat} {a w w' : World} {g h : Nat} (x : Below B a w) (y : Two w w' g h) (h1 : B ≤ g) (h2 : B ≤ h) (h3 : B ≤ w.heap.size) : Below B a w' :=
  x.trans ⟨y.os, y.tape, y.output, y.size, fun b hb => y.block b (by omega) (by omega) (by omega)⟩
theorem owns_two {w w' : World} {B : Nat} {e : TypeId} {size n m c g x h : Nat} {xs : List Value} (ho : w.ownsRow B e size (.slice (some ⟨g, 0, none⟩) m c) n xs) (k : Two w w' x h) (h1 : g ≠ x) (h2 : g ≠ h) : w'.ownsRow B e size (.slice (some ⟨g, 0, none⟩) m c) n xs := by
  obtain ⟨q1, q2⟩ := ho
  refine ⟨q1, ?_⟩
  rcases q2 with q2 | ⟨g', cap, cur, hv, hg, hh, r⟩
  · exact .inl q2
  · have e : g = g' := by simp only [Value.slice.injEq, Option.some.injEq, Addr.mk.injEq] at hv; exact hv.1.1
    subst e
    exact .inr ⟨g, cap, cur, hv, hg, (k.block g (Array.getElem?_eq_some_iff.1 hh).1 h1 h2).trans hh, r⟩
theorem at_take {L : List Int} {k i : Nat} (h : i < k) : at' (L.take k) i = at' L i := by
  unfold at'
  rw [List.getD_eq_getElem?_getD, List.getD_eq_getElem?_getD, List.getElem?_take, if_pos h]
theorem heap_take {L : List Int} {k : Nat} (h : HeapTo L k) : HeapTo (L.take k) k := by
  intro i h0 h1
  rw [at_take h1, at_take (by omega)]
  exact h i h0 h1

theorem rowHeap : RowTy Try.prog 78 3 1 8 := rowTy_mk Try.underlying78 infoInt rfl (by decide)

set_option maxHeartbeats 1600000 in
theorem popM_any (h B g c k : Nat) (L : List Int) (hl : L.length = k + 1) (hl1 : k + 1 ≤ 1048576) (w : World)
    (hp : RowIs w h 78 [.slice (some ⟨g, 0, none⟩) (k + 1) c]) (ho : w.ownsRow B 3 1 (.slice (some ⟨g, 0, none⟩) (k + 1) c) (k + 1) (L.flatMap intCells)) :
    Calls Try.prog 78 #[.pointer (some ⟨h, 0, none⟩)] w fun e w' => e = .returned (.iface 3 (.int .i64 (at' L k))) ∧ RowIs w' h 78 [.slice (some ⟨g, 0, none⟩) k c] ∧ w'.ownsRow B 3 1 (.slice (some ⟨g, 0, none⟩) k c) k ((L.take k).flatMap intCells) ∧ w.grownBy w' (some h) := by
  have hne := own_ne_row ho hp (by decide)
  obtain ⟨b, o, e, hb, hc⟩ := (lies_of_own ho).row (fun _ => rfl) (by omega)
  cases e
  have c0 : w.cell? ⟨g, k, none⟩ = some (.int .i64 (at' L k)) := by simpa using hc k _ (at_get (by omega)) 0 _ rfl
  have p0 := hp.cell (j := 0) rfl
  have f0 := hp.frozen 0
  have hcap := (owns_cap ho).2
  have HO := Lib.hid (show w.ownsRow B 3 1 (.slice (some ⟨g, 0, none⟩) k c) k ((L.take k).flatMap intCells) by
    refine ownsRow_pop (xs := (L.take k).flatMap intCells) (last := intCells (at' L k)) (by rw [flat_len intCells 1 (fun _ => rfl)]; simp; omega) ?_
    have e : L = L.take k ++ [at' L k] := by
      rw [at_lt (by omega)]
      have : L.take k ++ [L[k]'(by omega)] = L.take (k + 1) := by rw [List.take_succ_eq_append_getElem (by omega)]
      rw [this, List.take_of_length_le (by omega)]
    have e2 : (L.take k).flatMap intCells ++ intCells (at' L k) = L.flatMap intCells := by
      conv => rhs; rw [e, List.flatMap_append]
      simp
    rw [e2]; exact ho)
  have HP := Lib.hid hp
  clear hc ho hp
  go_enter Try.func78, Try.ntmps78
  go_wp2
  go_ret
  exact ⟨rfl, HP.out.set 0 _, ownsRow_other HO.out hne _, only_setCell (only_refl _ _) (.inl rfl) _⟩

set_option maxHeartbeats 3200000 in
theorem heapPop_any (h B g c k : Nat) (L : List Int) (hl : L.length = k + 1) (hl1 : k + 1 ≤ 1048576) (hH : HeapTo L (k + 1)) (w : World)
    (hp : RowIs w h 78 [.slice (some ⟨g, 0, none⟩) (k + 1) c]) (ho : w.ownsRow B 3 1 (.slice (some ⟨g, 0, none⟩) (k + 1) c) (k + 1) (L.flatMap intCells)) :
    Calls Try.prog 59 #[.iface 64 (.pointer (some ⟨h, 0, none⟩))] w fun e w' => ∃ (v : Value) (L' : List Int), e = .returned v ∧ L'.length = k ∧ (at' L 0 :: L').Perm L ∧ HeapTo L' k ∧ RowIs w' h 78 [.slice (some ⟨g, 0, none⟩) k c] ∧ w'.ownsRow B 3 1 (.slice (some ⟨g, 0, none⟩) k c) k (L'.flatMap intCells) ∧ Two w w' g h := by
  have hne := own_ne_row ho hp (by decide)
  have hpc := hp.cell (j := 0) rfl
  have HP := Lib.hid hp
  have HO := Lib.hid ho
  have HH := Lib.hid hH
  have HL := Lib.hid hl
  clear hp ho hH hl
  go_enter Try.func59, Try.ntmps59
  go_wp2_with fail
  refine (len_any _ _ _ _).mono ?_
  rintro e1 w1 ⟨rfl, rfl⟩
  go_wp2_with fail
  refine (swap_any g (k + 1) c B L HL.out 0 k (by omega) (by omega) _ HO.out).mono ?_
  rintro e2 w2 ⟨rfl, o2, g2⟩
  have hp2 := HP.out.grown g2 (fun e => hne (by injection e))
  have hpc2 := hp2.cell (j := 0) rfl
  have HP2 := Lib.hid hp2
  have HO2 := Lib.hid o2
  have HG2 := Lib.hid g2
  clear hp2 o2 g2
  go_wp2_with fail
  refine (down_any h B g c (sw L 0 k) (k + 1) k (by rw [sw_length]; exact HL.out) hl1 (by omega) (pop_inv HL.out HH.out) _ HP2.out HO2.out).mono ?_
  rintro e3 w3 ⟨b3, L3, rfl, l3, p3, t3, a3, o3, g3⟩
  have hp3 := HP2.out.grown g3 (fun e => hne (by injection e))
  have HP3 := Lib.hid hp3
  have HO3 := Lib.hid o3
  have HG3 := Lib.hid g3
  have HL3 := Lib.hid l3
  have HPE := Lib.hid p3
  have HT3 := Lib.hid t3
  have HA3 := Lib.hid a3
  clear hp3 o3 g3 l3 p3 t3 a3
  go_wp2_with fail
  refine (popM_any h B g c k L3 HL3.out hl1 _ HP3.out HO3.out).mono ?_
  rintro e4 w4 ⟨rfl, p4, o4, g4⟩
  have HP4 := Lib.hid p4
  have HO4 := Lib.hid o4
  have HG4 := Lib.hid g4
  clear p4 o4 g4
  go_wp2
  go_ret
  refine ⟨_, L3.take k, rfl, by have := HL3.out; simp; omega, ?_, heap_take HT3.out, HP4.out, HO4.out, ((Two.of_g h HG2.out).trans (Two.of_g h HG3.out)).trans (Two.of_h g HG4.out)⟩
  have e0 : at' L3 k = at' L 0 := by
    rw [HA3.out k (Nat.le_refl _), sw_at (by have := HL.out; omega) (by have := HL.out; omega) k (by have := HL.out; omega), if_pos rfl]
  rw [← e0]
  refine List.Perm.trans ?_ (HPE.out.trans (sw_perm (by have := HL.out; omega) (by have := HL.out; omega)))
  refine List.Perm.trans ?_ (take_perm HL3.out)
  exact (List.perm_append_singleton _ _).symm

theorem assert_int (x : Int) (W : World) : (Instr.typeAssert (.iface 3 (.int .i64 x)) 20 3 true).run Try.prog W = .ok (.tuple #[.int .i64 x, .bool true]) W := by kernel_rfl

set_option maxHeartbeats 1600000 in
theorem pushM_any (h B g c k : Nat) (L : List Int) (x : Int) (hl : L.length = k) (hl1 : k + 1 ≤ 1048576) (w : World) (hB : B ≤ w.heap.size)
    (hp : RowIs w h 78 [.slice (some ⟨g, 0, none⟩) k c]) (ho : w.ownsRow B 3 1 (.slice (some ⟨g, 0, none⟩) k c) k (L.flatMap intCells)) :
    Calls Try.prog 79 #[.pointer (some ⟨h, 0, none⟩), .iface 3 (.int .i64 x)] w fun e w' => ∃ g' c', e = .returned (.tuple #[]) ∧ RowIs w' h 78 [.slice (some ⟨g', 0, none⟩) (k + 1) c'] ∧ w'.ownsRow B 3 1 (.slice (some ⟨g', 0, none⟩) (k + 1) c') (k + 1) ((L ++ [x]).flatMap intCells) ∧ Two w w' g h := by
  have hne := own_ne_row ho hp (by decide)
  have p0 := hp.cell (j := 0) rfl
  have f0 := hp.frozen 0
  have hh := hp.lt
  have HO := Lib.hid ho
  have HP := Lib.hid hp
  clear ho hp
  have hta := assert_int x
  go_enter Try.func79, Try.ntmps79
  go_wp2_with (at_builtin; refine wpList_app1 rfl _ _ 78 3 1 8 rowHeap rfl B g k c _ HO.out rfl rfl rfl rfl (by unfold maxLen; omega) (by omega) hB ?_; intro g3 c3 w3 ho3 hg3 hz3; have HO3 := Lib.hid ho3; have HG3 := Lib.hid hg3; have hp3 := HP.out.grown hg3 (fun e => hne (by injection e)); have HP3 := Lib.hid hp3; have q0 := hp3.cell (j := 0) rfl; have q1 := hp3.frozen 0; clear ho3 hg3 hp3)
  go_returns
  have hne3 := own_ne_row HO3.out HP3.out (by decide)
  refine ⟨rfl, g3, c3, HP3.out.set 0 _, ?_, (Two.of_g h HG3.out).trans (Two.of_h g (only_setCell (only_refl _ _) (.inl rfl) _))⟩
  exact ownsRow_other HO3.out hne3 _

set_option maxHeartbeats 1600000 in
theorem upTop_any (h g c n : Nat) (L : List Int) (j i : Nat) (hl : L.length = n) (hl1 : n ≤ 1048576) (hj : j < n) (hi : i = (j - 1) / 2) (hle : at' L i ≤ at' L j) (w : World)
    (hp : w.cell? ⟨h, 0, none⟩ = some (.slice (some ⟨g, 0, none⟩) n c)) (hL : Lies w 1 (some ⟨g, 0, none⟩) n (L.flatMap intCells)) :
    Calls Try.prog 57 #[.iface 64 (.pointer (some ⟨h, 0, none⟩)), .int .i64 j] w fun e w' => e = .returned (.tuple #[]) ∧ Below w.heap.size w w' := by
  have HL := Lib.hid hL
  have HX := Lib.hid hl
  have q : ((j : Int) - 1).tdiv 2 = (i : Int) := by
    by_cases h0 : j = 0
    · subst h0; subst hi; rfl
    · rw [show ((j : Int) - 1) = ((j - 1 : Nat) : Int) by omega, hi]; rfl
  have q2 : IntKind.i64.wrap (i : Int) = i := IntWalk.i64_in _ ⟨by omega, by omega⟩
  have q3 : IntKind.i64.wrap ((j : Int) - 1) = (j : Int) - 1 := IntWalk.i64_in _ ⟨by omega, by omega⟩
  clear hL hl
  by_cases h0 : i = j
  · have z : ((i : Int) == (j : Int)) = true := by simp [h0]
    clear hi h0
    go_enter Try.func57, Try.ntmps57
    go_wp2_with fail
    go_rounds 1
    go_returns
    exact ⟨rfl, (by repeat' (first | (with_reducible exact Below.refl _ _) | (with_reducible assumption) | (with_reducible refine below_step (by assumption) ?_) | (with_reducible refine below_alloc ?_ _) | (with_reducible refine Below.drew ?_) | (with_reducible refine below_drewN ?_ _) | (with_reducible refine Below.setCell ?_ ?_ _) | go_size))⟩
  · have z : ((i : Int) == (j : Int)) = false := by simp; omega
    have hij : i < n := by omega
    have hd : decide (at' L j < at' L i) = false := by simp; omega
    clear hi h0 hle
    go_enter Try.func57, Try.ntmps57
    go_wp2_with fail
    go_loopw [1] (fun v wr => v = .int .i64 j ∧ Below w.heap.size w wr) (fun _ _ => 0)
    case atStart => exact ⟨rfl, Below.refl _ _⟩
    case round =>
      obtain ⟨rfl, hB⟩ := hrel
      have hpr := box_cell hB hp
      go_wp2_with fail
      refine (less_any _ _ _ L HX.out j i _ _ (at_get (by have := HX.out; omega)) (at_get (by have := HX.out; omega)) _ (HL.out.below hB)).mono ?_
      rintro e1 w4 ⟨rfl, hb4⟩
      rw [hd]
      go_wp2
      go_returns
      exact ⟨rfl, (by repeat' (first | (with_reducible exact Below.refl _ _) | (with_reducible assumption) | (with_reducible refine below_step (by assumption) ?_) | (with_reducible refine below_alloc ?_ _) | (with_reducible refine Below.drew ?_) | (with_reducible refine below_drewN ?_ _) | (with_reducible refine Below.setCell ?_ ?_ _) | go_size))⟩
end Go.Proofs.Ytkianldpmlbgcaa
