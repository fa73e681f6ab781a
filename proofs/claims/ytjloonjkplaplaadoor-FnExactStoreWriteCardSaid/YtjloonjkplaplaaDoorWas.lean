/-
  Events that stand in others: told plainly; what the reference's and the program's functions return. No condition beyond what the rows list.
-/
import Derived.Test.YtjloonjkplaplaaDoorAppI
import Derived.Test.YtjloonjkplaplaaDoorFind
import Derived.Test.YtjloonjkplaplaaDoorPieceI
import Derived.Laws.StructEq
namespace Go.Proofs.YtjloonjkplaplaaDoor
open Go.ChangeShapes Go.WideShapes Go.ChangeAt Go.RowKit Go.Maps

/-- Do some events stand in others from i on? -/
def hereB (all ys : List EvT) (i : Nat) : Bool := decide (i + ys.length ≤ all.length) && decide ((all.drop i).take ys.length = ys)
theorem here_long {all ys : List EvT} {i : Nat} (h : ¬ i + ys.length ≤ all.length) : hereB all ys i = false := by unfold hereB; simp [h]
theorem here_fits {all ys : List EvT} {i : Nat} (h : i + ys.length ≤ all.length) : hereB all ys i = decide ((all.drop i).take ys.length = ys) := by unfold hereB; simp [h]
theorem same_succ {xs ys : List EvT} {j : Nat} {a b : EvT} (h : xs.take j = ys.take j) (ha : xs[j]? = some a) (hb : ys[j]? = some b) (e : a = b) : xs.take (j + 1) = ys.take (j + 1) := by
  rw [take_succ_of ha, take_succ_of hb, h, e]
theorem same_ne {xs ys : List EvT} {j : Nat} {a b : EvT} (ha : xs[j]? = some a) (hb : ys[j]? = some b) (e : a ≠ b) : xs ≠ ys := by
  rintro rfl
  rw [ha] at hb
  exact e (Option.some.inj hb)
theorem drop_get {all : List EvT} {i j m : Nat} {a : EvT} (h : all[i + j]? = some a) (hj : j < m) : ((all.drop i).take m)[j]? = some a := by
  rw [List.getElem?_take, if_pos hj, List.getElem?_drop]; exact h
def wasL (all ys : List EvT) : Bool := (List.range all.length).any (hereB all ys)
theorem was_hit {all ys : List EvT} {i : Nat} (hi : i < all.length) (h : hereB all ys i = true) : wasL all ys = true := by
  unfold wasL
  exact List.any_eq_true.2 ⟨i, List.mem_range.2 hi, h⟩
theorem was_none {all ys : List EvT} (h : ∀ i, i < all.length → hereB all ys i = false) : wasL all ys = false := by
  unfold wasL
  rw [List.any_eq_false]
  intro i hi
  rw [h i (List.mem_range.1 hi)]
  simp
theorem was_ids {all ys : List EvT} {y : EvT} (hk : ∀ x ∈ all, evOk x = true) (hy : ys[0]? = some y) (h : hasIds (idsN all) y.1 = false) : wasL all ys = false := by
  refine was_none (fun i hi => ?_)
  rw [Bool.eq_false_iff]
  intro hb
  unfold hereB at hb
  simp only [Bool.and_eq_true, decide_eq_true_eq] at hb
  obtain ⟨h1, h2⟩ := hb
  have hl : 0 < ys.length := (List.getElem?_eq_some_iff.1 hy).1
  have hm : y ∈ all := by
    have e : ((all.drop i).take ys.length)[0]? = some y := by rw [h2]; exact hy
    have hmem := List.mem_of_getElem? e
    exact List.mem_of_mem_drop (List.mem_of_mem_take hmem)
  have hb := ev_id (hk y hm)
  unfold hasIds at h
  rw [inB_t hb] at h
  simp only [Bool.true_and, decide_eq_false_iff_not] at h
  exact h (List.mem_map.2 ⟨y, hm, rfl⟩)
/-- What StoreWas answers. -/
def storeWas (xs : List EnT) (s : ByteArray) (e : Int) (ys : List EvT) : Bool := writeB xs s e ys && (if e = -2 then wasL (evOf s xs) ys else hereB (evOf s xs) ys (e + 1).toNat)
theorem was_no {xs : List EnT} {s : ByteArray} {e : Int} {ys : List EvT} (h : writeB xs s e ys = false) : storeWas xs s e ys = false := by unfold storeWas; rw [h]; rfl
theorem was_yes {xs : List EnT} {s : ByteArray} {e : Int} {ys : List EvT} (h : writeB xs s e ys = true) : storeWas xs s e ys = (if e = -2 then wasL (evOf s xs) ys else hereB (evOf s xs) ys (e + 1).toNat) := by unfold storeWas; rw [h]; rfl

/-- '!=' of two events. -/
theorem ne_event (x y : EvT) (w : World) : (binOp .neq 55 (.agg #[.int .i64 x.1, .string x.2.1, .int .i64 x.2.2]) (.agg #[.int .i64 y.1, .string y.2.1, .int .i64 y.2.2])).run Tryd.prog w = .ok (.bool (!decide (x = y))) w := by
  obtain ⟨x1, x2, x3⟩ := x
  obtain ⟨y1, y2, y3⟩ := y
  have u3 := Tryd.underlying3
  have a3 := Tryd.isAgg3
  have z3 := Tryd.sizeOf3
  have hS : Tryd.prog.underlying 55 = some (.struct (Tryd.prog.fieldsOf 55)) := by kernel_rfl
  have hp : Tryd.prog.stoodInHeld 55 = false := by kernel_rfl
  have ht : ∀ a b : ByteArray, a.toList = b.toList ↔ a = b := fun a b => by
    rw [ByteArray.toList_eq, ByteArray.toList_eq]
    exact ⟨fun h => ByteArray.ext (Array.ext' h), fun h => by rw [h]⟩
  rw [run_neq_struct, show (10000 : Nat) = 9999 + 1 from rfl, run_equalIn_agg w 9999 55 _ _ hS hp]
  simp only [Program.fieldsOf, Tryd.underlying55]
  go_simp
  by_cases h1 : x1 = y1 <;> by_cases h2 : x2 = y2 <;> by_cases h3 : x3 = y3 <;> simp [h1, h2, h3]

set_option maxHeartbeats 3200000 in
theorem l5Here_any (A : Option Addr) (n c : Nat) (all : List EvT) (i : Nat) (B : Option Addr) (m d : Nat) (ys : List EvT) (hn : n ≤ 1048576) (hx : all.length = n) (hi : i ≤ 1048576) (hm : m ≤ 1048576) (hy : ys.length = m) (w : World) (hL : Lies w 3 A n (all.flatMap eventCells)) (hM : Lies w 3 B m (ys.flatMap eventCells)) :
    Calls Tryd.prog 34 #[.slice A n c, .int .i64 i, .slice B m d] w fun e w' => e = .returned (.bool (hereB all ys i)) ∧ Below w.heap.size w w' := by
  have HX := Lib.hid hx
  have HY := Lib.hid hy
  have HL := Lib.hid hL
  have HM := Lib.hid hM
  have wq : IntKind.i64.wrap ((i : Int) + (m : Int)) = (i : Int) + (m : Int) := IntWalk.i64_in _ ⟨by omega, by omega⟩
  clear hx hy hL hM
  by_cases hf : n < i + m
  · have HE := Lib.hid (here_long (all := all) (ys := ys) (i := i) (by rw [HX.out, HY.out]; omega))
    have t1 : decide ((n : Int) < (i : Int) + (m : Int)) = true := by simp; omega
    have t2 : (n : Int) < (i : Int) + (m : Int) := by omega
    go_enter Tryd.func34, Tryd.ntmps34
    go_wp2
    go_ret
    exact ⟨ret_bool HE.out.symm, (by repeat' (first | (with_reducible exact Below.refl _ _) | (with_reducible assumption) | (with_reducible refine below_step (by assumption) ?_) | (with_reducible refine below_alloc ?_ _) | (with_reducible refine Below.drew ?_) | (with_reducible refine below_drewN ?_ _) | (with_reducible refine Below.setCell ?_ ?_ _) | go_size))⟩
  have HF := Lib.hid (here_fits (all := all) (ys := ys) (i := i) (by rw [HX.out, HY.out]; omega))
  have t1 : decide ((n : Int) < (i : Int) + (m : Int)) = false := by simp; omega
  have t2 : ¬ (n : Int) < (i : Int) + (m : Int) := by omega
  go_enter Tryd.func34, Tryd.ntmps34
  go_wp2
  go_loopw [7] (fun l wr => ∃ j : Nat, j ≤ m ∧ l = .int .i64 j ∧ Hid (((all.drop i).take m).take j = ys.take j) ∧ Below w.heap.size w wr) (fun l _ => m - (intOf l).toNat)
  case atStart => exact ⟨0, Nat.zero_le _, rfl, Lib.hid (by simp), Below.refl _ _⟩
  case round =>
    obtain ⟨j, hj, rfl, hI, hB⟩ := hrel
    by_cases hlt : j < m
    · obtain ⟨b, o, rfl, hb, hc⟩ := (HL.out.below hB).row (fun _ => rfl) (by omega)
      obtain ⟨b', o', rfl, hb', hc'⟩ := (HM.out.below hB).row (fun _ => rfl) (by omega)
      obtain ⟨⟨x0, x1, x2⟩, hxk⟩ := get_lt HX.out (show i + j < n by omega)
      obtain ⟨⟨y0, y1, y2⟩, hyk⟩ := get_lt HY.out hlt
      have c0 : wr.cell? ⟨b, o + (i + j) * 3, none⟩ = some (.int .i64 x0) := hc (i + j) _ hxk 0 _ rfl
      have c1 : wr.cell? ⟨b, o + (i + j) * 3 + 1, none⟩ = some (.string x1) := hc (i + j) _ hxk 1 _ rfl
      have c2 : wr.cell? ⟨b, o + (i + j) * 3 + 2, none⟩ = some (.int .i64 x2) := hc (i + j) _ hxk 2 _ rfl
      have d0 : wr.cell? ⟨b', o' + j * 3, none⟩ = some (.int .i64 y0) := hc' j _ hyk 0 _ rfl
      have d1 : wr.cell? ⟨b', o' + j * 3 + 1, none⟩ = some (.string y1) := hc' j _ hyk 1 _ rfl
      have d2 : wr.cell? ⟨b', o' + j * 3 + 2, none⟩ = some (.int .i64 y2) := hc' j _ hyk 2 _ rfl
      have HXK := Lib.hid (drop_get hxk hlt)
      have HYK := Lib.hid hyk
      obtain ⟨p, hp⟩ : ∃ p, p = i + j := ⟨_, rfl⟩
      rw [← hp] at c0 c1 c2
      have wp : IntKind.i64.wrap ((i : Int) + (j : Int)) = (p : Int) := by rw [hp]; rw [show ((i + j : Nat) : Int) = (i : Int) + (j : Int) by omega]; exact IntWalk.i64_in _ ⟨by omega, by omega⟩
      have p1 : (p : Int) < (n : Int) := by omega
      have p2 : (0 : Int) ≤ (p : Int) := by omega
      have p3 : p < n := by omega
      have p4 : (j : Int) < (m : Int) := by omega
      have p5 : (0 : Int) ≤ (j : Int) := by omega
      have heq : ∀ W, (binOp .neq 55 (.agg #[.int .i64 x0, .string x1, .int .i64 x2]) (.agg #[.int .i64 y0, .string y1, .int .i64 y2])).run Tryd.prog W = .ok (.bool (!decide ((x0, x1, x2) = (y0, y1, y2)))) W := ne_event (x0, x1, x2) (y0, y1, y2)
      clear hc hc' hxk hyk hp
      cases EQ : decide ((x0, x1, x2) = (y0, y1, y2)) <;> rw [EQ] at heq <;> simp only [Bool.not_false, Bool.not_true] at heq
      · have HE := Lib.hid (show hereB all ys i = false by rw [HF.out, HY.out]; exact decide_eq_false (same_ne HXK.out HYK.out (of_decide_eq_false EQ)))
        clear EQ
        go_wp2_with fail
        go_quiet (fail)
        go_wp2
        go_ret
        exact ⟨ret_bool HE.out.symm, (by repeat' (first | (with_reducible exact Below.refl _ _) | (with_reducible assumption) | (with_reducible refine below_step (by assumption) ?_) | (with_reducible refine below_alloc ?_ _) | (with_reducible refine Below.drew ?_) | (with_reducible refine below_drewN ?_ _) | (with_reducible refine Below.setCell ?_ ?_ _) | go_size))⟩
      · have HE := Lib.hid (same_succ hI.out HXK.out HYK.out (of_decide_eq_true EQ))
        clear EQ
        go_wp2_with fail
        go_quiet (fail)
        go_wp2
        go_roundw
        case rel => exact ⟨j + 1, by omega, by go_num, HE, (by repeat' (first | (with_reducible exact Below.refl _ _) | (with_reducible assumption) | (with_reducible refine below_step (by assumption) ?_) | (with_reducible refine below_alloc ?_ _) | (with_reducible refine Below.drew ?_) | (with_reducible refine below_drewN ?_ _) | (with_reducible refine Below.setCell ?_ ?_ _) | go_size))⟩
        case measure => simp [intOf]; omega
    · have HE := Lib.hid (show hereB all ys i = true by
        have h := hI.out
        rw [show j = m by omega, List.take_take, Nat.min_self, List.take_of_length_le (l := ys) (by rw [HY.out]; exact Nat.le_refl _)] at h
        rw [HF.out, HY.out]
        exact decide_eq_true h)
      go_wp2
      go_ret
      exact ⟨ret_bool HE.out.symm, (by repeat' (first | (with_reducible exact Below.refl _ _) | (with_reducible assumption) | (with_reducible refine below_step (by assumption) ?_) | (with_reducible refine below_alloc ?_ _) | (with_reducible refine Below.drew ?_) | (with_reducible refine below_drewN ?_ _) | (with_reducible refine Below.setCell ?_ ?_ _) | go_size))⟩

set_option maxHeartbeats 3200000 in
theorem equalEv_any (A : Option Addr) (n c : Nat) (xs : List EvT) (B : Option Addr) (m d : Nat) (ys : List EvT) (hn : n ≤ 1048576) (hx : xs.length = n) (hm : m ≤ 1048576) (hy : ys.length = m) (w : World) (hL : Lies w 3 A n (xs.flatMap eventCells)) (hM : Lies w 3 B m (ys.flatMap eventCells)) :
    Calls Tryd.prog 60 #[.slice A n c, .slice B m d] w fun e w' => e = .returned (.bool (decide (xs = ys))) ∧ Below w.heap.size w w' := by
  have HX := Lib.hid hx
  have HY := Lib.hid hy
  have HL := Lib.hid hL
  have HM := Lib.hid hM
  clear hx hy hL hM
  by_cases hf : n = m
  case neg =>
    have HE := Lib.hid (show decide (xs = ys) = false from decide_eq_false (fun e => hf (by rw [← HX.out, ← HY.out, e])))
    have t1 : ((n : Int) == (m : Int)) = false := by simp; omega
    have t2 : ((n : Int) != (m : Int)) = true := by simp; omega
    have t3 : ¬ n = m := hf
    go_enter Tryd.func60, Tryd.ntmps60
    go_wp2
    go_ret
    exact ⟨ret_bool HE.out.symm, (by repeat' (first | (with_reducible exact Below.refl _ _) | (with_reducible assumption) | (with_reducible refine below_step (by assumption) ?_) | (with_reducible refine below_alloc ?_ _) | (with_reducible refine Below.drew ?_) | (with_reducible refine below_drewN ?_ _) | (with_reducible refine Below.setCell ?_ ?_ _) | go_size))⟩
  subst hf
  go_enter Tryd.func60, Tryd.ntmps60
  go_wp2
  go_loopw [13] (fun l wr => ∃ j : Nat, j ≤ n ∧ l = .int .i64 j ∧ Hid (xs.take j = ys.take j) ∧ Below w.heap.size w wr) (fun l _ => n - (intOf l).toNat)
  case atStart => exact ⟨0, Nat.zero_le _, rfl, Lib.hid (by simp), Below.refl _ _⟩
  case round =>
    obtain ⟨j, hj, rfl, hI, hB⟩ := hrel
    by_cases hlt : j < n
    · obtain ⟨b, o, rfl, hb, hc⟩ := (HL.out.below hB).row (fun _ => rfl) (by omega)
      obtain ⟨b', o', rfl, hb', hc'⟩ := (HM.out.below hB).row (fun _ => rfl) (by omega)
      obtain ⟨⟨x0, x1, x2⟩, hxk⟩ := get_lt HX.out hlt
      obtain ⟨⟨y0, y1, y2⟩, hyk⟩ := get_lt HY.out hlt
      have c0 : wr.cell? ⟨b, o + j * 3, none⟩ = some (.int .i64 x0) := hc j _ hxk 0 _ rfl
      have c1 : wr.cell? ⟨b, o + j * 3 + 1, none⟩ = some (.string x1) := hc j _ hxk 1 _ rfl
      have c2 : wr.cell? ⟨b, o + j * 3 + 2, none⟩ = some (.int .i64 x2) := hc j _ hxk 2 _ rfl
      have d0 : wr.cell? ⟨b', o' + j * 3, none⟩ = some (.int .i64 y0) := hc' j _ hyk 0 _ rfl
      have d1 : wr.cell? ⟨b', o' + j * 3 + 1, none⟩ = some (.string y1) := hc' j _ hyk 1 _ rfl
      have d2 : wr.cell? ⟨b', o' + j * 3 + 2, none⟩ = some (.int .i64 y2) := hc' j _ hyk 2 _ rfl
      have p4 : (j : Int) < (n : Int) := by omega
      have p5 : (0 : Int) ≤ (j : Int) := by omega
      have HXK := Lib.hid hxk
      have HYK := Lib.hid hyk
      have heq : ∀ W, (binOp .neq 55 (.agg #[.int .i64 x0, .string x1, .int .i64 x2]) (.agg #[.int .i64 y0, .string y1, .int .i64 y2])).run Tryd.prog W = .ok (.bool (!decide ((x0, x1, x2) = (y0, y1, y2)))) W := ne_event (x0, x1, x2) (y0, y1, y2)
      clear hc hc' hxk hyk
      cases EQ : decide ((x0, x1, x2) = (y0, y1, y2)) <;> rw [EQ] at heq <;> simp only [Bool.not_false, Bool.not_true] at heq
      · have HE := Lib.hid (show decide (xs = ys) = false from decide_eq_false (same_ne HXK.out HYK.out (of_decide_eq_false EQ)))
        clear EQ
        go_wp2_with fail
        go_quiet (fail)
        go_wp2
        go_ret
        exact ⟨ret_bool HE.out.symm, (by repeat' (first | (with_reducible exact Below.refl _ _) | (with_reducible assumption) | (with_reducible refine below_step (by assumption) ?_) | (with_reducible refine below_alloc ?_ _) | (with_reducible refine Below.drew ?_) | (with_reducible refine below_drewN ?_ _) | (with_reducible refine Below.setCell ?_ ?_ _) | go_size))⟩
      · have HE := Lib.hid (same_succ hI.out HXK.out HYK.out (of_decide_eq_true EQ))
        clear EQ
        go_wp2_with fail
        go_quiet (fail)
        go_wp2
        go_roundw
        case rel => exact ⟨j + 1, by omega, by go_num, HE, (by repeat' (first | (with_reducible exact Below.refl _ _) | (with_reducible assumption) | (with_reducible refine below_step (by assumption) ?_) | (with_reducible refine below_alloc ?_ _) | (with_reducible refine Below.drew ?_) | (with_reducible refine below_drewN ?_ _) | (with_reducible refine Below.setCell ?_ ?_ _) | go_size))⟩
        case measure => simp [intOf]; omega
    · have HE := Lib.hid (show decide (xs = ys) = true by
        have h := hI.out
        rw [List.take_of_length_le (l := ys) (by rw [HY.out]; omega), List.take_of_length_le (l := xs) (by rw [HX.out]; omega)] at h
        exact decide_eq_true h)
      go_wp2
      go_ret
      exact ⟨ret_bool HE.out.symm, (by repeat' (first | (with_reducible exact Below.refl _ _) | (with_reducible assumption) | (with_reducible refine below_step (by assumption) ?_) | (with_reducible refine below_alloc ?_ _) | (with_reducible refine Below.drew ?_) | (with_reducible refine below_drewN ?_ _) | (with_reducible refine Below.setCell ?_ ?_ _) | go_size))⟩

theorem wasB_parts {xs : List EnT} {s : ByteArray} {e : Int} {ys : List EvT} (h : writeB xs s e ys = true) : storeB xs = true ∧ nameB s = true ∧ (-2 ≤ e ∧ e ≤ 23) ∧ eventsB ys = true ∧ 0 < ys.length := by
  unfold writeB at h
  simp only [Bool.and_eq_true, decide_eq_true_eq] at h
  obtain ⟨⟨⟨⟨h1, h2⟩, h3⟩, h4⟩, h5⟩ := h
  exact ⟨h1, h2, inB_iff.1 h3, h4, h5⟩

set_option maxHeartbeats 3200000 in
theorem standAt_any (A : Option Addr) (n c : Nat) (all : List EvT) (i : Nat) (B : Option Addr) (m d : Nat) (ys : List EvT) (hn : n ≤ 1048576) (hnc : n ≤ c) (hx : all.length = n) (hi : i ≤ 1048576) (hm0 : 0 < m) (hm : m ≤ 1048576) (hy : ys.length = m) (w : World) (hL : Lies w 3 A n (all.flatMap eventCells)) (hM : Lies w 3 B m (ys.flatMap eventCells)) :
    Calls Tryd.prog 39 #[.slice A n c, .int .i64 i, .slice B m d] w fun e w' => e = .returned (.bool (hereB all ys i)) ∧ Below w.heap.size w w' := by
  have HX := Lib.hid hx
  have HY := Lib.hid hy
  have HL := Lib.hid hL
  have HM := Lib.hid hM
  obtain ⟨z, hz⟩ : ∃ z, z = i + m := ⟨_, rfl⟩
  have wq : IntKind.i64.wrap ((i : Int) + (m : Int)) = (z : Int) := by rw [show (i : Int) + (m : Int) = (z : Int) by omega]; exact IntWalk.i64_in _ ⟨by omega, by omega⟩
  clear hx hy hL hM
  by_cases hf : n < z
  · have HE := Lib.hid (here_long (all := all) (ys := ys) (i := i) (by rw [HX.out, HY.out]; omega))
    have t1 : decide ((z : Int) ≤ (n : Int)) = false := by simp; omega
    have t2 : ¬ (z : Int) ≤ (n : Int) := by omega
    clear hz
    go_enter Tryd.func39, Tryd.ntmps39
    go_wp2
    go_ret
    exact ⟨ret_bool HE.out.symm, (by repeat' (first | (with_reducible exact Below.refl _ _) | (with_reducible assumption) | (with_reducible refine below_step (by assumption) ?_) | (with_reducible refine below_alloc ?_ _) | (with_reducible refine Below.drew ?_) | (with_reducible refine below_drewN ?_ _) | (with_reducible refine Below.setCell ?_ ?_ _) | go_size))⟩
  obtain ⟨g, o, rfl, _, _⟩ := HL.out.2 (by omega)
  have HF := Lib.hid (here_fits (all := all) (ys := ys) (i := i) (by rw [HX.out, HY.out]; omega))
  have t1 : decide ((z : Int) ≤ (n : Int)) = true := by simp; omega
  have t2 : (z : Int) ≤ (n : Int) := by omega
  have t3 : (i : Int) ≤ (z : Int) := by omega
  have t4 : (z : Int) ≤ (c : Int) := by omega
  have t5 : (0 : Int) ≤ (i : Int) := by omega
  have t6 : i ≤ z := by omega
  have t7 : z ≤ c := by omega
  have t8 : z - i = m := by omega
  have t9 : (i : Int) ≤ (c : Int) := by omega
  obtain ⟨o', mA, HLP⟩ : ∃ o', (if c = i then (some ⟨g, o, none⟩ : Option Addr) else some ⟨g, o + i * 3, none⟩) = some ⟨g, o', none⟩ ∧ Hid (Lies w 3 (some ⟨g, o', none⟩) m (((all.drop i).take m).flatMap eventCells)) := by
    have h := lies_piece (f := eventCells) (K := 3) (fun x => rfl) HX.out HL.out i m (by omega)
    by_cases hc : c = i
    · refine ⟨o, by rw [if_pos hc], Lib.hid ⟨h.1, fun h0 => ?_⟩⟩
      omega
    · exact ⟨_, by rw [if_neg hc], Lib.hid h⟩
  have HLL := Lib.hid (show ((all.drop i).take m).length = m by rw [List.length_take, List.length_drop, HX.out]; omega)
  have HT8 := Lib.hid t8
  clear hz t8
  go_enter Tryd.func39, Tryd.ntmps39
  go_wp2_with fail
  rw [HT8.out]
  refine (equalEv_any _ m _ ((all.drop i).take m) B m d ys hm HLL.out hm HY.out _ HLP.out HM.out).mono ?_
  rintro e1 w1 ⟨rfl, hb1⟩
  go_wp2
  go_ret
  exact ⟨ret_bool (by rw [HF.out, HY.out]), (by repeat' (first | (with_reducible exact Below.refl _ _) | (with_reducible assumption) | (with_reducible refine below_step (by assumption) ?_) | (with_reducible refine below_alloc ?_ _) | (with_reducible refine Below.drew ?_) | (with_reducible refine below_drewN ?_ _) | (with_reducible refine Below.setCell ?_ ?_ _) | go_size))⟩
end Go.Proofs.YtjloonjkplaplaaDoor
