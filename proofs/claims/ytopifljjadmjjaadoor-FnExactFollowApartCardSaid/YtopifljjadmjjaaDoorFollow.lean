/-
  What two stores have in common at their beginnings; FollowLeft and FollowApart of the reference and of the program. No condition beyond what the rows list.
-/
import Derived.Test.YtopifljjadmjjaaDoorStoreVer
import Derived.Laws.StructEq
namespace Go.Proofs.YtopifljjadmjjaaDoor
open Go.ChangeShapes Go.WideShapes Go.ChangeAt Go.RowKit

/-- How long the common beginning is. -/
def commonN : List EnT → List EnT → Nat
  | x :: xs, y :: ys => if x = y then commonN xs ys + 1 else 0
  | _, _ => 0
theorem common_le : ∀ xs ys : List EnT, commonN xs ys ≤ xs.length ∧ commonN xs ys ≤ ys.length
  | [], _ => by simp [commonN]
  | _ :: _, [] => by simp [commonN]
  | x :: xs, y :: ys => by
    have := common_le xs ys
    rw [commonN]
    split <;> simp <;> omega
theorem common_step {xs ys : List EnT} {k : Nat} {x y : EnT} (hx : xs[k]? = some x) (hy : ys[k]? = some y) : commonN (xs.drop k) (ys.drop k) = if x = y then commonN (xs.drop (k + 1)) (ys.drop (k + 1)) + 1 else 0 := by
  rw [drop_of hx, drop_of hy, commonN]
theorem common_end {xs ys : List EnT} {k : Nat} (h : xs.length ≤ k ∨ ys.length ≤ k) : commonN (xs.drop k) (ys.drop k) = 0 := by
  rcases h with h | h
  · rw [List.drop_of_length_le h]; rfl
  · rw [List.drop_of_length_le h]
    cases xs.drop k <;> rfl

/-- '==' of two entries. -/
theorem eq_entry (x y : EnT) (w : World) : (binOp .eql 41 (.agg #[.string x.1, .int .i64 x.2.1, .string x.2.2.1, .int .i64 x.2.2.2]) (.agg #[.string y.1, .int .i64 y.2.1, .string y.2.2.1, .int .i64 y.2.2.2])).run Tryd.prog w = .ok (.bool (decide (x = y))) w := by
  obtain ⟨x0, x1, x2, x3⟩ := x
  obtain ⟨y0, y1, y2, y3⟩ := y
  have u3 := Tryd.underlying3
  have a3 := Tryd.isAgg3
  have z3 := Tryd.sizeOf3
  have hS : Tryd.prog.underlying 41 = some (.struct (Tryd.prog.fieldsOf 41)) := by kernel_rfl
  have hp : Tryd.prog.stoodInHeld 41 = false := by kernel_rfl
  have ht : ∀ a b : ByteArray, a.toList = b.toList ↔ a = b := fun a b => by
    rw [ByteArray.toList_eq, ByteArray.toList_eq]
    exact ⟨fun h => ByteArray.ext (Array.ext' h), fun h => by rw [h]⟩
  rw [run_eql_struct, show (10000 : Nat) = 9999 + 1 from rfl, run_equalIn_agg w 9999 41 _ _ hS hp]
  simp only [Program.fieldsOf, Tryd.underlying41]
  go_simp
  by_cases h0 : x0 = y0 <;> by_cases h1 : x1 = y1 <;> by_cases h2 : x2 = y2 <;> by_cases h3 : x3 = y3 <;> simp [h0, h1, h2, h3]

set_option maxHeartbeats 3200000 in
theorem specCommon_any (A B : Option Addr) (n c m d : Nat) (xs ys : List EnT) (hn : n ≤ 1048576) (hx : xs.length = n) (hm : m ≤ 1048576) (hy : ys.length = m) (w : World) (hL : Lies w 4 A n (xs.flatMap entryCells)) (hM : Lies w 4 B m (ys.flatMap entryCells)) :
    Calls Tryd.prog 28 #[.slice A n c, .slice B m d] w fun e w' => e = .returned (.int .i64 (commonN xs ys)) ∧ Below w.heap.size w w' := by
  have HX := Lib.hid hx
  have HY := Lib.hid hy
  clear hx hy
  go_enter Tryd.func28, Tryd.ntmps28
  go_wp2
  go_loopw [5] (fun i wr => ∃ k : Nat, k ≤ n ∧ k ≤ m ∧ i = .int .i64 k ∧ Hid (commonN xs ys = k + commonN (xs.drop k) (ys.drop k)) ∧ Below w.heap.size w wr) (fun i _ => n - (intOf i).toNat)
  case atStart => exact ⟨0, Nat.zero_le _, Nat.zero_le _, rfl, Lib.hid (by simp), Below.refl _ _⟩
  case round =>
    obtain ⟨k, hk, hk2, rfl, hT, hB⟩ := hrel
    by_cases hlt : k < n
    · by_cases hlt2 : k < m
      · obtain ⟨b, o, rfl, hb, hc⟩ := (hL.below hB).row (fun _ => rfl) (by omega)
        obtain ⟨b', o', rfl, hb', hc'⟩ := (hM.below hB).row (fun _ => rfl) (by omega)
        obtain ⟨⟨x0, x1, x2, x3⟩, hxk⟩ := get_lt HX.out hlt
        obtain ⟨⟨y0, y1, y2, y3⟩, hyk⟩ := get_lt HY.out hlt2
        have c0 : wr.cell? ⟨b, o + k * 4, none⟩ = some (.string x0) := hc k _ hxk 0 _ rfl
        have c1 : wr.cell? ⟨b, o + k * 4 + 1, none⟩ = some (.int .i64 x1) := hc k _ hxk 1 _ rfl
        have c2 : wr.cell? ⟨b, o + k * 4 + 2, none⟩ = some (.string x2) := hc k _ hxk 2 _ rfl
        have c3 : wr.cell? ⟨b, o + k * 4 + 3, none⟩ = some (.int .i64 x3) := hc k _ hxk 3 _ rfl
        have d0 : wr.cell? ⟨b', o' + k * 4, none⟩ = some (.string y0) := hc' k _ hyk 0 _ rfl
        have d1 : wr.cell? ⟨b', o' + k * 4 + 1, none⟩ = some (.int .i64 y1) := hc' k _ hyk 1 _ rfl
        have d2 : wr.cell? ⟨b', o' + k * 4 + 2, none⟩ = some (.string y2) := hc' k _ hyk 2 _ rfl
        have d3 : wr.cell? ⟨b', o' + k * 4 + 3, none⟩ = some (.int .i64 y3) := hc' k _ hyk 3 _ rfl
        have HS := Lib.hid (common_step hxk hyk)
        clear hxk hyk hc hc'
        have t1 : decide ((k : Int) < (n : Int)) = true := by simp; omega
        have t2 : decide ((k : Int) < (m : Int)) = true := by simp; omega
        have heq : ∀ W, (binOp .eql 41 (.agg #[.string x0, .int .i64 x1, .string x2, .int .i64 x3]) (.agg #[.string y0, .int .i64 y1, .string y2, .int .i64 y3])).run Tryd.prog W = .ok (.bool (decide ((x0, x1, x2, x3) = (y0, y1, y2, y3)))) W := eq_entry (x0, x1, x2, x3) (y0, y1, y2, y3)
        cases EQ : decide ((x0, x1, x2, x3) = (y0, y1, y2, y3)) <;> rw [EQ] at heq
        · have HE : Hid (commonN xs ys = k) := Lib.hid (by rw [hT.out, HS.out, if_neg (of_decide_eq_false EQ)]; rfl)
          clear EQ HS hT
          go_wp2_with fail
          go_quiet (fail)
          go_wp2
          go_ret
          exact ⟨by rw [HE.out]; rfl, (by repeat' (first | (with_reducible exact Below.refl _ _) | (with_reducible assumption) | (with_reducible refine below_step (by assumption) ?_) | (with_reducible refine below_alloc ?_ _) | (with_reducible refine Below.drew ?_) | (with_reducible refine below_drewN ?_ _) | (with_reducible refine Below.setCell ?_ ?_ _) | go_size))⟩
        · have HE : Hid (commonN xs ys = (k + 1 : Nat) + commonN (xs.drop (k + 1)) (ys.drop (k + 1))) := Lib.hid (by rw [hT.out, HS.out, if_pos (of_decide_eq_true EQ)]; omega)
          clear EQ HS hT
          go_wp2_with fail
          go_quiet (fail)
          go_wp2
          go_roundw
          case rel => exact ⟨k + 1, by omega, by omega, by go_num, HE, (by repeat' (first | (with_reducible exact Below.refl _ _) | (with_reducible assumption) | (with_reducible refine below_step (by assumption) ?_) | (with_reducible refine below_alloc ?_ _) | (with_reducible refine Below.drew ?_) | (with_reducible refine below_drewN ?_ _) | (with_reducible refine Below.setCell ?_ ?_ _) | go_size))⟩
          case measure => simp [intOf]; omega
      · have HE : Hid (commonN xs ys = k) := Lib.hid (by rw [hT.out, common_end (Or.inr (by rw [HY.out]; omega))]; rfl)
        clear hT
        have t1 : decide ((k : Int) < (n : Int)) = true := by simp; omega
        have t2 : decide ((k : Int) < (m : Int)) = false := by simp; omega
        go_wp2_with fail
        go_quiet (fail)
        go_wp2
        go_ret
        exact ⟨by rw [HE.out]; rfl, (by repeat' (first | (with_reducible exact Below.refl _ _) | (with_reducible assumption) | (with_reducible refine below_step (by assumption) ?_) | (with_reducible refine below_alloc ?_ _) | (with_reducible refine Below.drew ?_) | (with_reducible refine below_drewN ?_ _) | (with_reducible refine Below.setCell ?_ ?_ _) | go_size))⟩
    · have HE : Hid (commonN xs ys = k) := Lib.hid (by rw [hT.out, common_end (Or.inl (by rw [HX.out]; omega))]; rfl)
      clear hT
      have t1 : decide ((k : Int) < (n : Int)) = false := by simp; omega
      go_wp2_with fail
      go_quiet (fail)
      go_wp2
      go_ret
      exact ⟨by rw [HE.out]; rfl, (by repeat' (first | (with_reducible exact Below.refl _ _) | (with_reducible assumption) | (with_reducible refine below_step (by assumption) ?_) | (with_reducible refine below_alloc ?_ _) | (with_reducible refine Below.drew ?_) | (with_reducible refine below_drewN ?_ _) | (with_reducible refine Below.setCell ?_ ?_ _) | go_size))⟩

set_option maxHeartbeats 3200000 in
theorem implCommon_any (A B : Option Addr) (n c m d : Nat) (xs ys : List EnT) (hn : n ≤ 1048576) (hx : xs.length = n) (hm : m ≤ 1048576) (hy : ys.length = m) (w : World) (hL : Lies w 4 A n (xs.flatMap entryCells)) (hM : Lies w 4 B m (ys.flatMap entryCells)) :
    Calls Tryd.prog 29 #[.slice A n c, .slice B m d] w fun e w' => e = .returned (.int .i64 (commonN xs ys)) ∧ Below w.heap.size w w' := by
  have HX := Lib.hid hx
  have HY := Lib.hid hy
  clear hx hy
  go_enter Tryd.func29, Tryd.ntmps29
  go_wp2
  go_loopw [5] (fun i wr => ∃ k : Nat, k ≤ n ∧ k ≤ m ∧ i = .int .i64 k ∧ Hid (commonN xs ys = k + commonN (xs.drop k) (ys.drop k)) ∧ Below w.heap.size w wr) (fun i _ => n - (intOf i).toNat)
  case atStart => exact ⟨0, Nat.zero_le _, Nat.zero_le _, rfl, Lib.hid (by simp), Below.refl _ _⟩
  case round =>
    obtain ⟨k, hk, hk2, rfl, hT, hB⟩ := hrel
    by_cases hlt : k < n
    · by_cases hlt2 : k < m
      · obtain ⟨b, o, rfl, hb, hc⟩ := (hL.below hB).row (fun _ => rfl) (by omega)
        obtain ⟨b', o', rfl, hb', hc'⟩ := (hM.below hB).row (fun _ => rfl) (by omega)
        obtain ⟨⟨x0, x1, x2, x3⟩, hxk⟩ := get_lt HX.out hlt
        obtain ⟨⟨y0, y1, y2, y3⟩, hyk⟩ := get_lt HY.out hlt2
        have c0 : wr.cell? ⟨b, o + k * 4, none⟩ = some (.string x0) := hc k _ hxk 0 _ rfl
        have c1 : wr.cell? ⟨b, o + k * 4 + 1, none⟩ = some (.int .i64 x1) := hc k _ hxk 1 _ rfl
        have c2 : wr.cell? ⟨b, o + k * 4 + 2, none⟩ = some (.string x2) := hc k _ hxk 2 _ rfl
        have c3 : wr.cell? ⟨b, o + k * 4 + 3, none⟩ = some (.int .i64 x3) := hc k _ hxk 3 _ rfl
        have d0 : wr.cell? ⟨b', o' + k * 4, none⟩ = some (.string y0) := hc' k _ hyk 0 _ rfl
        have d1 : wr.cell? ⟨b', o' + k * 4 + 1, none⟩ = some (.int .i64 y1) := hc' k _ hyk 1 _ rfl
        have d2 : wr.cell? ⟨b', o' + k * 4 + 2, none⟩ = some (.string y2) := hc' k _ hyk 2 _ rfl
        have d3 : wr.cell? ⟨b', o' + k * 4 + 3, none⟩ = some (.int .i64 y3) := hc' k _ hyk 3 _ rfl
        have HS := Lib.hid (common_step hxk hyk)
        clear hxk hyk hc hc'
        have t1 : decide ((k : Int) < (n : Int)) = true := by simp; omega
        have t2 : decide ((k : Int) < (m : Int)) = true := by simp; omega
        have heq : ∀ W, (binOp .eql 41 (.agg #[.string x0, .int .i64 x1, .string x2, .int .i64 x3]) (.agg #[.string y0, .int .i64 y1, .string y2, .int .i64 y3])).run Tryd.prog W = .ok (.bool (decide ((x0, x1, x2, x3) = (y0, y1, y2, y3)))) W := eq_entry (x0, x1, x2, x3) (y0, y1, y2, y3)
        cases EQ : decide ((x0, x1, x2, x3) = (y0, y1, y2, y3)) <;> rw [EQ] at heq
        · have HE : Hid (commonN xs ys = k) := Lib.hid (by rw [hT.out, HS.out, if_neg (of_decide_eq_false EQ)]; rfl)
          clear EQ HS hT
          go_wp2_with fail
          go_quiet (fail)
          go_wp2
          go_ret
          exact ⟨by rw [HE.out]; rfl, (by repeat' (first | (with_reducible exact Below.refl _ _) | (with_reducible assumption) | (with_reducible refine below_step (by assumption) ?_) | (with_reducible refine below_alloc ?_ _) | (with_reducible refine Below.drew ?_) | (with_reducible refine below_drewN ?_ _) | (with_reducible refine Below.setCell ?_ ?_ _) | go_size))⟩
        · have HE : Hid (commonN xs ys = (k + 1 : Nat) + commonN (xs.drop (k + 1)) (ys.drop (k + 1))) := Lib.hid (by rw [hT.out, HS.out, if_pos (of_decide_eq_true EQ)]; omega)
          clear EQ HS hT
          go_wp2_with fail
          go_quiet (fail)
          go_wp2
          go_roundw
          case rel => exact ⟨k + 1, by omega, by omega, by go_num, HE, (by repeat' (first | (with_reducible exact Below.refl _ _) | (with_reducible assumption) | (with_reducible refine below_step (by assumption) ?_) | (with_reducible refine below_alloc ?_ _) | (with_reducible refine Below.drew ?_) | (with_reducible refine below_drewN ?_ _) | (with_reducible refine Below.setCell ?_ ?_ _) | go_size))⟩
          case measure => simp [intOf]; omega
      · have HE : Hid (commonN xs ys = k) := Lib.hid (by rw [hT.out, common_end (Or.inr (by rw [HY.out]; omega))]; rfl)
        clear hT
        have t1 : decide ((k : Int) < (n : Int)) = true := by simp; omega
        have t2 : decide ((k : Int) < (m : Int)) = false := by simp; omega
        go_wp2_with fail
        go_quiet (fail)
        go_wp2
        go_ret
        exact ⟨by rw [HE.out]; rfl, (by repeat' (first | (with_reducible exact Below.refl _ _) | (with_reducible assumption) | (with_reducible refine below_step (by assumption) ?_) | (with_reducible refine below_alloc ?_ _) | (with_reducible refine Below.drew ?_) | (with_reducible refine below_drewN ?_ _) | (with_reducible refine Below.setCell ?_ ?_ _) | go_size))⟩
    · have HE : Hid (commonN xs ys = k) := Lib.hid (by rw [hT.out, common_end (Or.inl (by rw [HX.out]; omega))]; rfl)
      clear hT
      have t1 : decide ((k : Int) < (n : Int)) = false := by simp; omega
      go_wp2_with fail
      go_quiet (fail)
      go_wp2
      go_ret
      exact ⟨by rw [HE.out]; rfl, (by repeat' (first | (with_reducible exact Below.refl _ _) | (with_reducible assumption) | (with_reducible refine below_step (by assumption) ?_) | (with_reducible refine below_alloc ?_ _) | (with_reducible refine Below.drew ?_) | (with_reducible refine below_drewN ?_ _) | (with_reducible refine Below.setCell ?_ ?_ _) | go_size))⟩


/-- What FollowLeft and FollowApart answer. -/
def leftV (xs ys : List EnT) : Int := if storeB xs && storeB ys && decide (ys.length ≤ commonN xs ys) then (xs.length : Int) - ys.length else -1
def apartV (xs ys : List EnT) : Int := if storeB xs && storeB ys then (if commonN xs ys = xs.length ∨ commonN xs ys = ys.length then -1 else (commonN xs ys : Int)) else -2

set_option maxHeartbeats 3200000 in
theorem specLeft_any (A B : Option Addr) (n c m d : Nat) (xs ys : List EnT) (hnn : n ≤ 1048576) (hx : xs.length = n) (hokx : StOk xs) (hnm : m ≤ 1048576) (hy : ys.length = m) (hoky : StOk ys) (w : World) (hL : Lies w 4 A n (xs.flatMap entryCells)) (hM : Lies w 4 B m (ys.flatMap entryCells)) :
    Calls Tryd.prog 14 #[.slice A n c, .slice B m d] w fun e w' => e = .returned (.int .i64 (leftV xs ys)) ∧ Below w.heap.size w w' := by
  have HX := Lib.hid hx
  have HY := Lib.hid hy
  have HL := Lib.hid hL
  have HM := Lib.hid hM
  clear hx hy hL hM
  cases E1 : storeB xs
  · have HE := Lib.hid (show leftV xs ys = -1 by unfold leftV; rw [E1]; rfl)
    go_enter Tryd.func14, Tryd.ntmps14
    go_wp2_with fail
    refine (specStore_any A n c xs hnn HX.out hokx.small _ HL.out).mono ?_
    rintro e1 w1 ⟨rfl, hb1⟩
    rw [E1]
    go_wp2
    go_ret
    exact ⟨by rw [HE.out]; rfl, (by repeat' (first | (with_reducible exact Below.refl _ _) | (with_reducible assumption) | (with_reducible refine below_step (by assumption) ?_) | (with_reducible refine below_alloc ?_ _) | (with_reducible refine Below.drew ?_) | (with_reducible refine below_drewN ?_ _) | (with_reducible refine Below.setCell ?_ ?_ _) | go_size))⟩
  cases E2 : storeB ys
  · have HE := Lib.hid (show leftV xs ys = -1 by unfold leftV; rw [E1, E2]; rfl)
    go_enter Tryd.func14, Tryd.ntmps14
    go_wp2_with fail
    refine (specStore_any A n c xs hnn HX.out hokx.small _ HL.out).mono ?_
    rintro e1 w1 ⟨rfl, hb1⟩
    rw [E1]
    go_wp2_with fail
    refine (specStore_any B m d ys hnm HY.out hoky.small _ (HM.out.below hb1)).mono ?_
    rintro e2 w2 ⟨rfl, hb2⟩
    rw [E2]
    go_wp2
    go_ret
    exact ⟨by rw [HE.out]; rfl, (by repeat' (first | (with_reducible exact Below.refl _ _) | (with_reducible assumption) | (with_reducible refine below_step (by assumption) ?_) | (with_reducible refine below_alloc ?_ _) | (with_reducible refine Below.drew ?_) | (with_reducible refine below_drewN ?_ _) | (with_reducible refine Below.setCell ?_ ?_ _) | go_size))⟩
  have hcl := common_le xs ys
  rw [HX.out, HY.out] at hcl
  obtain ⟨q, hq⟩ : ∃ q, q = commonN xs ys := ⟨_, rfl⟩
  rw [← hq] at hcl
  by_cases h3 : q < m
  · have HE := Lib.hid (show leftV xs ys = -1 by unfold leftV; rw [E1, E2, ← hq, HX.out, HY.out, show decide (m ≤ q) = false by simp; omega]; rfl)
    have t3 : decide ((q : Int) < (m : Int)) = true := by simp; omega
    have HQ := Lib.hid hq
    clear hq
    go_enter Tryd.func14, Tryd.ntmps14
    go_wp2_with fail
    refine (specStore_any A n c xs hnn HX.out hokx.small _ HL.out).mono ?_
    rintro e1 w1 ⟨rfl, hb1⟩
    rw [E1]
    go_wp2_with fail
    refine (specStore_any B m d ys hnm HY.out hoky.small _ (HM.out.below hb1)).mono ?_
    rintro e2 w2 ⟨rfl, hb2⟩
    rw [E2]
    have HLL := Lib.hid ((HL.out.below hb1).below hb2)
    have HMM := Lib.hid ((HM.out.below hb1).below hb2)
    go_wp2_with fail
    refine (specCommon_any A B n c m d xs ys hnn HX.out hnm HY.out _ HLL.out HMM.out).mono ?_
    rintro e3 w3 ⟨rfl, hb3⟩
    rw [← HQ.out]
    go_wp2
    go_ret
    exact ⟨by rw [HE.out]; rfl, (by repeat' (first | (with_reducible exact Below.refl _ _) | (with_reducible assumption) | (with_reducible refine below_step (by assumption) ?_) | (with_reducible refine below_alloc ?_ _) | (with_reducible refine Below.drew ?_) | (with_reducible refine below_drewN ?_ _) | (with_reducible refine Below.setCell ?_ ?_ _) | go_size))⟩
  · have HE := Lib.hid (show leftV xs ys = (n : Int) - m by unfold leftV; rw [E1, E2, ← hq, HX.out, HY.out, show decide (m ≤ q) = true by simp; omega]; rfl)
    have t3 : decide ((q : Int) < (m : Int)) = false := by simp; omega
    have HQ := Lib.hid hq
    clear hq
    go_enter Tryd.func14, Tryd.ntmps14
    go_wp2_with fail
    refine (specStore_any A n c xs hnn HX.out hokx.small _ HL.out).mono ?_
    rintro e1 w1 ⟨rfl, hb1⟩
    rw [E1]
    go_wp2_with fail
    refine (specStore_any B m d ys hnm HY.out hoky.small _ (HM.out.below hb1)).mono ?_
    rintro e2 w2 ⟨rfl, hb2⟩
    rw [E2]
    have HLL := Lib.hid ((HL.out.below hb1).below hb2)
    have HMM := Lib.hid ((HM.out.below hb1).below hb2)
    go_wp2_with fail
    refine (specCommon_any A B n c m d xs ys hnn HX.out hnm HY.out _ HLL.out HMM.out).mono ?_
    rintro e3 w3 ⟨rfl, hb3⟩
    rw [← HQ.out]
    go_wp2
    go_ret
    exact ⟨by rw [HE.out]; first | rfl | (simp; done) | (simp; omega), (by repeat' (first | (with_reducible exact Below.refl _ _) | (with_reducible assumption) | (with_reducible refine below_step (by assumption) ?_) | (with_reducible refine below_alloc ?_ _) | (with_reducible refine Below.drew ?_) | (with_reducible refine below_drewN ?_ _) | (with_reducible refine Below.setCell ?_ ?_ _) | go_size))⟩
theorem specLeft_at (lo hi : Nat) (v : Value) (lo' hi' : Nat) (v' : Value) (xs ys : List EnT) (hokx : StOk xs) (hoky : StOk ys) (w : World) (h : entrySAt w lo hi v xs) (h' : entrySAt w lo' hi' v' ys) :
    Calls Tryd.prog 14 #[v, v'] w fun e w' => e = .returned (.int .i64 (leftV xs ys)) ∧ Below w.heap.size w w' := by
  obtain ⟨g, m, c, rfl, hx, hb, _, _, ho⟩ := h.open
  obtain ⟨g', m', c', rfl, hx', hb', _, _, ho'⟩ := h'.open
  exact specLeft_any _ _ _ _ _ _ xs ys hb hx hokx hb' hx' hoky w (lies_of_own ho) (lies_of_own ho')

set_option maxHeartbeats 3200000 in
theorem implLeft_any (A B : Option Addr) (n c m d : Nat) (xs ys : List EnT) (hnn : n ≤ 1048576) (hx : xs.length = n) (hokx : StOk xs) (hnm : m ≤ 1048576) (hy : ys.length = m) (hoky : StOk ys) (w : World) (a : Addr) (hS : Sent a w) (hM' : MaxL w) (hL : Lies w 4 A n (xs.flatMap entryCells)) (hM : Lies w 4 B m (ys.flatMap entryCells)) :
    Calls Tryd.prog 15 #[.slice A n c, .slice B m d] w fun e w' => e = .returned (.int .i64 (leftV xs ys)) ∧ Below w.heap.size w w' := by
  have HX := Lib.hid hx
  have HY := Lib.hid hy
  have HL := Lib.hid hL
  have HM := Lib.hid hM
  clear hx hy hL hM
  cases E1 : storeB xs
  · have HE := Lib.hid (show leftV xs ys = -1 by unfold leftV; rw [E1]; rfl)
    go_enter Tryd.func15, Tryd.ntmps15
    go_wp2_with fail
    refine (implStore_any A n c xs hnn HX.out hokx.small hokx.ints _ a hS hM' HL.out).mono ?_
    rintro e1 w1 ⟨rfl, hb1⟩
    rw [E1]
    go_wp2
    go_ret
    exact ⟨by rw [HE.out]; rfl, (by repeat' (first | (with_reducible exact Below.refl _ _) | (with_reducible assumption) | (with_reducible refine below_step (by assumption) ?_) | (with_reducible refine below_alloc ?_ _) | (with_reducible refine Below.drew ?_) | (with_reducible refine below_drewN ?_ _) | (with_reducible refine Below.setCell ?_ ?_ _) | go_size))⟩
  cases E2 : storeB ys
  · have HE := Lib.hid (show leftV xs ys = -1 by unfold leftV; rw [E1, E2]; rfl)
    go_enter Tryd.func15, Tryd.ntmps15
    go_wp2_with fail
    refine (implStore_any A n c xs hnn HX.out hokx.small hokx.ints _ a hS hM' HL.out).mono ?_
    rintro e1 w1 ⟨rfl, hb1⟩
    rw [E1]
    go_wp2_with fail
    refine (implStore_any B m d ys hnm HY.out hoky.small hoky.ints _ a (hS.below hb1 (Nat.le_refl _)) (hM'.below hb1) (HM.out.below hb1)).mono ?_
    rintro e2 w2 ⟨rfl, hb2⟩
    rw [E2]
    go_wp2
    go_ret
    exact ⟨by rw [HE.out]; rfl, (by repeat' (first | (with_reducible exact Below.refl _ _) | (with_reducible assumption) | (with_reducible refine below_step (by assumption) ?_) | (with_reducible refine below_alloc ?_ _) | (with_reducible refine Below.drew ?_) | (with_reducible refine below_drewN ?_ _) | (with_reducible refine Below.setCell ?_ ?_ _) | go_size))⟩
  have hcl := common_le xs ys
  rw [HX.out, HY.out] at hcl
  obtain ⟨q, hq⟩ : ∃ q, q = commonN xs ys := ⟨_, rfl⟩
  rw [← hq] at hcl
  by_cases h3 : q < m
  · have HE := Lib.hid (show leftV xs ys = -1 by unfold leftV; rw [E1, E2, ← hq, HX.out, HY.out, show decide (m ≤ q) = false by simp; omega]; rfl)
    have t3 : decide ((q : Int) < (m : Int)) = true := by simp; omega
    have HQ := Lib.hid hq
    clear hq
    go_enter Tryd.func15, Tryd.ntmps15
    go_wp2_with fail
    refine (implStore_any A n c xs hnn HX.out hokx.small hokx.ints _ a hS hM' HL.out).mono ?_
    rintro e1 w1 ⟨rfl, hb1⟩
    rw [E1]
    go_wp2_with fail
    refine (implStore_any B m d ys hnm HY.out hoky.small hoky.ints _ a (hS.below hb1 (Nat.le_refl _)) (hM'.below hb1) (HM.out.below hb1)).mono ?_
    rintro e2 w2 ⟨rfl, hb2⟩
    rw [E2]
    have HLL := Lib.hid ((HL.out.below hb1).below hb2)
    have HMM := Lib.hid ((HM.out.below hb1).below hb2)
    go_wp2_with fail
    refine (implCommon_any A B n c m d xs ys hnn HX.out hnm HY.out _ HLL.out HMM.out).mono ?_
    rintro e3 w3 ⟨rfl, hb3⟩
    rw [← HQ.out]
    go_wp2
    go_ret
    exact ⟨by rw [HE.out]; rfl, (by repeat' (first | (with_reducible exact Below.refl _ _) | (with_reducible assumption) | (with_reducible refine below_step (by assumption) ?_) | (with_reducible refine below_alloc ?_ _) | (with_reducible refine Below.drew ?_) | (with_reducible refine below_drewN ?_ _) | (with_reducible refine Below.setCell ?_ ?_ _) | go_size))⟩
  · have HE := Lib.hid (show leftV xs ys = (n : Int) - m by unfold leftV; rw [E1, E2, ← hq, HX.out, HY.out, show decide (m ≤ q) = true by simp; omega]; rfl)
    have t3 : decide ((q : Int) < (m : Int)) = false := by simp; omega
    have HQ := Lib.hid hq
    clear hq
    go_enter Tryd.func15, Tryd.ntmps15
    go_wp2_with fail
    refine (implStore_any A n c xs hnn HX.out hokx.small hokx.ints _ a hS hM' HL.out).mono ?_
    rintro e1 w1 ⟨rfl, hb1⟩
    rw [E1]
    go_wp2_with fail
    refine (implStore_any B m d ys hnm HY.out hoky.small hoky.ints _ a (hS.below hb1 (Nat.le_refl _)) (hM'.below hb1) (HM.out.below hb1)).mono ?_
    rintro e2 w2 ⟨rfl, hb2⟩
    rw [E2]
    have HLL := Lib.hid ((HL.out.below hb1).below hb2)
    have HMM := Lib.hid ((HM.out.below hb1).below hb2)
    go_wp2_with fail
    refine (implCommon_any A B n c m d xs ys hnn HX.out hnm HY.out _ HLL.out HMM.out).mono ?_
    rintro e3 w3 ⟨rfl, hb3⟩
    rw [← HQ.out]
    go_wp2
    go_ret
    exact ⟨by rw [HE.out]; first | rfl | (simp; done) | (simp; omega), (by repeat' (first | (with_reducible exact Below.refl _ _) | (with_reducible assumption) | (with_reducible refine below_step (by assumption) ?_) | (with_reducible refine below_alloc ?_ _) | (with_reducible refine Below.drew ?_) | (with_reducible refine below_drewN ?_ _) | (with_reducible refine Below.setCell ?_ ?_ _) | go_size))⟩
theorem implLeft_at (lo hi : Nat) (v : Value) (lo' hi' : Nat) (v' : Value) (xs ys : List EnT) (hokx : StOk xs) (hoky : StOk ys) (w : World) (a : Addr) (hS : Sent a w) (hM : MaxL w) (h : entrySAt w lo hi v xs) (h' : entrySAt w lo' hi' v' ys) :
    Calls Tryd.prog 15 #[v, v'] w fun e w' => e = .returned (.int .i64 (leftV xs ys)) ∧ Below w.heap.size w w' := by
  obtain ⟨g, m, c, rfl, hx, hb, _, _, ho⟩ := h.open
  obtain ⟨g', m', c', rfl, hx', hb', _, _, ho'⟩ := h'.open
  exact implLeft_any _ _ _ _ _ _ xs ys hb hx hokx hb' hx' hoky w a hS hM (lies_of_own ho) (lies_of_own ho')

set_option maxHeartbeats 3200000 in
theorem specApart_any (A B : Option Addr) (n c m d : Nat) (xs ys : List EnT) (hnn : n ≤ 1048576) (hx : xs.length = n) (hokx : StOk xs) (hnm : m ≤ 1048576) (hy : ys.length = m) (hoky : StOk ys) (w : World) (hL : Lies w 4 A n (xs.flatMap entryCells)) (hM : Lies w 4 B m (ys.flatMap entryCells)) :
    Calls Tryd.prog 16 #[.slice A n c, .slice B m d] w fun e w' => e = .returned (.int .i64 (apartV xs ys)) ∧ Below w.heap.size w w' := by
  have HX := Lib.hid hx
  have HY := Lib.hid hy
  have HL := Lib.hid hL
  have HM := Lib.hid hM
  clear hx hy hL hM
  cases E1 : storeB xs
  · have HE := Lib.hid (show apartV xs ys = -2 by unfold apartV; rw [E1]; rfl)
    go_enter Tryd.func16, Tryd.ntmps16
    go_wp2_with fail
    refine (specStore_any A n c xs hnn HX.out hokx.small _ HL.out).mono ?_
    rintro e1 w1 ⟨rfl, hb1⟩
    rw [E1]
    go_wp2
    go_ret
    exact ⟨by rw [HE.out]; rfl, (by repeat' (first | (with_reducible exact Below.refl _ _) | (with_reducible assumption) | (with_reducible refine below_step (by assumption) ?_) | (with_reducible refine below_alloc ?_ _) | (with_reducible refine Below.drew ?_) | (with_reducible refine below_drewN ?_ _) | (with_reducible refine Below.setCell ?_ ?_ _) | go_size))⟩
  cases E2 : storeB ys
  · have HE := Lib.hid (show apartV xs ys = -2 by unfold apartV; rw [E1, E2]; rfl)
    go_enter Tryd.func16, Tryd.ntmps16
    go_wp2_with fail
    refine (specStore_any A n c xs hnn HX.out hokx.small _ HL.out).mono ?_
    rintro e1 w1 ⟨rfl, hb1⟩
    rw [E1]
    go_wp2_with fail
    refine (specStore_any B m d ys hnm HY.out hoky.small _ (HM.out.below hb1)).mono ?_
    rintro e2 w2 ⟨rfl, hb2⟩
    rw [E2]
    go_wp2
    go_ret
    exact ⟨by rw [HE.out]; rfl, (by repeat' (first | (with_reducible exact Below.refl _ _) | (with_reducible assumption) | (with_reducible refine below_step (by assumption) ?_) | (with_reducible refine below_alloc ?_ _) | (with_reducible refine Below.drew ?_) | (with_reducible refine below_drewN ?_ _) | (with_reducible refine Below.setCell ?_ ?_ _) | go_size))⟩
  have hcl := common_le xs ys
  rw [HX.out, HY.out] at hcl
  obtain ⟨q, hq⟩ : ∃ q, q = commonN xs ys := ⟨_, rfl⟩
  rw [← hq] at hcl
  by_cases h3 : q = n
  · have HE := Lib.hid (show apartV xs ys = -1 by unfold apartV; rw [E1, E2, ← hq, HX.out, HY.out]; simp [h3])
    have t3 : ((q : Int) == (n : Int)) = true := by simp; omega
    have HQ := Lib.hid hq
    clear hq
    go_enter Tryd.func16, Tryd.ntmps16
    go_wp2_with fail
    refine (specStore_any A n c xs hnn HX.out hokx.small _ HL.out).mono ?_
    rintro e1 w1 ⟨rfl, hb1⟩
    rw [E1]
    go_wp2_with fail
    refine (specStore_any B m d ys hnm HY.out hoky.small _ (HM.out.below hb1)).mono ?_
    rintro e2 w2 ⟨rfl, hb2⟩
    rw [E2]
    have HLL := Lib.hid ((HL.out.below hb1).below hb2)
    have HMM := Lib.hid ((HM.out.below hb1).below hb2)
    go_wp2_with fail
    refine (specCommon_any A B n c m d xs ys hnn HX.out hnm HY.out _ HLL.out HMM.out).mono ?_
    rintro e3 w3 ⟨rfl, hb3⟩
    rw [← HQ.out]
    go_wp2
    go_ret
    exact ⟨by rw [HE.out]; first | rfl | (simp; done) | (simp; omega), (by repeat' (first | (with_reducible exact Below.refl _ _) | (with_reducible assumption) | (with_reducible refine below_step (by assumption) ?_) | (with_reducible refine below_alloc ?_ _) | (with_reducible refine Below.drew ?_) | (with_reducible refine below_drewN ?_ _) | (with_reducible refine Below.setCell ?_ ?_ _) | go_size))⟩
  by_cases h4 : q = m
  · have HE := Lib.hid (show apartV xs ys = -1 by unfold apartV; rw [E1, E2, ← hq, HX.out, HY.out]; simp [h4])
    have t3 : ((q : Int) == (n : Int)) = false := by simp; omega
    have t4 : ((q : Int) == (m : Int)) = true := by simp; omega
    have HQ := Lib.hid hq
    clear hq
    go_enter Tryd.func16, Tryd.ntmps16
    go_wp2_with fail
    refine (specStore_any A n c xs hnn HX.out hokx.small _ HL.out).mono ?_
    rintro e1 w1 ⟨rfl, hb1⟩
    rw [E1]
    go_wp2_with fail
    refine (specStore_any B m d ys hnm HY.out hoky.small _ (HM.out.below hb1)).mono ?_
    rintro e2 w2 ⟨rfl, hb2⟩
    rw [E2]
    have HLL := Lib.hid ((HL.out.below hb1).below hb2)
    have HMM := Lib.hid ((HM.out.below hb1).below hb2)
    go_wp2_with fail
    refine (specCommon_any A B n c m d xs ys hnn HX.out hnm HY.out _ HLL.out HMM.out).mono ?_
    rintro e3 w3 ⟨rfl, hb3⟩
    rw [← HQ.out]
    go_wp2
    go_ret
    exact ⟨by rw [HE.out]; first | rfl | (simp; done) | (simp; omega), (by repeat' (first | (with_reducible exact Below.refl _ _) | (with_reducible assumption) | (with_reducible refine below_step (by assumption) ?_) | (with_reducible refine below_alloc ?_ _) | (with_reducible refine Below.drew ?_) | (with_reducible refine below_drewN ?_ _) | (with_reducible refine Below.setCell ?_ ?_ _) | go_size))⟩
  · have HE := Lib.hid (show apartV xs ys = (q : Int) by unfold apartV; rw [E1, E2, ← hq, HX.out, HY.out]; simp [h3, h4])
    have t3 : ((q : Int) == (n : Int)) = false := by simp; omega
    have t4 : ((q : Int) == (m : Int)) = false := by simp; omega
    have HQ := Lib.hid hq
    clear hq
    go_enter Tryd.func16, Tryd.ntmps16
    go_wp2_with fail
    refine (specStore_any A n c xs hnn HX.out hokx.small _ HL.out).mono ?_
    rintro e1 w1 ⟨rfl, hb1⟩
    rw [E1]
    go_wp2_with fail
    refine (specStore_any B m d ys hnm HY.out hoky.small _ (HM.out.below hb1)).mono ?_
    rintro e2 w2 ⟨rfl, hb2⟩
    rw [E2]
    have HLL := Lib.hid ((HL.out.below hb1).below hb2)
    have HMM := Lib.hid ((HM.out.below hb1).below hb2)
    go_wp2_with fail
    refine (specCommon_any A B n c m d xs ys hnn HX.out hnm HY.out _ HLL.out HMM.out).mono ?_
    rintro e3 w3 ⟨rfl, hb3⟩
    rw [← HQ.out]
    go_wp2
    go_ret
    exact ⟨by rw [HE.out]; first | rfl | (simp; done) | (simp; omega), (by repeat' (first | (with_reducible exact Below.refl _ _) | (with_reducible assumption) | (with_reducible refine below_step (by assumption) ?_) | (with_reducible refine below_alloc ?_ _) | (with_reducible refine Below.drew ?_) | (with_reducible refine below_drewN ?_ _) | (with_reducible refine Below.setCell ?_ ?_ _) | go_size))⟩
theorem specApart_at (lo hi : Nat) (v : Value) (lo' hi' : Nat) (v' : Value) (xs ys : List EnT) (hokx : StOk xs) (hoky : StOk ys) (w : World) (h : entrySAt w lo hi v xs) (h' : entrySAt w lo' hi' v' ys) :
    Calls Tryd.prog 16 #[v, v'] w fun e w' => e = .returned (.int .i64 (apartV xs ys)) ∧ Below w.heap.size w w' := by
  obtain ⟨g, m, c, rfl, hx, hb, _, _, ho⟩ := h.open
  obtain ⟨g', m', c', rfl, hx', hb', _, _, ho'⟩ := h'.open
  exact specApart_any _ _ _ _ _ _ xs ys hb hx hokx hb' hx' hoky w (lies_of_own ho) (lies_of_own ho')

set_option maxHeartbeats 3200000 in
theorem implApart_any (A B : Option Addr) (n c m d : Nat) (xs ys : List EnT) (hnn : n ≤ 1048576) (hx : xs.length = n) (hokx : StOk xs) (hnm : m ≤ 1048576) (hy : ys.length = m) (hoky : StOk ys) (w : World) (a : Addr) (hS : Sent a w) (hM' : MaxL w) (hL : Lies w 4 A n (xs.flatMap entryCells)) (hM : Lies w 4 B m (ys.flatMap entryCells)) :
    Calls Tryd.prog 17 #[.slice A n c, .slice B m d] w fun e w' => e = .returned (.int .i64 (apartV xs ys)) ∧ Below w.heap.size w w' := by
  have HX := Lib.hid hx
  have HY := Lib.hid hy
  have HL := Lib.hid hL
  have HM := Lib.hid hM
  clear hx hy hL hM
  cases E1 : storeB xs
  · have HE := Lib.hid (show apartV xs ys = -2 by unfold apartV; rw [E1]; rfl)
    go_enter Tryd.func17, Tryd.ntmps17
    go_wp2_with fail
    refine (implStore_any A n c xs hnn HX.out hokx.small hokx.ints _ a hS hM' HL.out).mono ?_
    rintro e1 w1 ⟨rfl, hb1⟩
    rw [E1]
    go_wp2
    go_ret
    exact ⟨by rw [HE.out]; rfl, (by repeat' (first | (with_reducible exact Below.refl _ _) | (with_reducible assumption) | (with_reducible refine below_step (by assumption) ?_) | (with_reducible refine below_alloc ?_ _) | (with_reducible refine Below.drew ?_) | (with_reducible refine below_drewN ?_ _) | (with_reducible refine Below.setCell ?_ ?_ _) | go_size))⟩
  cases E2 : storeB ys
  · have HE := Lib.hid (show apartV xs ys = -2 by unfold apartV; rw [E1, E2]; rfl)
    go_enter Tryd.func17, Tryd.ntmps17
    go_wp2_with fail
    refine (implStore_any A n c xs hnn HX.out hokx.small hokx.ints _ a hS hM' HL.out).mono ?_
    rintro e1 w1 ⟨rfl, hb1⟩
    rw [E1]
    go_wp2_with fail
    refine (implStore_any B m d ys hnm HY.out hoky.small hoky.ints _ a (hS.below hb1 (Nat.le_refl _)) (hM'.below hb1) (HM.out.below hb1)).mono ?_
    rintro e2 w2 ⟨rfl, hb2⟩
    rw [E2]
    go_wp2
    go_ret
    exact ⟨by rw [HE.out]; rfl, (by repeat' (first | (with_reducible exact Below.refl _ _) | (with_reducible assumption) | (with_reducible refine below_step (by assumption) ?_) | (with_reducible refine below_alloc ?_ _) | (with_reducible refine Below.drew ?_) | (with_reducible refine below_drewN ?_ _) | (with_reducible refine Below.setCell ?_ ?_ _) | go_size))⟩
  have hcl := common_le xs ys
  rw [HX.out, HY.out] at hcl
  obtain ⟨q, hq⟩ : ∃ q, q = commonN xs ys := ⟨_, rfl⟩
  rw [← hq] at hcl
  by_cases h3 : q = n
  · have HE := Lib.hid (show apartV xs ys = -1 by unfold apartV; rw [E1, E2, ← hq, HX.out, HY.out]; simp [h3])
    have t3 : ((q : Int) == (n : Int)) = true := by simp; omega
    have HQ := Lib.hid hq
    clear hq
    go_enter Tryd.func17, Tryd.ntmps17
    go_wp2_with fail
    refine (implStore_any A n c xs hnn HX.out hokx.small hokx.ints _ a hS hM' HL.out).mono ?_
    rintro e1 w1 ⟨rfl, hb1⟩
    rw [E1]
    go_wp2_with fail
    refine (implStore_any B m d ys hnm HY.out hoky.small hoky.ints _ a (hS.below hb1 (Nat.le_refl _)) (hM'.below hb1) (HM.out.below hb1)).mono ?_
    rintro e2 w2 ⟨rfl, hb2⟩
    rw [E2]
    have HLL := Lib.hid ((HL.out.below hb1).below hb2)
    have HMM := Lib.hid ((HM.out.below hb1).below hb2)
    go_wp2_with fail
    refine (implCommon_any A B n c m d xs ys hnn HX.out hnm HY.out _ HLL.out HMM.out).mono ?_
    rintro e3 w3 ⟨rfl, hb3⟩
    rw [← HQ.out]
    go_wp2
    go_ret
    exact ⟨by rw [HE.out]; first | rfl | (simp; done) | (simp; omega), (by repeat' (first | (with_reducible exact Below.refl _ _) | (with_reducible assumption) | (with_reducible refine below_step (by assumption) ?_) | (with_reducible refine below_alloc ?_ _) | (with_reducible refine Below.drew ?_) | (with_reducible refine below_drewN ?_ _) | (with_reducible refine Below.setCell ?_ ?_ _) | go_size))⟩
  by_cases h4 : q = m
  · have HE := Lib.hid (show apartV xs ys = -1 by unfold apartV; rw [E1, E2, ← hq, HX.out, HY.out]; simp [h4])
    have t3 : ((q : Int) == (n : Int)) = false := by simp; omega
    have t4 : ((q : Int) == (m : Int)) = true := by simp; omega
    have HQ := Lib.hid hq
    clear hq
    go_enter Tryd.func17, Tryd.ntmps17
    go_wp2_with fail
    refine (implStore_any A n c xs hnn HX.out hokx.small hokx.ints _ a hS hM' HL.out).mono ?_
    rintro e1 w1 ⟨rfl, hb1⟩
    rw [E1]
    go_wp2_with fail
    refine (implStore_any B m d ys hnm HY.out hoky.small hoky.ints _ a (hS.below hb1 (Nat.le_refl _)) (hM'.below hb1) (HM.out.below hb1)).mono ?_
    rintro e2 w2 ⟨rfl, hb2⟩
    rw [E2]
    have HLL := Lib.hid ((HL.out.below hb1).below hb2)
    have HMM := Lib.hid ((HM.out.below hb1).below hb2)
    go_wp2_with fail
    refine (implCommon_any A B n c m d xs ys hnn HX.out hnm HY.out _ HLL.out HMM.out).mono ?_
    rintro e3 w3 ⟨rfl, hb3⟩
    rw [← HQ.out]
    go_wp2
    go_ret
    exact ⟨by rw [HE.out]; first | rfl | (simp; done) | (simp; omega), (by repeat' (first | (with_reducible exact Below.refl _ _) | (with_reducible assumption) | (with_reducible refine below_step (by assumption) ?_) | (with_reducible refine below_alloc ?_ _) | (with_reducible refine Below.drew ?_) | (with_reducible refine below_drewN ?_ _) | (with_reducible refine Below.setCell ?_ ?_ _) | go_size))⟩
  · have HE := Lib.hid (show apartV xs ys = (q : Int) by unfold apartV; rw [E1, E2, ← hq, HX.out, HY.out]; simp [h3, h4])
    have t3 : ((q : Int) == (n : Int)) = false := by simp; omega
    have t4 : ((q : Int) == (m : Int)) = false := by simp; omega
    have HQ := Lib.hid hq
    clear hq
    go_enter Tryd.func17, Tryd.ntmps17
    go_wp2_with fail
    refine (implStore_any A n c xs hnn HX.out hokx.small hokx.ints _ a hS hM' HL.out).mono ?_
    rintro e1 w1 ⟨rfl, hb1⟩
    rw [E1]
    go_wp2_with fail
    refine (implStore_any B m d ys hnm HY.out hoky.small hoky.ints _ a (hS.below hb1 (Nat.le_refl _)) (hM'.below hb1) (HM.out.below hb1)).mono ?_
    rintro e2 w2 ⟨rfl, hb2⟩
    rw [E2]
    have HLL := Lib.hid ((HL.out.below hb1).below hb2)
    have HMM := Lib.hid ((HM.out.below hb1).below hb2)
    go_wp2_with fail
    refine (implCommon_any A B n c m d xs ys hnn HX.out hnm HY.out _ HLL.out HMM.out).mono ?_
    rintro e3 w3 ⟨rfl, hb3⟩
    rw [← HQ.out]
    go_wp2
    go_ret
    exact ⟨by rw [HE.out]; first | rfl | (simp; done) | (simp; omega), (by repeat' (first | (with_reducible exact Below.refl _ _) | (with_reducible assumption) | (with_reducible refine below_step (by assumption) ?_) | (with_reducible refine below_alloc ?_ _) | (with_reducible refine Below.drew ?_) | (with_reducible refine below_drewN ?_ _) | (with_reducible refine Below.setCell ?_ ?_ _) | go_size))⟩
theorem implApart_at (lo hi : Nat) (v : Value) (lo' hi' : Nat) (v' : Value) (xs ys : List EnT) (hokx : StOk xs) (hoky : StOk ys) (w : World) (a : Addr) (hS : Sent a w) (hM : MaxL w) (h : entrySAt w lo hi v xs) (h' : entrySAt w lo' hi' v' ys) :
    Calls Tryd.prog 17 #[v, v'] w fun e w' => e = .returned (.int .i64 (apartV xs ys)) ∧ Below w.heap.size w w' := by
  obtain ⟨g, m, c, rfl, hx, hb, _, _, ho⟩ := h.open
  obtain ⟨g', m', c', rfl, hx', hb', _, _, ho'⟩ := h'.open
  exact implApart_any _ _ _ _ _ _ xs ys hb hx hokx hb' hx' hoky w a hS hM (lies_of_own ho) (lies_of_own ho')

end Go.Proofs.YtopifljjadmjjaaDoor
