/-
  Events appended to a store, told plainly; what is asked of a version, and entries with further ones: what the reference's and the program's functions return. No condition.
-/
import Derived.Test.YtjloonjkplaplaaDoorBunS
import Derived.Test.YtjloonjkplaplaaDoorIface
namespace Go.Proofs.YtjloonjkplaplaaDoor
open Go.ChangeShapes Go.WideShapes Go.ChangeAt Go.RowKit

def appE (xs : List EnT) (s : ByteArray) (ys : List EvT) : List EnT := xs ++ ys.map (fun y => (s, y))
theorem appE_nil (xs : List EnT) (s : ByteArray) : appE xs s [] = xs := by unfold appE; simp
theorem appE_succ {xs : List EnT} {s : ByteArray} {ys : List EvT} {k : Nat} {y : EvT} (h : ys[k]? = some y) : appE xs s (ys.take (k + 1)) = appE xs s (ys.take k) ++ [(s, y)] := by
  unfold appE; rw [take_succ_of h, List.map_append, List.append_assoc]; rfl
theorem appE_length (xs : List EnT) (s : ByteArray) (ys : List EvT) : (appE xs s ys).length = xs.length + ys.length := by unfold appE; simp
theorem entry_one (xs : List EnT) : ∀ u ∈ xs.flatMap entryCells, u.oneCell' = true := by
  intro u hu
  obtain ⟨x, _, hx⟩ := List.mem_flatMap.1 hu
  simp only [entryCells, List.mem_cons, List.not_mem_nil, or_false] at hx
  rcases hx with rfl | rfl | rfl | rfl <;> rfl
theorem ev_ok {left : Int} {n : Nat} {ys : List EvT} (hl : left ≤ 1048576) (h : 0 ≤ szR left n (ys.flatMap eventTexts)) (hok : ∀ y ∈ ys, eventOk y) : ∀ y ∈ ys, eventOk y ∧ y.2.1.size ≤ 1048576 := fun y hy => by
  refine ⟨hok y hy, ?_⟩
  unfold szR at h
  split at h
  · omega
  · have h2 := szT_all (by omega) h y.2.1 (List.mem_flatMap.2 ⟨y, hy, by simp [eventTexts]⟩)
    omega
/-- What is right of a write's arguments. -/
def writeB (xs : List EnT) (s : ByteArray) (e : Int) (ys : List EvT) : Bool := storeB xs && nameB s && inB e (-2) 23 && eventsB ys && decide (0 < ys.length)
def holdsB (e v : Int) : Bool := inB e (-2) 23 && inB v (-1) 23 && (decide (e = -2) || decide (e = v))
/-- What StoreAppend answers. -/
def appR (xs : List EnT) (s : ByteArray) (e : Int) (ys : List EvT) : List EnT × Int :=
  if writeB xs s e ys then
    (if holdsB e (((evOf s xs).length : Int) - 1) then (if storeB (appE xs s ys) then (appE xs s ys, 0) else ([], 2)) else (xs, 1))
  else ([], 2)
theorem appR_no {xs : List EnT} {s : ByteArray} {e : Int} {ys : List EvT} (h : writeB xs s e ys = false) : appR xs s e ys = ([], 2) := by unfold appR; rw [h]; rfl
theorem appR_yes {xs : List EnT} {s : ByteArray} {e : Int} {ys : List EvT} (h : writeB xs s e ys = true) : appR xs s e ys = (if holdsB e (((evOf s xs).length : Int) - 1) then (if storeB (appE xs s ys) then (appE xs s ys, 0) else ([], 2)) else (xs, 1)) := by unfold appR; rw [h]; rfl
theorem appE_ok {xs : List EnT} {s : ByteArray} {ys : List EvT} (h : StOk xs) (hs : s.size ≤ 1048576) (hy : ∀ y ∈ ys, eventOk y ∧ y.2.1.size ≤ 1048576) : StOk (appE xs s ys) := by
  refine ⟨fun x hx => ?_, fun x hx => ?_⟩
  · rcases List.mem_append.1 hx with g | g
    · exact h.small x g
    · obtain ⟨y, hm, rfl⟩ := List.mem_map.1 g
      exact ⟨hs, (hy y hm).2⟩
  · rcases List.mem_append.1 hx with g | g
    · exact h.ints x g
    · obtain ⟨y, hm, rfl⟩ := List.mem_map.1 g
      exact (hy y hm).1
theorem appR_len (xs : List EnT) (s : ByteArray) (e : Int) (ys : List EvT) (hx : xs.length ≤ 1048576) : (appR xs s e ys).1.length ≤ 1048576 := by
  unfold appR
  split
  · split
    · split
      · rename_i h
        have := ((store_iff _).1 h).1
        show (appE xs s ys).length ≤ _
        omega
      · simp
    · exact hx
  · simp

theorem specExpV_any (n : Int) (w : World) : Calls Tryd.prog 31 #[.int .i64 n] w fun e w' => e = .returned (.bool (inB n (-2) 23)) ∧ Below w.heap.size w w' := by
  by_cases h1 : -2 ≤ n
  · by_cases h2 : n ≤ 23
    · go_enter Tryd.func31, Tryd.ntmps31
      go_wp2
      go_ret
      exact ⟨ret_bool (by rw [inB_t ⟨h1, h2⟩]), by go_grown⟩
    · go_enter Tryd.func31, Tryd.ntmps31
      go_wp2
      go_ret
      exact ⟨ret_bool (by rw [inB_f (by omega)]), by go_grown⟩
  · go_enter Tryd.func31, Tryd.ntmps31
    go_wp2
    go_ret
    exact ⟨ret_bool (by rw [inB_f (by omega)]), by go_grown⟩
theorem implExpV_any (n : Int) (w : World) : Calls Tryd.prog 58 #[.int .i64 n] w fun e w' => e = .returned (.bool (inB n (-2) 23)) ∧ Below w.heap.size w w' := by
  rcases (show n < -2 ∨ n = -2 ∨ n = -1 ∨ (0 ≤ n ∧ n ≤ 23) ∨ 23 < n from by omega) with h | rfl | rfl | ⟨h, h'⟩ | h
  all_goals
    go_enter Tryd.func58, Tryd.ntmps58
    go_wp2
    go_ret
    exact ⟨ret_bool (by first | rfl | (unfold inB; simp; done) | (unfold inB; rw [Bool.eq_iff_iff]; simp; omega) | (rw [inB_f (by omega)]; done) | (rw [inB_t ⟨by omega, by omega⟩]; done)), by go_grown⟩

set_option maxRecDepth 100000 in
set_option maxHeartbeats 1600000 in
theorem specHolds_any (n v : Int) (w : World) : Calls Tryd.prog 44 #[.int .i64 n, .int .i64 v] w fun e w' => e = .returned (.bool (holdsB n v)) ∧ Below w.heap.size w w' := by
  cases e1 : inB n (-2) 23
  · have HE := Lib.hid (show holdsB n v = false by unfold holdsB; rw [e1]; rfl)
    go_enter Tryd.func44, Tryd.ntmps44
    go_wp2_with fail
    refine (specExpV_any n _).mono ?_
    rintro e w1 ⟨rfl, hb1⟩
    rw [e1]
    go_wp2
    go_ret
    exact ⟨ret_bool HE.out.symm, (by repeat' (first | (with_reducible exact Below.refl _ _) | (with_reducible assumption) | (with_reducible refine below_step (by assumption) ?_) | (with_reducible refine below_alloc ?_ _) | (with_reducible refine Below.drew ?_) | (with_reducible refine below_drewN ?_ _) | (with_reducible refine Below.setCell ?_ ?_ _) | go_size))⟩
  cases e2 : inB v (-1) 23
  · have HE := Lib.hid (show holdsB n v = false by unfold holdsB; rw [e1, e2]; rfl)
    go_enter Tryd.func44, Tryd.ntmps44
    go_wp2_with fail
    refine (specExpV_any n _).mono ?_
    rintro e w1 ⟨rfl, hb1⟩
    rw [e1]
    go_wp2_with fail
    refine (l6In_any _ _ _ _).mono ?_
    rintro e w2 ⟨rfl, rfl⟩
    rw [e2]
    go_wp2
    go_ret
    exact ⟨ret_bool HE.out.symm, (by repeat' (first | (with_reducible exact Below.refl _ _) | (with_reducible assumption) | (with_reducible refine below_step (by assumption) ?_) | (with_reducible refine below_alloc ?_ _) | (with_reducible refine Below.drew ?_) | (with_reducible refine below_drewN ?_ _) | (with_reducible refine Below.setCell ?_ ?_ _) | go_size))⟩
  have HV := Lib.hid (show holdsB n v = (decide (n = -2) || decide (n = v)) by unfold holdsB; rw [e1, e2]; rfl)
  have i1 := inB_iff.1 e1
  have i2 := inB_iff.1 e2
  rcases (show n = -2 ∨ (n ≠ -2 ∧ n = v) ∨ (n ≠ -2 ∧ n ≠ v) by omega) with rfl | ⟨q3, rfl⟩ | ⟨q3, q4⟩
  · have q3 := i1
    have q4 := i2
    go_enter Tryd.func44, Tryd.ntmps44
    go_wp2_with fail
    refine (specExpV_any _ _).mono ?_
    rintro e w1 ⟨rfl, hb1⟩
    rw [e1]
    go_wp2_with fail
    refine (l6In_any _ _ _ _).mono ?_
    rintro e w2 ⟨rfl, rfl⟩
    rw [e2]
    go_wp2
    go_ret
    exact ⟨ret_bool (by rw [HV.out]; first | rfl | (simp; done) | (simp [q3]; done) | (simp [q3, q4]; done)), (by repeat' (first | (with_reducible exact Below.refl _ _) | (with_reducible assumption) | (with_reducible refine below_step (by assumption) ?_) | (with_reducible refine below_alloc ?_ _) | (with_reducible refine Below.drew ?_) | (with_reducible refine below_drewN ?_ _) | (with_reducible refine Below.setCell ?_ ?_ _) | go_size))⟩
  · have q1 : (n == -2) = false := by simp [q3]
    have q4 := i2
    go_enter Tryd.func44, Tryd.ntmps44
    go_wp2_with fail
    refine (specExpV_any _ _).mono ?_
    rintro e w1 ⟨rfl, hb1⟩
    rw [e1]
    go_wp2_with fail
    refine (l6In_any _ _ _ _).mono ?_
    rintro e w2 ⟨rfl, rfl⟩
    rw [e2]
    go_wp2
    go_ret
    exact ⟨ret_bool (by rw [HV.out]; first | rfl | (simp; done) | (simp [q3]; done) | (simp [q3, q4]; done)), (by repeat' (first | (with_reducible exact Below.refl _ _) | (with_reducible assumption) | (with_reducible refine below_step (by assumption) ?_) | (with_reducible refine below_alloc ?_ _) | (with_reducible refine Below.drew ?_) | (with_reducible refine below_drewN ?_ _) | (with_reducible refine Below.setCell ?_ ?_ _) | go_size))⟩
  · have q1 : (n == -2) = false := by simp [q3]
    have q2 : (n == v) = false := by simp [q4]
    go_enter Tryd.func44, Tryd.ntmps44
    go_wp2_with fail
    refine (specExpV_any _ _).mono ?_
    rintro e w1 ⟨rfl, hb1⟩
    rw [e1]
    go_wp2_with fail
    refine (l6In_any _ _ _ _).mono ?_
    rintro e w2 ⟨rfl, rfl⟩
    rw [e2]
    go_wp2
    go_ret
    exact ⟨ret_bool (by rw [HV.out]; first | rfl | (simp; done) | (simp [q3]; done) | (simp [q3, q4]; done)), (by repeat' (first | (with_reducible exact Below.refl _ _) | (with_reducible assumption) | (with_reducible refine below_step (by assumption) ?_) | (with_reducible refine below_alloc ?_ _) | (with_reducible refine Below.drew ?_) | (with_reducible refine below_drewN ?_ _) | (with_reducible refine Below.setCell ?_ ?_ _) | go_size))⟩

set_option maxRecDepth 100000 in
set_option maxHeartbeats 1600000 in
theorem implHolds_any (n v : Int) (w : World) : Calls Tryd.prog 46 #[.int .i64 n, .int .i64 v] w fun e w' => e = .returned (.bool (holdsB n v)) ∧ Below w.heap.size w w' := by
  rcases (show v < -1 ∨ 23 < v ∨ v = -1 ∨ (0 ≤ v ∧ v ≤ 23) from by omega) with g | g | g | ⟨g, g'⟩
  all_goals rcases (show n < -2 ∨ n = -2 ∨ n = -1 ∨ (0 ≤ n ∧ n ≤ 23 ∧ n = v) ∨ (0 ≤ n ∧ n ≤ 23 ∧ n ≠ v) ∨ 23 < n from by omega) with h | rfl | rfl | ⟨h, h', rfl⟩ | ⟨h, h', hne⟩ | h
  all_goals try omega
  all_goals try (obtain rfl : v = -1 := g)
  all_goals try (have hd : decide (v ≤ 23) = false := by simp; omega)
  all_goals
    go_enter Tryd.func46, Tryd.ntmps46
    go_wp2
    all_goals first | (go_ret; exact ⟨ret_bool (by first | rfl | (unfold holdsB inB; rw [Bool.eq_iff_iff]; simp; done) | (unfold holdsB inB; rw [Bool.eq_iff_iff]; simp; omega) | (unfold holdsB inB; simp [*]; done) | (unfold holdsB inB; rw [Bool.eq_iff_iff]; simp [*]; omega)), by go_grown⟩) | go_ways
end Go.Proofs.YtjloonjkplaplaaDoor
