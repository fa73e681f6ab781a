/-
  StoreAppend of the reference. No condition beyond what the rows list.
-/
import Derived.Test.YtjloonjkplaplaaDoorAppP
import Derived.Test.YtjloonjkplaplaaDoorKEntry
namespace Go.Proofs.YtjloonjkplaplaaDoor
open Go.ChangeShapes Go.WideShapes Go.ChangeAt Go.RowKit
set_option maxHeartbeats 6400000 in
theorem l4App_any (gA oA n c : Nat) (xs : List EnT) (s : ByteArray) (B : Option Addr) (m d : Nat) (ys : List EvT) (hn : n ≤ 1048576) (hx : xs.length = n) (hm : m ≤ 24) (hy : ys.length = m) (w : World) (hL : Lies w 4 (some ⟨gA, oA, none⟩) n (xs.flatMap entryCells)) (hM : Lies w 3 B m (ys.flatMap eventCells)) :
    Calls Tryd.prog 45 #[.slice (some ⟨gA, oA, none⟩) n c, .string s, .slice B m d] w fun e w' => ∃ g k cap, e = .returned (.slice (some ⟨g, 0, none⟩) k cap) ∧ (appE xs s ys).length = k ∧ w'.ownsRow w.heap.size 57 4 (.slice (some ⟨g, 0, none⟩) k cap) k ((appE xs s ys).flatMap entryCells) ∧ Below w.heap.size w w' := by
  have HX := Lib.hid hx
  have HY := Lib.hid hy
  have HL := Lib.hid hL
  have HM := Lib.hid hM
  clear hx hy hL hM
  have BZ : Below w.heap.size w (w.alloc (.cells #[] 57)) := below_alloc (Below.refl _ _) _
  go_enter Tryd.func45, Tryd.ntmps45
  go_wp2_with (at_builtin; refine wpList_appS rfl _ _ 27 57 4 48 rowEntry rfl w.heap.size w.heap.size 0 0 [] (owns_nil w _ _) rfl gA oA n c _ rfl (HL.out.below BZ) (entry_one xs) (by unfold maxLen; omega) (by omega) (by simp) ?_; intro g1 c1 w1 ho1 hg1; have HO1 := Lib.hid ho1; have hB1 := below_grown BZ hg1 (Nat.le_refl _) BZ.size; clear ho1 hg1)
  simp only [Nat.zero_add, List.nil_append] at HO1
  go_loopw [7, 8] (fun l i wr => ∃ (k g m' cp : Nat), k ≤ m ∧ i = .int .i64 k ∧ l = .slice (some ⟨g, 0, none⟩) m' cp ∧ Hid ((appE xs s (ys.take k)).length = m') ∧ wr.ownsRow w.heap.size 57 4 (.slice (some ⟨g, 0, none⟩) m' cp) m' ((appE xs s (ys.take k)).flatMap entryCells) ∧ Below w.heap.size w wr) (fun _ i _ => m - (intOf i).toNat)
  case atStart => exact ⟨0, g1, n, c1, Nat.zero_le _, rfl, by simp, Lib.hid (by rw [List.take_zero, appE_nil]; exact HX.out), by rw [List.take_zero, appE_nil]; exact HO1.out, hB1⟩
  case round =>
    obtain ⟨k, g, m', cp, hk, rfl, rfl, hlen, ho, hB⟩ := hrel
    have HO := Lib.hid ho
    have hz := hB.size
    have hgl := (owns_lt ho).1
    have hm9 : m' ≤ 1048600 := by have := hlen.out; rw [appE_length, List.length_take] at this; have := HX.out; omega
    clear ho
    by_cases hlt : k < m
    · obtain ⟨b, o, rfl, hb, hc⟩ := (HM.out.below hB).row (fun _ => rfl) (by omega)
      obtain ⟨⟨y0, y1, y2⟩, hyk⟩ := get_lt HY.out hlt
      have c0 : wr.cell? ⟨b, o + k * 3, none⟩ = some (.int .i64 y0) := hc k _ hyk 0 _ rfl
      have c1 : wr.cell? ⟨b, o + k * 3 + 1, none⟩ = some (.string y1) := hc k _ hyk 1 _ rfl
      have c2 : wr.cell? ⟨b, o + k * 3 + 2, none⟩ = some (.int .i64 y2) := hc k _ hyk 2 _ rfl
      have HSU := Lib.hid (appE_succ (xs := xs) (s := s) hyk)
      clear hyk hc
      go_wp2_with (at_builtin; refine wpList_app1 rfl _ _ 27 57 4 48 rowEntry rfl w.heap.size g m' cp _ HO.out rfl rfl rfl rfl (by unfold maxLen; omega) (by omega) hz ?_; intro g4 c4 w4 ho4 hg4 hz4; have HO4 := Lib.hid ho4; have HB4 := Lib.hid (below_grown hB hg4 hgl hz); clear ho4 hg4)
      go_roundw
      case rel => exact ⟨k + 1, g4, m' + 1, c4, by omega, by go_num, rfl, Lib.hid (by rw [HSU.out, List.length_append, hlen.out]; rfl), by rw [HSU.out, List.flatMap_append]; exact HO4.out, HB4.out⟩
      case measure => simp [intOf]; omega
    · have HT := Lib.hid (show ys.take k = ys from List.take_of_length_le (by have := HY.out; omega))
      go_wp2
      go_ret
      exact ⟨g, m', cp, rfl, by rw [← HT.out]; exact hlen.out, by rw [← HT.out]; exact HO.out, hB⟩
set_option maxHeartbeats 12800000 in
theorem specApp_any (gA oA n c : Nat) (xs : List EnT) (s : ByteArray) (e0 : Int) (B : Option Addr) (m d : Nat) (ys : List EvT) (hn : n ≤ 1048576) (hx : xs.length = n) (hok : StOk xs) (hs : s.size ≤ 1048576) (hm : m ≤ 1048576) (_hmd : m ≤ d) (hy : ys.length = m) (hey : ∀ y ∈ ys, eventOk y ∧ y.2.1.size ≤ 1048576) (w : World) (hL : Lies w 4 (some ⟨gA, oA, none⟩) n (xs.flatMap entryCells)) (hM : Lies w 3 B m (ys.flatMap eventCells)) :
    Calls Tryd.prog 15 #[.slice (some ⟨gA, oA, none⟩) n c, .string s, .int .i64 e0, .slice B m d] w fun e w' => ∃ g k cap, e = .returned (.tuple #[.slice (some ⟨g, 0, none⟩) k cap, .int .i64 (appR xs s e0 ys).2]) ∧ ((appR xs s e0 ys).1).length = k ∧ w'.ownsRow w.heap.size 57 4 (.slice (some ⟨g, 0, none⟩) k cap) k (((appR xs s e0 ys).1).flatMap entryCells) ∧ Below w.heap.size w w' := by
  have HX := Lib.hid hx
  have HY := Lib.hid hy
  have HL := Lib.hid hL
  have HM := Lib.hid hM
  clear hx hy hL hM
  cases E1 : storeB xs
  · have HE := Lib.hid (appR_no (e := e0) (ys := ys) (xs := xs) (s := s) (by unfold writeB; simp only [E1]; rfl))
    go_enter Tryd.func15, Tryd.ntmps15
    go_wp2_with fail
    refine (specStore_any _ n c xs hn HX.out hok.small _ HL.out).mono ?_
    rintro e1 w1 ⟨rfl, hb1⟩
    rw [E1]
    have B1 : Below w.heap.size w w1 := hb1
    go_wp2
    go_ret2
    exact ⟨_, 0, 0, by rw [HE.out]; rfl, by rw [HE.out]; rfl, by rw [HE.out]; exact owns_nil' _ _ rfl (B1).size, (by repeat' (first | (with_reducible exact Below.refl _ _) | (with_reducible assumption) | (with_reducible refine below_step (by assumption) ?_) | (with_reducible refine below_alloc ?_ _) | (with_reducible refine Below.drew ?_) | (with_reducible refine below_drewN ?_ _) | (with_reducible refine Below.setCell ?_ ?_ _) | go_size))⟩
  cases E2 : nameB s
  · have HE := Lib.hid (appR_no (e := e0) (ys := ys) (xs := xs) (s := s) (by unfold writeB; simp only [E1, E2]; rfl))
    go_enter Tryd.func15, Tryd.ntmps15
    go_wp2_with fail
    refine (specStore_any _ n c xs hn HX.out hok.small _ HL.out).mono ?_
    rintro e1 w1 ⟨rfl, hb1⟩
    rw [E1]
    have B1 : Below w.heap.size w w1 := hb1
    go_wp2_with fail
    refine (specNameValid_any s hs _).mono ?_
    rintro e1 w2 ⟨rfl, hb2⟩
    rw [E2]
    have B2 : Below w.heap.size w w2 := below_step hb2 B1
    go_wp2
    go_ret2
    exact ⟨_, 0, 0, by rw [HE.out]; rfl, by rw [HE.out]; rfl, by rw [HE.out]; exact owns_nil' _ _ rfl (B2).size, (by repeat' (first | (with_reducible exact Below.refl _ _) | (with_reducible assumption) | (with_reducible refine below_step (by assumption) ?_) | (with_reducible refine below_alloc ?_ _) | (with_reducible refine Below.drew ?_) | (with_reducible refine below_drewN ?_ _) | (with_reducible refine Below.setCell ?_ ?_ _) | go_size))⟩
  cases E3 : inB e0 (-2) 23
  · have HE := Lib.hid (appR_no (e := e0) (ys := ys) (xs := xs) (s := s) (by unfold writeB; simp only [E1, E2, E3]; rfl))
    go_enter Tryd.func15, Tryd.ntmps15
    go_wp2_with fail
    refine (specStore_any _ n c xs hn HX.out hok.small _ HL.out).mono ?_
    rintro e1 w1 ⟨rfl, hb1⟩
    rw [E1]
    have B1 : Below w.heap.size w w1 := hb1
    go_wp2_with fail
    refine (specNameValid_any s hs _).mono ?_
    rintro e1 w2 ⟨rfl, hb2⟩
    rw [E2]
    have B2 : Below w.heap.size w w2 := below_step hb2 B1
    go_wp2_with fail
    refine (specExpV_any e0 _).mono ?_
    rintro e1 w3 ⟨rfl, hb3⟩
    rw [E3]
    have B3 : Below w.heap.size w w3 := below_step hb3 B2
    go_wp2
    go_ret2
    exact ⟨_, 0, 0, by rw [HE.out]; rfl, by rw [HE.out]; rfl, by rw [HE.out]; exact owns_nil' _ _ rfl (B3).size, (by repeat' (first | (with_reducible exact Below.refl _ _) | (with_reducible assumption) | (with_reducible refine below_step (by assumption) ?_) | (with_reducible refine below_alloc ?_ _) | (with_reducible refine Below.drew ?_) | (with_reducible refine below_drewN ?_ _) | (with_reducible refine Below.setCell ?_ ?_ _) | go_size))⟩
  cases E4 : eventsB ys
  · have HE := Lib.hid (appR_no (e := e0) (ys := ys) (xs := xs) (s := s) (by unfold writeB; simp only [E1, E2, E3, E4]; rfl))
    go_enter Tryd.func15, Tryd.ntmps15
    go_wp2_with fail
    refine (specStore_any _ n c xs hn HX.out hok.small _ HL.out).mono ?_
    rintro e1 w1 ⟨rfl, hb1⟩
    rw [E1]
    have B1 : Below w.heap.size w w1 := hb1
    go_wp2_with fail
    refine (specNameValid_any s hs _).mono ?_
    rintro e1 w2 ⟨rfl, hb2⟩
    rw [E2]
    have B2 : Below w.heap.size w w2 := below_step hb2 B1
    go_wp2_with fail
    refine (specExpV_any e0 _).mono ?_
    rintro e1 w3 ⟨rfl, hb3⟩
    rw [E3]
    have B3 : Below w.heap.size w w3 := below_step hb3 B2
    go_wp2_with fail
    refine (specEvents_any B m d ys hm HY.out (fun y h => (hey y h).1) _ (HM.out.below B3)).mono ?_
    rintro e1 w4 ⟨rfl, hb4⟩
    rw [E4]
    have B4 : Below w.heap.size w w4 := below_step hb4 B3
    go_wp2
    go_ret2
    exact ⟨_, 0, 0, by rw [HE.out]; rfl, by rw [HE.out]; rfl, by rw [HE.out]; exact owns_nil' _ _ rfl (B4).size, (by repeat' (first | (with_reducible exact Below.refl _ _) | (with_reducible assumption) | (with_reducible refine below_step (by assumption) ?_) | (with_reducible refine below_alloc ?_ _) | (with_reducible refine Below.drew ?_) | (with_reducible refine below_drewN ?_ _) | (with_reducible refine Below.setCell ?_ ?_ _) | go_size))⟩
  by_cases hm0 : m = 0
  · have HE := Lib.hid (appR_no (e := e0) (ys := ys) (xs := xs) (s := s) (by unfold writeB; rw [HY.out, hm0]; simp))
    have q0 : ((m : Int) == 0) = true := by simp [hm0]
    have q1 : (m == 0) = true := by simp [hm0]
    have q2 : decide ((m : Int) = 0) = true := by simp [hm0]
    clear hm0
    go_enter Tryd.func15, Tryd.ntmps15
    go_wp2_with fail
    refine (specStore_any _ n c xs hn HX.out hok.small _ HL.out).mono ?_
    rintro e1 w1 ⟨rfl, hb1⟩
    rw [E1]
    have B1 : Below w.heap.size w w1 := hb1
    go_wp2_with fail
    refine (specNameValid_any s hs _).mono ?_
    rintro e1 w2 ⟨rfl, hb2⟩
    rw [E2]
    have B2 : Below w.heap.size w w2 := below_step hb2 B1
    go_wp2_with fail
    refine (specExpV_any e0 _).mono ?_
    rintro e1 w3 ⟨rfl, hb3⟩
    rw [E3]
    have B3 : Below w.heap.size w w3 := below_step hb3 B2
    go_wp2_with fail
    refine (specEvents_any B m d ys hm HY.out (fun y h => (hey y h).1) _ (HM.out.below B3)).mono ?_
    rintro e1 w4 ⟨rfl, hb4⟩
    rw [E4]
    have B4 : Below w.heap.size w w4 := below_step hb4 B3
    go_wp2
    go_ret2
    exact ⟨_, 0, 0, by rw [HE.out]; rfl, by rw [HE.out]; rfl, by rw [HE.out]; exact owns_nil' _ _ rfl (B4).size, (by repeat' (first | (with_reducible exact Below.refl _ _) | (with_reducible assumption) | (with_reducible refine below_step (by assumption) ?_) | (with_reducible refine below_alloc ?_ _) | (with_reducible refine Below.drew ?_) | (with_reducible refine below_drewN ?_ _) | (with_reducible refine Below.setCell ?_ ?_ _) | go_size))⟩
  have q0 : ((m : Int) == 0) = false := by simp; omega
  have q1 : (m == 0) = false := by simp [hm0]
  have q2 : decide ((m : Int) = 0) = false := by simp; omega
  have HW := Lib.hid (appR_yes (xs := xs) (s := s) (e := e0) (ys := ys) (by unfold writeB; simp only [E1, E2, E3, E4]; rw [HY.out]; simp; omega))
  have hm24 : m ≤ 24 := by have := ((events_iff ys).1 E4).1; have := HY.out; omega
  have hn24 : n ≤ 24 := by have := ((store_iff xs).1 E1).1; have := HX.out; omega
  have HAO := Lib.hid (appE_ok (s := s) hok hs hey)
  obtain ⟨v, hv⟩ : ∃ v, (evOf s xs).length = v := ⟨_, rfl⟩
  have hv24 : v ≤ 24 := by have := evOf_length s xs; have := HX.out; omega
  have HVV := Lib.hid hv
  rw [hv] at HW
  clear hv hm0
  cases E5 : holdsB e0 ((v : Int) - 1)
  case' true => cases E6 : storeB (appE xs s ys)
  all_goals
    have HE := HW
    simp only [E5, Bool.false_eq_true, if_false, if_true] at HE
    try simp only [E6, Bool.false_eq_true, if_false, if_true] at HE
    go_enter Tryd.func15, Tryd.ntmps15
    go_wp2_with fail
    refine (specStore_any _ n c xs hn HX.out hok.small _ HL.out).mono ?_
    rintro e1 w1 ⟨rfl, hb1⟩
    rw [E1]
    have B1 : Below w.heap.size w w1 := hb1
    go_wp2_with fail
    refine (specNameValid_any s hs _).mono ?_
    rintro e1 w2 ⟨rfl, hb2⟩
    rw [E2]
    have B2 : Below w.heap.size w w2 := below_step hb2 B1
    go_wp2_with fail
    refine (specExpV_any e0 _).mono ?_
    rintro e1 w3 ⟨rfl, hb3⟩
    rw [E3]
    have B3 : Below w.heap.size w w3 := below_step hb3 B2
    go_wp2_with fail
    refine (specEvents_any B m d ys hm HY.out (fun y h => (hey y h).1) _ (HM.out.below B3)).mono ?_
    rintro e1 w4 ⟨rfl, hb4⟩
    rw [E4]
    have B4 : Below w.heap.size w w4 := below_step hb4 B3
    have HL4 := Lib.hid (HL.out.below B4)
    have HM4 := Lib.hid (HM.out.below B4)
    go_wp2_with fail
    refine (l4Events_any _ n c xs s hn HX.out _ HL4.out).mono ?_
    rintro e1 w5 ⟨g5, k5, c5, rfl, hl5, _, hb5⟩
    obtain rfl : k5 = v := by have := HVV.out; omega
    have B5 : Below w.heap.size w w5 := below_step hb5 B4
    clear hl5
    go_wp2_with fail
    refine (specHolds_any e0 _ _).mono ?_
    rintro e1 w6 ⟨rfl, hb6⟩
    rw [E5]
    have B6 : Below w.heap.size w w6 := below_step hb6 B5
    have HL6 := Lib.hid (HL.out.below B6)
    have HM6 := Lib.hid (HM.out.below B6)
  rotate_right
  · have BZ : Below w.heap.size w (w6.alloc (.cells #[] 57)) := below_alloc B6 _
    have hz6 := B6.size
    go_wp2_with (at_builtin; refine wpList_appS rfl _ _ 27 57 4 48 rowEntry rfl w.heap.size w6.heap.size 0 0 [] (ownsRow_base (owns_nil w6 _ _) hz6) rfl gA oA n c _ rfl (HL.out.below BZ) (entry_one xs) (by unfold maxLen; omega) (by omega) (by simp; omega) ?_; intro g7 c7 w7 ho7 hg7; have HO7 := Lib.hid ho7; have hB7 := below_grown BZ hg7 hz6 BZ.size; clear ho7 hg7)
    simp only [Nat.zero_add, List.nil_append] at HO7
    go_ret2
    exact ⟨g7, n, c7, by rw [HE.out]; simp, by rw [HE.out]; exact HX.out, by rw [HE.out]; exact HO7.out, hB7⟩
  all_goals
    go_wp2_with fail
    refine (l4App_any gA oA n c xs s B m d ys hn HX.out hm24 HY.out _ HL6.out HM6.out).mono ?_
    rintro e1 w7 ⟨g7, k7, c7, rfl, hl7, ho7, hb7⟩
    have HO7 := Lib.hid ho7
    have HK7 := Lib.hid hl7
    have B7 : Below w.heap.size w w7 := below_step hb7 B6
    have hk7 : k7 ≤ 1048576 := by have := HK7.out; rw [appE_length] at this; have := HX.out; have := HY.out; omega
    clear ho7 hl7
    go_wp2_with fail
    refine (specStore_any _ k7 c7 (appE xs s ys) hk7 HK7.out HAO.out.small _ (lies_of_own HO7.out)).mono ?_
    rintro e1 w8 ⟨rfl, hb8⟩
    rw [E6]
    have B8 : Below w.heap.size w w8 := below_step hb8 B7
    have HO8 := Lib.hid (ownsRow_base (owns_below HO7.out hb8) B6.size)
    go_wp2
    go_ret2
  · exact ⟨_, 0, 0, by rw [HE.out]; rfl, by rw [HE.out]; rfl, by rw [HE.out]; exact owns_nil' _ _ rfl B8.size, (by repeat' (first | (with_reducible exact Below.refl _ _) | (with_reducible assumption) | (with_reducible refine below_step (by assumption) ?_) | (with_reducible refine below_alloc ?_ _) | (with_reducible refine Below.drew ?_) | (with_reducible refine below_drewN ?_ _) | (with_reducible refine Below.setCell ?_ ?_ _) | go_size))⟩
  · exact ⟨g7, k7, c7, by rw [HE.out]; rfl, by rw [HE.out]; exact HK7.out, by rw [HE.out]; exact HO8.out, B8⟩
end Go.Proofs.YtjloonjkplaplaaDoor
