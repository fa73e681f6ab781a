/-
  StoreAppend of the program. No condition beyond what the rows list.
-/
import Derived.Test.YtjloonjkplaplaaDoorAppS
namespace Go.Proofs.YtjloonjkplaplaaDoor
open Go.ChangeShapes Go.WideShapes Go.ChangeAt Go.RowKit
set_option maxHeartbeats 6400000 in
theorem with_any (gA oA n c : Nat) (xs : List EnT) (s : ByteArray) (B : Option Addr) (m d : Nat) (ys : List EvT) (hn : n ≤ 1048576) (hx : xs.length = n) (hm : m ≤ 24) (hy : ys.length = m) (w : World) (hL : Lies w 4 (some ⟨gA, oA, none⟩) n (xs.flatMap entryCells)) (hM : Lies w 3 B m (ys.flatMap eventCells)) :
    Calls Tryd.prog 48 #[.slice (some ⟨gA, oA, none⟩) n c, .string s, .slice B m d] w fun e w' => ∃ g k cap, e = .returned (.slice (some ⟨g, 0, none⟩) k cap) ∧ (appE xs s ys).length = k ∧ w'.ownsRow w.heap.size 57 4 (.slice (some ⟨g, 0, none⟩) k cap) k ((appE xs s ys).flatMap entryCells) ∧ Below w.heap.size w w' := by
  obtain ⟨i0, hi, hz0, hz1, hz2⟩ := info_parts infoEntry
  have hmk0 := fun W => run_make_rowN (P := Tryd.prog) 27 57 i0 _ Tryd.underlying27 hi hz0 .i64 .i64 0 (n + m) (by omega) (by rw [hz2]; omega) (by omega) W
  rw [hz1] at hmk0
  have e1 : ((n + m : Nat) : Int) = (n : Int) + (m : Int) := by omega
  rw [e1] at hmk0
  have hmk : ∀ W, (Instr.makeSlice 27 (.int .i64 0) (.int .i64 ((n : Int) + (m : Int)))).run Tryd.prog W = .ok (.slice (some ⟨W.heap.size, 0, none⟩) 0 (n + m)) (W.alloc (.cells (madeCells (Value.agg #[.string ByteArray.empty, .int .i64 0, .string ByteArray.empty, .int .i64 0]).cells ((n + m) * 4)) 57)) := fun W => hmk0 W
  have wq : IntKind.i64.wrap ((n : Int) + (m : Int)) = (n : Int) + (m : Int) := IntWalk.i64_in _ ⟨by omega, by omega⟩
  have HX := Lib.hid hx
  have HY := Lib.hid hy
  have HL := Lib.hid hL
  have HM := Lib.hid hM
  clear hx hy hL hM hmk0 hi hz0 hz1 hz2 e1
  go_enter Tryd.func48, Tryd.ntmps48
  go_wp2_with (at_builtin; refine wpList_appS rfl _ _ 27 57 4 48 rowEntry rfl w.heap.size w.heap.size 0 (n + m) [] (owns_made _ _ rfl (Nat.le_refl _) (by unfold maxLen; omega) (by simp [size_madeCells])) rfl gA oA n c _ rfl (HL.out.below (below_alloc (Below.refl _ _) _)) (entry_one xs) (by unfold maxLen; omega) (by omega) (by simp) ?_; intro g1 c1 w1 ho1 hg1; have HO1 := Lib.hid ho1; have hB1 : Below w.heap.size w w1 := below_grown (below_alloc (Below.refl _ _) _) hg1 (Nat.le_refl _) (by simp); clear ho1 hg1)
  simp only [Nat.zero_add, List.nil_append] at HO1
  go_loopw [7, 21] (fun l i wr => ∃ (k g m' cp : Nat), k ≤ m ∧ i = .int .i64 k ∧ l = .slice (some ⟨g, 0, none⟩) m' cp ∧ Hid ((appE xs s (ys.take k)).length = m') ∧ wr.ownsRow w.heap.size 57 4 (.slice (some ⟨g, 0, none⟩) m' cp) m' ((appE xs s (ys.take k)).flatMap entryCells) ∧ Below w.heap.size w wr) (fun _ i _ => m - (intOf i).toNat)
  case atStart => exact ⟨0, g1, n, c1, Nat.zero_le _, rfl, by simp, Lib.hid (by rw [List.take_zero, appE_nil]; exact HX.out), by rw [List.take_zero, appE_nil]; exact HO1.out, hB1⟩
  case round =>
    obtain ⟨k, g, m', cp, hk, rfl, rfl, hlen, ho, hB⟩ := hrel
    have HO := Lib.hid ho
    have hz := hB.size
    have hgl := (owns_lt ho).1
    have hm9 : m' ≤ 1048600 := by have := hlen.out; rw [appE_length, List.length_take] at this; have := HX.out; omega
    clear ho
    by_cases hlt : k < m
    · obtain ⟨b, o, rfl, hb, hc⟩ := (HM.out.below hB).row (fun _ => rfl) (by omega)
      obtain ⟨⟨y0, y1, y2⟩, hyk⟩ := get_lt HY.out hlt
      have c0 : wr.cell? ⟨b, o + k * 3, none⟩ = some (.int .i64 y0) := hc k _ hyk 0 _ rfl
      have c1 : wr.cell? ⟨b, o + k * 3 + 1, none⟩ = some (.string y1) := hc k _ hyk 1 _ rfl
      have c2 : wr.cell? ⟨b, o + k * 3 + 2, none⟩ = some (.int .i64 y2) := hc k _ hyk 2 _ rfl
      have HSU := Lib.hid (appE_succ (xs := xs) (s := s) hyk)
      clear hyk hc
      have HOb := Lib.hid (World.ownsRow.alloc HO.out (.cells #[.int .i64 y0, .string y1, .int .i64 y2] 55))
      have hBb : Below w.heap.size w (wr.alloc (.cells #[.int .i64 y0, .string y1, .int .i64 y2] 55)) := below_alloc hB _
      have hzb := hBb.size
      go_wp2_with (at_builtin; refine wpList_app1n rfl _ _ 27 57 4 48 rowEntry rfl w.heap.size g m' cp _ HOb.out rfl (wr.heap.size + 1) rfl (by simp) rfl rfl (by unfold maxLen; omega) (by omega) hzb ?_; intro g4 c4 w4 ho4 hg4 hz4; have HO4 := Lib.hid ho4; have HB4 := Lib.hid (below_grown hBb hg4 hgl hzb); clear ho4 hg4)
      go_roundw
      case rel => exact ⟨k + 1, g4, m' + 1, c4, by omega, by go_num, rfl, Lib.hid (by rw [HSU.out, List.length_append, hlen.out]; rfl), by rw [HSU.out, List.flatMap_append]; exact HO4.out, HB4.out⟩
      case measure => simp [intOf]; omega
    · have HT := Lib.hid (show ys.take k = ys from List.take_of_length_le (by have := HY.out; omega))
      go_wp2
      go_ret
      exact ⟨g, m', cp, rfl, by rw [← HT.out]; exact hlen.out, by rw [← HT.out]; exact HO.out, hB⟩

set_option maxHeartbeats 6400000 in
theorem implWrite_any (A : Option Addr) (n c : Nat) (xs : List EnT) (s : ByteArray) (e0 : Int) (B : Option Addr) (m d : Nat) (ys : List EvT) (hn : n ≤ 1048576) (hx : xs.length = n) (hok : StOk xs) (hs : s.size ≤ 1048576) (hm : m ≤ 1048576) (hmd : m ≤ d) (hy : ys.length = m) (hey : ∀ y ∈ ys, eventOk y ∧ y.2.1.size ≤ 1048576) (w : World) (a : Addr) (hS : Sent a w) (hM0 : MaxL w) (hL : Lies w 4 A n (xs.flatMap entryCells)) (hM : Lies w 3 B m (ys.flatMap eventCells)) :
    Calls Tryd.prog 37 #[.slice A n c, .string s, .int .i64 e0, .slice B m d] w fun e w' => e = .returned (.bool (writeB xs s e0 ys)) ∧ Below w.heap.size w w' := by
  have HX := Lib.hid hx
  have HY := Lib.hid hy
  have HL := Lib.hid hL
  have HM := Lib.hid hM
  clear hx hy hL hM
  cases E1 : storeB xs
  · have HE := Lib.hid (show writeB xs s e0 ys = false by unfold writeB; simp only [E1]; rfl)
    go_enter Tryd.func37, Tryd.ntmps37
    go_wp2_with fail
    refine (implStore_any A n c xs hn HX.out hok.small hok.ints _ a hS hM0 HL.out).mono ?_
    rintro e1 w1 ⟨rfl, hb1⟩
    rw [E1]
    have B1 : Below w.heap.size w w1 := hb1
    go_wp2
    go_ret
    exact ⟨ret_bool HE.out.symm, B1⟩
  cases E2 : nameB s
  · have HE := Lib.hid (show writeB xs s e0 ys = false by unfold writeB; simp only [E1, E2]; rfl)
    go_enter Tryd.func37, Tryd.ntmps37
    go_wp2_with fail
    refine (implStore_any A n c xs hn HX.out hok.small hok.ints _ a hS hM0 HL.out).mono ?_
    rintro e1 w1 ⟨rfl, hb1⟩
    rw [E1]
    have B1 : Below w.heap.size w w1 := hb1
    go_wp2_with fail
    refine (implNameValid_any s hs a _ (hS.below B1 (Nat.le_refl _)) (hM0.below B1)).mono ?_
    rintro e1 w2 ⟨rfl, hb2⟩
    rw [E2]
    have B2 : Below w.heap.size w w2 := below_step hb2 B1
    go_wp2
    go_ret
    exact ⟨ret_bool HE.out.symm, B2⟩
  cases E3 : inB e0 (-2) 23
  · have HE := Lib.hid (show writeB xs s e0 ys = false by unfold writeB; simp only [E1, E2, E3]; rfl)
    go_enter Tryd.func37, Tryd.ntmps37
    go_wp2_with fail
    refine (implStore_any A n c xs hn HX.out hok.small hok.ints _ a hS hM0 HL.out).mono ?_
    rintro e1 w1 ⟨rfl, hb1⟩
    rw [E1]
    have B1 : Below w.heap.size w w1 := hb1
    go_wp2_with fail
    refine (implNameValid_any s hs a _ (hS.below B1 (Nat.le_refl _)) (hM0.below B1)).mono ?_
    rintro e1 w2 ⟨rfl, hb2⟩
    rw [E2]
    have B2 : Below w.heap.size w w2 := below_step hb2 B1
    go_wp2_with fail
    refine (implExpV_any e0 _).mono ?_
    rintro e1 w3 ⟨rfl, hb3⟩
    rw [E3]
    have B3 : Below w.heap.size w w3 := below_step hb3 B2
    go_wp2
    go_ret
    exact ⟨ret_bool HE.out.symm, B3⟩
  cases E4 : eventsB ys
  · have HE := Lib.hid (show writeB xs s e0 ys = false by unfold writeB; simp only [E1, E2, E3, E4]; rfl)
    go_enter Tryd.func37, Tryd.ntmps37
    go_wp2_with fail
    refine (implStore_any A n c xs hn HX.out hok.small hok.ints _ a hS hM0 HL.out).mono ?_
    rintro e1 w1 ⟨rfl, hb1⟩
    rw [E1]
    have B1 : Below w.heap.size w w1 := hb1
    go_wp2_with fail
    refine (implNameValid_any s hs a _ (hS.below B1 (Nat.le_refl _)) (hM0.below B1)).mono ?_
    rintro e1 w2 ⟨rfl, hb2⟩
    rw [E2]
    have B2 : Below w.heap.size w w2 := below_step hb2 B1
    go_wp2_with fail
    refine (implExpV_any e0 _).mono ?_
    rintro e1 w3 ⟨rfl, hb3⟩
    rw [E3]
    have B3 : Below w.heap.size w w3 := below_step hb3 B2
    go_wp2_with fail
    refine (implEvents_any B m d ys hm hmd HY.out (fun y h => (hey y h).1) _ (HM.out.below B3)).mono ?_
    rintro e1 w4 ⟨rfl, hb4⟩
    rw [E4]
    have B4 : Below w.heap.size w w4 := below_step hb4 B3
    go_wp2
    go_ret
    exact ⟨ret_bool HE.out.symm, B4⟩
  have HE := Lib.hid (show writeB xs s e0 ys = decide (0 < m) by unfold writeB; simp only [E1, E2, E3, E4]; rw [HY.out]; simp)
  go_enter Tryd.func37, Tryd.ntmps37
  go_wp2_with fail
  refine (implStore_any A n c xs hn HX.out hok.small hok.ints _ a hS hM0 HL.out).mono ?_
  rintro e1 w1 ⟨rfl, hb1⟩
  rw [E1]
  have B1 : Below w.heap.size w w1 := hb1
  go_wp2_with fail
  refine (implNameValid_any s hs a _ (hS.below B1 (Nat.le_refl _)) (hM0.below B1)).mono ?_
  rintro e1 w2 ⟨rfl, hb2⟩
  rw [E2]
  have B2 : Below w.heap.size w w2 := below_step hb2 B1
  go_wp2_with fail
  refine (implExpV_any e0 _).mono ?_
  rintro e1 w3 ⟨rfl, hb3⟩
  rw [E3]
  have B3 : Below w.heap.size w w3 := below_step hb3 B2
  go_wp2_with fail
  refine (implEvents_any B m d ys hm hmd HY.out (fun y h => (hey y h).1) _ (HM.out.below B3)).mono ?_
  rintro e1 w4 ⟨rfl, hb4⟩
  rw [E4]
  have B4 : Below w.heap.size w w4 := below_step hb4 B3
  go_wp2
  go_ret
  exact ⟨ret_bool (by rw [HE.out]; first | done | simp), B4⟩

set_option maxHeartbeats 12800000 in
theorem implApp_any (gA oA n c : Nat) (xs : List EnT) (s : ByteArray) (e0 : Int) (B : Option Addr) (m d : Nat) (ys : List EvT) (hn : n ≤ 1048576) (hx : xs.length = n) (hok : StOk xs) (hs : s.size ≤ 1048576) (hm : m ≤ 1048576) (hmd : m ≤ d) (hy : ys.length = m) (hey : ∀ y ∈ ys, eventOk y ∧ y.2.1.size ≤ 1048576) (w : World) (a : Addr) (hS : Sent a w) (hM0 : MaxL w) (hL : Lies w 4 (some ⟨gA, oA, none⟩) n (xs.flatMap entryCells)) (hM : Lies w 3 B m (ys.flatMap eventCells)) :
    Calls Tryd.prog 16 #[.slice (some ⟨gA, oA, none⟩) n c, .string s, .int .i64 e0, .slice B m d] w fun e w' => ∃ g k cap, e = .returned (.tuple #[.slice (some ⟨g, 0, none⟩) k cap, .int .i64 (appR xs s e0 ys).2]) ∧ ((appR xs s e0 ys).1).length = k ∧ w'.ownsRow w.heap.size 57 4 (.slice (some ⟨g, 0, none⟩) k cap) k (((appR xs s e0 ys).1).flatMap entryCells) ∧ Below w.heap.size w w' := by
  have HX := Lib.hid hx
  have HY := Lib.hid hy
  have HL := Lib.hid hL
  have HM := Lib.hid hM
  clear hx hy hL hM
  cases E0 : writeB xs s e0 ys
  · have HE := Lib.hid (appR_no E0)
    go_enter Tryd.func16, Tryd.ntmps16
    go_wp2_with fail
    refine (implWrite_any _ n c xs s e0 B m d ys hn HX.out hok hs hm hmd HY.out hey _ a hS hM0 HL.out HM.out).mono ?_
    rintro e1 w1 ⟨rfl, hb1⟩
    rw [E0]
    go_wp2
    go_ret2
    exact ⟨_, 0, 0, by rw [HE.out]; rfl, by rw [HE.out]; rfl, by rw [HE.out]; exact owns_nil' _ _ rfl hb1.size, (by repeat' (first | (with_reducible exact Below.refl _ _) | (with_reducible assumption) | (with_reducible refine below_step (by assumption) ?_) | (with_reducible refine below_alloc ?_ _) | (with_reducible refine Below.drew ?_) | (with_reducible refine below_drewN ?_ _) | (with_reducible refine Below.setCell ?_ ?_ _) | go_size))⟩
  have HW := Lib.hid (appR_yes E0)
  have hw0 := E0
  unfold writeB at hw0
  simp only [Bool.and_eq_true, decide_eq_true_eq] at hw0
  obtain ⟨⟨⟨⟨E1, E2⟩, E3⟩, E4⟩, hpos⟩ := hw0
  have hm24 : m ≤ 24 := by have := ((events_iff ys).1 E4).1; have := HY.out; omega
  have hn24 : n ≤ 24 := by have := ((store_iff xs).1 E1).1; have := HX.out; omega
  have HAO := Lib.hid (appE_ok (s := s) hok hs hey)
  obtain ⟨v, hv⟩ : ∃ v, (evOf s xs).length = v := ⟨_, rfl⟩
  have hv24 : v ≤ 24 := by have := evOf_length s xs; have := HX.out; omega
  have HVR := Lib.hid (show storeVer xs s = (v : Int) - 1 by rw [ver_yes E1 E2, hv])
  rw [hv] at HW
  clear hv hpos E3 E4
  cases E5 : holdsB e0 ((v : Int) - 1)
  case' true => cases E6 : storeB (appE xs s ys)
  all_goals
    have HE := HW
    simp only [E5, Bool.false_eq_true, if_false, if_true] at HE
    try simp only [E6, Bool.false_eq_true, if_false, if_true] at HE
    go_enter Tryd.func16, Tryd.ntmps16
    go_wp2_with fail
    refine (implWrite_any _ n c xs s e0 B m d ys hn HX.out hok hs hm hmd HY.out hey _ a hS hM0 HL.out HM.out).mono ?_
    rintro e1 w1 ⟨rfl, hb1⟩
    rw [E0]
    have HL1 := Lib.hid (HL.out.below hb1)
    go_wp2_with fail
    refine (implVer_any _ n c xs s hn HX.out hok hs _ a (hS.below hb1 (Nat.le_refl _)) (hM0.below hb1) HL1.out).mono ?_
    rintro e1 w2 ⟨rfl, hb2⟩
    rw [HVR.out]
    have B2 : Below w.heap.size w w2 := below_step hb2 hb1
    go_wp2_with fail
    refine (implHolds_any e0 _ _).mono ?_
    rintro e1 w6 ⟨rfl, hb6⟩
    rw [E5]
    have B6 : Below w.heap.size w w6 := below_step hb6 B2
    have HL6 := Lib.hid (HL.out.below B6)
    have HM6 := Lib.hid (HM.out.below B6)
    go_wp2_with fail
  rotate_right
  · refine (with_any gA oA n c xs s none 0 0 [] hn HX.out (by omega) rfl _ HL6.out ⟨rfl, fun h => absurd h (by omega)⟩).mono ?_
    rintro e1 w7 ⟨g7, k7, c7, rfl, hl7, ho7, hb7⟩
    rw [appE_nil] at hl7 ho7
    have HO7 := Lib.hid (ownsRow_base ho7 B6.size)
    have HK7 := Lib.hid hl7
    clear ho7 hl7
    go_wp2
    go_ret2
    exact ⟨g7, k7, c7, by rw [HE.out]; rfl, by rw [HE.out]; exact HK7.out, by rw [HE.out]; exact HO7.out, below_step hb7 B6⟩
  all_goals
    refine (with_any gA oA n c xs s B m d ys hn HX.out hm24 HY.out _ HL6.out HM6.out).mono ?_
    rintro e1 w7 ⟨g7, k7, c7, rfl, hl7, ho7, hb7⟩
    have HO7 := Lib.hid ho7
    have HK7 := Lib.hid hl7
    have B7 : Below w.heap.size w w7 := below_step hb7 B6
    have hk7 : k7 ≤ 1048576 := by have := HK7.out; rw [appE_length] at this; have := HX.out; have := HY.out; omega
    clear ho7 hl7
    go_wp2_with fail
    refine (implStore_any _ k7 c7 (appE xs s ys) hk7 HK7.out HAO.out.small HAO.out.ints _ a (hS.below B7 (Nat.le_refl _)) (hM0.below B7) (lies_of_own HO7.out)).mono ?_
    rintro e1 w8 ⟨rfl, hb8⟩
    rw [E6]
    have B8 : Below w.heap.size w w8 := below_step hb8 B7
    have HO8 := Lib.hid (ownsRow_base (owns_below HO7.out hb8) B6.size)
    go_wp2
    go_ret2
  · exact ⟨_, 0, 0, by rw [HE.out]; rfl, by rw [HE.out]; rfl, by rw [HE.out]; exact owns_nil' _ _ rfl B8.size, (by repeat' (first | (with_reducible exact Below.refl _ _) | (with_reducible assumption) | (with_reducible refine below_step (by assumption) ?_) | (with_reducible refine below_alloc ?_ _) | (with_reducible refine Below.drew ?_) | (with_reducible refine below_drewN ?_ _) | (with_reducible refine Below.setCell ?_ ?_ _) | go_size))⟩
  · exact ⟨g7, k7, c7, by rw [HE.out]; rfl, by rw [HE.out]; exact HK7.out, by rw [HE.out]; exact HO8.out, B8⟩

theorem specApp_at (lo hi : Nat) (v : Value) (lo' hi' : Nat) (v' : Value) (xs : List EnT) (s : ByteArray) (e0 : Int) (ys : List EvT) (hok : StOk xs) (hs : s.size ≤ 1048576) (hey : ∀ y ∈ ys, eventOk y ∧ y.2.1.size ≤ 1048576) (w : World) (h : entrySAt w lo hi v xs) (h' : eventSAt w lo' hi' v' ys) :
    Calls Tryd.prog 15 #[v, .string s, .int .i64 e0, v'] w fun e w' => ∃ u, e = .returned (.tuple #[u, .int .i64 (appR xs s e0 ys).2]) ∧ entrySAt w' w.heap.size w'.heap.size u (appR xs s e0 ys).1 ∧ Below w.heap.size w w' := by
  obtain ⟨g, m, c, rfl, hx, hb, _, _, ho⟩ := h.open
  obtain ⟨g', m', c', rfl, hx', hb', _, _, ho'⟩ := h'.open
  exact (specApp_any _ _ _ _ xs s e0 _ _ _ ys hb hx hok hs hb' (owns_cap ho').2 hx' hey w (lies_of_own ho) (lies_of_own ho')).mono fun _ _ ⟨_, _, _, he, hl, hw, hB⟩ => ⟨_, he, entrySAt.made hl (by have := appR_len xs s e0 ys (by omega); omega) hw, hB⟩
theorem implApp_at (lo hi : Nat) (v : Value) (lo' hi' : Nat) (v' : Value) (xs : List EnT) (s : ByteArray) (e0 : Int) (ys : List EvT) (hok : StOk xs) (hs : s.size ≤ 1048576) (hey : ∀ y ∈ ys, eventOk y ∧ y.2.1.size ≤ 1048576) (w : World) (a : Addr) (hS : Sent a w) (hM0 : MaxL w) (h : entrySAt w lo hi v xs) (h' : eventSAt w lo' hi' v' ys) :
    Calls Tryd.prog 16 #[v, .string s, .int .i64 e0, v'] w fun e w' => ∃ u, e = .returned (.tuple #[u, .int .i64 (appR xs s e0 ys).2]) ∧ entrySAt w' w.heap.size w'.heap.size u (appR xs s e0 ys).1 ∧ Below w.heap.size w w' := by
  obtain ⟨g, m, c, rfl, hx, hb, _, _, ho⟩ := h.open
  obtain ⟨g', m', c', rfl, hx', hb', _, _, ho'⟩ := h'.open
  exact (implApp_any _ _ _ _ xs s e0 _ _ _ ys hb hx hok hs hb' (owns_cap ho').2 hx' hey w a hS hM0 (lies_of_own ho) (lies_of_own ho')).mono fun _ _ ⟨_, _, _, he, hl, hw, hB⟩ => ⟨_, he, entrySAt.made hl (by have := appR_len xs s e0 ys (by omega); omega) hw, hB⟩
end Go.Proofs.YtjloonjkplaplaaDoor
