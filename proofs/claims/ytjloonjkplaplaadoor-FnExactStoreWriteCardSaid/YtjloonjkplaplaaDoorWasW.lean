/-
  StoreWas of the reference and of the program. No condition beyond what the rows list.
-/
import Derived.Test.YtjloonjkplaplaaDoorWas
namespace Go.Proofs.YtjloonjkplaplaaDoor
open Go.ChangeShapes Go.WideShapes Go.ChangeAt Go.RowKit Go.Maps
set_option maxRecDepth 8000 in
set_option maxHeartbeats 12800000 in
theorem specWas_any (A : Option Addr) (n c : Nat) (xs : List EnT) (s : ByteArray) (e0 : Int) (B : Option Addr) (m d : Nat) (ys : List EvT) (hn : n ≤ 1048576) (hx : xs.length = n) (hok : StOk xs) (hs : s.size ≤ 1048576) (hm : m ≤ 1048576) (_hmd : m ≤ d) (hy : ys.length = m) (hey : ∀ y ∈ ys, eventOk y ∧ y.2.1.size ≤ 1048576) (w : World) (hL : Lies w 4 A n (xs.flatMap entryCells)) (hM : Lies w 3 B m (ys.flatMap eventCells)) :
    Calls Tryd.prog 9 #[.slice A n c, .string s, .int .i64 e0, .slice B m d] w fun e w' => e = .returned (.bool (storeWas xs s e0 ys)) ∧ Below w.heap.size w w' := by
  have HX := Lib.hid hx
  have HY := Lib.hid hy
  have HL := Lib.hid hL
  have HM := Lib.hid hM
  clear hx hy hL hM
  cases E1 : storeB xs
  · have HE := Lib.hid (was_no (e := e0) (ys := ys) (xs := xs) (s := s) (by unfold writeB; simp only [E1]; rfl))
    go_enter Tryd.func9, Tryd.ntmps9
    go_wp2_with fail
    refine (specStore_any _ n c xs hn HX.out hok.small _ HL.out).mono ?_
    rintro e1 w1 ⟨rfl, hb1⟩
    rw [E1]
    have B1 : Below w.heap.size w w1 := hb1
    go_wp2
    go_ret
    exact ⟨ret_bool HE.out.symm, B1⟩
  cases E2 : nameB s
  · have HE := Lib.hid (was_no (e := e0) (ys := ys) (xs := xs) (s := s) (by unfold writeB; simp only [E1, E2]; rfl))
    go_enter Tryd.func9, Tryd.ntmps9
    go_wp2_with fail
    refine (specStore_any _ n c xs hn HX.out hok.small _ HL.out).mono ?_
    rintro e1 w1 ⟨rfl, hb1⟩
    rw [E1]
    have B1 : Below w.heap.size w w1 := hb1
    go_wp2_with fail
    refine (specNameValid_any s hs _).mono ?_
    rintro e1 w2 ⟨rfl, hb2⟩
    rw [E2]
    have B2 : Below w.heap.size w w2 := below_step hb2 B1
    go_wp2
    go_ret
    exact ⟨ret_bool HE.out.symm, B2⟩
  cases E3 : inB e0 (-2) 23
  · have HE := Lib.hid (was_no (e := e0) (ys := ys) (xs := xs) (s := s) (by unfold writeB; simp only [E1, E2, E3]; rfl))
    go_enter Tryd.func9, Tryd.ntmps9
    go_wp2_with fail
    refine (specStore_any _ n c xs hn HX.out hok.small _ HL.out).mono ?_
    rintro e1 w1 ⟨rfl, hb1⟩
    rw [E1]
    have B1 : Below w.heap.size w w1 := hb1
    go_wp2_with fail
    refine (specNameValid_any s hs _).mono ?_
    rintro e1 w2 ⟨rfl, hb2⟩
    rw [E2]
    have B2 : Below w.heap.size w w2 := below_step hb2 B1
    go_wp2_with fail
    refine (specExpV_any _ _).mono ?_
    rintro e1 w3 ⟨rfl, hb3⟩
    rw [E3]
    have B3 : Below w.heap.size w w3 := below_step hb3 B2
    go_wp2
    go_ret
    exact ⟨ret_bool HE.out.symm, B3⟩
  cases E4 : eventsB ys
  · have HE := Lib.hid (was_no (e := e0) (ys := ys) (xs := xs) (s := s) (by unfold writeB; simp only [E1, E2, E3, E4]; rfl))
    go_enter Tryd.func9, Tryd.ntmps9
    go_wp2_with fail
    refine (specStore_any _ n c xs hn HX.out hok.small _ HL.out).mono ?_
    rintro e1 w1 ⟨rfl, hb1⟩
    rw [E1]
    have B1 : Below w.heap.size w w1 := hb1
    go_wp2_with fail
    refine (specNameValid_any s hs _).mono ?_
    rintro e1 w2 ⟨rfl, hb2⟩
    rw [E2]
    have B2 : Below w.heap.size w w2 := below_step hb2 B1
    go_wp2_with fail
    refine (specExpV_any _ _).mono ?_
    rintro e1 w3 ⟨rfl, hb3⟩
    rw [E3]
    have B3 : Below w.heap.size w w3 := below_step hb3 B2
    go_wp2_with fail
    refine (specEvents_any B m d ys hm HY.out (fun y h => (hey y h).1) _ (HM.out.below B3)).mono ?_
    rintro e1 w4 ⟨rfl, hb4⟩
    rw [E4]
    have B4 : Below w.heap.size w w4 := below_step hb4 B3
    go_wp2
    go_ret
    exact ⟨ret_bool HE.out.symm, B4⟩
  by_cases hm0 : m = 0
  · have HE := Lib.hid (was_no (e := e0) (ys := ys) (xs := xs) (s := s) (by unfold writeB; rw [HY.out, hm0]; simp))
    have q0 : ((m : Int) == 0) = true := by simp [hm0]
    have q1 : (m == 0) = true := by simp [hm0]
    clear hm0
    go_enter Tryd.func9, Tryd.ntmps9
    go_wp2_with fail
    refine (specStore_any _ n c xs hn HX.out hok.small _ HL.out).mono ?_
    rintro e1 w1 ⟨rfl, hb1⟩
    rw [E1]
    have B1 : Below w.heap.size w w1 := hb1
    go_wp2_with fail
    refine (specNameValid_any s hs _).mono ?_
    rintro e1 w2 ⟨rfl, hb2⟩
    rw [E2]
    have B2 : Below w.heap.size w w2 := below_step hb2 B1
    go_wp2_with fail
    refine (specExpV_any _ _).mono ?_
    rintro e1 w3 ⟨rfl, hb3⟩
    rw [E3]
    have B3 : Below w.heap.size w w3 := below_step hb3 B2
    go_wp2_with fail
    refine (specEvents_any B m d ys hm HY.out (fun y h => (hey y h).1) _ (HM.out.below B3)).mono ?_
    rintro e1 w4 ⟨rfl, hb4⟩
    rw [E4]
    have B4 : Below w.heap.size w w4 := below_step hb4 B3
    go_wp2
    go_ret
    exact ⟨ret_bool HE.out.symm, B4⟩
  have q0 : ((m : Int) == 0) = false := by simp; omega
  have q1 : (m == 0) = false := by simp [hm0]
  have HW := Lib.hid (was_yes (xs := xs) (s := s) (e := e0) (ys := ys) (by unfold writeB; simp only [E1, E2, E3, E4]; rw [HY.out]; simp; omega))
  have hpos : 0 < m := by omega
  clear hm0
  have i3 := inB_iff.1 E3
  by_cases he : e0 = -2
  · subst he
    rw [if_pos rfl] at HW
    go_enter Tryd.func9, Tryd.ntmps9
    go_wp2_with fail
    refine (specStore_any _ n c xs hn HX.out hok.small _ HL.out).mono ?_
    rintro e1 w1 ⟨rfl, hb1⟩
    rw [E1]
    have B1 : Below w.heap.size w w1 := hb1
    go_wp2_with fail
    refine (specNameValid_any s hs _).mono ?_
    rintro e1 w2 ⟨rfl, hb2⟩
    rw [E2]
    have B2 : Below w.heap.size w w2 := below_step hb2 B1
    go_wp2_with fail
    refine (specExpV_any _ _).mono ?_
    rintro e1 w3 ⟨rfl, hb3⟩
    rw [E3]
    have B3 : Below w.heap.size w w3 := below_step hb3 B2
    go_wp2_with fail
    refine (specEvents_any B m d ys hm HY.out (fun y h => (hey y h).1) _ (HM.out.below B3)).mono ?_
    rintro e1 w4 ⟨rfl, hb4⟩
    rw [E4]
    have B4 : Below w.heap.size w w4 := below_step hb4 B3
    go_wp2_with fail
    refine (l4Events_any _ n c xs s hn HX.out _ (HL.out.below B4)).mono ?_
    rintro e1 w5 ⟨g5, v, c5, rfl, hl5, hEv, hb5⟩
    have HVV := Lib.hid hl5
    have HEv := Lib.hid hEv
    have hv9 : v ≤ 1048576 := by have := evOf_length s xs; have := HVV.out; have := HX.out; omega
    have B5 : Below w.heap.size w w5 := below_step hb5 B4
    clear hl5 hEv
    go_wp2
    go_loopw [10] (fun i wr => ∃ k : Nat, k ≤ v ∧ i = .int .i64 k ∧ Hid (∀ j, j < k → hereB (evOf s xs) ys j = false) ∧ Below w5.heap.size w5 wr) (fun i _ => v - (intOf i).toNat)
    case atStart => exact ⟨0, Nat.zero_le _, rfl, Lib.hid (fun j h => absurd h (by omega)), Below.refl _ _⟩
    case round =>
      obtain ⟨k, hk, rfl, hI, hB⟩ := hrel
      have BW : Below w.heap.size w wr := below_step hB B5
      by_cases hlt : k < v
      · cases EH : hereB (evOf s xs) ys k
        · have HI2 := Lib.hid (show ∀ j, j < k + 1 → hereB (evOf s xs) ys j = false by
            intro j hj
            by_cases e : j = k
            · rw [e]; exact EH
            · exact hI.out j (by omega))
          go_wp2_with fail
          refine (l5Here_any _ v c5 (evOf s xs) k B m d ys hv9 HVV.out (by omega) hm HY.out _ ((lies_of_own HEv.out).below hB) (HM.out.below BW)).mono ?_
          rintro e1 w6 ⟨rfl, hb6⟩
          rw [EH]
          go_wp2
          go_roundw
          case rel => exact ⟨k + 1, by omega, by go_num, HI2, below_step hb6 hB⟩
          case measure => simp [intOf]; omega
        · have HE := Lib.hid (show storeWas xs s (-2) ys = true by rw [HW.out]; exact was_hit (by rw [HVV.out]; exact hlt) EH)
          go_wp2_with fail
          refine (l5Here_any _ v c5 (evOf s xs) k B m d ys hv9 HVV.out (by omega) hm HY.out _ ((lies_of_own HEv.out).below hB) (HM.out.below BW)).mono ?_
          rintro e1 w6 ⟨rfl, hb6⟩
          rw [EH]
          go_wp2
          go_ret
          exact ⟨ret_bool HE.out.symm, below_step hb6 BW⟩
      · have HE := Lib.hid (show storeWas xs s (-2) ys = false by rw [HW.out]; exact was_none (fun i hi => hI.out i (by have := HVV.out; omega)))
        go_wp2
        go_ret
        exact ⟨ret_bool HE.out.symm, BW⟩
  · rw [if_neg he] at HW
    obtain ⟨q, hq⟩ := Int.eq_ofNat_of_zero_le (show (0 : Int) ≤ e0 + 1 by omega)
    obtain rfl : e0 = (q : Int) - 1 := by omega
    have hq2 : ((q : Int) - 1 + 1).toNat = q := by omega
    rw [hq2] at HW
    have t1 : ((q : Int) - 1 == -2) = false := by simp; omega
    have t2 : ((q : Int) - 1 != -2) = true := by simp; omega
    have hq24 : q ≤ 24 := by omega
    have hw1 : IntKind.i64.wrap (q : Int) = (q : Int) := IntWalk.i64_in _ ⟨by omega, by omega⟩
    clear hq hq2 he
    go_enter Tryd.func9, Tryd.ntmps9
    go_wp2_with fail
    refine (specStore_any _ n c xs hn HX.out hok.small _ HL.out).mono ?_
    rintro e1 w1 ⟨rfl, hb1⟩
    rw [E1]
    have B1 : Below w.heap.size w w1 := hb1
    go_wp2_with fail
    refine (specNameValid_any s hs _).mono ?_
    rintro e1 w2 ⟨rfl, hb2⟩
    rw [E2]
    have B2 : Below w.heap.size w w2 := below_step hb2 B1
    go_wp2_with fail
    refine (specExpV_any _ _).mono ?_
    rintro e1 w3 ⟨rfl, hb3⟩
    rw [E3]
    have B3 : Below w.heap.size w w3 := below_step hb3 B2
    go_wp2_with fail
    refine (specEvents_any B m d ys hm HY.out (fun y h => (hey y h).1) _ (HM.out.below B3)).mono ?_
    rintro e1 w4 ⟨rfl, hb4⟩
    rw [E4]
    have B4 : Below w.heap.size w w4 := below_step hb4 B3
    go_wp2_with fail
    refine (l4Events_any _ n c xs s hn HX.out _ (HL.out.below B4)).mono ?_
    rintro e1 w5 ⟨g5, v, c5, rfl, hl5, hEv, hb5⟩
    have HVV := Lib.hid hl5
    have HEv := Lib.hid hEv
    have hv9 : v ≤ 1048576 := by have := evOf_length s xs; have := HVV.out; have := HX.out; omega
    have B5 : Below w.heap.size w w5 := below_step hb5 B4
    clear hl5 hEv
    go_wp2_with fail
    refine (l5Here_any _ v c5 (evOf s xs) q B m d ys hv9 HVV.out (by omega) hm HY.out _ (lies_of_own HEv.out) (HM.out.below B5)).mono ?_
    rintro e1 w6 ⟨rfl, hb6⟩
    go_wp2
    go_ret
    exact ⟨ret_bool HW.out.symm, below_step hb6 B5⟩

set_option maxRecDepth 8000 in
set_option maxHeartbeats 12800000 in
theorem implWas_any (A : Option Addr) (n c : Nat) (xs : List EnT) (s : ByteArray) (e0 : Int) (B : Option Addr) (m d : Nat) (ys : List EvT) (hn : n ≤ 1048576) (hx : xs.length = n) (hok : StOk xs) (hs : s.size ≤ 1048576) (hm : m ≤ 1048576) (hmd : m ≤ d) (hy : ys.length = m) (hey : ∀ y ∈ ys, eventOk y ∧ y.2.1.size ≤ 1048576) (w : World) (a : Addr) (hS : Sent a w) (hM0 : MaxL w) (hL : Lies w 4 A n (xs.flatMap entryCells)) (hM : Lies w 3 B m (ys.flatMap eventCells)) :
    Calls Tryd.prog 12 #[.slice A n c, .string s, .int .i64 e0, .slice B m d] w fun e w' => e = .returned (.bool (storeWas xs s e0 ys)) ∧ Below w.heap.size w w' := by
  have HX := Lib.hid hx
  have HY := Lib.hid hy
  have HL := Lib.hid hL
  have HM := Lib.hid hM
  clear hx hy hL hM
  cases E0 : writeB xs s e0 ys
  · have HE := Lib.hid (was_no E0)
    go_enter Tryd.func12, Tryd.ntmps12
    go_wp2_with fail
    refine (implWrite_any _ n c xs s e0 B m d ys hn HX.out hok hs hm hmd HY.out hey _ a hS hM0 HL.out HM.out).mono ?_
    rintro e1 w1 ⟨rfl, hb1⟩
    rw [E0]
    go_wp2
    go_ret
    exact ⟨ret_bool HE.out.symm, hb1⟩
  have HW := Lib.hid (was_yes E0)
  obtain ⟨E1, E2, i3, E4, hpos0⟩ := wasB_parts E0
  have hpos : 0 < m := by have := HY.out; omega
  have hn24 : n ≤ 24 := by have := ((store_iff xs).1 E1).1; have := HX.out; omega
  have hm24 : m ≤ 24 := by have := ((events_iff ys).1 E4).1; have := HY.out; omega
  have HEV := Lib.hid (show ∀ y ∈ evOf s xs, evOk y = true from fun y hy => (ent_parts' (((store_iff xs).1 E1).2.1 _ (evOf_mem hy))))
  clear hpos0
  by_cases he : e0 = -2
  case neg =>
    rw [if_neg he] at HW
    obtain ⟨q, hq⟩ := Int.eq_ofNat_of_zero_le (show (0 : Int) ≤ e0 + 1 by omega)
    obtain rfl : e0 = (q : Int) - 1 := by omega
    have hq2 : ((q : Int) - 1 + 1).toNat = q := by omega
    rw [hq2] at HW
    have t1 : ((q : Int) - 1 == -2) = false := by simp; omega
    have t2 : ((q : Int) - 1 != -2) = true := by simp; omega
    have hq24 : q ≤ 24 := by omega
    have hw1 : IntKind.i64.wrap (q : Int) = (q : Int) := IntWalk.i64_in _ ⟨by omega, by omega⟩
    clear hq hq2 he
    go_enter Tryd.func12, Tryd.ntmps12
    go_wp2_with fail
    refine (implWrite_any _ n c xs s _ B m d ys hn HX.out hok hs hm hmd HY.out hey _ a hS hM0 HL.out HM.out).mono ?_
    rintro e1 w1 ⟨rfl, hb1⟩
    rw [E0]
    go_wp2_with fail
    refine (streamsOf_any A n c xs hn HX.out hok.names _ (HL.out.below hb1)).mono ?_
    rintro e3 w3 ⟨b, D, V, rfl, hSt, _, hb3⟩
    obtain ⟨A4, c4, hV, hvc, _, hrow⟩ := hSt.form s
    have hlk := hSt.look (s := s) (by unfold maxLen; omega)
    rw [hV] at hlk
    obtain ⟨v, hvE⟩ : ∃ v, v = (evOf s xs).length := ⟨_, rfl⟩
    rw [← hvE] at hlk hrow hvc
    have HRow := Lib.hid (lies_of_own hrow)
    have hv9 : v ≤ 1048576 := by have := evOf_length s xs; have := HX.out; omega
    have B3 : Below w.heap.size w w3 := below_step hb3 hb1
    have HVE := Lib.hid hvE
    clear hV hSt hrow hvE
    go_wp2_with fail
    refine (standAt_any A4 v c4 (evOf s xs) q B m d ys hv9 hvc HVE.out.symm (by omega) hpos hm HY.out _ HRow.out (HM.out.below B3)).mono ?_
    rintro e1 w6 ⟨rfl, hb6⟩
    go_wp2
    go_ret
    exact ⟨ret_bool HW.out.symm, below_step hb6 B3⟩
  subst he
  rw [if_pos rfl] at HW
  obtain ⟨⟨y0, y1, y2⟩, hy0⟩ := get_lt HY.out hpos
  cases E5 : hasIds (idsN (evOf s xs)) y0
  all_goals
    have HY0 := Lib.hid hy0
    go_enter Tryd.func12, Tryd.ntmps12
    go_wp2_with fail
    refine (implWrite_any _ n c xs s _ B m d ys hn HX.out hok hs hm hmd HY.out hey _ a hS hM0 HL.out HM.out).mono ?_
    rintro e1 w1 ⟨rfl, hb1⟩
    rw [E0]
    go_wp2_with fail
    refine (streamsOf_any A n c xs hn HX.out hok.names _ (HL.out.below hb1)).mono ?_
    rintro e3 w3 ⟨b, D, V, rfl, hSt, _, hb3⟩
    obtain ⟨A4, c4, hV, hvc, _, hrow⟩ := hSt.form s
    have hlk := hSt.look (s := s) (by unfold maxLen; omega)
    rw [hV] at hlk
    obtain ⟨v, hvE⟩ : ∃ v, v = (evOf s xs).length := ⟨_, rfl⟩
    rw [← hvE] at hlk hrow hvc
    have HRow := Lib.hid (lies_of_own hrow)
    have hv9 : v ≤ 1048576 := by have := evOf_length s xs; have := HX.out; omega
    have B3 : Below w.heap.size w w3 := below_step hb3 hb1
    have HVE := Lib.hid hvE
    clear hV hSt hrow hvE
    go_wp2_with fail
    refine (idsOf_any A4 v c4 (evOf s xs) hv9 HVE.out.symm HEV.out _ HRow.out).mono ?_
    rintro e4 w4 ⟨rfl, hb4⟩
    have B4 : Below w.heap.size w w4 := below_step hb4 B3
    obtain ⟨L, hLL⟩ : ∃ L, L = idsV (idsN (evOf s xs)) := ⟨_, rfl⟩
    rw [← hLL]
    have hl1 : L.length = 157 := by rw [hLL]; exact idsV_length _
    have hone := Lib.hid (all_oneCell_toArray (by rw [hLL]; exact idsV_one _ : ∀ v ∈ L, v.oneCell' = true))
    have HI2 := Lib.hid (show (Tryd.prog.info? 64).map (·.size) = some L.toArray.size by simpa [hl1] using infoIds)
    obtain ⟨wz, hwz⟩ : ∃ wz, wz = w4.alloc (.cells Tryd.zeroCells64 64) := ⟨_, rfl⟩
    have HWZ := Lib.hid hwz
    have HRZ := Lib.hid (show RowIs wz w4.heap.size 64 (idsV []) by rw [hwz]; exact RowIs.new _ _ _)
    have BWZ : Below w4.heap.size w4 wz := by rw [hwz]; exact below_alloc (Below.refl _ _) _
    have hth := Lib.hid (ids_there (n := L.toArray.size) HRZ.out (by simp [idsV_length, hl1]))
    obtain ⟨w5, hw5⟩ : ∃ w5, w5 = wz.setCells w4.heap.size 0 L.toArray.toList := ⟨_, rfl⟩
    have HW5 := Lib.hid hw5
    have HRS := Lib.hid (show RowIs w5 w4.heap.size 64 L by rw [hw5]; simpa using row_over L [] (idsV []) HRZ.out (by rw [hl1, idsV_length]))
    have BS : Below w4.heap.size w4 w5 := by rw [hw5]; exact below_cells (b := w4.heap.size) L.toArray.toList 0 (Nat.le_refl _) BWZ
    have B5 : Below w.heap.size w w5 := below_step BS B4
    obtain ⟨bb, ob, hBA, hb, hc⟩ := (HM.out.below B5).row (fun _ => rfl) hpos
    have d0 : w5.cell? ⟨bb, ob, none⟩ = some (.int .i64 y0) := by simpa using hc 0 _ HY0.out 0 _ rfl
    have z1 : (0 : Int) < (m : Int) := by omega
    rw [hLL] at HRS
    clear hwz hw5 hl1 hLL hc
    subst hBA
    go_wp2_with (first | (rw [← HWZ.out]; refine wpList_store_mid rfl 64 _ _ rfl w4.heap.size 0 L.toArray rfl rfl hth.out HI2.out hone.out ?_; rw [← HW5.out]) | (go_at_call 41; refine (idsHas_any w4.heap.size (idsN (evOf s xs)) y0 _ HRS.out).mono ?_; rintro e6 w6 ⟨rfl, hb6⟩; rw [E5]))
  · have HE := Lib.hid (show storeWas xs s (-2) ys = false by rw [HW.out]; exact was_ids HEV.out HY0.out E5)
    go_ret
    exact ⟨ret_bool HE.out.symm, below_step hb6 B5⟩
  · have B6 : Below w.heap.size w w6 := below_step hb6 B5
    have HR6 := Lib.hid (((HRow.out.below hb4).below BS).below hb6)
    have HM6 := Lib.hid (HM.out.below B6)
    go_loopw [39] (fun i wr => ∃ k : Nat, k ≤ v ∧ i = .int .i64 k ∧ Hid (∀ j, j < k → hereB (evOf s xs) ys j = false) ∧ Below w6.heap.size w6 wr) (fun i _ => v - (intOf i).toNat)
    case atStart => exact ⟨0, Nat.zero_le _, rfl, Lib.hid (fun j h => absurd h (by omega)), Below.refl _ _⟩
    case round =>
      obtain ⟨k, hk, rfl, hI, hB⟩ := hrel
      have BW : Below w.heap.size w wr := below_step hB B6
      by_cases hlt : k < v
      · cases EH : hereB (evOf s xs) ys k
        · have HI2 := Lib.hid (show ∀ j, j < k + 1 → hereB (evOf s xs) ys j = false by
            intro j hj
            by_cases e : j = k
            · rw [e]; exact EH
            · exact hI.out j (by omega))
          go_wp2_with fail
          refine (standAt_any A4 v c4 (evOf s xs) k _ m d ys hv9 hvc HVE.out.symm (by omega) hpos hm HY.out _ (HR6.out.below hB) (HM6.out.below hB)).mono ?_
          rintro e1 w7 ⟨rfl, hb7⟩
          rw [EH]
          go_wp2
          go_roundw
          case rel => exact ⟨k + 1, by omega, by go_num, HI2, below_step hb7 hB⟩
          case measure => simp [intOf]; omega
        · have HE := Lib.hid (show storeWas xs s (-2) ys = true by rw [HW.out]; exact was_hit (by rw [← HVE.out]; exact hlt) EH)
          go_wp2_with fail
          refine (standAt_any A4 v c4 (evOf s xs) k _ m d ys hv9 hvc HVE.out.symm (by omega) hpos hm HY.out _ (HR6.out.below hB) (HM6.out.below hB)).mono ?_
          rintro e1 w7 ⟨rfl, hb7⟩
          rw [EH]
          go_wp2
          go_ret
          exact ⟨ret_bool HE.out.symm, below_step hb7 BW⟩
      · have HE := Lib.hid (show storeWas xs s (-2) ys = false by rw [HW.out]; exact was_none (fun i hi => hI.out i (by have := HVE.out; omega)))
        go_wp2
        go_ret
        exact ⟨ret_bool HE.out.symm, BW⟩

theorem specWas_at (lo hi : Nat) (v : Value) (lo' hi' : Nat) (v' : Value) (xs : List EnT) (s : ByteArray) (e0 : Int) (ys : List EvT) (hok : StOk xs) (hs : s.size ≤ 1048576) (hey : ∀ y ∈ ys, eventOk y ∧ y.2.1.size ≤ 1048576) (w : World) (h : entrySAt w lo hi v xs) (h' : eventSAt w lo' hi' v' ys) :
    Calls Tryd.prog 9 #[v, .string s, .int .i64 e0, v'] w fun e w' => e = .returned (.bool (storeWas xs s e0 ys)) ∧ Below w.heap.size w w' := by
  obtain ⟨g, m, c, rfl, hx, hb, _, _, ho⟩ := h.open
  obtain ⟨g', m', c', rfl, hx', hb', _, _, ho'⟩ := h'.open
  exact specWas_any _ _ _ xs s e0 _ _ _ ys hb hx hok hs hb' (owns_cap ho').2 hx' hey w (lies_of_own ho) (lies_of_own ho')
theorem implWas_at (lo hi : Nat) (v : Value) (lo' hi' : Nat) (v' : Value) (xs : List EnT) (s : ByteArray) (e0 : Int) (ys : List EvT) (hok : StOk xs) (hs : s.size ≤ 1048576) (hey : ∀ y ∈ ys, eventOk y ∧ y.2.1.size ≤ 1048576) (w : World) (a : Addr) (hS : Sent a w) (hM0 : MaxL w) (h : entrySAt w lo hi v xs) (h' : eventSAt w lo' hi' v' ys) :
    Calls Tryd.prog 12 #[v, .string s, .int .i64 e0, v'] w fun e w' => e = .returned (.bool (storeWas xs s e0 ys)) ∧ Below w.heap.size w w' := by
  obtain ⟨g, m, c, rfl, hx, hb, _, _, ho⟩ := h.open
  obtain ⟨g', m', c', rfl, hx', hb', _, _, ho'⟩ := h'.open
  exact implWas_any _ _ _ xs s e0 _ _ _ ys hb hx hok hs hb' (owns_cap ho').2 hx' hey w a hS hM0 (lies_of_own ho) (lies_of_own ho')
end Go.Proofs.YtjloonjkplaplaaDoor
