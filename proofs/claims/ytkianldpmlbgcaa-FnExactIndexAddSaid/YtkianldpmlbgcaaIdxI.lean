/-
  Valid rows: what the program's function returns, for every slice of rows. No condition.
-/
import Derived.Test.YtkianldpmlbgcaaIdxS
import Derived.Test.YtkianldpmlbgcaaOwn
namespace Go.Proofs.Ytkianldpmlbgcaa
open Go.ChangeShapes Go.WideShapes Go.ChangeAt Go.RowKit

def intVals (hs : List Int) : List Value := hs.map (Value.int .i64)
theorem intVals_get {hs : List Int} {k : Nat} {h : Int} (e : hs[k]? = some h) : (intVals hs)[k]? = some (.int .i64 h) := by unfold intVals; rw [List.getElem?_map, e]; rfl
theorem intVals_set (hs : List Int) (k : Nat) (h : Int) : intVals (hs.set k h) = (intVals hs).set k (.int .i64 h) := by unfold intVals; rw [List.map_set]
/-- How often each position from 0 to 99 was read. -/
def usesL (ps : List Int) : List Int := (List.range 100).map fun p => ((ps.count ((p : Nat) : Int) : Nat) : Int)
theorem usesL_get (ps : List Int) {p : Nat} (h : p < 100) : (usesL ps)[p]? = some ((ps.count (p : Int) : Nat) : Int) := by
  unfold usesL; rw [List.getElem?_map, List.getElem?_range h]; rfl
theorem usesL_snoc (ps : List Int) {z : Int} (h0 : 0 ≤ z) (_h1 : z ≤ 99) : usesL (ps ++ [z]) = (usesL ps).set z.toNat (((ps.count z : Nat) : Int) + 1) := by
  have hl : ∀ qs, (usesL qs).length = 100 := fun qs => by unfold usesL; simp
  refine List.ext_getElem? (fun j => ?_)
  by_cases hj : j < 100
  · rw [usesL_get _ hj, List.getElem?_set, List.count_append, List.count_singleton]
    by_cases c : z.toNat = j
    · have e : z = (j : Int) := by omega
      rw [if_pos c, if_pos (show z.toNat < (usesL ps).length by rw [hl]; omega)]
      subst e
      simp
    · rw [if_neg c, usesL_get _ hj]
      have e : ¬ z = (j : Int) := by omega
      simp [e]
  · rw [List.getElem?_eq_none (by rw [hl]; omega), List.getElem?_eq_none (by rw [List.length_set, hl]; omega)]
/-- The positions of some rows. -/
def placesL (xs : List RowX) : List Int := xs.flatMap (·.zs)
theorem many_le {xs : List RowX} {k : Nat} (p : Int) : manyN (xs.take k) p ≤ manyN xs p := by
  unfold manyN
  conv => rhs; rw [← List.take_append_drop k xs, List.flatMap_append, List.count_append]
  omega
theorem count_le' {zs : List Int} {k : Nat} (p : Int) : (zs.take k).count p ≤ zs.count p := by
  conv => rhs; rw [← List.take_append_drop k zs, List.count_append]
  omega
theorem places_succ {xs : List RowX} {k : Nat} {x : RowX} (h : xs[k]? = some x) : placesL (xs.take (k + 1)) = placesL (xs.take k) ++ x.zs := by
  unfold placesL; rw [take_succ_of h, List.flatMap_append]; simp
/-- A position that was read before stands twice. -/
theorem many_two {xs : List RowX} {k j : Nat} {x : RowX} {z : Int} (hx : xs[k]? = some x) (hz : x.zs[j]? = some z) (h : 0 < (placesL (xs.take k) ++ x.zs.take j).count z) : 1 < manyN xs z := by
  have h1 := many_le (xs := xs) (k := k + 1) z
  have h2 := count_le' (zs := x.zs) (k := j + 1) z
  rw [many_succ hx] at h1
  rw [count_succ hz, if_pos rfl] at h2
  rw [List.count_append] at h
  unfold manyN at h1 ⊢
  unfold placesL at h
  omega
theorem to_nat_z {z : Int} (h0 : 0 ≤ z) : ((z.toNat : Nat) : Int) = z := by omega

set_option maxRecDepth 8000 in
set_option maxHeartbeats 12800000 in
theorem implRows_any (A : Option Addr) (n c : Nat) (xs : List RowX) (hn : n ≤ 1048576) (hx : xs.length = n) (w : World) (ox : ∀ x ∈ xs, RowOk w x ∧ RowFit x) (hL : Lies w 2 A n (xs.flatMap rowCells)) :
    Calls Try.prog 11 #[.slice A n c] w fun e w' => e = .returned (.bool (rowsB xs)) ∧ Below w.heap.size w w' := by
  have HX := Lib.hid hx
  have HK := Lib.hid ox
  clear hx ox
  go_enter Try.func11, Try.ntmps11
  go_wp2
  go_loopw [11] (fun i wr => ∃ (k : Nat) (p : Option ByteArray), k ≤ n ∧ i = .int .i64 k ∧ Hid (rowsFrom none xs = rowsFrom p (xs.drop k)) ∧ Hid (k = 0 → p = none) ∧ Hid (0 < k → ∃ y, xs[k - 1]? = some y ∧ p = some y.key) ∧ Hid (∀ q : Nat, q < 100 → (placesL (xs.take k)).count (q : Int) ≤ 1) ∧ Hid (RowIs wr w.heap.size 57 (intVals (usesL (placesL (xs.take k))))) ∧ Below w.heap.size w wr) (fun i _ => n - (intOf i).toNat)
  case atStart => exact ⟨0, none, Nat.zero_le _, rfl, Lib.hid rfl, Lib.hid (fun _ => rfl), Lib.hid (by omega), Lib.hid (by intro q _; simp [placesL]), Lib.hid (RowIs.new w _ _), (by repeat' (first | (with_reducible exact Below.refl _ _) | (with_reducible assumption) | (with_reducible refine below_step (by assumption) ?_) | (with_reducible refine below_alloc ?_ _) | (with_reducible refine Below.drew ?_) | (with_reducible refine below_drewN ?_ _) | (with_reducible refine Below.setCell ?_ ?_ _) | go_size))⟩
  case round =>
    obtain ⟨k, p, hk, rfl, hT, hZ0, hP, hM, hR, hB⟩ := hrel
    obtain ⟨wo, hwo⟩ : ∃ wo, wo = wr := ⟨_, rfl⟩
    subst hwo
    by_cases hlt : k < n
    · obtain ⟨b, o, rfl, hb, hc⟩ := (hL.below hB).row (fun _ => rfl) (by omega)
      obtain ⟨x, hxk⟩ := get_lt HX.out hlt
      have c0 : wo.cell? ⟨b, o + k * 2, none⟩ = some (.string x.key) := hc k _ hxk 0 _ rfl
      have c1 : wo.cell? ⟨b, o + k * 2 + 1, none⟩ = some (.slice x.A x.n x.c) := hc k _ hxk 1 _ rfl
      have OK := Lib.hid ((HK.out _ (List.mem_of_getElem? hxk)).1.below hB)
      have HK0 := Lib.hid (HK.out _ (List.mem_of_getElem? hxk)).1
      have HNX := Lib.hid (HK.out _ (List.mem_of_getElem? hxk)).2.2
      have HS : x.key.size ≤ maxLen := OK.out.key
      have HXK := Lib.hid hxk
      have HC := Lib.hid hc
      have hRlt := hR.out.lt
      clear hxk hc
      obtain ⟨wb, hwb⟩ : ∃ wb, wb = wo.alloc (.cells #[.string x.key, .slice x.A x.n x.c] 55) := ⟨_, rfl⟩
      have HWB := Lib.hid hwb
      have BOB : Below wo.heap.size wo wb := by rw [hwb]; exact below_alloc (Below.refl _ _) _
      have BWB : Below w.heap.size w wb := below_step BOB hB
      clear hwb
      have b0 : wb.cell? ⟨wo.heap.size, 0, none⟩ = some (.string x.key) := by rw [HWB.out]; go_cell
      have b1 : wb.cell? ⟨wo.heap.size, 1, none⟩ = some (.slice x.A x.n x.c) := by rw [HWB.out]; go_cell
      have a0 := After.cell b0
      have a1 := After.cell b1
      cases E0 : wordB x.key
      · have HE : Hid (rowsB xs = false) := Lib.hid (rows_no (sorted_bad HXK.out hT.out (by unfold rowB; rw [E0]; simp)))
        go_wp2_with fail
        rw [← HWB.out]
        refine wp_region_after (by kernel_rfl) (by kernel_rfl) ?_
        repeat (go_big_quiet_step (((go_at_call 35; exact after_same_bool E0 (wordValid_any _ HS _)))))
        refine wpQuiet_nil ?_
        intro wn hw'
        have hwn := after_below hw'
        clear hw'
        go_wp2
        go_ret
        exact ⟨ret_bool HE.out.symm, (by repeat' (first | (with_reducible exact Below.refl _ _) | (with_reducible assumption) | (with_reducible refine below_step (by assumption) ?_) | (with_reducible refine below_alloc ?_ _) | (with_reducible refine Below.drew ?_) | (with_reducible refine below_drewN ?_ _) | (with_reducible refine Below.setCell ?_ ?_ _) | go_size))⟩
      by_cases hn0 : x.n = 0
      · have HE : Hid (rowsB xs = false) := Lib.hid (rows_no (sorted_bad HXK.out hT.out (by unfold rowB; rw [hn0]; simp)))
        have z0 : ((x.n : Int) == 0) = true := by simp [hn0]
        clear hn0
        go_wp2_with fail
        rw [← HWB.out]
        refine wp_region_after (by kernel_rfl) (by kernel_rfl) ?_
        repeat (go_big_quiet_step (((go_at_call 35; exact after_same_bool E0 (wordValid_any _ HS _)))))
        refine wpQuiet_nil ?_
        intro wn hw'
        have hwn := after_below hw'
        clear hw'
        go_wp2
        go_ret
        exact ⟨ret_bool HE.out.symm, (by repeat' (first | (with_reducible exact Below.refl _ _) | (with_reducible assumption) | (with_reducible refine below_step (by assumption) ?_) | (with_reducible refine below_alloc ?_ _) | (with_reducible refine Below.drew ?_) | (with_reducible refine below_drewN ?_ _) | (with_reducible refine Below.setCell ?_ ?_ _) | go_size))⟩
      have z0 : ((x.n : Int) == 0) = false := by simp [hn0]
      have HN0 := Lib.hid hn0
      clear hn0
      by_cases hk0 : k = 0
      case' neg =>
        obtain ⟨y, hy, hq⟩ := hP.out (by omega)
        have d0 : wo.cell? ⟨b, o + (k - 1) * 2, none⟩ = some (.string y.key) := HC.out (k - 1) _ hy 0 _ rfl
        have d1 : wb.cell? ⟨b, o + (k - 1) * 2, none⟩ = some (.string y.key) := box_cell BOB d0
        have d2 := After.cell d1
        have z : decide ((0 : Int) < (k : Int)) = true := by simp; omega
        have z1 : (1 : Int) ≤ (k : Int) := by omega
        have z2 : 0 < k := by omega
        have HT2 : Hid (rowsFrom none xs = rowsFrom (some y.key) (xs.drop k)) := Lib.hid (by rw [← hq]; exact hT.out)
        clear hy hk0 hZ0 hP HC hq
        cases E3 : ltS y.key x.key
        · have HE : Hid (rowsB xs = false) := Lib.hid (rows_no (sorted_stop HXK.out HT2.out E3))
          cases E4 : ltS x.key y.key
          all_goals
            have F1 : Op.bytesLess x.key.toList y.key.toList = _ := E4
            have F2 : (Op.bytesLess x.key.toList y.key.toList || x.key.toList == y.key.toList) = true := by
              first
                | (rw [F1]; rfl)
                | (rw [F1, ltS_tri E4 E3]; simp)
            clear E3 E4 F1
            go_wp2_with fail
            rw [← HWB.out]
            refine wp_region_after (by kernel_rfl) (by kernel_rfl) ?_
            repeat (go_big_quiet_step (((go_at_call 35; exact after_same_bool E0 (wordValid_any _ HS _)))))
            refine wpQuiet_nil ?_
            intro wn hw'
            have hwn := after_below hw'
            clear hw'
            go_wp2
            go_ret
            exact ⟨ret_bool HE.out.symm, (by repeat' (first | (with_reducible exact Below.refl _ _) | (with_reducible assumption) | (with_reducible refine below_step (by assumption) ?_) | (with_reducible refine below_alloc ?_ _) | (with_reducible refine Below.drew ?_) | (with_reducible refine below_drewN ?_ _) | (with_reducible refine Below.setCell ?_ ?_ _) | go_size))⟩
        have HNEXT : Hid (rowB x = true → rowsFrom none xs = rowsFrom (some x.key) (xs.drop (k + 1))) := Lib.hid (fun e => sorted_next HXK.out HT2.out e E3)
        have F1 : Op.bytesLess x.key.toList y.key.toList = false := ltS_asymm E3
        have F2 : (x.key.toList == y.key.toList) = false := str_ne (fun h => ltS_ne E3 h.symm)
        clear E3 HT2
        go_wp2_with fail
        rw [← HWB.out]
        refine wp_region_after (by kernel_rfl) (by kernel_rfl) ?_
        repeat (go_big_quiet_step (((go_at_call 35; exact after_same_bool E0 (wordValid_any _ HS _)))))
        refine wpQuiet_nil ?_
        intro wn hw'
        have hwn := after_below hw'
        clear hw'
        clear d0 d1 d2 F1 F2 z1 z2
      case' pos =>
        have HNEXT : Hid (rowB x = true → rowsFrom none xs = rowsFrom (some x.key) (xs.drop (k + 1))) := Lib.hid (fun e => by
          have h := hT.out
          rw [hZ0.out hk0] at h
          exact sorted_first HXK.out h e)
        have z : decide ((0 : Int) < (k : Int)) = false := by simp; omega
        have z2 : decide (0 < k) = false := by simp; omega
        clear hk0 hZ0 hP HC
        go_wp2_with fail
        rw [← HWB.out]
        refine wp_region_after (by kernel_rfl) (by kernel_rfl) ?_
        repeat (go_big_quiet_step (((go_at_call 35; exact after_same_bool E0 (wordValid_any _ HS _)))))
        refine wpQuiet_nil ?_
        intro wn hw'
        have hwn := after_below hw'
        clear hw'
        clear z2
      all_goals
        have HBAD : Hid (ascTo (-1) 100 x.zs = false → rowsB xs = false) := Lib.hid (fun h => rows_no (sorted_bad HXK.out hT.out (row_no h)))
        have HR1 := Lib.hid ((hR.out.below BOB).below hwn)
        have OK1 := Lib.hid ((OK.out.below BOB).below hwn)
        have BW1 : Below w.heap.size w wn := below_step hwn BWB
        have HN1 := HN0.out
        obtain ⟨b2, o2, hA2, _, _⟩ := OK1.out.lies.2 (by omega)
        have e1 : wn.cell? ⟨wo.heap.size, 1, none⟩ = some (.slice (some ⟨b2, o2, none⟩) x.n x.c) := by rw [← hA2]; exact box_cell hwn b1
        have HA2 := Lib.hid hA2
        clear hA2 HN1
        have hxn : x.n ≤ 1048576 := HNX.out
        go_wp2
        go_loopw [44, 6] (fun i l wr => ∃ (j : Nat) (L : Int), j ≤ x.n ∧ i = .int .i64 j ∧ l = .int .i64 L ∧ Hid (ascTo (-1) 100 x.zs = ascTo L 100 (x.zs.drop j)) ∧ Hid (-1 ≤ L) ∧ Hid (∀ q : Nat, q < 100 → (placesL (xs.take k) ++ x.zs.take j).count (q : Int) ≤ 1) ∧ Hid (RowIs wr w.heap.size 57 (intVals (usesL (placesL (xs.take k) ++ x.zs.take j)))) ∧ Below w.heap.size w wr) (fun i _ _ => x.n - (intOf i).toNat)
        case atStart => exact ⟨0, -1, Nat.zero_le _, rfl, rfl, Lib.hid rfl, Lib.hid (by omega), by simpa using hM, by simpa using HR1, BW1⟩
        case round =>
          obtain ⟨j, L, hj, rfl, rfl, hA, hL1, hM2, hR2, hB2⟩ := hrel
          have hO2 := Lib.hid (HK0.out.below hB2)
          by_cases hlt2 : j < x.n
          · obtain ⟨b3, o3, hA3, hb2, hc2⟩ := hO2.out.lies.2 (by omega)
            rw [HA2.out] at hA3
            cases hA3
            obtain ⟨z, hz⟩ := get_lt hO2.out.len hlt2
            have d0 : wr.cell? ⟨b2, o2 + j, none⟩ = some (.int .i64 z) := hc2 j _ (by simp [hz])
            have f0 := hR2.out.frozen z.toNat
            have hlt3 := hR2.out.lt
            have HZ := Lib.hid hz
            have HT3 := Lib.hid (asc_step hz hA.out)
            clear hc2 hz
            by_cases g1 : z ≤ L
            · have HE : Hid (rowsB xs = false) := Lib.hid (HBAD.out (by rw [HT3.out]; simp; omega))
              go_wp2
              go_ret
              exact ⟨ret_bool HE.out.symm, (by repeat' (first | (with_reducible exact Below.refl _ _) | (with_reducible assumption) | (with_reducible refine below_step (by assumption) ?_) | (with_reducible refine below_alloc ?_ _) | (with_reducible refine Below.drew ?_) | (with_reducible refine below_drewN ?_ _) | (with_reducible refine Below.setCell ?_ ?_ _) | go_size))⟩
            by_cases g2 : 99 < z
            · have HE : Hid (rowsB xs = false) := Lib.hid (HBAD.out (by rw [HT3.out]; simp; omega))
              go_wp2
              go_ret
              exact ⟨ret_bool HE.out.symm, (by repeat' (first | (with_reducible exact Below.refl _ _) | (with_reducible assumption) | (with_reducible refine below_step (by assumption) ?_) | (with_reducible refine below_alloc ?_ _) | (with_reducible refine Below.drew ?_) | (with_reducible refine below_drewN ?_ _) | (with_reducible refine Below.setCell ?_ ?_ _) | go_size))⟩
            have hL2 := hL1.out
            have g3 : 0 ≤ z := by omega
            have g4 : z ≤ 99 := by omega
            have hpz : ((z.toNat : Nat) : Int) = z := by omega
            obtain ⟨t, ht⟩ : ∃ t, t = (placesL (xs.take k) ++ x.zs.take j).count z := ⟨_, rfl⟩
            have u0 : wr.cell? ⟨w.heap.size, z.toNat, none⟩ = some (.int .i64 t) := hR2.out.cell (intVals_get (by rw [usesL_get _ (by omega), hpz, ht]))
            have HTT := Lib.hid ht
            clear ht hL2
            by_cases g5 : 0 < t
            · have HE : Hid (rowsB xs = false) := Lib.hid (once_no (p := z.toNat) (by omega) (by rw [hpz]; exact many_two HXK.out HZ.out (by rw [← HTT.out]; exact g5)))
              clear hpz
              go_wp2
              go_ret
              exact ⟨ret_bool HE.out.symm, (by repeat' (first | (with_reducible exact Below.refl _ _) | (with_reducible assumption) | (with_reducible refine below_step (by assumption) ?_) | (with_reducible refine below_alloc ?_ _) | (with_reducible refine Below.drew ?_) | (with_reducible refine below_drewN ?_ _) | (with_reducible refine Below.setCell ?_ ?_ _) | go_size))⟩
            · have ht0 : t = 0 := by omega
              subst ht0
              have HA4 : Hid (ascTo (-1) 100 x.zs = ascTo z 100 (x.zs.drop (j + 1))) := Lib.hid (by rw [HT3.out]; simp; omega)
              have HE : Hid (placesL (xs.take k) ++ x.zs.take (j + 1) = (placesL (xs.take k) ++ x.zs.take j) ++ [z]) := Lib.hid (by rw [take_succ_of HZ.out, List.append_assoc])
              have HM3 : Hid (∀ q : Nat, q < 100 → (placesL (xs.take k) ++ x.zs.take (j + 1)).count (q : Int) ≤ 1) := Lib.hid (by
                intro q hq
                rw [HE.out, List.count_append, List.count_singleton]
                by_cases e : z = (q : Int)
                · have h0 := HTT.out
                  rw [e] at h0
                  rw [← h0]
                  split <;> omega
                · have := hM2.out q hq
                  rw [if_neg (by simp [e])]
                  omega)
              clear hpz
              go_wp2
              go_roundw
              case rel => exact ⟨j + 1, z, by omega, by go_num, rfl, HA4, Lib.hid (by omega), HM3, Lib.hid (by rw [HE.out, usesL_snoc _ g3 g4, intVals_set, ← HTT.out]; exact hR2.out.set _ _), (by repeat' (first | (with_reducible exact Below.refl _ _) | (with_reducible assumption) | (with_reducible refine below_step (by assumption) ?_) | (with_reducible refine below_alloc ?_ _) | (with_reducible refine Below.drew ?_) | (with_reducible refine below_drewN ?_ _) | (with_reducible refine Below.setCell ?_ ?_ _) | go_size))⟩
              case measure => simp [intOf]; omega
          · have HZS : Hid (ascTo (-1) 100 x.zs = true) := Lib.hid (by rw [hA.out, List.drop_of_length_le (by have := hO2.out.len; omega)]; rfl)
            have HNX2 := Lib.hid (HNEXT.out (by unfold rowB; rw [HZS.out, E0]; simp; have := HN0.out; omega))
            have HTK : Hid (placesL (xs.take (k + 1)) = placesL (xs.take k) ++ x.zs.take j) := Lib.hid (by rw [places_succ HXK.out, List.take_of_length_le (l := x.zs) (by have := hO2.out.len; omega)])
            go_wp2
            go_roundw
            case rel => exact ⟨k + 1, _, by omega, by go_num, HNX2, Lib.hid (by omega), Lib.hid (fun _ => ⟨_, HXK.out, rfl⟩), by rw [HTK.out]; exact hM2, by rw [HTK.out]; exact hR2, (by repeat' (first | (with_reducible exact Below.refl _ _) | (with_reducible assumption) | (with_reducible refine below_step (by assumption) ?_) | (with_reducible refine below_alloc ?_ _) | (with_reducible refine Below.drew ?_) | (with_reducible refine below_drewN ?_ _) | (with_reducible refine Below.setCell ?_ ?_ _) | go_size))⟩
            case measure => simp [intOf]; omega
    · have HE : Hid (rowsB xs = true) := Lib.hid (rows_yes (by
        have := HX.out
        rw [hT.out, List.drop_of_length_le (by omega)]; rfl) (fun q hq => by
          have h := hM.out q hq
          rw [List.take_of_length_le (by have := HX.out; omega)] at h
          exact h))
      go_wp2
      go_ret
      exact ⟨ret_bool HE.out.symm, (by repeat' (first | (with_reducible exact Below.refl _ _) | (with_reducible assumption) | (with_reducible refine below_step (by assumption) ?_) | (with_reducible refine below_alloc ?_ _) | (with_reducible refine Below.drew ?_) | (with_reducible refine below_drewN ?_ _) | (with_reducible refine Below.setCell ?_ ?_ _) | go_size))⟩
end Go.Proofs.Ytkianldpmlbgcaa
