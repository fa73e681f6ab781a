/-
  Valid stores: what the reference's function returns, for every slice of entries. No condition.
-/
import Derived.Test.YtmkdmafffblmaaaDoorStoreP
namespace Go.Proofs.YtmkdmafffblmaaaDoor
open Go.ChangeShapes Go.WideShapes Go.ChangeAt Go.RowKit

set_option maxHeartbeats 12800000 in
theorem specStore_any (A : Option Addr) (n c : Nat) (xs : List EnT) (hn : n ≤ 1048576) (hx : xs.length = n) (hok : ∀ x ∈ xs, enS x) (w : World) (hL : Lies w 4 A n (xs.flatMap entryCells)) :
    Calls Tryd.prog 25 #[.slice A n c] w fun e w' => e = .returned (.bool (storeB xs)) ∧ Below w.heap.size w w' := by
  have HX := Lib.hid hx
  have HK := Lib.hid hok
  clear hx hok
  go_enter Tryd.func25, Tryd.ntmps25
  go_wp2
  go_loopw [3] (fun i wr => ∃ k : Nat, k ≤ n ∧ i = .int .i64 k ∧ Hid (stFrom [] xs = stFrom (xs.take k) (xs.drop k)) ∧ Below w.heap.size w wr) (fun i _ => n - (intOf i).toNat)
  case atStart => exact ⟨0, Nat.zero_le _, rfl, Lib.hid rfl, Below.refl _ _⟩
  case round =>
    obtain ⟨k, hk, rfl, hT, hB⟩ := hrel
    obtain ⟨wo, rfl⟩ : ∃ wo : World, wo = wr := ⟨_, rfl⟩
    by_cases hlt : k < n
    · obtain ⟨b, o, rfl, hb, hc⟩ := (hL.below hB).row (fun _ => rfl) (by omega)
      obtain ⟨⟨x0, x1, x2, x3⟩, hxk⟩ := get_lt HX.out hlt
      have c0 : wo.cell? ⟨b, o + k * 4, none⟩ = some (.string x0) := hc k _ hxk 0 _ rfl
      have c1 : wo.cell? ⟨b, o + k * 4 + 1, none⟩ = some (.int .i64 x1) := hc k _ hxk 1 _ rfl
      have c2 : wo.cell? ⟨b, o + k * 4 + 2, none⟩ = some (.string x2) := hc k _ hxk 2 _ rfl
      have c3 : wo.cell? ⟨b, o + k * 4 + 3, none⟩ = some (.int .i64 x3) := hc k _ hxk 3 _ rfl
      have HZ := Lib.hid (HK.out _ (List.mem_of_getElem? hxk))
      have HXK := Lib.hid hxk
      have HC := Lib.hid hc
      clear hxk hc
      cases E0 : nameB x0
      · have HE : Hid (storeB xs = false) := Lib.hid (store_no (st_bad HXK.out hT.out (by unfold entB; simp only [E0]; rfl)))
        go_wp2_with fail
        refine (specNameValid_any _ HZ.out.1 _).mono ?_
        rintro e1 w1 ⟨rfl, hb1⟩
        rw [E0]
        go_wp2
        go_ret
        exact ⟨ret_bool HE.out.symm, (by repeat' (first | (with_reducible exact Below.refl _ _) | (with_reducible assumption) | (with_reducible refine below_step (by assumption) ?_) | (with_reducible refine below_alloc ?_ _) | (with_reducible refine Below.drew ?_) | (with_reducible refine below_drewN ?_ _) | (with_reducible refine Below.setCell ?_ ?_ _) | go_size))⟩
      cases E1 : eventB x1 x2 x3
      · have HE : Hid (storeB xs = false) := Lib.hid (store_no (st_bad HXK.out hT.out (by unfold entB evOk; simp only [E0, E1]; rfl)))
        go_wp2_with fail
        refine (specNameValid_any _ HZ.out.1 _).mono ?_
        rintro e1 w1 ⟨rfl, hb1⟩
        rw [E0]
        have c1 := box_cell hb1 c1
        have c2 := box_cell hb1 c2
        have c3 := box_cell hb1 c3
        go_wp2_with fail
        refine (specEvent_any _ _ _ (by have h : x2.size ≤ 1048576 := HZ.out.2; unfold StrOk maxLen; omega) _).mono ?_
        rintro e2 w2 ⟨rfl, hb2⟩
        rw [E1]
        go_wp2
        go_ret
        exact ⟨ret_bool HE.out.symm, (by repeat' (first | (with_reducible exact Below.refl _ _) | (with_reducible assumption) | (with_reducible refine below_step (by assumption) ?_) | (with_reducible refine below_alloc ?_ _) | (with_reducible refine Below.drew ?_) | (with_reducible refine below_drewN ?_ _) | (with_reducible refine Below.setCell ?_ ?_ _) | go_size))⟩
      have HE0 := Lib.hid (show entB (x0, x1, x2, x3) = true by unfold entB evOk; simp only [E0, E1]; rfl)
      go_wp2_with fail
      refine (specNameValid_any _ HZ.out.1 _).mono ?_
      rintro e1 w1 ⟨rfl, hb1⟩
      rw [E0]
      have c1 := box_cell hb1 c1
      have c2 := box_cell hb1 c2
      have c3 := box_cell hb1 c3
      go_wp2_with fail
      refine (specEvent_any _ _ _ (by have h : x2.size ≤ 1048576 := HZ.out.2; unfold StrOk maxLen; omega) _).mono ?_
      rintro e2 w2 ⟨rfl, hb2⟩
      rw [E1]
      have hb12 : Below wo.heap.size wo w2 := below_step hb2 hb1
      have hB1 : Below w.heap.size w w2 := below_step hb12 hB
      have HL1 := Lib.hid (fun kk x (h : xs[kk]? = some x) j u (hu : (entryCells x)[j]? = some u) => box_cell hb12 (HC.out kk x h j u hu))
      clear c0 c1 c2 c3 hB hb1 hb2 hb12 E0 E1
      go_wp2
      go_loopw [4] (fun i wr => ∃ j : Nat, j ≤ k ∧ i = .int .i64 j ∧ Hid (idOf (x0, x1, x2, x3) ∉ (xs.take j).map idOf) ∧ Below w2.heap.size w2 wr) (fun i _ => k - (intOf i).toNat)
      case atStart => exact ⟨0, Nat.zero_le _, rfl, Lib.hid (by simp), Below.refl _ _⟩
      case round =>
        obtain ⟨j, hj, rfl, hN, hBj⟩ := hrel
        by_cases hjk : j < k
        · obtain ⟨⟨y0, y1, y2, y3⟩, hyj⟩ := get_lt HX.out (show j < n by omega)
          have e0 : wr.cell? ⟨b, o + k * 4, none⟩ = some (.string x0) := box_cell hBj (HL1.out k _ HXK.out 0 _ rfl)
          have e1 : wr.cell? ⟨b, o + k * 4 + 1, none⟩ = some (.int .i64 x1) := box_cell hBj (HL1.out k _ HXK.out 1 _ rfl)
          have d0 : wr.cell? ⟨b, o + j * 4, none⟩ = some (.string y0) := box_cell hBj (HL1.out j _ hyj 0 _ rfl)
          have d1 : wr.cell? ⟨b, o + j * 4 + 1, none⟩ = some (.int .i64 y1) := box_cell hBj (HL1.out j _ hyj 1 _ rfl)
          by_cases he0 : y0 = x0
          · have E : (y0.toList == x0.toList) = true := by simp [he0]
            by_cases he1 : y1 = x1
            · have HE : Hid (storeB xs = false) := Lib.hid (store_no (st_twice HXK.out hT.out hyj hjk (by unfold idOf; simp [he0, he1])))
              have E1 : (y1 == x1) = true := by simp [he1]
              clear he0 he1 hyj
              go_wp2_with fail
              go_quiet (fail)
              go_wp2
              go_ret
              exact ⟨ret_bool HE.out.symm, (by repeat' (first | (with_reducible exact Below.refl _ _) | (with_reducible assumption) | (with_reducible refine below_step (by assumption) ?_) | (with_reducible refine below_alloc ?_ _) | (with_reducible refine Below.drew ?_) | (with_reducible refine below_drewN ?_ _) | (with_reducible refine Below.setCell ?_ ?_ _) | go_size))⟩
            · have HE := Lib.hid (not_id_succ hyj hN.out (by unfold idOf; simp [he1]))
              have E1 : (y1 == x1) = false := by simp [he1]
              clear he0 he1 hyj
              go_wp2_with fail
              go_quiet (fail)
              go_wp2
              go_roundw
              case rel => exact ⟨j + 1, by omega, by go_num, HE, (by repeat' (first | (with_reducible exact Below.refl _ _) | (with_reducible assumption) | (with_reducible refine below_step (by assumption) ?_) | (with_reducible refine below_alloc ?_ _) | (with_reducible refine Below.drew ?_) | (with_reducible refine below_drewN ?_ _) | (with_reducible refine Below.setCell ?_ ?_ _) | go_size))⟩
              case measure => simp [intOf]; omega
          · have HE := Lib.hid (not_id_succ hyj hN.out (by unfold idOf; simp [he0]))
            have E : (y0.toList == x0.toList) = false := str_ne he0
            clear he0 hyj
            go_wp2_with fail
            go_quiet (fail)
            go_wp2
            go_roundw
            case rel => exact ⟨j + 1, by omega, by go_num, HE, (by repeat' (first | (with_reducible exact Below.refl _ _) | (with_reducible assumption) | (with_reducible refine below_step (by assumption) ?_) | (with_reducible refine below_alloc ?_ _) | (with_reducible refine Below.drew ?_) | (with_reducible refine below_drewN ?_ _) | (with_reducible refine Below.setCell ?_ ?_ _) | go_size))⟩
            case measure => simp [intOf]; omega
        · have HE := Lib.hid (st_on HXK.out hT.out HE0.out (by have := hN.out; rwa [show j = k from by omega] at this))
          go_wp2
          go_roundw
          case rel => exact ⟨k + 1, by omega, by go_num, HE, (by repeat' (first | (with_reducible exact Below.refl _ _) | (with_reducible assumption) | (with_reducible refine below_step (by assumption) ?_) | (with_reducible refine below_alloc ?_ _) | (with_reducible refine Below.drew ?_) | (with_reducible refine below_drewN ?_ _) | (with_reducible refine Below.setCell ?_ ?_ _) | go_size))⟩
          case measure => simp [intOf]; omega
    · have HE : Hid (storeB xs = decide (n ≤ 24)) := Lib.hid (by
        unfold storeB
        rw [hT.out, List.drop_of_length_le (by rw [HX.out]; omega), HX.out]
        simp [stFrom])
      go_wp2
      go_ret
      exact ⟨ret_bool (by rw [HE.out, Bool.eq_iff_iff]; simp; omega), (by repeat' (first | (with_reducible exact Below.refl _ _) | (with_reducible assumption) | (with_reducible refine below_step (by assumption) ?_) | (with_reducible refine below_alloc ?_ _) | (with_reducible refine Below.drew ?_) | (with_reducible refine below_drewN ?_ _) | (with_reducible refine Below.setCell ?_ ?_ _) | go_size))⟩
end Go.Proofs.YtmkdmafffblmaaaDoor
