/-
  The heap of open positions at work: Swap, going down, Push, Pop, and draining an ascending list. For every list of at most 1048576 numbers. No condition.
-/
import Derived.Test.YtkianldpmlbgcaaPHeap
import Derived.Test.YtkianldpmlbgcaaKeep
namespace Go.Proofs.Ytkianldpmlbgcaa
open Go.ChangeShapes Go.WideShapes Go.ChangeAt Go.RowKit

theorem sw_comm (L : List Int) (i j : Nat) : (L.set j (at' L i)).set i (at' L j) = sw L i j := by
  unfold sw
  by_cases h : i = j
  · subst h; rfl
  · exact (List.set_comm _ _ h).symm
theorem ints_set (L : List Int) (i : Nat) (x : Int) : (L.set i x).flatMap intCells = (L.flatMap intCells).set i (.int .i64 x) := by
  rw [← int_map, ← int_map, List.map_set]
theorem at_out {L : List Int} {i : Nat} (h : ¬ i < L.length) : at' L i = 0 := by unfold at'; rw [List.getD_eq_getElem?_getD, List.getElem?_eq_none (by omega)]; rfl

set_option maxHeartbeats 1600000 in
theorem swap_any (g n c B : Nat) (L : List Int) (hx : L.length = n) (i j : Nat) (hi : i < n) (hj : j < n) (w : World) (ho : w.ownsRow B 3 1 (.slice (some ⟨g, 0, none⟩) n c) n (L.flatMap intCells)) :
    Calls Try.prog 80 #[.slice (some ⟨g, 0, none⟩) n c, .int .i64 i, .int .i64 j] w fun e w' => e = .returned (.tuple #[]) ∧ w'.ownsRow B 3 1 (.slice (some ⟨g, 0, none⟩) n c) n ((sw L i j).flatMap intCells) ∧ w.grownBy w' (some g) := by
  obtain ⟨b, o, e, hb, hc⟩ := (lies_of_own ho).row (fun _ => rfl) (by omega)
  cases e
  have c0 : w.cell? ⟨g, i, none⟩ = some (.int .i64 (at' L i)) := by simpa using hc i _ (at_get (by omega)) 0 _ rfl
  have c1 : w.cell? ⟨g, j, none⟩ = some (.int .i64 (at' L j)) := by simpa using hc j _ (at_get (by omega)) 0 _ rfl
  have f0 := ho.frozenAt i
  have f1 := ho.frozenAt j
  have HO := Lib.hid ho
  have O1 := Lib.hid (show (w.setCell ⟨g, i, none⟩ (.int .i64 (at' L j))).setCell ⟨g, j, none⟩ (.int .i64 (at' L i)) |>.ownsRow B 3 1 (.slice (some ⟨g, 0, none⟩) n c) n ((sw L i j).flatMap intCells) from by
    have h := ((ho.stored i (.int .i64 (at' L j))).1.stored j (.int .i64 (at' L i))).1
    rw [← ints_set, ← ints_set] at h; exact h)
  have O2 := Lib.hid (show (w.setCell ⟨g, j, none⟩ (.int .i64 (at' L i))).setCell ⟨g, i, none⟩ (.int .i64 (at' L j)) |>.ownsRow B 3 1 (.slice (some ⟨g, 0, none⟩) n c) n ((sw L i j).flatMap intCells) from by
    have h := ((ho.stored j (.int .i64 (at' L i))).1.stored i (.int .i64 (at' L j))).1
    rw [← ints_set, ← ints_set, sw_comm] at h; exact h)
  obtain ⟨u1, d1⟩ := owns_cell (ho.stored i (.int .i64 (at' L j))).1 (j := j) (by omega)
  obtain ⟨u2, d2⟩ := owns_cell (ho.stored j (.int .i64 (at' L i))).1 (j := i) (by omega)
  clear hc ho
  go_enter Try.func80, Try.ntmps80
  go_wp2_with fail
  go_region
  all_goals
    go_wp2
    go_returns
    first
      | exact ⟨rfl, O1.out, only_drew (only_setCell (g := g) (only_setCell (g := g) (only_refl _ _) (.inl rfl) _) (.inl rfl) _)⟩
      | exact ⟨rfl, O2.out, only_drew (only_setCell (g := g) (only_setCell (g := g) (only_refl _ _) (.inl rfl) _) (.inl rfl) _)⟩

set_option maxRecDepth 8000 in
set_option maxHeartbeats 12800000 in
theorem down_any (h B g c : Nat) (L : List Int) (l m : Nat) (hl : L.length = l) (hl1 : l ≤ 1048576) (hm : m ≤ l) (hD : DownInv L 0 m) (w : World)
    (hp : RowIs w h 78 [.slice (some ⟨g, 0, none⟩) l c]) (ho : w.ownsRow B 3 1 (.slice (some ⟨g, 0, none⟩) l c) l (L.flatMap intCells)) :
    Calls Try.prog 60 #[.iface 64 (.pointer (some ⟨h, 0, none⟩)), .int .i64 0, .int .i64 m] w fun e w' => ∃ (b : Bool) (L' : List Int), e = .returned (.bool b) ∧ L'.length = l ∧ L'.Perm L ∧ HeapTo L' m ∧ (∀ k, m ≤ k → at' L' k = at' L k) ∧ w'.ownsRow B 3 1 (.slice (some ⟨g, 0, none⟩) l c) l (L'.flatMap intCells) ∧ w.grownBy w' (some g) := by
  have hne := own_ne_row ho hp (by decide)
  have hpc := hp.cell (j := 0) rfl
  have HP := Lib.hid hp
  have HO := Lib.hid ho
  have HD := Lib.hid hD
  have HL := Lib.hid hl
  clear hp ho hD hl
  go_enter Try.func60, Try.ntmps60
  go_wp2_with fail
  go_loopw [7] (fun v wr => ∃ (i : Nat) (L' : List Int), i ≤ m ∧ v = .int .i64 i ∧ Hid (L'.length = l) ∧ Hid (L'.Perm L) ∧ Hid (DownInv L' i m) ∧ Hid (∀ k, m ≤ k → at' L' k = at' L k) ∧ Hid (wr.ownsRow B 3 1 (.slice (some ⟨g, 0, none⟩) l c) l (L'.flatMap intCells)) ∧ Hid (w.grownBy wr (some g))) (fun v _ => l - (intOf v).toNat)
  case atStart => exact ⟨0, L, Nat.zero_le _, rfl, HL, Lib.hid (List.Perm.refl _), HD, Lib.hid (fun _ _ => rfl), HO, Lib.hid (only_refl _ _)⟩
  case round =>
    obtain ⟨i, L', hi, rfl, hLl, hPm, hDI, hLast, hO, hG⟩ := hrel
    have hpr := only_cell hG.out hne hpc
    have w1 : IntKind.i64.wrap (2 * (i : Int)) = 2 * (i : Int) := IntWalk.i64_in _ ⟨by omega, by omega⟩
    have w2 : IntKind.i64.wrap (2 * (i : Int) + 1) = 2 * (i : Int) + 1 := IntWalk.i64_in _ ⟨by omega, by omega⟩
    have w3 : IntKind.i64.wrap (2 * (i : Int) + 1 + 1) = 2 * (i : Int) + 1 + 1 := IntWalk.i64_in _ ⟨by omega, by omega⟩
    by_cases h1 : 2 * i + 1 < m
    · have d0 : decide ((m : Int) ≤ 2 * (i : Int) + 1) = false := by simp; omega
      have d1 : decide (2 * (i : Int) + 1 < 0) = false := by simp; omega
      by_cases h2 : 2 * i + 1 + 1 < m
      · have d2 : decide (2 * (i : Int) + 1 + 1 < (m : Int)) = true := by simp; omega
        cases e1 : decide (at' L' (2 * i + 1 + 1) < at' L' (2 * i + 1))
        · go_wp2_with fail
          refine (less_any _ _ _ L' hLl.out (2 * i + 1 + 1) (2 * i + 1) _ _ (at_get (by have := hLl.out; omega)) (at_get (by have := hLl.out; omega)) _ (lies_of_own hO.out)).mono ?_
          rintro e8 w8 ⟨rfl, hb8⟩
          have hpr := box_cell hb8 hpr
          have HOO := owns_below hO.out hb8
          have HGG := only_trans hG.out (only_of_below hb8 _)
          have HLL := lies_of_own HOO
          rw [e1]
          have HMIN := Lib.hid (show ∀ k, 0 < k → k < m → (k - 1) / 2 = i → at' L' (2 * i + 1) ≤ at' L' k from fun k h1 h2 h3 => by
            simp at e1
            rcases (show k = 2 * i + 1 ∨ k = 2 * i + 1 + 1 by omega) with rfl | rfl
            · exact Int.le_refl _
            · exact e1)
          cases e2 : decide (at' L' (2 * i + 1) < at' L' i)
          · have HE := Lib.hid (down_stop hDI.out (fun k h1 h2 h3 => by have := HMIN.out k h1 h2 h3; simp at e2; omega))
            go_wp2_with fail
            refine (less_any _ _ _ L' hLl.out (2 * i + 1) i _ _ (at_get (by have := hLl.out; omega)) (at_get (by have := hLl.out; omega)) _ HLL).mono ?_
            rintro e9 w9 ⟨rfl, hb9⟩
            rw [e2]
            go_wp2
            go_ret
            exact ⟨_, L', rfl, hLl.out, hPm.out, HE.out, hLast.out, owns_below HOO hb9, only_trans HGG (only_of_below hb9 _)⟩
          · have HN := Lib.hid (down_step (by have := hLl.out; omega) hDI.out (j := 2 * i + 1) (by omega) (by omega) HMIN.out (by simpa using e2))
            go_wp2_with fail
            refine (less_any _ _ _ L' hLl.out (2 * i + 1) i _ _ (at_get (by have := hLl.out; omega)) (at_get (by have := hLl.out; omega)) _ HLL).mono ?_
            rintro e9 w9 ⟨rfl, hb9⟩
            have hpr := box_cell hb9 hpr
            rw [e2]
            go_wp2_with fail
            refine (swap_any g l c B L' hLl.out i (2 * i + 1) (by omega) (by omega) _ (owns_below HOO hb9)).mono ?_
            rintro e10 w10 ⟨rfl, o10, g10⟩
            have G10 := only_trans (only_trans HGG (only_of_below hb9 _)) g10
            have HO10 := Lib.hid o10
            have HG10 := Lib.hid G10
            have HLST := Lib.hid (show ∀ k, m ≤ k → at' (sw L' i (2 * i + 1)) k = at' L k from fun k hk => by
              by_cases hkl : k < L'.length
              · rw [sw_at (by have := hLl.out; omega) (by have := hLl.out; omega) k hkl, if_neg (by omega), if_neg (by omega)]; exact hLast.out k hk
              · have h0 := hLast.out k hk
                rw [at_out (by rw [sw_length]; omega)]
                rw [at_out (by omega)] at h0; exact h0)
            have HPM := Lib.hid ((sw_perm (L := L') (i := i) (j := 2 * i + 1) (by have := hLl.out; omega) (by have := hLl.out; omega)).trans hPm.out)
            clear o10 g10 G10
            go_wp2
            go_roundw
            case rel => exact ⟨2 * i + 1, sw L' i (2 * i + 1), by omega, by go_num, Lib.hid (by rw [sw_length]; exact hLl.out), HPM, HN, HLST, HO10, HG10⟩
            case measure => simp [intOf]; omega
        · go_wp2_with fail
          refine (less_any _ _ _ L' hLl.out (2 * i + 1 + 1) (2 * i + 1) _ _ (at_get (by have := hLl.out; omega)) (at_get (by have := hLl.out; omega)) _ (lies_of_own hO.out)).mono ?_
          rintro e8 w8 ⟨rfl, hb8⟩
          have hpr := box_cell hb8 hpr
          have HOO := owns_below hO.out hb8
          have HGG := only_trans hG.out (only_of_below hb8 _)
          have HLL := lies_of_own HOO
          rw [e1]
          have HMIN := Lib.hid (show ∀ k, 0 < k → k < m → (k - 1) / 2 = i → at' L' (2 * i + 1 + 1) ≤ at' L' k from fun k h1 h2 h3 => by
            simp at e1
            rcases (show k = 2 * i + 1 ∨ k = 2 * i + 1 + 1 by omega) with rfl | rfl
            · omega
            · exact Int.le_refl _)
          cases e2 : decide (at' L' (2 * i + 1 + 1) < at' L' i)
          · have HE := Lib.hid (down_stop hDI.out (fun k h1 h2 h3 => by have := HMIN.out k h1 h2 h3; simp at e2; omega))
            go_wp2_with fail
            refine (less_any _ _ _ L' hLl.out (2 * i + 1 + 1) i _ _ (at_get (by have := hLl.out; omega)) (at_get (by have := hLl.out; omega)) _ HLL).mono ?_
            rintro e9 w9 ⟨rfl, hb9⟩
            rw [e2]
            go_wp2
            go_ret
            exact ⟨_, L', rfl, hLl.out, hPm.out, HE.out, hLast.out, owns_below HOO hb9, only_trans HGG (only_of_below hb9 _)⟩
          · have HN := Lib.hid (down_step (by have := hLl.out; omega) hDI.out (j := 2 * i + 1 + 1) (by omega) (by omega) HMIN.out (by simpa using e2))
            go_wp2_with fail
            refine (less_any _ _ _ L' hLl.out (2 * i + 1 + 1) i _ _ (at_get (by have := hLl.out; omega)) (at_get (by have := hLl.out; omega)) _ HLL).mono ?_
            rintro e9 w9 ⟨rfl, hb9⟩
            have hpr := box_cell hb9 hpr
            rw [e2]
            go_wp2_with fail
            refine (swap_any g l c B L' hLl.out i (2 * i + 1 + 1) (by omega) (by omega) _ (owns_below HOO hb9)).mono ?_
            rintro e10 w10 ⟨rfl, o10, g10⟩
            have G10 := only_trans (only_trans HGG (only_of_below hb9 _)) g10
            have HO10 := Lib.hid o10
            have HG10 := Lib.hid G10
            have HLST := Lib.hid (show ∀ k, m ≤ k → at' (sw L' i (2 * i + 1 + 1)) k = at' L k from fun k hk => by
              by_cases hkl : k < L'.length
              · rw [sw_at (by have := hLl.out; omega) (by have := hLl.out; omega) k hkl, if_neg (by omega), if_neg (by omega)]; exact hLast.out k hk
              · have h0 := hLast.out k hk
                rw [at_out (by rw [sw_length]; omega)]
                rw [at_out (by omega)] at h0; exact h0)
            have HPM := Lib.hid ((sw_perm (L := L') (i := i) (j := 2 * i + 1 + 1) (by have := hLl.out; omega) (by have := hLl.out; omega)).trans hPm.out)
            clear o10 g10 G10
            go_wp2
            go_roundw
            case rel => exact ⟨2 * i + 1 + 1, sw L' i (2 * i + 1 + 1), by omega, by go_num, Lib.hid (by rw [sw_length]; exact hLl.out), HPM, HN, HLST, HO10, HG10⟩
            case measure => simp [intOf]; omega
      · have d2 : decide (2 * (i : Int) + 1 + 1 < (m : Int)) = false := by simp; omega
        have HOO := hO.out
        have HGG := hG.out
        have HLL := lies_of_own HOO
        have HMIN := Lib.hid (show ∀ k, 0 < k → k < m → (k - 1) / 2 = i → at' L' (2 * i + 1) ≤ at' L' k from fun k h1 h2 h3 => by
          obtain rfl : k = 2 * i + 1 := by omega
          exact Int.le_refl _)
        cases e2 : decide (at' L' (2 * i + 1) < at' L' i)
        · have HE := Lib.hid (down_stop hDI.out (fun k h1 h2 h3 => by have := HMIN.out k h1 h2 h3; simp at e2; omega))
          go_wp2_with fail
          refine (less_any _ _ _ L' hLl.out (2 * i + 1) i _ _ (at_get (by have := hLl.out; omega)) (at_get (by have := hLl.out; omega)) _ HLL).mono ?_
          rintro e9 w9 ⟨rfl, hb9⟩
          rw [e2]
          go_wp2
          go_ret
          exact ⟨_, L', rfl, hLl.out, hPm.out, HE.out, hLast.out, owns_below HOO hb9, only_trans HGG (only_of_below hb9 _)⟩
        · have HN := Lib.hid (down_step (by have := hLl.out; omega) hDI.out (j := 2 * i + 1) (by omega) (by omega) HMIN.out (by simpa using e2))
          go_wp2_with fail
          refine (less_any _ _ _ L' hLl.out (2 * i + 1) i _ _ (at_get (by have := hLl.out; omega)) (at_get (by have := hLl.out; omega)) _ HLL).mono ?_
          rintro e9 w9 ⟨rfl, hb9⟩
          have hpr := box_cell hb9 hpr
          rw [e2]
          go_wp2_with fail
          refine (swap_any g l c B L' hLl.out i (2 * i + 1) (by omega) (by omega) _ (owns_below HOO hb9)).mono ?_
          rintro e10 w10 ⟨rfl, o10, g10⟩
          have G10 := only_trans (only_trans HGG (only_of_below hb9 _)) g10
          have HO10 := Lib.hid o10
          have HG10 := Lib.hid G10
          have HLST := Lib.hid (show ∀ k, m ≤ k → at' (sw L' i (2 * i + 1)) k = at' L k from fun k hk => by
            by_cases hkl : k < L'.length
            · rw [sw_at (by have := hLl.out; omega) (by have := hLl.out; omega) k hkl, if_neg (by omega), if_neg (by omega)]; exact hLast.out k hk
            · have h0 := hLast.out k hk
              rw [at_out (by rw [sw_length]; omega)]
              rw [at_out (by omega)] at h0; exact h0)
          have HPM := Lib.hid ((sw_perm (L := L') (i := i) (j := 2 * i + 1) (by have := hLl.out; omega) (by have := hLl.out; omega)).trans hPm.out)
          clear o10 g10 G10
          go_wp2
          go_roundw
          case rel => exact ⟨2 * i + 1, sw L' i (2 * i + 1), by omega, by go_num, Lib.hid (by rw [sw_length]; exact hLl.out), HPM, HN, HLST, HO10, HG10⟩
          case measure => simp [intOf]; omega
    · have HE := Lib.hid (down_stop hDI.out (fun k h1' h2' h3' => by omega))
      have d0 : decide ((m : Int) ≤ 2 * (i : Int) + 1) = true := by simp; omega
      go_wp2
      go_ret
      exact ⟨_, L', rfl, hLl.out, hPm.out, HE.out, hLast.out, hO.out, hG.out⟩

end Go.Proofs.Ytkianldpmlbgcaa
