/-
  l22Add and IndexKinds of the reference. No condition.
-/
import Derived.Test.YtkianldpmlbgcaaRowsP
import Derived.Test.YtkianldpmlbgcaaAppG
import Derived.Deep.CutRange
namespace Go.Proofs.Ytkianldpmlbgcaa
open Go.ChangeShapes Go.WideShapes Go.ChangeAt Go.RowKit

set_option maxRecDepth 8000 in
set_option maxHeartbeats 6400000 in
theorem l22Add_any (key : ByteArray) (p : Int) (g0 n c0 : Nat) (xs : List RowX) (hn : n ≤ 1048576) (hx : xs.length = n) (w : World) (hok : ∀ x ∈ xs, (∃ b, x.A = some ⟨b, 0, none⟩) ∧ x.n ≤ 1048576 ∧ x.zs.length = x.n ∧ Lies w 1 x.A x.n (x.zs.flatMap intCells)) (hL : Lies w 2 (some ⟨g0, 0, none⟩) n (xs.flatMap rowCells)) :
    Calls Try.prog 53 #[.slice (some ⟨g0, 0, none⟩) n c0, .string key, .int .i64 p] w fun e w' => ∃ (hs : List RowX) (S : List Nat) (g m c : Nat), e = .returned (.slice (some ⟨g, 0, none⟩) m c) ∧ hs.map rowVal = addR key p (xs.map rowVal) ∧ Fresh w' w.heap.size g m c hs S ∧ m ≤ 2 * n + 1 ∧ Below w.heap.size w w' := by
  have HX := Lib.hid hx
  have HK := Lib.hid hok
  have HL := Lib.hid hL
  clear hx hok hL
  go_enter Try.func53, Try.ntmps53
  go_wp2
  go_loopw [7, 8, 9] (fun u d i wr => ∃ (k : Nat) (hs : List RowX) (S : List Nat) (g m c : Nat) (dn : Bool), k ≤ n ∧ i = .int .i64 k ∧ u = .slice (some ⟨g, 0, none⟩) m c ∧ d = .bool dn ∧ m ≤ 2 * k ∧ Hid ((hs.map rowVal, dn) = addT key p (xs.map rowVal) k) ∧ Hid (Fresh wr w.heap.size g m c hs S) ∧ Below w.heap.size w wr) (fun _ _ i _ => n - (intOf i).toNat)
  case atStart => exact ⟨0, [], [], w.heap.size, 0, 0, false, Nat.zero_le _, rfl, rfl, rfl, Nat.zero_le _, Lib.hid rfl, Lib.hid (Fresh.nil w _ (Nat.le_refl _)), below_alloc (Below.refl _ _) _⟩
  case round =>
    obtain ⟨wo, hwo⟩ : ∃ wo, wo = wr := ⟨_, rfl⟩
    subst hwo
    obtain ⟨k, hs, S, g, m, c, dn, hk, rfl, rfl, rfl, hm, hV, hF, hB⟩ := hrel
    by_cases hlt : k < n
    · obtain ⟨b, o, hbo, hbl, hc⟩ := (HL.out.below hB).row (fun _ => rfl) (by omega)
      obtain rfl : g0 = b := by cases hbo; rfl
      obtain rfl : 0 = o := by cases hbo; rfl
      obtain ⟨x, hxk⟩ := get_lt HX.out hlt
      obtain ⟨⟨bx, hbx⟩, hxn, hxl, hxL⟩ := HK.out _ (List.mem_of_getElem? hxk)
      obtain ⟨ky, A, nx, cx, zs⟩ := x
      simp only at hbx hxn hxl hxL
      subst hbx
      have u0 : wo.cell? ⟨g0, k * 2, none⟩ = some (.string ky) := by simpa using hc k _ hxk 0 _ rfl
      have u1 : wo.cell? ⟨g0, k * 2 + 1, none⟩ = some (.slice (some ⟨bx, 0, none⟩) nx cx) := by simpa using hc k _ hxk 1 _ rfl
      have HXL := Lib.hid (hxL.below hB)
      have HXK := Lib.hid (addT_succ (key := key) (p := p) (show (xs.map rowVal)[k]? = some (ky, zs) by rw [List.getElem?_map, hxk]; rfl))
      have HZ := Lib.hid hxl
      have HH := Lib.hid (show ∀ u ∈ zs.flatMap intCells, u.oneCell' = true by rw [← int_map]; exact ints_oneCell _ _)
      clear hc hxk hxL hxl hbo
      have C0 := u0
      have C1 := u1
      go_upto_region 6 with (fail)
      go_cut [10] from 12 to 59 (fun s wr => ∃ b6 g3 c3 : Nat, s = .pointer (some ⟨b6, 0, none⟩) ∧ RowIs wr b6 55 [.string ky, .slice (some ⟨g3, 0, none⟩) nx c3] ∧ wr.ownsRow wo.heap.size 3 1 (.slice (some ⟨g3, 0, none⟩) nx c3) nx (zs.flatMap intCells) ∧ wo.heap.size ≤ b6 ∧ Below wo.heap.size wo wr)
      case first =>
        have BR := Below.refl wo.heap.size wo
        go_region_held3 (fun wx => wx.cell? ⟨g0, k * 2, none⟩ = some (.string ky) ∧ wx.cell? ⟨g0, k * 2 + 1, none⟩ = some (.slice (some ⟨bx, 0, none⟩) nx cx) ∧ Below wo.heap.size wo wx) ((go_split_ands; refine ⟨?_, ?_, ?_⟩ <;> first | assumption | (refine box_cell (by assumption) ?_; assumption) | (refine below_step (by assumption) ?_; assumption) | exact Below.drew (by assumption) | ((repeat' (first | (with_reducible exact Below.refl _ _) | (with_reducible assumption) | (with_reducible refine below_step (by assumption) ?_) | (with_reducible refine below_alloc ?_ _) | (with_reducible refine Below.drew ?_) | (with_reducible refine below_drewN ?_ _) | (with_reducible refine Below.setCell ?_ ?_ _) | go_size)); done) | (refine box_cell (W := wo) ?_ C0; (repeat' (first | (with_reducible exact Below.refl _ _) | (with_reducible assumption) | (with_reducible refine below_step (by assumption) ?_) | (with_reducible refine below_alloc ?_ _) | (with_reducible refine Below.drew ?_) | (with_reducible refine below_drewN ?_ _) | (with_reducible refine Below.setCell ?_ ?_ _) | go_size)); done) | (refine box_cell (W := wo) ?_ C1; (repeat' (first | (with_reducible exact Below.refl _ _) | (with_reducible assumption) | (with_reducible refine below_step (by assumption) ?_) | (with_reducible refine below_alloc ?_ _) | (with_reducible refine Below.drew ?_) | (with_reducible refine below_drewN ?_ _) | (with_reducible refine Below.setCell ?_ ?_ _) | go_size)); done)))
          (first | (refine step_copy ?_ ?_ ?_ 29 3 1 8 rowInt ?_ ?_ bx 0 nx cx (zs.flatMap intCells) ?_ ?_ HH.out ?_ ?_ ?_; rfl; rotate_left 2; exact rfl; exact rfl; exact rfl; exact HXL.out; (unfold maxLen; omega); omega; intro g3 c3 w3 ho3 hS3 hz3; have HO := Lib.hid ho3; clear ho3; all_goals skip) | (refine step_copy2 ?_ ?_ ?_ 29 3 1 8 rowInt ?_ ?_ bx 0 nx cx (zs.flatMap intCells) ?_ ?_ HH.out ?_ ?_ ?_; rfl; rotate_left 2; exact rfl; exact rfl; exact rfl; exact HXL.out; (unfold maxLen; omega); omega; intro g3 c3 w3 ho3 hS3 hz3 hr3; have HO := Lib.hid ho3; have HR6 := Lib.hid hr3; have d0 := cell_of_row w3 (wo.heap.size + 1) 0 _ _ (0, 0) hr3; have d1 := cell_of_row w3 (wo.heap.size + 1) 1 _ _ (0, 0) hr3; have e0 := frozen_of_row w3 (wo.heap.size + 1) 0 _ _ hr3; have e1 := frozen_of_row w3 (wo.heap.size + 1) 1 _ _ hr3; simp at d0 d1; clear ho3 hr3; all_goals skip) | (refine step_copy3 ?_ ?_ ?_ 29 3 1 8 rowInt ?_ ?_ bx 0 nx cx (zs.flatMap intCells) ?_ ?_ HH.out ?_ ?_ ?_; rfl; rotate_left 2; exact rfl; exact rfl; exact rfl; exact HXL.out; (unfold maxLen; omega); omega; intro g3 c3 w3 ho3 hS3 hz3 hr3; have HO := Lib.hid ho3; have HR6 := Lib.hid hr3; have d0 := cell_of_row w3 (wo.heap.size) 0 _ _ (0, 0) hr3; have d1 := cell_of_row w3 (wo.heap.size) 1 _ _ (0, 0) hr3; have e0 := frozen_of_row w3 (wo.heap.size) 0 _ _ hr3; have e1 := frozen_of_row w3 (wo.heap.size) 1 _ _ hr3; simp at d0 d1; clear ho3 hr3; all_goals skip))
        · go_wp2
          go_meet
          case rel => exact ⟨_, g3, c3, rfl, RowIs.new _ _ _, World.ownsRow.alloc (ownsRow_base HO.out (by omega)) _, by omega, below_alloc hS3 _⟩
        · go_wp2
          go_meet
          case rel =>
            have hR6 : RowIs w3 (wo.heap.size + 1) 55 [.string ⟨#[]⟩, .slice none 0 0] := HR6.out
            have hng := own_ne_row HO.out hR6 (by decide)
            exact ⟨_, g3, c3, rfl, (hR6.set 0 _).set 1 _, ownsRow_other (ownsRow_other HO.out hng _) hng _, by omega, (hS3.setCell (by show wo.heap.size ≤ wo.heap.size + 1; omega) _).setCell (by show wo.heap.size ≤ wo.heap.size + 1; omega) _⟩
        · go_wp2
          go_meet
          case rel =>
            have hR6 : RowIs w3 wo.heap.size 55 [.string ⟨#[]⟩, .slice none 0 0] := HR6.out
            have hng := own_ne_row HO.out hR6 (by decide)
            exact ⟨_, g3, c3, rfl, (hR6.set 0 _).set 1 _, ownsRow_other (ownsRow_other HO.out hng _) hng _, by omega, (hS3.setCell (by show wo.heap.size ≤ wo.heap.size; omega) _).setCell (by show wo.heap.size ≤ wo.heap.size; omega) _⟩
      case rest =>
        obtain ⟨b6, g3, c3, rfl, hR6, hO3, hb6, hB3⟩ := hcut
        have hbg : b6 ≠ g3 := own_ne_row hO3 hR6 (by decide)
        have hg3 := owns_lt hO3
        have hgl := hF.out.lt
        have hSl := Lib.hid (show ∀ b ∈ S, b < wo.heap.size from fun b hb => (hF.out.far b hb).2.2)
        have hsz : wo.heap.size ≤ wc.heap.size := hB3.size
        have hoz : w.heap.size ≤ wo.heap.size := hB.size
        have r0 := hR6.cell (j := 0) rfl
        have r1 := hR6.cell (j := 1) rfl
        have fr := hR6.frozen 1
        have HR6 := Lib.hid hR6
        have HO3 := Lib.hid hO3
        clear hR6 hO3 u0 u1 C0 C1
        by_cases he : ky = key
        · subst he
          have E : (ky.toList == ky.toList) = true := by simp
          have HV2 : Hid ((hs.map rowVal ++ [(ky, zs ++ [p])], true) = addT ky p (xs.map rowVal) (k + 1)) := Lib.hid (by rw [HXK.out, ← hV.out, addS_eq])
          go_wp2_with (first
            | (at_builtin; refine wpList_app1z rfl _ _ 29 3 1 8 rowInt rfl wo.heap.size g3 nx c3 _ HO3.out rfl rfl rfl rfl (by unfold maxLen; omega) (by omega) (by omega) ?_; intro g4 c4 w4 o4 hg4 hat4; have hl4 := owns_lt o4; have R4 : RowIs w4 b6 55 _ := HR6.out.grown hg4 (by simp [hbg]); have v0 := R4.cell (j := 0) rfl; have v1 := R4.cell (j := 1) rfl; have fv := R4.frozen 1; have hne := own_ne_row o4 R4 (by decide); have B5 : Below wo.heap.size wo (w4.setCell ⟨b6, 1, none⟩ (.slice (some ⟨g4, 0, none⟩) (nx + 1) c4)) := (below_grown hB3 hg4 (by omega) (by omega)).setCell (by show wo.heap.size ≤ b6; omega) _; have F5 := Lib.hid (hF.out.below B5); have O5 := Lib.hid (ownsRow_base (ownsRow_other (a := ⟨b6, 1, none⟩) o4 hne (.slice (some ⟨g4, 0, none⟩) (nx + 1) c4)) (Nat.zero_le _)); have hz5 := B5.size; clear o4 hg4 hat4)
            | (at_builtin; refine wpList_app1z rfl _ _ 25 55 2 40 rowRow rfl w.heap.size g m c _ F5.out.own rfl (by first | rfl | (rw [World.size_alloc]; rfl) | (rw [World.size_setCell]; rfl)) rfl rfl (by unfold maxLen; omega) (by omega) (by first | omega | (simp; omega)) ?_; intro g6 c6 w6 o6 hg6 hat6; have O6 := Lib.hid o6; have G6 := Lib.hid hg6; have T6 := Lib.hid hat6; clear o6 hg6 hat6))
          go_roundw
          case rel =>
            exact ⟨k + 1, hs ++ [⟨ky, some ⟨g4, 0, none⟩, nx + 1, c4, zs ++ [p]⟩], g4 :: S, g6, m + 1, c6, true, by omega, by go_num, rfl, rfl, by omega, Lib.hid (by rw [List.map_append]; exact HV2.out), Lib.hid (F5.out.push ky (zs ++ [p]) (by simp [HZ.out]) (by have h := O5.out; simpa [intCells] using h) (by omega) (fun h => by have := hSl.out _ h; omega) (by omega) O6.out G6.out (by rcases T6.out with e | e <;> omega)), below_grown (hB.trans (B5.mono hoz)) G6.out (by omega) (by omega)⟩
          case measure => simp [intOf]; omega
        · have E : (ky.toList == key.toList) = false := str_ne he
          by_cases hnew : dn = false ∧ ltS key ky = true
          · obtain ⟨rfl, hlt2⟩ := hnew
            have E2 : Op.bytesLess key.toList ky.toList = true := hlt2
            have E3 : Op.bytesLess ky.toList key.toList = false := ltS_asymm hlt2
            have HV2 : Hid ((hs.map rowVal ++ [(key, [p])] ++ [(ky, zs)], true) = addT key p (xs.map rowVal) (k + 1)) := Lib.hid (by rw [HXK.out, ← hV.out, addS_new hlt2 he])
            have FA := Lib.hid (hF.out.below (below_alloc hB3 (.cells #[.int .i64 p] 3)))
            have OA : Hid ((wc.alloc (.cells #[.int .i64 p] 3)).ownsRow 0 3 1 (.slice (some ⟨wc.heap.size, 0, none⟩) 1 1) 1 ([p].flatMap intCells)) := Lib.hid ⟨rfl, .inr ⟨wc.heap.size, 1, #[.int .i64 p], rfl, Nat.zero_le _, heap_alloc_new _ _, Nat.le_refl _, by unfold maxLen; omega, rfl, rfl⟩⟩
            go_wp2_with (first
              | (at_builtin; refine wpList_app1z rfl _ _ 25 55 2 40 rowRow rfl w.heap.size g m c _ FA.out.own rfl (by first | rfl | (rw [World.size_alloc]; rfl) | (rw [World.size_setCell]; rfl)) rfl rfl (by unfold maxLen; omega) (by omega) (by first | omega | (simp; omega)) ?_; intro g7 c7 w7 o7 hg7 hat7; have O7 := Lib.hid o7; have G7 := Lib.hid hg7; have T7 := Lib.hid hat7; clear o7 hg7 hat7; have h7 : wc.heap.size + 1 ≤ w7.heap.size := (by have := G7.out.size; simpa using this); have hg7 : g7 = g ∨ wc.heap.size + 1 < g7 := (by have := T7.out; simpa using this); have B7 : Below wo.heap.size wo (wc.alloc (.cells #[.int .i64 p] 3)) := below_alloc hB3 _; have R7 : RowIs w7 b6 55 _ := (HR6.out.alloc (.cells #[.int .i64 p] 3)).grown G7.out (by simp; omega); have v0 := R7.cell (j := 0) rfl; have v1 := R7.cell (j := 1) rfl; have Q7 := Lib.hid (own_block (World.ownsRow.alloc (ownsRow_base HO3.out (Nat.zero_le _)) (.cells #[.int .i64 p] 3)) (G7.out.block g3 (by simp; omega) (by simp; omega))); have F7 := Lib.hid (FA.out.push key [p] rfl OA.out (by omega) (fun h => by have := hSl.out _ h; omega) (by omega) O7.out G7.out (by rcases T7.out with e | e <;> omega)))
              | (at_builtin; refine wpList_app1z rfl _ _ 25 55 2 40 rowRow rfl w.heap.size g7 (m + 1) c7 _ F7.out.own rfl (by first | rfl | (rw [World.size_alloc]; rfl) | (rw [World.size_setCell]; rfl)) rfl rfl (by unfold maxLen; omega) (by omega) (by first | omega | (simp; omega)) ?_; intro g8 c8 w8 o8 hg8 hat8; have O8 := Lib.hid o8; have G8 := Lib.hid hg8; have T8 := Lib.hid hat8; clear o8 hg8 hat8))
            go_roundw
            case rel =>
              exact ⟨k + 1, hs ++ [⟨key, some ⟨wc.heap.size, 0, none⟩, 1, 1, [p]⟩] ++ [⟨ky, some ⟨g3, 0, none⟩, nx, c3, zs⟩], g3 :: wc.heap.size :: S, g8, m + 1 + 1, c8, true, by omega, by go_num, rfl, rfl, by omega, Lib.hid (by rw [List.map_append, List.map_append]; exact HV2.out), Lib.hid (F7.out.push ky zs HZ.out Q7.out (by omega) (fun h => by rcases List.mem_cons.1 h with h | h; (omega); (have := hSl.out _ h; omega)) (by omega) O8.out G8.out (by rcases T8.out with e | e <;> omega)), below_grown (below_grown (hB.trans (B7.mono hoz)) G7.out (by omega) (by simp; omega)) G8.out (by omega) (by omega)⟩
            case measure => simp [intOf]; omega
          · have hold : dn = true ∨ ltS key ky = false := by
              cases hd : dn
              · right
                cases hl : ltS key ky
                · rfl
                · exact absurd ⟨hd, hl⟩ hnew
              · exact .inl rfl
            have HV2 : Hid ((hs.map rowVal ++ [(ky, zs)], dn) = addT key p (xs.map rowVal) (k + 1)) := Lib.hid (by rw [HXK.out, ← hV.out, addS_old he hold])
            have F3 := Lib.hid (hF.out.below hB3)
            have hfin : ∀ (g8 c8 : Nat) (w8 : World), w8.ownsRow w.heap.size 55 2 (.slice (some ⟨g8, 0, none⟩) (m + 1) c8) (m + 1) (hs.flatMap rowCells ++ [.string ky, .slice (some ⟨g3, 0, none⟩) nx c3]) → wc.grownBy w8 (some g) → (g8 = g ∨ wc.heap.size < g8) → Fresh w8 w.heap.size g8 (m + 1) c8 (hs ++ [⟨ky, some ⟨g3, 0, none⟩, nx, c3, zs⟩]) (g3 :: S) ∧ Below w.heap.size w w8 := fun g8 c8 w8 q1 q2 q3 => ⟨F3.out.push ky zs HZ.out (ownsRow_base HO3.out (Nat.zero_le _)) (by omega) (fun h => by have := hSl.out _ h; omega) (by omega) q1 q2 (by omega), below_grown (hB.trans (hB3.mono hoz)) q2 (by omega) (by omega)⟩
            have HFIN := Lib.hid hfin
            clear hfin
            clear hnew
            cases dn
            · have E2 : Op.bytesLess key.toList ky.toList = false := by rcases hold with h | h; (cases h); (exact h)
              have E3 : Op.bytesLess ky.toList key.toList = true := by
                cases h : Op.bytesLess ky.toList key.toList
                · exact absurd (ltS_tri h E2) he
                · rfl
              clear hold
              go_wp2_with (at_builtin; refine wpList_app1z rfl _ _ 25 55 2 40 rowRow rfl w.heap.size g m c _ F3.out.own rfl (by first | rfl | (rw [World.size_alloc]; rfl) | (rw [World.size_setCell]; rfl)) rfl rfl (by unfold maxLen; omega) (by omega) (by first | omega | (simp; omega)) ?_; intro g8 c8 w8 o8 hg8 hat8; have O8 := Lib.hid o8; have G8 := Lib.hid hg8; have T8 := Lib.hid hat8; clear o8 hg8 hat8)
              go_roundw
              case rel => exact ⟨k + 1, _, _, g8, m + 1, c8, false, by omega, by go_num, rfl, rfl, by omega, Lib.hid (by rw [List.map_append]; exact HV2.out), Lib.hid (HFIN.out g8 c8 w8 O8.out G8.out T8.out).1, (HFIN.out g8 c8 w8 O8.out G8.out T8.out).2⟩
              case measure => simp [intOf]; omega
            · clear hold
              go_wp2_with (at_builtin; refine wpList_app1z rfl _ _ 25 55 2 40 rowRow rfl w.heap.size g m c _ F3.out.own rfl (by first | rfl | (rw [World.size_alloc]; rfl) | (rw [World.size_setCell]; rfl)) rfl rfl (by unfold maxLen; omega) (by omega) (by first | omega | (simp; omega)) ?_; intro g8 c8 w8 o8 hg8 hat8; have O8 := Lib.hid o8; have G8 := Lib.hid hg8; have T8 := Lib.hid hat8; clear o8 hg8 hat8)
              go_roundw
              case rel => exact ⟨k + 1, _, _, g8, m + 1, c8, true, by omega, by go_num, rfl, rfl, by omega, Lib.hid (by rw [List.map_append]; exact HV2.out), Lib.hid (HFIN.out g8 c8 w8 O8.out G8.out T8.out).1, (HFIN.out g8 c8 w8 O8.out G8.out T8.out).2⟩
              case measure => simp [intOf]; omega
    · obtain rfl : k = n := by omega
      have hv := hV.out
      rw [addT_all (by rw [List.length_map]; have := HX.out; omega)] at hv
      have hgl := hF.out.lt
      have hSl := Lib.hid (show ∀ b ∈ S, b < wo.heap.size from fun b hb => (hF.out.far b hb).2.2)
      have hoz : w.heap.size ≤ wo.heap.size := hB.size
      cases dn
      · have HV2 : Hid (hs.map rowVal ++ [(key, [p])] = addR key p (xs.map rowVal)) := Lib.hid (by unfold addR; rw [← hv]; rfl)
        have FA := Lib.hid (hF.out.below (below_alloc (Below.refl _ wo) (.cells #[.int .i64 p] 3)))
        have OA : Hid ((wo.alloc (.cells #[.int .i64 p] 3)).ownsRow 0 3 1 (.slice (some ⟨wo.heap.size, 0, none⟩) 1 1) 1 ([p].flatMap intCells)) := Lib.hid ⟨rfl, .inr ⟨wo.heap.size, 1, #[.int .i64 p], rfl, Nat.zero_le _, heap_alloc_new _ _, Nat.le_refl _, by unfold maxLen; omega, rfl, rfl⟩⟩
        clear hv
        go_wp2_with (at_builtin; refine wpList_app1z rfl _ _ 25 55 2 40 rowRow rfl w.heap.size g m c _ FA.out.own rfl (by first | rfl | (rw [World.size_alloc]; rfl) | (rw [World.size_setCell]; rfl)) rfl rfl (by unfold maxLen; omega) (by omega) (by first | omega | (simp; omega)) ?_; intro g7 c7 w7 o7 hg7 hat7; have O7 := Lib.hid o7; have G7 := Lib.hid hg7; have T7 := Lib.hid hat7; clear o7 hg7 hat7)
        go_ret
        exact ⟨hs ++ [⟨key, some ⟨wo.heap.size, 0, none⟩, 1, 1, [p]⟩], wo.heap.size :: S, g7, m + 1, c7, rfl, by rw [List.map_append]; exact HV2.out, FA.out.push key [p] rfl OA.out (by omega) (fun h => by have := hSl.out _ h; omega) (by omega) O7.out G7.out (by rcases T7.out with e | e <;> omega), by omega, below_grown (below_alloc hB _) G7.out (by omega) (by simp; omega)⟩
      · have HV2 : Hid (hs.map rowVal = addR key p (xs.map rowVal)) := Lib.hid (by unfold addR; rw [← hv]; rfl)
        clear hv
        go_wp2
        go_ret
        exact ⟨hs, S, g, m, c, rfl, HV2.out, hF.out, by omega, hB⟩
end Go.Proofs.Ytkianldpmlbgcaa
