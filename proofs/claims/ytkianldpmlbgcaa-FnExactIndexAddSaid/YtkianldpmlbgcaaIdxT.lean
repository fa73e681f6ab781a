/-
  The program's tree of rows out of rows, what it finds, IndexFind and IndexAdd: what each returns, for every slice of rows. No condition.
-/
import Derived.Test.YtkianldpmlbgcaaIdxQS
import Derived.Deep.Cut
import Derived.Deep.LoopGhost
namespace Go.Proofs.Ytkianldpmlbgcaa
open Go.ChangeShapes Go.WideShapes Go.ChangeAt Go.RowKit

theorem fm_len2 : ∀ l : List RowX, (l.flatMap rowCells).length = l.length * 2 := rowCells_len
/-- A piece of a slice of rows. -/
theorem lies_rows {w : World} {b o n : Nat} {xs : List RowX} (hx : xs.length = n) (h : Lies w 2 (some ⟨b, o, none⟩) n (xs.flatMap rowCells)) (s m : Nat) (hs : s + m ≤ n) : Lies w 2 (some ⟨b, o + s * 2, none⟩) m (((xs.drop s).take m).flatMap rowCells) := by
  obtain ⟨h1, h2⟩ := h
  refine ⟨by rw [fm_len2]; congr 1; simp; omega, fun hm => ?_⟩
  obtain ⟨b', o', e, hb, hcell⟩ := h2 (by omega)
  cases e
  refine ⟨b, o + s * 2, rfl, hb, fun j u hj => ?_⟩
  have hsplit : xs.flatMap rowCells = (xs.take s).flatMap rowCells ++ (((xs.drop s).take m).flatMap rowCells ++ ((xs.drop s).drop m).flatMap rowCells) := by rw [← List.flatMap_append, ← List.flatMap_append, List.take_append_drop, List.take_append_drop]
  have hl : ((xs.take s).flatMap rowCells).length = s * 2 := by rw [fm_len2]; congr 1; simp; omega
  have hj2 := (List.getElem?_eq_some_iff.1 hj).1
  have := hcell (s * 2 + j) u (by rw [hsplit, List.getElem?_append_right (by omega), hl, Nat.add_sub_cancel_left, List.getElem?_append_left hj2]; exact hj)
  rwa [← Nat.add_assoc] at this
/-- What the tree is made of: rows whose numbers lie in blocks. -/
def RowB (w : World) (x : RowX) : Prop := (∃ b, x.A = some ⟨b, 0, none⟩) ∧ x.n ≤ 1048576 ∧ x.zs.length = x.n ∧ Lies w 1 x.A x.n (x.zs.flatMap intCells)
theorem RowB.below {w w' : World} {x : RowX} (h : RowB w x) (k : Below w.heap.size w w') : RowB w' x := ⟨h.1, h.2.1, h.2.2.1, h.2.2.2.below k⟩

theorem treeOf_nil (A : Option Addr) (c : Nat) (w : World) :
    Calls Try.prog 48 #[.slice A 0 c] w fun e w' => e = .returned (.pointer none) ∧ w = w' := by
  go_enter Try.func48, Try.ntmps48
  go_wp2
  go_ret
  exact ⟨rfl, rfl⟩
set_option maxRecDepth 8000 in
set_option maxHeartbeats 6400000 in
theorem treeOf_any : ∀ (N n : Nat) (A : Option Addr) (c : Nat) (xs : List RowX) (w : World), n ≤ N → n ≤ 1048576 → n ≤ c → xs.length = n → (∀ x ∈ xs, RowB w x) → Lies w 2 A n (xs.flatMap rowCells) →
    Calls Try.prog 48 #[.slice A n c] w fun e w' => ∃ (q : Option Addr) (S : List Nat) (t : RT), e = .returned (.pointer q) ∧ Tree w' S q t ∧ t.rows = xs.map rowVal ∧ S.Nodup ∧ (∀ x ∈ S, w.heap.size ≤ x) ∧ Below w.heap.size w w'
  | 0, n, A, c, xs, w, hN, _, _, hx, _, _ => by
    obtain rfl : n = 0 := by omega
    obtain rfl : xs = [] := List.length_eq_zero_iff.1 hx
    refine (treeOf_nil A c w).mono ?_
    rintro e w' ⟨rfl, rfl⟩
    exact ⟨none, [], .leaf, rfl, ⟨rfl, rfl⟩, rfl, by simp, by simp, Below.refl _ _⟩
  | N + 1, n, A, c, xs, w, hN, hn, hnc, hx, hok, hL => by
    by_cases hn0 : n = 0
    · subst hn0
      obtain rfl : xs = [] := List.length_eq_zero_iff.1 hx
      refine (treeOf_nil A c w).mono ?_
      rintro e w' ⟨rfl, rfl⟩
      exact ⟨none, [], .leaf, rfl, ⟨rfl, rfl⟩, rfl, by simp, by simp, Below.refl _ _⟩
    obtain ⟨m, hm⟩ : ∃ m, n / 2 = m := ⟨_, rfl⟩
    have hmn : m < n := by omega
    have d1 : ((n : Nat) : Int).tdiv 2 = (m : Int) := by rw [Int.tdiv_eq_ediv_of_nonneg (by omega)]; omega
    have g0 : (((n : Nat) : Int) == 0) = false := by simp; omega
    have HX := Lib.hid hx
    have HOK := Lib.hid hok
    obtain ⟨b, o, rfl, hbl, hc⟩ := hL.row (fun _ => rfl) (show 0 < n by omega)
    have HL := Lib.hid hL
    obtain ⟨x, hxk⟩ := get_lt hx hmn
    obtain ⟨⟨bx, hbx⟩, hxn, hxl, hxL⟩ := hok _ (List.mem_of_getElem? hxk)
    obtain ⟨ky, xA, nx, cx, zs⟩ := x
    simp only at hbx hxn hxl hxL
    subst hbx
    have c0 : w.cell? ⟨b, o + m * 2, none⟩ = some (.string ky) := hc m _ hxk 0 _ rfl
    have c1 : w.cell? ⟨b, o + m * 2 + 1, none⟩ = some (.slice (some ⟨bx, 0, none⟩) nx cx) := hc m _ hxk 1 _ rfl
    have C0 := c0
    have C1 := c1
    have HXL := Lib.hid hxL
    have HZ := Lib.hid hxl
    have HH := Lib.hid (show ∀ u ∈ zs.flatMap intCells, u.oneCell' = true by rw [← int_map]; exact ints_oneCell _ _)
    have HP1 := Lib.hid (show Lies w 2 (some ⟨b, o, none⟩) m ((xs.take m).flatMap rowCells) by
      have h := lies_rows hx hL 0 m (by omega)
      simpa using h)
    obtain ⟨A2, hA2⟩ : ∃ A2, (if c = m + 1 then (some ⟨b, o, none⟩ : Option Addr) else some ⟨b, o + (m + 1) * 2, none⟩) = A2 := ⟨_, rfl⟩
    obtain ⟨n2, hn2⟩ : ∃ n2, n - (m + 1) = n2 := ⟨_, rfl⟩
    obtain ⟨c2, hc2⟩ : ∃ c2, c - (m + 1) = c2 := ⟨_, rfl⟩
    have HP2 := Lib.hid (show Lies w 2 A2 n2 ((xs.drop (m + 1)).flatMap rowCells) by
      have h := lies_rows hx hL (m + 1) (n - (m + 1)) (by omega)
      rw [List.take_of_length_le (by simp; omega), hn2] at h
      by_cases hcm : c = m + 1
      · obtain rfl : n2 = 0 := by omega
        exact ⟨h.1, fun h0 => absurd h0 (by omega)⟩
      · rw [if_neg hcm] at hA2
        rw [← hA2]; exact h)
    have HSP := Lib.hid (show xs.map rowVal = (xs.take m).map rowVal ++ (ky, zs) :: (xs.drop (m + 1)).map rowVal by
      have h : xs = xs.take m ++ xs.drop m := (List.take_append_drop m xs).symm
      rw [drop_of hxk] at h
      conv => lhs; rw [h]
      rw [List.map_append, List.map_cons]; rfl)
    clear hx hok hL hc hxk hxL hxl hm
    have i0 : (0 : Int) ≤ (m : Int) := by omega
    have i1 : (m : Int) ≤ (n : Int) := by omega
    have i2 : (m : Int) ≤ (c : Int) := by omega
    have i3 : (m : Int) + 1 ≤ (n : Int) := by omega
    have i4 : IntKind.i64.wrap ((m : Int) + 1) = (m : Int) + 1 := IntWalk.i64_in _ ⟨by omega, by omega⟩
    have i5 : (0 : Int) ≤ (m : Int) + 1 := by omega
    have i6 : (n : Int) ≤ (c : Int) := by omega
    go_enter Try.func48, Try.ntmps48
    go_upto_region 4 with (fail)
    go_cut [4] from 11 (fun s wr => ∃ b6 g3 c3 : Nat, s = .pointer (some ⟨b6, 0, none⟩) ∧ RowIs wr b6 55 [.string ky, .slice (some ⟨g3, 0, none⟩) nx c3] ∧ wr.ownsRow w.heap.size 3 1 (.slice (some ⟨g3, 0, none⟩) nx c3) nx (zs.flatMap intCells) ∧ w.heap.size ≤ b6 ∧ Below w.heap.size w wr)
    case first =>
      have BR := Below.refl w.heap.size w
      go_region_held3 (fun wx => wx.cell? ⟨b, o + m * 2, none⟩ = some (.string ky) ∧ wx.cell? ⟨b, o + m * 2 + 1, none⟩ = some (.slice (some ⟨bx, 0, none⟩) nx cx) ∧ Below w.heap.size w wx) ((go_split_ands; refine ⟨?_, ?_, ?_⟩ <;> first | assumption | (refine box_cell (by assumption) ?_; assumption) | (refine below_step (by assumption) ?_; assumption) | exact Below.drew (by assumption) | ((repeat' (first | (with_reducible exact Below.refl _ _) | (with_reducible assumption) | (with_reducible refine below_step (by assumption) ?_) | (with_reducible refine below_alloc ?_ _) | (with_reducible refine Below.drew ?_) | (with_reducible refine below_drewN ?_ _) | (with_reducible refine Below.setCell ?_ ?_ _) | go_size)); done) | (refine box_cell (W := w) ?_ C0; (repeat' (first | (with_reducible exact Below.refl _ _) | (with_reducible assumption) | (with_reducible refine below_step (by assumption) ?_) | (with_reducible refine below_alloc ?_ _) | (with_reducible refine Below.drew ?_) | (with_reducible refine below_drewN ?_ _) | (with_reducible refine Below.setCell ?_ ?_ _) | go_size)); done) | (refine box_cell (W := w) ?_ C1; (repeat' (first | (with_reducible exact Below.refl _ _) | (with_reducible assumption) | (with_reducible refine below_step (by assumption) ?_) | (with_reducible refine below_alloc ?_ _) | (with_reducible refine Below.drew ?_) | (with_reducible refine below_drewN ?_ _) | (with_reducible refine Below.setCell ?_ ?_ _) | go_size)); done)))
        (first | (refine step_copy ?_ ?_ ?_ 29 3 1 8 rowInt ?_ ?_ bx 0 nx cx (zs.flatMap intCells) ?_ ?_ HH.out ?_ ?_ ?_; rfl; rotate_left 2; exact rfl; exact rfl; exact rfl; exact HXL.out; (unfold maxLen; omega); omega; intro g3 c3 w3 ho3 hS3 hz3; have HO := Lib.hid ho3; clear ho3; all_goals skip) | (refine step_copy2 ?_ ?_ ?_ 29 3 1 8 rowInt ?_ ?_ bx 0 nx cx (zs.flatMap intCells) ?_ ?_ HH.out ?_ ?_ ?_; rfl; rotate_left 2; exact rfl; exact rfl; exact rfl; exact HXL.out; (unfold maxLen; omega); omega; intro g3 c3 w3 ho3 hS3 hz3 hr3; have HO := Lib.hid ho3; have HR6 := Lib.hid hr3; have d0 := cell_of_row w3 (w.heap.size + 1) 0 _ _ (0, 0) hr3; have d1 := cell_of_row w3 (w.heap.size + 1) 1 _ _ (0, 0) hr3; have e0 := frozen_of_row w3 (w.heap.size + 1) 0 _ _ hr3; have e1 := frozen_of_row w3 (w.heap.size + 1) 1 _ _ hr3; simp at d0 d1; clear ho3 hr3; all_goals skip) | (refine step_copy3 ?_ ?_ ?_ 29 3 1 8 rowInt ?_ ?_ bx 0 nx cx (zs.flatMap intCells) ?_ ?_ HH.out ?_ ?_ ?_; rfl; rotate_left 2; exact rfl; exact rfl; exact rfl; exact HXL.out; (unfold maxLen; omega); omega; intro g3 c3 w3 ho3 hS3 hz3 hr3; have HO := Lib.hid ho3; have HR6 := Lib.hid hr3; have d0 := cell_of_row w3 (w.heap.size) 0 _ _ (0, 0) hr3; have d1 := cell_of_row w3 (w.heap.size) 1 _ _ (0, 0) hr3; have e0 := frozen_of_row w3 (w.heap.size) 0 _ _ hr3; have e1 := frozen_of_row w3 (w.heap.size) 1 _ _ hr3; simp at d0 d1; clear ho3 hr3; all_goals skip))
      · go_wp2
        go_meet
        case rel => exact ⟨_, g3, c3, rfl, RowIs.new _ _ _, World.ownsRow.alloc (ownsRow_base HO.out (by omega)) _, by omega, below_alloc hS3 _⟩
      · go_wp2
        go_meet
        case rel =>
          have hR6 : RowIs w3 (w.heap.size + 1) 55 [.string ⟨#[]⟩, .slice none 0 0] := HR6.out
          have hng := own_ne_row HO.out hR6 (by decide)
          exact ⟨_, g3, c3, rfl, (hR6.set 0 _).set 1 _, ownsRow_other (ownsRow_other HO.out hng _) hng _, by omega, (hS3.setCell (by show w.heap.size ≤ w.heap.size + 1; omega) _).setCell (by show w.heap.size ≤ w.heap.size + 1; omega) _⟩
      · go_wp2
        go_meet
        case rel =>
          have hR6 : RowIs w3 w.heap.size 55 [.string ⟨#[]⟩, .slice none 0 0] := HR6.out
          have hng := own_ne_row HO.out hR6 (by decide)
          exact ⟨_, g3, c3, rfl, (hR6.set 0 _).set 1 _, ownsRow_other (ownsRow_other HO.out hng _) hng _, by omega, (hS3.setCell (by show w.heap.size ≤ w.heap.size; omega) _).setCell (by show w.heap.size ≤ w.heap.size; omega) _⟩
    case rest =>
      obtain ⟨b4, g3, c3, rfl, hR4, hO3, hb4, hB3⟩ := hcut
      have hbg : b4 ≠ g3 := own_ne_row hO3 hR4 (by decide)
      have HG3 := Lib.hid (owns_lt hO3)
      have r0 := hR4.cell (j := 0) rfl
      have r1 := hR4.cell (j := 1) rfl
      have HO3 := Lib.hid hO3
      have L1 := Lib.hid (HP1.out.below hB3)
      have L2 := Lib.hid (HP2.out.below hB3)
      have K1 := Lib.hid (show ∀ x ∈ xs.take m, RowB wc x from fun x hx => (HOK.out x (List.mem_of_mem_take hx)).below hB3)
      have K2 := Lib.hid (show ∀ x ∈ xs.drop (m + 1), RowB wc x from fun x hx => (HOK.out x (List.mem_of_mem_drop hx)).below hB3)
      have Z1 := Lib.hid (show (xs.take m).length = m by rw [List.length_take, HX.out]; omega)
      have Z2 := Lib.hid (show (xs.drop (m + 1)).length = n2 by rw [List.length_drop, HX.out]; exact hn2)
      have hwz : w.heap.size ≤ wc.heap.size := hB3.size
      clear hR4 hO3 c0 c1 C0 C1 HP1 HP2 HOK HL HXL
      have BR := Below.refl wc.heap.size wc
      go_wp2_with fail
      go_region_held3 (fun wx => wx.cell? ⟨b4, 0, none⟩ = some (.string ky) ∧ wx.cell? ⟨b4, 1, none⟩ = some (.slice (some ⟨g3, 0, none⟩) nx c3) ∧ Below wc.heap.size wc wx) ((go_split_ands; refine ⟨?_, ?_, ?_⟩ <;> first | assumption | (refine box_cell (by assumption) ?_; assumption) | (refine below_step (by assumption) ?_; assumption) | exact Below.drew (by assumption) | exact below_alloc (by assumption) _ | (refine box_cell (below_alloc (Below.refl _ _) _) ?_; assumption)))
        (first
          | (go_at_call_of 48 (Value.slice (some ⟨b, o, none⟩) m c); go_split_ands; refine (treeOf_any N m _ _ (xs.take m) _ (by omega) (by omega) (by omega) Z1.out (fun x hx => (K1.out x hx).below (by assumption)) (L1.out.below (by assumption))).mono ?_; rintro e1 wA ⟨q1, S1, t1, rfl, T1, v1, n1, s1, bA⟩; have BW1 : Below wc.heap.size wc wA := below_step bA (show Below wc.heap.size wc _ by assumption); have HT1 := Lib.hid T1; have HV1 := Lib.hid v1; have HN1 := Lib.hid n1; have HS1 := Lib.hid (show ∀ x ∈ S1, wc.heap.size ≤ x ∧ x < wA.heap.size from fun x hx => ⟨Nat.le_trans (by first | exact Nat.le_refl _ | (have hq := (show Below wc.heap.size wc _ by assumption).size; exact hq)) (s1 x hx), T1.lt x hx⟩); have zA := BW1.size; clear T1 v1 n1 s1)
          | (go_at_call_of 48 (Value.slice A2 n2 c2); refine (treeOf_any N n2 _ _ (xs.drop (m + 1)) _ (by omega) (by omega) (by omega) Z2.out (fun x hx => (K2.out x hx).below (by first | exact BW1 | assumption)) (L2.out.below (by first | exact BW1 | assumption))).mono ?_; rintro e2 wB ⟨q2, S2, t2, rfl, T2, v2, n2, s2, bB⟩; have BW2 : Below wc.heap.size wc wB := below_step bB BW1; have HT1B := Lib.hid (HT1.out.keep (fun x hx => bB.block x (HT1.out.lt x hx))); have HT2 := Lib.hid T2; have HV2 := Lib.hid v2; have HN2 := Lib.hid n2; have HS2 := Lib.hid s2; have zB := bB.size; clear T2 v2 n2 s2))
      have hO9 := Lib.hid (owns_below HO3.out BW2)
      go_wp2
      go_ret
      have hRN := RowIs.new wB #[.string ky, .slice (some ⟨g3, 0, none⟩) nx c3, .pointer q1, .pointer q2] 87
      have hzB := BW2.size
      have f1 : ∀ x ∈ S1, x < wB.heap.size := fun x hx => HT1B.out.lt x hx
      have f2 : ∀ x ∈ S2, x < wB.heap.size := fun x hx => HT2.out.lt x hx
      have old : ∀ x, x < wB.heap.size → (wB.alloc (.cells #[.string ky, .slice (some ⟨g3, 0, none⟩) nx c3, .pointer q1, .pointer q2] 87)).heap[x]? = wB.heap[x]? := fun x hx => heap_alloc_old _ _ hx
      have hg3c : g3 < wc.heap.size := HG3.out.2
      have hg3d : w.heap.size ≤ g3 := HG3.out.1
      have hnd : (wB.heap.size :: g3 :: (S1 ++ S2)).Nodup := nodup_join (by omega) (fun h => by have := f1 _ h; omega) (fun h => by have := (HS1.out _ h).1; omega) (fun h => by have := f2 _ h; omega) (fun h => by have := HS2.out _ h; omega) HN1.out HN2.out (fun x h1 h2 => by have a1 := (HS1.out x h1).2; have a2 := HS2.out x h2; omega)
      refine ⟨some ⟨wB.heap.size, 0, none⟩, wB.heap.size :: g3 :: (S1 ++ S2), .node t1 ky zs t2, rfl, ⟨wB.heap.size, g3, nx, c3, q1, q2, S1, S2, rfl, rfl, hnd, hRN, HZ.out, own_block (ownsRow_base hO9.out (Nat.zero_le _)) (old g3 (by omega)), HT1B.out.keep (fun x hx => old x (f1 x hx)), HT2.out.keep (fun x hx => old x (f2 x hx))⟩, ?_, hnd, ?_, below_alloc (below_step BW2 hB3) _⟩
      · rw [RT.rows, HV1.out, HV2.out, HSP.out]
      · intro x hx
        simp only [List.mem_cons, List.mem_append] at hx
        rcases hx with rfl | rfl | hx | hx
        · omega
        · exact hg3d
        · have := (HS1.out x hx).1; omega
        · have := HS2.out x hx; omega

def RT.num : RT → Nat
  | .leaf => 0
  | .node l _ _ r => l.num + r.num + 1
set_option maxHeartbeats 3200000 in
theorem find_tree (key : ByteArray) (t : RT) (S : List Nat) (q : Option Addr) (w : World) (hT : Tree w S q t) :
    Calls Try.prog 49 #[.pointer q, .string key] w fun e w' => w = w' ∧ ((e = .returned (.pointer none) ∧ t.look key = none) ∨ ∃ (b g m c : Nat) (a : List Int), e = .returned (.pointer (some ⟨b, 0, none⟩)) ∧ t.look key = some a ∧ w.cell? ⟨b, 1, none⟩ = some (.slice (some ⟨g, 0, none⟩) m c) ∧ g ∈ S ∧ a.length = m ∧ w.ownsRow 0 3 1 (.slice (some ⟨g, 0, none⟩) m c) m (a.flatMap intCells)) := by
  have HT := Lib.hid hT
  clear hT
  go_enter Try.func49, Try.ntmps49
  go_wp2
  go_loopg [0] t.num (fun k p wr => ∃ (u : RT) (S' : List Nat) (q' : Option Addr), Hid (u.num = k) ∧ p = .pointer q' ∧ Hid (Tree w S' q' u) ∧ Hid (u.look key = t.look key) ∧ Hid (∀ b ∈ S', b ∈ S) ∧ wr = w)
  case atStart => exact ⟨t, S, q, Lib.hid rfl, rfl, HT, Lib.hid rfl, Lib.hid (fun _ h => h), rfl⟩
  case round =>
    obtain ⟨u, S', q', hk, rfl, hT', hL, hS, rfl⟩ := hrel
    cases u with
    | leaf =>
      obtain ⟨_, rfl⟩ := hT'.out
      have HL2 := Lib.hid (show t.look key = none from hL.out.symm)
      clear hk hT' hL
      go_wp2
      go_ret
      exact ⟨rfl, .inl ⟨rfl, HL2.out⟩⟩
    | node l k a r =>
      obtain ⟨b, g, m, c, pl, pr, Sl, Sr, rfl, hSS, hnd, hR, hm, ho, hl, hr⟩ := hT'.out
      have u0 := hR.cell (j := 0) rfl
      have u1 := hR.cell (j := 1) rfl
      have u2 := hR.cell (j := 2) rfl
      have u3 := hR.cell (j := 3) rfl
      have HM := Lib.hid hm
      have HO := Lib.hid ho
      have HL' := Lib.hid hl
      have HR' := Lib.hid hr
      have HSS := Lib.hid hSS
      have hk2 := hk.out
      rw [RT.num] at hk2
      have HK2 := Lib.hid hk2
      clear hT' hR hm ho hl hr hnd hSS hk hk2
      by_cases he : k = key
      · subst he
        have E : (k.toList == k.toList) = true := by simp
        have E' : (k.toList != k.toList) = false := by unfold bne; rw [E]; rfl
        have HL2 := Lib.hid (show t.look k = some a by rw [← hL.out, RT.look, if_pos rfl])
        clear hL
        go_wp2
        go_ret
        exact ⟨rfl, .inr ⟨b, g, m, c, a, rfl, HL2.out, u1, hS.out g (by rw [HSS.out]; simp), HM.out, HO.out⟩⟩
      · have E : (k.toList == key.toList) = false := str_ne he
        have E' : (k.toList != key.toList) = true := by unfold bne; rw [E]; rfl
        cases hlt : ltS key k
        · have G1 : Op.bytesLess key.toList k.toList = false := hlt
          have HL2 := Lib.hid (show r.look key = t.look key by rw [← hL.out, RT.look, if_neg he, if_neg (by simp [hlt])])
          clear hL hlt he
          go_wp2
          go_roundg r.num
          case measure => have := HK2.out; omega
          case rel => exact ⟨r, Sr, pr, Lib.hid rfl, rfl, HR', HL2, Lib.hid (fun x hx => hS.out x (by rw [HSS.out]; simp [hx])), rfl⟩
        · have G1 : Op.bytesLess key.toList k.toList = true := hlt
          have HL2 := Lib.hid (show l.look key = t.look key by rw [← hL.out, RT.look, if_neg he, if_pos hlt])
          clear hL hlt he
          go_wp2
          go_roundg l.num
          case measure => have := HK2.out; omega
          case rel => exact ⟨l, Sl, pl, Lib.hid rfl, rfl, HL', HL2, Lib.hid (fun x hx => hS.out x (by rw [HSS.out]; simp [hx])), rfl⟩

theorem owns_raise {w : World} {B B' : Nat} {e : TypeId} {size n m c g : Nat} {xs : List Value} (h : w.ownsRow B e size (.slice (some ⟨g, 0, none⟩) m c) n xs) (hg : B' ≤ g) : w.ownsRow B' e size (.slice (some ⟨g, 0, none⟩) m c) n xs := by
  refine ⟨h.1, ?_⟩
  rcases h.2 with q | ⟨g', cap, cur, hv, q1, q2⟩
  · exact .inl q
  · have e : g = g' := by simp only [Value.slice.injEq, Option.some.injEq, Addr.mk.injEq] at hv; exact hv.1.1
    exact .inr ⟨g', cap, cur, hv, by rw [← e]; exact hg, q2⟩
theorem find_val {t : RT} {vals : List RowV} {key : ByteArray} (ht : t.rows = vals) (hv : rowsV vals = true) : findV vals key = (t.look key).getD [] := by
  have h := look_find key t (by rw [ht]; exact (rowsV_asc hv).1)
  rw [ht] at h
  unfold findV
  rw [hv, ← h]
  cases vals.find? (keyV key) <;> rfl

set_option maxHeartbeats 3200000 in
theorem implFindI_any (key : ByteArray) (g0 n c : Nat) (xs : List RowX) (hn : n ≤ 1048576) (hnc : n ≤ c) (hx : xs.length = n) (w : World) (ox : ∀ x ∈ xs, RowOk w x ∧ RowFit x) (oz : ∀ x ∈ xs, RowB w x) (hL : Lies w 2 (some ⟨g0, 0, none⟩) n (xs.flatMap rowCells)) (hsm : (findV (xs.map rowVal) key).length ≤ 1048576) :
    Calls Try.prog 23 #[.slice (some ⟨g0, 0, none⟩) n c, .string key] w fun e w' => ∃ v, e = .returned v ∧ intSAt w' w.heap.size w'.heap.size v (findV (xs.map rowVal) key) ∧ Below w.heap.size w w' := by
  have OX := Lib.hid ox
  have OZ := Lib.hid oz
  have HX := Lib.hid hx
  have HL := Lib.hid hL
  have HSM := Lib.hid hsm
  have HV := Lib.hid (rowsV_of (fun x hx => (ox x hx).1.len))
  clear ox hx hL oz hsm
  cases E1 : rowsB xs
  · have HE := Lib.hid (show findV (xs.map rowVal) key = [] by unfold findV; rw [← HV.out, E1]; rfl)
    clear HV HSM
    go_enter Try.func23, Try.ntmps23
    go_wp2_with (go_at_call 11; refine (implRows_any _ n c xs hn HX.out _ OX.out HL.out).mono ?_; rintro e1 w1 ⟨rfl, hb1⟩; rw [E1])
    go_ret
    exact ⟨_, rfl, by rw [HE.out]; exact intSAt.made rfl (by omega) (owns_nil' _ _ rfl hb1.size), below_alloc hb1 _⟩
  have HR := Lib.hid (show rowsV (xs.map rowVal) = true by rw [← HV.out, E1])
  clear HV
  go_enter Try.func23, Try.ntmps23
  go_wp2_with fail
  refine (implRows_any _ n c xs hn HX.out _ OX.out HL.out).mono ?_
  rintro e1 w1 ⟨rfl, hb1⟩
  rw [E1]
  go_wp2_with fail
  refine (treeOf_any n n _ c xs _ (Nat.le_refl _) hn hnc HX.out (fun x hx => (OZ.out x hx).below hb1) (HL.out.below hb1)).mono ?_
  rintro e2 w2 ⟨q, S, t, rfl, hT, hv, _, hs, hb2⟩
  have HT := Lib.hid hT
  have HFV := Lib.hid (find_val (key := key) hv HR.out)
  have HS := Lib.hid hs
  have hB2 := below_step hb2 hb1
  clear hT hv hs
  go_wp2_with fail
  refine (find_tree key t S q _ HT.out).mono ?_
  rintro e3 w3 ⟨rfl, ⟨rfl, hk⟩ | ⟨b, g, m, cc, a, rfl, hk, hc1, hg, ha, ho⟩⟩
  · have HK := Lib.hid (show findV (xs.map rowVal) key = [] by rw [HFV.out, hk]; rfl)
    clear hk HFV
    go_wp2
    go_ret
    exact ⟨_, rfl, by rw [HK.out]; exact intSAt.made rfl (by omega) (owns_nil' _ _ rfl hB2.size), below_alloc hB2 _⟩
  · have HK := Lib.hid (show findV (xs.map rowVal) key = a by rw [HFV.out, hk]; rfl)
    have HA := Lib.hid ha
    have HO := Lib.hid ho
    have hgz : w.heap.size ≤ g := Nat.le_trans hb1.size (HS.out g hg)
    clear hk HFV ha ho
    go_wp2
    go_ret
    refine ⟨_, rfl, ?_, hB2⟩
    have h9 := HSM.out
    rw [HK.out] at h9
    rw [HK.out]
    exact intSAt.made HA.out (by rw [← HA.out]; exact h9) (owns_raise HO.out hgz)

theorem RT.small_of {N : Nat} : ∀ {t : RT}, (∀ y ∈ t.rows, y.2.length ≤ N) → t.small N
  | .leaf, _ => trivial
  | .node l k a r, h => ⟨h (k, a) (by simp [RT.rows]), RT.small_of (fun y hy => h y (by simp [RT.rows, hy])), RT.small_of (fun y hy => h y (by simp [RT.rows, hy]))⟩
theorem most_take {vals : List RowV} {p : Int} (hp : 0 ≤ p) (h : ∀ y ∈ vals, ¬ p ≤ lastV y) : ¬ p ≤ mostV vals := by
  unfold mostV
  rw [most_fold]
  rintro (h1 | ⟨y, hy, h1⟩)
  · omega
  · exact h y hy h1
theorem most_mem {vals : List RowV} {p : Int} {y : RowV} (hy : y ∈ vals) (h : p ≤ lastV y) : p ≤ mostV vals := by
  unfold mostV
  rw [most_fold]
  exact .inr ⟨y, hy, h⟩
theorem placeIn_any (n : Int) (w : World) : Calls Try.prog 47 #[.int .i64 n] w fun e w' => e = .returned (.bool (inB n 0 99)) ∧ w = w' := by
  by_cases h0 : 0 ≤ n
  · by_cases h1 : n ≤ 99
    · have E := Lib.hid (show inB n 0 99 = true from inB_t ⟨h0, h1⟩)
      go_enter Try.func47, Try.ntmps47
      go_wp2
      go_ret
      exact ⟨ret_bool E.out.symm, rfl⟩
    · have E := Lib.hid (show inB n 0 99 = false from inB_f (by omega))
      go_enter Try.func47, Try.ntmps47
      go_wp2
      go_ret
      exact ⟨ret_bool E.out.symm, rfl⟩
  · have E := Lib.hid (show inB n 0 99 = false from inB_f (by omega))
    go_enter Try.func47, Try.ntmps47
    go_wp2
    go_ret
    exact ⟨ret_bool E.out.symm, rfl⟩

set_option maxRecDepth 8000 in
set_option maxHeartbeats 6400000 in
theorem implAddI_any (key : ByteArray) (hkey : key.size ≤ maxLen) (p : Int) (g0 n c : Nat) (xs : List RowX) (hn : n ≤ 1048576) (hnc : n ≤ c) (hx : xs.length = n) (w : World) (ox : ∀ x ∈ xs, RowOk w x ∧ RowFit x) (oz : ∀ x ∈ xs, RowB w x) (hL : Lies w 2 (some ⟨g0, 0, none⟩) n (xs.flatMap rowCells)) (hsz : rowLen (xs.map rowVal) ≤ 1048576) :
    Calls Try.prog 29 #[.slice (some ⟨g0, 0, none⟩) n c, .string key, .int .i64 p] w fun e w' => ∃ v, e = .returned (.tuple #[v, .bool (addB (xs.map rowVal) key p)]) ∧ rowSAt w' w.heap.size w'.heap.size v (addL (xs.map rowVal) key p) ∧ Below w.heap.size w w' := by
  have OX := Lib.hid ox
  have OZ := Lib.hid oz
  have HX := Lib.hid hx
  have HL := Lib.hid hL
  have HV := Lib.hid (rowsV_of (fun x hx => (ox x hx).1.len))
  have HSM := Lib.hid (addL_small key p hsz)
  have HSZ := Lib.hid hsz
  clear ox hx hL oz hsz
  cases E1 : rowsB xs
  · have HB := Lib.hid (show addB (xs.map rowVal) key p = false by unfold addB; rw [← HV.out, E1]; rfl)
    have HA := Lib.hid (show addL (xs.map rowVal) key p = [] by unfold addL; rw [HB.out]; rfl)
    clear HV HSM
    go_enter Try.func29, Try.ntmps29
    go_wp2_with (go_at_call 11; refine (implRows_any _ n c xs hn HX.out _ OX.out HL.out).mono ?_; rintro e1 w1 ⟨rfl, hb1⟩; rw [E1])
    go_ret2
    exact ⟨_, by rw [HB.out]; rfl, by rw [HA.out]; exact rowNil hb1.size, below_alloc hb1 _⟩
  cases E2 : wordB key
  · have HB := Lib.hid (show addB (xs.map rowVal) key p = false by unfold addB; rw [E2]; simp)
    have HA := Lib.hid (show addL (xs.map rowVal) key p = [] by unfold addL; rw [HB.out]; rfl)
    clear HV HSM
    go_enter Try.func29, Try.ntmps29
    go_wp2_with (first | (go_at_call 11; refine (implRows_any _ n c xs hn HX.out _ OX.out HL.out).mono ?_; rintro e1 w1 ⟨rfl, hb1⟩; rw [E1]) | (go_at_call 35; refine (wordValid_any key hkey _).mono ?_; rintro e2 w2 ⟨rfl, rfl⟩; rw [E2]))
    go_ret2
    exact ⟨_, by rw [HB.out]; rfl, by rw [HA.out]; exact rowNil hb1.size, below_alloc hb1 _⟩
  cases E3 : inB p 0 99
  · have HB := Lib.hid (show addB (xs.map rowVal) key p = false by unfold addB; rw [E3]; simp)
    have HA := Lib.hid (show addL (xs.map rowVal) key p = [] by unfold addL; rw [HB.out]; rfl)
    clear HV HSM
    go_enter Try.func29, Try.ntmps29
    go_wp2_with (first | (go_at_call 11; refine (implRows_any _ n c xs hn HX.out _ OX.out HL.out).mono ?_; rintro e1 w1 ⟨rfl, hb1⟩; rw [E1]) | (go_at_call 35; refine (wordValid_any key hkey _).mono ?_; rintro e2 w2 ⟨rfl, rfl⟩; rw [E2]) | (go_at_call 47; refine (placeIn_any _ _).mono ?_; rintro e3 w3 ⟨rfl, rfl⟩; rw [E3]))
    go_ret2
    exact ⟨_, by rw [HB.out]; rfl, by rw [HA.out]; exact rowNil hb1.size, below_alloc hb1 _⟩
  have HR : rowsV (xs.map rowVal) = true := by rw [← HV.out, E1]
  have HASC := Lib.hid (rowsV_asc HR).1
  have HPOS := Lib.hid (rowsV_asc HR).2
  have hp := inB_iff.1 E3
  have HE := Lib.hid (show ∀ M, mostV (xs.map rowVal) = M → addB (xs.map rowVal) key p = !decide (p ≤ M) by
    intro M hM
    unfold addB
    rw [HR, E2, E3, hM]; rfl)
  clear HV HR
  go_enter Try.func29, Try.ntmps29
  go_wp2_with (first | (go_at_call 11; refine (implRows_any _ n c xs hn HX.out _ OX.out HL.out).mono ?_; rintro e1 w1 ⟨rfl, hb1⟩; rw [E1]) | (go_at_call 35; refine (wordValid_any key hkey _).mono ?_; rintro e2 w2 ⟨rfl, rfl⟩; rw [E2]) | (go_at_call 47; refine (placeIn_any _ _).mono ?_; rintro e3 w3 ⟨rfl, rfl⟩; rw [E3]))
  go_loopw [26] (fun i wr => ∃ k : Nat, k ≤ n ∧ i = .int .i64 k ∧ Hid (∀ y ∈ (xs.map rowVal).take k, ¬ p ≤ lastV y) ∧ Below w.heap.size w wr) (fun i _ => n - (intOf i).toNat)
  case atStart => exact ⟨0, Nat.zero_le _, rfl, Lib.hid (by simp), hb1⟩
  case round =>
    obtain ⟨k, hk, rfl, hN, hB⟩ := hrel
    by_cases hlt : k < n
    · obtain ⟨x, hxk⟩ := get_lt HX.out hlt
      have hyk : (xs.map rowVal)[k]? = some (rowVal x) := by rw [List.getElem?_map, hxk]; rfl
      obtain ⟨b, o, hbo, hbl, hc⟩ := (HL.out.below hB).row (fun _ => rfl) (by omega)
      obtain rfl : g0 = b := by cases hbo; rfl
      obtain rfl : 0 = o := by cases hbo; rfl
      obtain ⟨⟨bx, hbx⟩, hxn, hxl, hxL⟩ := OZ.out _ (List.mem_of_getElem? hxk)
      have hpos := HPOS.out _ (List.mem_of_getElem? hyk)
      have hlast := last_get hpos
      obtain ⟨L, hLL⟩ : ∃ L, lastV (rowVal x) = L := ⟨_, rfl⟩
      have HMM := Lib.hid (fun h => most_mem (p := p) (List.mem_of_getElem? hyk) h)
      have HN1 := Lib.hid (show ¬ p ≤ L → ∀ y ∈ (xs.map rowVal).take (k + 1), ¬ p ≤ lastV y by
        intro h y hy
        rw [take_succ_of hyk] at hy
        rcases List.mem_append.1 hy with hy | hy
        · exact hN.out y hy
        · obtain rfl := List.mem_singleton.1 hy
          rw [hLL]; exact h)
      rw [hLL] at hlast HMM
      obtain ⟨ky, xA, nx, cx, zs⟩ := x
      simp only at hbx hxn hxl hxL
      subst hbx
      have hpos2 : 0 < nx := by rw [← hxl]; exact hpos
      obtain ⟨nn, rfl⟩ : ∃ nn, nx = nn + 1 := ⟨nx - 1, by omega⟩
      have hz : zs[nn]? = some L := by
        have h := hlast
        rw [show (rowVal (⟨ky, some ⟨bx, 0, none⟩, nn + 1, cx, zs⟩ : RowX)).2 = zs from rfl, hxl, Nat.add_sub_cancel] at h
        exact h
      have c0 : wr.cell? ⟨g0, k * 2, none⟩ = some (.string ky) := by simpa using hc k _ hxk 0 _ rfl
      have c1 : wr.cell? ⟨g0, k * 2 + 1, none⟩ = some (.slice (some ⟨bx, 0, none⟩) (nn + 1) cx) := by simpa using hc k _ hxk 1 _ rfl
      obtain ⟨b2, o2, e2, hb2, hc2⟩ := (hxL.below hB).2 (by omega)
      obtain rfl : bx = b2 := by cases e2; rfl
      obtain rfl : 0 = o2 := by cases e2; rfl
      have d0 : wr.cell? ⟨bx, nn, none⟩ = some (.int .i64 L) := by simpa using hc2 nn _ (by rw [← int_map]; simp [hz])
      clear hc hxk hyk hc2 hxL hxl hbo hlast hz hpos hLL e2 HSZ
      by_cases hle : p ≤ L
      · have HB := Lib.hid (show addB (xs.map rowVal) key p = false by rw [HE.out _ rfl, decide_eq_true (HMM.out hle)]; rfl)
        have HA := Lib.hid (show addL (xs.map rowVal) key p = [] by unfold addL; rw [HB.out]; rfl)
        clear HE HMM HN1 HSM
        go_wp2
        go_ret2
        have hb9 := below_alloc hB (.cells #[.string ky, .slice (some ⟨bx, 0, none⟩) (nn + 1) cx] 55)
        exact ⟨_, by rw [HB.out]; rfl, by rw [HA.out]; exact rowNil' hb9.size (by simp), below_alloc hb9 _⟩
      · have HN2 := Lib.hid (HN1.out hle)
        clear HMM HN1
        go_wp2
        go_roundw
        case rel => exact ⟨k + 1, by omega, by go_num, HN2, below_alloc hB _⟩
        case measure => simp [intOf]; omega
    · obtain rfl : k = n := by omega
      have hall := hN.out
      rw [List.take_of_length_le (by rw [List.length_map]; have := HX.out; omega)] at hall
      have HB := Lib.hid (show addB (xs.map rowVal) key p = true by rw [HE.out _ rfl, decide_eq_false (most_take hp.1 hall)]; rfl)
      have HA := Lib.hid (show addL (xs.map rowVal) key p = addR key p (xs.map rowVal) by unfold addL; rw [HB.out]; rfl)
      clear hall hN HE
      go_wp2_with fail
      refine (treeOf_any k k _ c xs _ (Nat.le_refl _) hn hnc HX.out (fun x hx => (OZ.out x hx).below hB) (HL.out.below hB)).mono ?_
      rintro e2 w2 ⟨q, S, t, rfl, hT, hv, _, hs, hb2⟩
      have HT := Lib.hid hT
      have HAT := Lib.hid (show (t.ins key p).rows = addL (xs.map rowVal) key p by rw [HA.out, ← hv, addR_ins key p t (by rw [hv]; exact HASC.out)])
      have HTS := Lib.hid (show t.small 1048576 from RT.small_of (fun y hy => by
        rw [hv] at hy
        exact Nat.le_trans (rowLen_mem _ y hy) HSZ.out))
      have hrl : (t.ins key p).rows.length ≤ 1048577 := by
        have h1 := RT.rows_ins key p t
        have h2 := rowLen_len (xs.map rowVal)
        rw [← hv] at h2
        have h3 := HSZ.out
        rw [← hv] at h3
        omega
      have HS := Lib.hid (show ∀ x ∈ S, w.heap.size ≤ x from fun x hx => Nat.le_trans hB.size (hs x hx))
      have hB2 := below_step hb2 hB
      clear hT hv hs
      go_wp2_with fail
      refine (with_tree 1048576 (by omega) key p t S q _ HT.out HTS.out).mono ?_
      rintro e3 w3 ⟨q3, S3, rfl, t3, _, m3, k3⟩
      have HT3 := Lib.hid t3
      have HS3 : Hid (∀ x ∈ S3, w.heap.size ≤ x) := Lib.hid (fun x hx => by
        rcases m3 x hx with h | h
        · exact HS.out x h
        · have := hB2.size; omega)
      have hB3 := k3.below HS.out hB2 hB2.size
      clear t3 m3 k3
      have TA := Lib.hid (show Tree (w3.alloc (.cells #[] 55)) S3 q3 (t.ins key p) from HT3.out.keep (fun x hx => heap_alloc_old _ _ (HT3.out.lt x hx)))
      have hgS : w3.heap.size ∉ S3 := fun h => by have := HT3.out.lt _ h; omega
      have BA := below_alloc hB3 (.cells #[] 55)
      go_wp2_with fail
      refine (behind_tree w.heap.size (t.ins key p) S3 q3 _ [] w3.heap.size 0 0 TA.out (owns_nil' _ _ rfl hB3.size) rfl hgS BA.size (by omega)).mono ?_
      rintro e4 w4 ⟨hs4, g4, m4, c4, rfl, hl4, hv4, hh4, hn4, ho4, hat4, k4⟩
      have HH := Lib.hid hh4
      have HO4 := Lib.hid ho4
      have HL4 := Lib.hid hl4
      have HAT4 := Lib.hid hat4
      have HV4 := Lib.hid (hv4.trans HAT.out)
      clear ho4 hl4 hh4 hat4 hv4
      go_wp2
      go_ret2
      have hsz : (w3.alloc (.cells #[] 55)).heap.size = w3.heap.size + 1 := by simp
      have hat : g4 = w3.heap.size ∨ w3.heap.size + 1 ≤ g4 := by have := HAT4.out; rw [hsz] at this; exact this
      have hkeep : ∀ x ∈ S3, w4.heap[x]? = (w3.alloc (.cells #[] 55)).heap[x]? := fun x hx => k4.block x (by have := HT3.out.lt x hx; omega) (by simp; have := HT3.out.lt x hx; omega)
      have hz4 := k4.size
      refine ⟨_, by rw [HB.out]; rfl, rowSAt.made (S := S3) HV4.out HSM.out ⟨by simpa using HL4.out, by simpa using HO4.out, fun h hh => (HH.out h hh).keep (fun _ hb => hb) hkeep, hn4, fun x hx => ⟨HS3.out x hx, by have := HT3.out.lt x hx; omega, by have := HT3.out.lt x hx; omega⟩⟩, k4.below (fun x hx => by simp at hx; have := hB3.size; omega) BA BA.size⟩

theorem implFindI_at (lo hi : Nat) (v : Value) (vals : List RowV) (key : ByteArray) (_hkey : key.size ≤ 1048576) (hok : OkV vals) (hl : rowLen vals ≤ 1048576) (w : World) (h : rowSAt w lo hi v vals) :
    Calls Try.prog 23 #[v, .string key] w fun e w' => ∃ v', e = .returned v' ∧ intSAt w' w.heap.size w'.heap.size v' (findV vals key) ∧ Below w.heap.size w w' := by
  obtain ⟨g, m, c, hs, rfl, rfl, hm, ho, hL, hz, hmc⟩ := RowsAt.open h hok
  exact implFindI_any key g m c hs (by have := rowLen_len (hs.map rowVal); rw [List.length_map] at this; omega) hmc hm w ho hz hL (findV_small key hl)
theorem implAddI_at (lo hi : Nat) (v : Value) (vals : List RowV) (key : ByteArray) (p : Int) (hkey : key.size ≤ 1048576) (hok : OkV vals) (hl : rowLen vals ≤ 1048576) (w : World) (h : rowSAt w lo hi v vals) :
    Calls Try.prog 29 #[v, .string key, .int .i64 p] w fun e w' => ∃ v', e = .returned (.tuple #[v', .bool (addB vals key p)]) ∧ rowSAt w' w.heap.size w'.heap.size v' (addL vals key p) ∧ Below w.heap.size w w' := by
  obtain ⟨g, m, c, hs, rfl, rfl, hm, ho, hL, hz, hmc⟩ := RowsAt.open h hok
  exact implAddI_any key (by unfold maxLen; omega) p g m c hs (by have := rowLen_len (hs.map rowVal); rw [List.length_map] at this; omega) hmc hm w ho hz hL hl
end Go.Proofs.Ytkianldpmlbgcaa
