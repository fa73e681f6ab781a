/-
  The totals of a store: what the reference's and the program's functions return. No condition beyond what the rows list.
-/
import Derived.Test.YtodhmcgjnijllaaDoorTotAdd
namespace Go.Proofs.YtodhmcgjnijllaaDoor
open Go.ChangeShapes Go.WideShapes Go.ChangeAt Go.RowKit

set_option maxHeartbeats 6400000 in
theorem specOf_any (A : Option Addr) (n c : Nat) (xs : List EnT) (hn : n ≤ 1048576) (hx : xs.length = n) (hok : StOk xs) (w : World) (hL : Lies w 4 A n (xs.flatMap entryCells)) :
    Calls Tryd.prog 31 #[.slice A n c] w fun e w' => ∃ g k cap, e = .returned (.slice (some ⟨g, 0, none⟩) k cap) ∧ (ofT xs).length = k ∧ w'.ownsRow w.heap.size 91 3 (.slice (some ⟨g, 0, none⟩) k cap) k ((ofT xs).flatMap totalCells) ∧ Below w.heap.size w w' := by
  have HX := Lib.hid hx
  have HL := Lib.hid hL
  clear hx hL
  cases E1 : storeB xs
  · have HE := Lib.hid (ofT_f E1)
    have h0 : n ≠ 0 := by
      intro h
      obtain rfl : xs = [] := List.length_eq_zero_iff.1 (by rw [HX.out, h])
      cases E1
    go_enter Tryd.func31, Tryd.ntmps31
    go_wp2
    go_loopw [3, 4] (fun l i wr => i = .int .i64 0 ∧ l = .slice (some ⟨w.heap.size, 0, none⟩) 0 0 ∧ wr.ownsRow w.heap.size 91 3 (.slice (some ⟨w.heap.size, 0, none⟩) 0 0) 0 [] ∧ Below w.heap.size w wr) (fun _ i _ => n - (intOf i).toNat)
    case atStart => exact ⟨rfl, rfl, owns_nil' _ _ rfl (Nat.le_refl _), below_alloc (Below.refl _ _) _⟩
    case round =>
      obtain ⟨rfl, rfl, ho, hB⟩ := hrel
      have HO := Lib.hid ho
      have h0' : (0 : Int) < n := by omega
      clear ho
      go_wp2_with fail
      refine (specStore_any A n c xs hn HX.out hok.small _ (HL.out.below hB)).mono ?_
      rintro e1 w1 ⟨rfl, hb1⟩
      rw [E1]
      have HO1 := Lib.hid (owns_below HO.out hb1)
      go_wp2
      go_ret
      exact ⟨_, 0, 0, rfl, by rw [HE.out]; rfl, by rw [HE.out]; exact HO1.out, (by repeat' (first | (with_reducible exact Below.refl _ _) | (with_reducible assumption) | (with_reducible refine below_step (by assumption) ?_) | (with_reducible refine below_alloc ?_ _) | (with_reducible refine Below.drew ?_) | (with_reducible refine below_drewN ?_ _) | (with_reducible refine Below.setCell ?_ ?_ _) | go_size))⟩
  have HE := Lib.hid (ofT_t E1)
  have HOK := Lib.hid (fun k => ofL_ok (xs := xs) E1 k)
  have HEN := Lib.hid ((store_iff xs).1 E1).2.1
  have hn24 : n ≤ 24 := by have := ((store_iff xs).1 E1).1; have := HX.out; omega
  go_enter Tryd.func31, Tryd.ntmps31
  go_wp2
  go_loopw [3, 4] (fun l i wr => ∃ (k g m cp : Nat), k ≤ n ∧ i = .int .i64 k ∧ l = .slice (some ⟨g, 0, none⟩) m cp ∧ Hid ((ofL (xs.take k)).length = m) ∧ wr.ownsRow w.heap.size 91 3 (.slice (some ⟨g, 0, none⟩) m cp) m ((ofL (xs.take k)).flatMap totalCells) ∧ Below w.heap.size w wr) (fun _ i _ => n - (intOf i).toNat)
  case atStart => exact ⟨0, w.heap.size, 0, 0, Nat.zero_le _, rfl, rfl, Lib.hid rfl, owns_nil' _ _ rfl (Nat.le_refl _), below_alloc (Below.refl _ _) _⟩
  case round =>
    obtain ⟨k, g, m, cp, hk, rfl, rfl, hlen, ho, hB⟩ := hrel
    have HO := Lib.hid ho
    have hm24 : m ≤ 24 := by have := hlen.out; have := (HOK.out k).2.1; omega
    clear ho
    by_cases hlt : k < n
    · obtain ⟨⟨x0, x1, x2, x3⟩, hxk⟩ := get_lt HX.out hlt
      have HS := Lib.hid (hok.small _ (List.mem_of_getElem? hxk))
      have HN := Lib.hid (HEN.out _ (List.mem_of_getElem? hxk))
      have HSU := Lib.hid (show putEnd (catS x0, 1, x3) (putRun (catS x0, 1, x3) (false, []) (ofL (xs.take k))) = ofL (xs.take (k + 1)) by
        rw [ofL_succ hxk]
        exact putT_end (totE (x0, x1, x2, x3)) (HOK.out k).1)
      have hhy : 0 ≤ hyp x0 := name_hyp (ent_parts HN.out).1
      have HXK := Lib.hid hxk
      clear hxk
      go_wp2_with fail
      refine (specStore_any A n c xs hn HX.out hok.small _ (HL.out.below hB)).mono ?_
      rintro e1 w1 ⟨rfl, hb1⟩
      rw [E1]
      have B1 : Below w.heap.size w w1 := below_step hb1 hB
      obtain ⟨b, o, rfl, hb, hc⟩ := (HL.out.below B1).row (fun _ => rfl) (by omega)
      have c0 : w1.cell? ⟨b, o + k * 4, none⟩ = some (.string x0) := hc k _ HXK.out 0 _ rfl
      have c1 : w1.cell? ⟨b, o + k * 4 + 1, none⟩ = some (.int .i64 x1) := hc k _ HXK.out 1 _ rfl
      have c2 : w1.cell? ⟨b, o + k * 4 + 2, none⟩ = some (.string x2) := hc k _ HXK.out 2 _ rfl
      have c3 : w1.cell? ⟨b, o + k * 4 + 3, none⟩ = some (.int .i64 x3) := hc k _ HXK.out 3 _ rfl
      have HO1 := Lib.hid (owns_below HO.out hb1)
      clear hc
      go_wp2_with fail
      refine (l16Of_any x0 x1 x2 x3 HS.out.1 hhy _).mono ?_
      rintro e2 w2 ⟨rfl, hb2⟩
      have HO2 := Lib.hid (owns_below HO1.out hb2)
      have B2 : Below w.heap.size w w2 := below_step hb2 B1
      go_wp2_with fail
      refine (l16Put_any g 0 m cp (ofL (xs.take k)) (by omega) hlen.out (catS x0) 1 x3 (ofOk_small (HOK.out k)) (totE_small (x := (x0, x1, x2, x3)) HN.out) _ (lies_of_own HO2.out)).mono ?_
      rintro e3 w3 ⟨g3, m3, c3', rfl, hl3, ho3, hb3⟩
      rw [HSU.out] at hl3 ho3
      have HL3 := Lib.hid hl3
      have HO3 := Lib.hid (ownsRow_base ho3 B2.size)
      clear hl3 ho3
      go_wp2
      go_roundw
      case rel => exact ⟨k + 1, g3, m3, c3', by omega, by go_num, rfl, HL3, HO3.out, below_step hb3 B2⟩
      case measure => simp [intOf]; omega
    · have HFT := Lib.hid (show ofL (xs.take k) = ofL xs from ofL_take (by have := HX.out; omega))
      go_wp2
      go_ret
      exact ⟨g, m, cp, rfl, by rw [HE.out, ← HFT.out]; exact hlen.out, by rw [HE.out, ← HFT.out]; exact HO.out, hB⟩

set_option maxHeartbeats 6400000 in
theorem implOf_any (A : Option Addr) (n c : Nat) (xs : List EnT) (hn : n ≤ 1048576) (hx : xs.length = n) (hok : StOk xs) (w : World) (a : Addr) (hS : Sent a w) (hM : MaxL w) (hL : Lies w 4 A n (xs.flatMap entryCells)) :
    Calls Tryd.prog 32 #[.slice A n c] w fun e w' => ∃ g k cap, e = .returned (.slice (some ⟨g, 0, none⟩) k cap) ∧ (ofT xs).length = k ∧ w'.ownsRow w.heap.size 91 3 (.slice (some ⟨g, 0, none⟩) k cap) k ((ofT xs).flatMap totalCells) ∧ Below w.heap.size w w' := by
  have HX := Lib.hid hx
  have HL := Lib.hid hL
  clear hx hL
  have BZ : Below w.heap.size w (w.alloc (.cells #[] 91)) := below_alloc (Below.refl _ _) _
  have HOZ := Lib.hid (owns_nil w 91 3)
  cases E1 : storeB xs
  · have HE := Lib.hid (ofT_f E1)
    go_enter Tryd.func32, Tryd.ntmps32
    go_wp2_with fail
    refine (implStore_any A n c xs hn HX.out hok.small hok.ints _ a (hS.below BZ (Nat.le_refl _)) (hM.below BZ) (HL.out.below BZ)).mono ?_
    rintro e1 w1 ⟨rfl, hb1⟩
    rw [E1]
    have HO1 := Lib.hid (owns_below HOZ.out hb1)
    go_wp2
    go_ret
    exact ⟨_, 0, 0, rfl, by rw [HE.out]; rfl, by rw [HE.out]; exact HO1.out, (by repeat' (first | (with_reducible exact Below.refl _ _) | (with_reducible assumption) | (with_reducible refine below_step (by assumption) ?_) | (with_reducible refine below_alloc ?_ _) | (with_reducible refine Below.drew ?_) | (with_reducible refine below_drewN ?_ _) | (with_reducible refine Below.setCell ?_ ?_ _) | go_size))⟩
  have HE := Lib.hid (ofT_t E1)
  have HOK := Lib.hid (fun k => ofL_ok (xs := xs) E1 k)
  have HEN := Lib.hid ((store_iff xs).1 E1).2.1
  have hn24 : n ≤ 24 := by have := ((store_iff xs).1 E1).1; have := HX.out; omega
  go_enter Tryd.func32, Tryd.ntmps32
  go_wp2_with fail
  refine (implStore_any A n c xs hn HX.out hok.small hok.ints _ a (hS.below BZ (Nat.le_refl _)) (hM.below BZ) (HL.out.below BZ)).mono ?_
  rintro e1 w1 ⟨rfl, hb1⟩
  rw [E1]
  have HO1 := Lib.hid (owns_below HOZ.out hb1)
  have B1 : Below w.heap.size w w1 := (by repeat' (first | (with_reducible exact Below.refl _ _) | (with_reducible assumption) | (with_reducible refine below_step (by assumption) ?_) | (with_reducible refine below_alloc ?_ _) | (with_reducible refine Below.drew ?_) | (with_reducible refine below_drewN ?_ _) | (with_reducible refine Below.setCell ?_ ?_ _) | go_size))
  go_wp2
  go_loopw [3, 13] (fun l i wr => ∃ (k g m cp : Nat), k ≤ n ∧ i = .int .i64 k ∧ l = .slice (some ⟨g, 0, none⟩) m cp ∧ Hid ((ofL (xs.take k)).length = m) ∧ wr.ownsRow w.heap.size 91 3 (.slice (some ⟨g, 0, none⟩) m cp) m ((ofL (xs.take k)).flatMap totalCells) ∧ Below w.heap.size w wr) (fun _ i _ => n - (intOf i).toNat)
  case atStart => exact ⟨0, w.heap.size, 0, 0, Nat.zero_le _, rfl, rfl, Lib.hid rfl, HO1.out, B1⟩
  case round =>
    obtain ⟨k, g, m, cp, hk, rfl, rfl, hlen, ho, hB⟩ := hrel
    have HO := Lib.hid ho
    have hm24 : m ≤ 24 := by have := hlen.out; have := (HOK.out k).2.1; omega
    have hcap : m ≤ cp := (owns_cap ho).2
    clear ho
    by_cases hlt : k < n
    · obtain ⟨⟨x0, x1, x2, x3⟩, hxk⟩ := get_lt HX.out hlt
      have HS := Lib.hid (hok.small _ (List.mem_of_getElem? hxk))
      have HN := Lib.hid (HEN.out _ (List.mem_of_getElem? hxk))
      have HSU := Lib.hid (show mergeT (ofL (xs.take k)) [totE (x0, x1, x2, x3)] = ofL (xs.take (k + 1)) by
        rw [ofL_succ hxk]
        exact (putT_merge (totE (x0, x1, x2, x3)) (HOK.out k).1).symm)
      have hnm : nameB x0 = true := (ent_parts HN.out).1
      obtain ⟨b, o, rfl, hb, hc⟩ := (HL.out.below hB).row (fun _ => rfl) (by omega)
      have c0 : wr.cell? ⟨b, o + k * 4, none⟩ = some (.string x0) := hc k _ hxk 0 _ rfl
      have c1 : wr.cell? ⟨b, o + k * 4 + 1, none⟩ = some (.int .i64 x1) := hc k _ hxk 1 _ rfl
      have c2 : wr.cell? ⟨b, o + k * 4 + 2, none⟩ = some (.string x2) := hc k _ hxk 2 _ rfl
      have c3 : wr.cell? ⟨b, o + k * 4 + 3, none⟩ = some (.int .i64 x3) := hc k _ hxk 3 _ rfl
      clear hxk hc
      have B2 : Below w.heap.size w (wr.alloc (.cells #[.string x0, .int .i64 x1, .string x2, .int .i64 x3] 54)) := below_alloc hB _
      have HO2 := Lib.hid (World.ownsRow.alloc HO.out (.cells #[.string x0, .int .i64 x1, .string x2, .int .i64 x3] 54))
      go_wp2_with fail
      refine (totalOf_any x0 x1 x2 x3 HS.out.1 hnm _ a (hS.below B2 (Nat.le_refl _)) (hM.below B2)).mono ?_
      rintro e3 w3 ⟨rfl, hb3⟩
      have B3 : Below w.heap.size w w3 := below_step hb3 B2
      have HO3 := Lib.hid (owns_below HO2.out hb3)
      have B4 : Below w.heap.size w (w3.alloc (.cells #[.string (catS x0), .int .i64 1, .int .i64 x3] 91)) := below_alloc B3 _
      have HO4 := Lib.hid (World.ownsRow.alloc HO3.out (.cells #[.string (catS x0), .int .i64 1, .int .i64 x3] 91))
      have HLT := Lib.hid (show Lies (w3.alloc (.cells #[.string (catS x0), .int .i64 1, .int .i64 x3] 91)) 3 (some ⟨w3.heap.size, 0, none⟩) 1 ([totE (x0, x1, x2, x3)].flatMap totalCells) from
        lies_one w3 #[.string (catS x0), .int .i64 1, .int .i64 x3] _ 3 rfl)
      go_wp2_with fail
      refine (totalsJoined_any g 0 m cp (ofL (xs.take k)) hm24 hlen.out hcap w3.heap.size 0 1 1 [totE (x0, x1, x2, x3)] (by omega) rfl (by omega) (ofOk_small (HOK.out k)) (fun y hy => by rw [List.mem_singleton.1 hy]; exact totE_small HN.out) _ (lies_of_own HO4.out) HLT.out).mono ?_
      rintro e4 w4 ⟨g3, m3, c3', rfl, hl3, ho3, hb4⟩
      rw [HSU.out] at hl3 ho3
      have HL3 := Lib.hid hl3
      have HO5 := Lib.hid (ownsRow_base ho3 B4.size)
      clear hl3 ho3
      go_wp2
      go_roundw
      case rel => exact ⟨k + 1, g3, m3, c3', by omega, by go_num, rfl, HL3, HO5.out, below_step hb4 B4⟩
      case measure => simp [intOf]; omega
    · have HFT := Lib.hid (show ofL (xs.take k) = ofL xs from ofL_take (by have := HX.out; omega))
      go_wp2
      go_ret
      exact ⟨g, m, cp, rfl, by rw [HE.out, ← HFT.out]; exact hlen.out, by rw [HE.out, ← HFT.out]; exact HO.out, hB⟩

theorem specOf_at (lo hi : Nat) (v : Value) (xs : List EnT) (hok : StOk xs) (w : World) (h : entrySAt w lo hi v xs) :
    Calls Tryd.prog 31 #[v] w fun e w' => ∃ u, e = .returned u ∧ totalSAt w' w.heap.size w'.heap.size u (ofT xs) ∧ Below w.heap.size w w' := by
  obtain ⟨g, m, c, rfl, hx, hb, _, _, ho⟩ := h.open
  exact (specOf_any _ _ _ xs hb hx hok w (lies_of_own ho)).mono fun _ _ ⟨_, _, _, he, hl, hw, hB⟩ => ⟨_, he, totalSAt.made hl (by have := ofT_ok xs; omega) hw, hB⟩
theorem implOf_at (lo hi : Nat) (v : Value) (xs : List EnT) (hok : StOk xs) (w : World) (a : Addr) (hS : Sent a w) (hM : MaxL w) (h : entrySAt w lo hi v xs) :
    Calls Tryd.prog 32 #[v] w fun e w' => ∃ u, e = .returned u ∧ totalSAt w' w.heap.size w'.heap.size u (ofT xs) ∧ Below w.heap.size w w' := by
  obtain ⟨g, m, c, rfl, hx, hb, _, _, ho⟩ := h.open
  exact (implOf_any _ _ _ xs hb hx hok w a hS hM (lies_of_own ho)).mono fun _ _ ⟨_, _, _, he, hl, hw, hB⟩ => ⟨_, he, totalSAt.made hl (by have := ofT_ok xs; omega) hw, hB⟩
end Go.Proofs.YtodhmcgjnijllaaDoor
