/-
  CutsLeft of the reference and of the program. No condition beyond what the rows list.
-/
import Derived.Test.YtodhmcgjnijllaaDoorCutLeftP
import Derived.Test.YtodhmcgjnijllaaDoorPieceI
import Derived.Test.YtodhmcgjnijllaaDoorKCut
namespace Go.Proofs.YtodhmcgjnijllaaDoor
open Go.ChangeShapes Go.WideShapes Go.ChangeAt Go.RowKit Go.Maps

theorem map_ne_row {w : World} {b g B m c : Nat} {xs : List EnT} {D : DataW Unit} {e : TypeId} {size : Nat} {cs : List Value} (h : Counts w b xs D) (ho : w.ownsRow B e size (.slice (some ⟨g, 0, none⟩) m c) m cs) : b ≠ g := by
  rintro rfl
  obtain ⟨es, clock, hb, _⟩ := h.owns
  rcases ho.2 with ⟨hv, _⟩ | ⟨g', c', cur, hv, _, hh, _⟩
  · cases hv
  · injection hv with h1
    injection h1 with h1
    injection h1 with h1
    subst h1
    rw [hb] at hh
    cases hh

set_option maxHeartbeats 6400000 in
theorem specCutLeft_any (A B : Option Addr) (n c m d : Nat) (xs : List EnT) (cs : List (ByteArray × Int)) (hn : n ≤ 1048576) (hx : xs.length = n) (hok : StOk xs) (hm : m ≤ 1048576) (hy : cs.length = m) (hkc : ∀ x ∈ cs, cutSOk x) (hnc : n ≤ c) (w : World) (hL : Lies w 4 A n (xs.flatMap entryCells)) (hC : Lies w 2 B m (cs.flatMap cutCells)) :
    Calls Tryd.prog 13 #[.slice A n c, .slice B m d] w fun e w' => ∃ g m c', e = .returned (.slice (some ⟨g, 0, none⟩) m c') ∧ (cutLeft xs cs).length = m ∧ w'.ownsRow w.heap.size 3 1 (.slice (some ⟨g, 0, none⟩) m c') m ((cutLeft xs cs).flatMap intCells) ∧ Below w.heap.size w w' := by
  have HX := Lib.hid hx
  have HL := Lib.hid hL
  have HY := Lib.hid hy
  have HC := Lib.hid hC
  have HK := Lib.hid hkc
  clear hx hL hy hC hkc
  have BZ : Below w.heap.size w (w.alloc (.cells #[] 3)) := below_alloc (Below.refl _ _) _
  have HOZ := Lib.hid (owns_nil w 3 1)
  cases E1 : storeB xs
  · have HE := Lib.hid (cutLeft_no (xs := xs) (cs := cs) (by rw [E1]; rfl))
    go_enter Tryd.func13, Tryd.ntmps13
    go_wp2_with fail
    refine (specStore_any A n c xs hn HX.out hok.small _ (HL.out.below BZ)).mono ?_
    rintro e1 w1 ⟨rfl, hb1⟩
    rw [E1]
    have HO1 := Lib.hid (owns_below HOZ.out hb1)
    go_wp2
    go_ret
    exact ⟨_, 0, 0, rfl, by rw [HE.out]; rfl, by rw [HE.out]; exact HO1.out, (by repeat' (first | (with_reducible exact Below.refl _ _) | (with_reducible assumption) | (with_reducible refine below_step (by assumption) ?_) | (with_reducible refine below_alloc ?_ _) | (with_reducible refine Below.drew ?_) | (with_reducible refine below_drewN ?_ _) | (with_reducible refine Below.setCell ?_ ?_ _) | go_size))⟩
  cases E2 : cutsB cs
  · have HE := Lib.hid (cutLeft_no (xs := xs) (cs := cs) (by rw [E1, E2]; rfl))
    go_enter Tryd.func13, Tryd.ntmps13
    go_wp2_with fail
    refine (specStore_any A n c xs hn HX.out hok.small _ (HL.out.below BZ)).mono ?_
    rintro e1 w1 ⟨rfl, hb1⟩
    rw [E1]
    have B1 : Below w.heap.size w w1 := below_step hb1 BZ
    have HO1 := Lib.hid (owns_below HOZ.out hb1)
    go_wp2_with fail
    refine (specCuts_any B m d cs hm HY.out HK.out _ (HC.out.below B1)).mono ?_
    rintro e2 w2 ⟨rfl, hb2⟩
    rw [E2]
    have HO2 := Lib.hid (owns_below HO1.out hb2)
    go_wp2
    go_ret
    exact ⟨_, 0, 0, rfl, by rw [HE.out]; rfl, by rw [HE.out]; exact HO2.out, (by repeat' (first | (with_reducible exact Below.refl _ _) | (with_reducible assumption) | (with_reducible refine below_step (by assumption) ?_) | (with_reducible refine below_alloc ?_ _) | (with_reducible refine Below.drew ?_) | (with_reducible refine below_drewN ?_ _) | (with_reducible refine Below.setCell ?_ ?_ _) | go_size))⟩
  have HE := Lib.hid (cutLeft_yes (xs := xs) (cs := cs) E1 E2)
  have hn24 : n ≤ 24 := by have := ((store_iff xs).1 E1).1; have := HX.out; omega
  go_enter Tryd.func13, Tryd.ntmps13
  go_wp2_with fail
  refine (specStore_any A n c xs hn HX.out hok.small _ (HL.out.below BZ)).mono ?_
  rintro e1 w1 ⟨rfl, hb1⟩
  rw [E1]
  have B1 : Below w.heap.size w w1 := below_step hb1 BZ
  have HO1 := Lib.hid (owns_below HOZ.out hb1)
  go_wp2_with fail
  refine (specCuts_any B m d cs hm HY.out HK.out _ (HC.out.below B1)).mono ?_
  rintro e2 w2 ⟨rfl, hb2⟩
  rw [E2]
  have HO2 := Lib.hid (owns_below HO1.out hb2)
  have B2 : Below w.heap.size w w2 := below_step hb2 B1
  go_wp2
  go_loopw [5, 6] (fun l i wr => ∃ (k g m' cp : Nat), k ≤ n ∧ i = .int .i64 k ∧ l = .slice (some ⟨g, 0, none⟩) m' cp ∧ Hid ((leftTo xs cs k).length = m') ∧ wr.ownsRow w.heap.size 3 1 (.slice (some ⟨g, 0, none⟩) m' cp) m' ((leftTo xs cs k).flatMap intCells) ∧ Below w.heap.size w wr) (fun _ i _ => n - (intOf i).toNat)
  case atStart => exact ⟨0, w.heap.size, 0, 0, Nat.zero_le _, rfl, rfl, Lib.hid rfl, HO2.out, B2⟩
  case round =>
    obtain ⟨k, g, m', cp, hk, rfl, rfl, hlen, ho, hB⟩ := hrel
    have HO := Lib.hid ho
    have hm24 : m' ≤ 24 := by have := hlen.out; have := leftTo_len xs cs k; omega
    clear ho
    by_cases hlt : k < n
    · obtain ⟨b, o, rfl, hb, hc⟩ := (HL.out.below hB).row (fun _ => rfl) (by omega)
      obtain ⟨⟨x0, x1, x2, x3⟩, hxk⟩ := get_lt HX.out hlt
      have c0 : wr.cell? ⟨b, o + k * 4, none⟩ = some (.string x0) := hc k _ hxk 0 _ rfl
      have HLK := Lib.hid (show Lies wr 4 (some ⟨b, o, none⟩) k ((xs.take k).flatMap entryCells) by
        have h := lies_piece (f := entryCells) (K := 4) (fun x => rfl) HX.out (HL.out.below hB) 0 k (by omega)
        simpa using h)
      have HCR := Lib.hid (HC.out.below hB)
      have hlk : (xs.take k).length = k := by rw [List.length_take]; have := HX.out; omega
      have HLK2 := Lib.hid hlk
      have HXK := Lib.hid hxk
      have hev : (evOf x0 (xs.take k)).length ≤ 24 := by have := evOf_length x0 (xs.take k); omega
      have BR := Below.refl wr.heap.size wr
      have i1 : (0 : Int) ≤ (k : Int) := by omega
      have i2 : (k : Int) ≤ (n : Int) := by omega
      have i3 : (k : Int) ≤ (c : Int) := by omega
      have i4 : k ≤ c := by omega
      clear hxk hc hlk
      go_wp2_with fail
      go_region_held3 (fun wx => wx.cell? ⟨b, o + k * 4, none⟩ = some (.string x0) ∧ Below wr.heap.size wr wx) ((go_split_ands; refine ⟨?_, ?_⟩ <;> first | assumption | (refine box_cell (by assumption) ?_; assumption) | (refine below_step (by assumption) ?_; assumption) | exact Below.drew (by assumption)))
        (first
          | (go_at_call 34; go_split_ands; refine (l4Events_any (some ⟨b, o, none⟩) k _ (xs.take k) x0 (by omega) HLK2.out _ (HLK.out.below (show Below wr.heap.size wr _ by assumption))).mono ?_; rintro e3 w3 ⟨g4, m4, c4, rfl, hm4, ho4, hb3⟩; have HM4 := Lib.hid hm4; clear hm4 ho4; have BW3 : Below wr.heap.size wr w3 := below_step hb3 (show Below wr.heap.size wr _ by assumption))
          | (go_at_call 44; refine (specFrom_any B m d cs x0 hm HY.out _ (HCR.out.below BW3)).mono ?_; rintro e4 w4 ⟨rfl, hb4⟩; have BW4 : Below wr.heap.size wr w4 := below_step hb4 BW3))
      have HO4 := Lib.hid (owns_below HO.out BW4)
      have B4 : Below w.heap.size w w4 := below_step BW4 hB
      have hz4 := B4.size
      by_cases hcut : fromI cs x0 ≤ ((evOf x0 (xs.take k)).length : Int)
      · have HS := Lib.hid (leftTo_yes HXK.out hcut)
        have E : decide (fromI cs x0 ≤ (m4 : Int)) = true := by rw [← HM4.out]; simpa using hcut
        have hle : fromI cs x0 ≤ (m4 : Int) := by simpa using E
        have hgl := (owns_lt HO4.out).1
        clear hcut
        go_wp2_with (at_builtin; refine wpList_app1 rfl _ _ 31 3 1 8 rowInt rfl w.heap.size g m' cp _ HO4.out rfl rfl rfl rfl (by unfold maxLen; omega) (by omega) hz4 ?_; intro g5 c5 w5 ho5 hg5 hz5; have HO5 := Lib.hid ho5; have HB5 := Lib.hid (below_grown B4 hg5 hgl hz4); clear ho5 hg5)
        go_roundw
        case rel => exact ⟨k + 1, g5, m' + 1, c5, by omega, by go_num, rfl, Lib.hid (by rw [HS.out, List.length_append, hlen.out]; rfl), by rw [HS.out, List.flatMap_append]; exact HO5.out, HB5.out⟩
        case measure => simp [intOf]; omega
      · have HS := Lib.hid (leftTo_no HXK.out hcut)
        have E : decide (fromI cs x0 ≤ (m4 : Int)) = false := by rw [← HM4.out]; simpa using hcut
        have hle : ¬ fromI cs x0 ≤ (m4 : Int) := by simpa using E
        clear hcut
        go_wp2
        go_roundw
        case rel => exact ⟨k + 1, g, m', cp, by omega, by go_num, rfl, by rw [HS.out]; exact hlen, by rw [HS.out]; exact HO4.out, B4⟩
        case measure => simp [intOf]; omega
    · have HKN := Lib.hid (show k = xs.length by have := HX.out; omega)
      go_wp2
      go_ret
      exact ⟨g, m', cp, rfl, by rw [HE.out, ← HKN.out]; exact hlen.out, by rw [HE.out, ← HKN.out]; exact HO.out, hB⟩

set_option maxRecDepth 8000 in
set_option maxHeartbeats 12800000 in
theorem implCutLeft_any (A B : Option Addr) (n c m d : Nat) (xs : List EnT) (cs : List (ByteArray × Int)) (hn : n ≤ 1048576) (hx : xs.length = n) (hok : StOk xs) (hm : m ≤ 1048576) (hy : cs.length = m) (hkc : ∀ x ∈ cs, cutSOk x) (w : World) (a : Addr) (hS : Sent a w) (hM : MaxL w) (hL : Lies w 4 A n (xs.flatMap entryCells)) (hC : Lies w 2 B m (cs.flatMap cutCells)) :
    Calls Tryd.prog 15 #[.slice A n c, .slice B m d] w fun e w' => ∃ g m c', e = .returned (.slice (some ⟨g, 0, none⟩) m c') ∧ (cutLeft xs cs).length = m ∧ w'.ownsRow w.heap.size 3 1 (.slice (some ⟨g, 0, none⟩) m c') m ((cutLeft xs cs).flatMap intCells) ∧ Below w.heap.size w w' := by
  have HX := Lib.hid hx
  have HL := Lib.hid hL
  have HY := Lib.hid hy
  have HC := Lib.hid hC
  have HK := Lib.hid hkc
  clear hx hL hy hC hkc
  have BZ : Below w.heap.size w (w.alloc (.cells #[] 3)) := below_alloc (Below.refl _ _) _
  have HOZ := Lib.hid (owns_nil w 3 1)
  have hmm := @run_makeMap Tryd.prog
  cases E1 : storeB xs
  · have HE := Lib.hid (cutLeft_no (xs := xs) (cs := cs) (by rw [E1]; rfl))
    go_enter Tryd.func15, Tryd.ntmps15
    go_wp2_with fail
    refine (implStore_any A n c xs hn HX.out hok.small hok.ints _ a (hS.below BZ (Nat.le_refl _)) (hM.below BZ) (HL.out.below BZ)).mono ?_
    rintro e1 w1 ⟨rfl, hb1⟩
    rw [E1]
    have HO1 := Lib.hid (owns_below HOZ.out hb1)
    go_wp2
    go_ret
    exact ⟨_, 0, 0, rfl, by rw [HE.out]; rfl, by rw [HE.out]; exact HO1.out, (by repeat' (first | (with_reducible exact Below.refl _ _) | (with_reducible assumption) | (with_reducible refine below_step (by assumption) ?_) | (with_reducible refine below_alloc ?_ _) | (with_reducible refine Below.drew ?_) | (with_reducible refine below_drewN ?_ _) | (with_reducible refine Below.setCell ?_ ?_ _) | go_size))⟩
  cases E2 : cutsB cs
  · have HE := Lib.hid (cutLeft_no (xs := xs) (cs := cs) (by rw [E1, E2]; rfl))
    go_enter Tryd.func15, Tryd.ntmps15
    go_wp2_with fail
    refine (implStore_any A n c xs hn HX.out hok.small hok.ints _ a (hS.below BZ (Nat.le_refl _)) (hM.below BZ) (HL.out.below BZ)).mono ?_
    rintro e1 w1 ⟨rfl, hb1⟩
    rw [E1]
    have B1 : Below w.heap.size w w1 := below_step hb1 BZ
    have HO1 := Lib.hid (owns_below HOZ.out hb1)
    go_wp2_with fail
    refine (implCuts_any B m d cs hm HY.out HK.out _ a (hS.below B1 (Nat.le_refl _)) (hM.below B1) (HC.out.below B1)).mono ?_
    rintro e2 w2 ⟨rfl, hb2⟩
    rw [E2]
    have HO2 := Lib.hid (owns_below HO1.out hb2)
    go_wp2
    go_ret
    exact ⟨_, 0, 0, rfl, by rw [HE.out]; rfl, by rw [HE.out]; exact HO2.out, (by repeat' (first | (with_reducible exact Below.refl _ _) | (with_reducible assumption) | (with_reducible refine below_step (by assumption) ?_) | (with_reducible refine below_alloc ?_ _) | (with_reducible refine Below.drew ?_) | (with_reducible refine below_drewN ?_ _) | (with_reducible refine Below.setCell ?_ ?_ _) | go_size))⟩
  have HE := Lib.hid (cutLeft_yes (xs := xs) (cs := cs) E1 E2)
  have hn24 : n ≤ 24 := by have := ((store_iff xs).1 E1).1; have := HX.out; omega
  go_enter Tryd.func15, Tryd.ntmps15
  go_wp2_with fail
  refine (implStore_any A n c xs hn HX.out hok.small hok.ints _ a (hS.below BZ (Nat.le_refl _)) (hM.below BZ) (HL.out.below BZ)).mono ?_
  rintro e1 w1 ⟨rfl, hb1⟩
  rw [E1]
  have B1 : Below w.heap.size w w1 := below_step hb1 BZ
  have HO1 := Lib.hid (owns_below HOZ.out hb1)
  go_wp2_with fail
  refine (implCuts_any B m d cs hm HY.out HK.out _ a (hS.below B1 (Nat.le_refl _)) (hM.below B1) (HC.out.below B1)).mono ?_
  rintro e2 w2 ⟨rfl, hb2⟩
  rw [E2]
  have HO2 := Lib.hid (owns_below HO1.out hb2)
  have B2 : Below w.heap.size w w2 := below_step hb2 B1
  have HO3 := Lib.hid (World.ownsRow.alloc HO2.out (.map #[] 0))
  have HCM := Lib.hid (Counts.made w2)
  have hz2 := B2.size
  go_wp2
  go_loopw [5, 22] (fun l i wr => ∃ (k g m' cp : Nat) (D : DataW Unit), k ≤ n ∧ i = .int .i64 k ∧ l = .slice (some ⟨g, 0, none⟩) m' cp ∧ Hid ((leftTo xs cs k).length = m') ∧ wr.ownsRow w.heap.size 3 1 (.slice (some ⟨g, 0, none⟩) m' cp) m' ((leftTo xs cs k).flatMap intCells) ∧ Hid (Counts wr w2.heap.size (xs.take k) D) ∧ Below w.heap.size w wr) (fun _ i _ => n - (intOf i).toNat)
  case atStart => exact ⟨0, w.heap.size, 0, 0, _, Nat.zero_le _, rfl, rfl, Lib.hid rfl, HO3.out, HCM, below_alloc B2 _⟩
  case round =>
    obtain ⟨k, g, m', cp, D, hk, rfl, rfl, hlen, ho, hCt, hB⟩ := hrel
    have HO := Lib.hid ho
    have hm24 : m' ≤ 24 := by have := hlen.out; have := leftTo_len xs cs k; omega
    clear ho
    by_cases hlt : k < n
    · obtain ⟨b, o, rfl, hb, hc⟩ := (HL.out.below hB).row (fun _ => rfl) (by omega)
      obtain ⟨⟨x0, x1, x2, x3⟩, hxk⟩ := get_lt HX.out hlt
      have c0 : wr.cell? ⟨b, o + k * 4, none⟩ = some (.string x0) := hc k _ hxk 0 _ rfl
      have c1 : wr.cell? ⟨b, o + k * 4 + 1, none⟩ = some (.int .i64 x1) := hc k _ hxk 1 _ rfl
      have c2 : wr.cell? ⟨b, o + k * 4 + 2, none⟩ = some (.string x2) := hc k _ hxk 2 _ rfl
      have c3 : wr.cell? ⟨b, o + k * 4 + 3, none⟩ = some (.int .i64 x3) := hc k _ hxk 3 _ rfl
      have HSZ : x0.size ≤ maxLen := hok.names _ (List.mem_of_getElem? hxk)
      have HXK := Lib.hid hxk
      clear hxk hc
      obtain ⟨wb, hwb⟩ : ∃ wb, wb = wr.alloc (.cells #[.string x0, .int .i64 x1, .string x2, .int .i64 x3] 54) := ⟨_, rfl⟩
      have HWB := Lib.hid hwb
      have BOB : Below wr.heap.size wr wb := by rw [hwb]; exact below_alloc (Below.refl _ _) _
      have HRB := Lib.hid (show RowIs wb wr.heap.size 54 [.string x0, .int .i64 x1, .string x2, .int .i64 x3] by rw [hwb]; exact RowIs.new _ _ _)
      clear hwb
      have b0 := HRB.out.cell (j := 0) rfl
      have HOB := Lib.hid (owns_below HO.out BOB)
      have HCN := Lib.hid (hCt.out.kept BOB)
      have BB : Below w.heap.size w wb := below_step BOB hB
      have HCC := Lib.hid (HC.out.below BB)
      obtain ⟨cn, hcn⟩ : ∃ cn, cn = (evOf x0 (xs.take k)).length := ⟨_, rfl⟩
      have hcn24 : cn ≤ 24 := by rw [hcn]; have := evOf_length x0 (xs.take k); have h2 := List.length_take_le k xs; omega
      have HCV := Lib.hid hcn
      have HLK : Hid (∀ (W : World), Below wb.heap.size wb W → (Instr.lookup 81 (.map (some w2.heap.size)) (.string x0) false).run Tryd.prog W = .ok (.int .i64 (cn : Int)) W) := Lib.hid (fun W h => by rw [HCV.out]; exact (HCN.out.kept h).look HSZ)
      have HLP := Lib.hid (show (xs.take k).length < maxLen by have := List.length_take_le k xs; unfold maxLen; omega)
      have BR := Below.refl wb.heap.size wb
      have hlr : wr.heap.size < wb.heap.size := HRB.out.lt
      have hgr : g < wr.heap.size := (owns_lt HO.out).2
      have hgw : w.heap.size ≤ g := (owns_lt HO.out).1
      have hmg := Lib.hid (map_ne_row hCt.out HO.out)
      clear hcn
      go_wp2_with fail
      rw [← HWB.out]
      go_region_held3 (fun wx => wx.cell? ⟨wr.heap.size, 0, none⟩ = some (.string x0) ∧ (Instr.lookup 81 (.map (some w2.heap.size)) (.string x0) false).run Tryd.prog wx = .ok (.int .i64 (cn : Int)) wx ∧ Below wb.heap.size wb wx) ((go_split_ands; refine ⟨?_, ?_, ?_⟩ <;> first | assumption | (refine box_cell (by assumption) ?_; assumption) | exact HLK.out _ (by assumption) | exact HLK.out _ (Below.drew (by assumption)) | (refine below_step (by assumption) ?_; assumption) | exact Below.drew (by assumption)))
        (first
          | (go_at_call 47; go_split_ands; refine (keptFrom_any B m d cs x0 hm HY.out _ (HCC.out.below (show Below wb.heap.size wb _ by assumption))).mono ?_; rintro e4 w4 ⟨rfl, hb4⟩; have BW4 : Below wb.heap.size wb w4 := below_step hb4 (show Below wb.heap.size wb _ by assumption)))
      all_goals
        have HO4 := Lib.hid (owns_below HOB.out BW4)
        have B4 : Below w.heap.size w w4 := below_step BW4 BB
        have hz4 := B4.size
        have hz4b := BW4.size
        have HR4 := Lib.hid (HRB.out.below BW4)
        have HC4 := Lib.hid (HCN.out.kept BW4)
        by_cases hcut : fromI cs x0 ≤ (cn : Int)
        · have HSS := Lib.hid (leftTo_yes (cs := cs) HXK.out (show fromI cs x0 ≤ ((evOf x0 (xs.take k)).length : Int) by rw [← HCV.out]; exact hcut))
          have E : decide (fromI cs x0 ≤ (cn : Int)) = true := by simpa using hcut
          go_wp2_with (at_builtin; refine wpList_app1 rfl _ _ 31 3 1 8 rowInt rfl w.heap.size g m' cp _ HO4.out rfl rfl rfl rfl (by unfold maxLen; omega) (by omega) hz4 ?_; intro g5 c5 w5 ho5 hg5 hz5; have HO5 := Lib.hid ho5; have HB5 := Lib.hid (below_grown B4 hg5 hgw hz4); have HR5 := Lib.hid (HR4.out.grown hg5 (fun e => by injection e; omega)); have HC5 := Lib.hid (HC4.out.grown hg5 hmg.out); have r5 := HR5.out.cell (j := 0) rfl; have l5 := HC5.out.look HSZ; rw [← HCV.out] at l5; obtain ⟨w6, D6, hup, hC6, hg6⟩ := HC5.out.put (x0, x1, x2, x3) HSZ HLP.out; have HC6 := Lib.hid hC6; have HG6 := Lib.hid hg6; have HNE := Lib.hid (map_ne_row HC5.out HO5.out); simp only at hup; rw [← HCV.out] at hup; clear ho5 hg5 hC6 hg6)
          go_roundw
          case rel =>
            have hz5 := HB5.out.size
            have hB6 : Below w.heap.size w5 w6 := ⟨HG6.out.os, HG6.out.tape, HG6.out.output, HG6.out.size, fun i hi => HG6.out.block i (by omega) (fun e => by injection e; omega)⟩
            exact ⟨k + 1, g5, m' + 1, c5, D6, by omega, by go_num, rfl, Lib.hid (by rw [HSS.out, List.length_append, hlen.out]; rfl), by rw [HSS.out, List.flatMap_append]; exact owns_grown HO5.out HG6.out (by simpa using HNE.out), by rw [take_succ_of HXK.out]; exact HC6, HB5.out.trans hB6⟩
          case measure => simp [intOf]; omega
        · have HSS := Lib.hid (leftTo_no (cs := cs) HXK.out (show ¬ fromI cs x0 ≤ ((evOf x0 (xs.take k)).length : Int) by rw [← HCV.out]; exact hcut))
          have E : decide (fromI cs x0 ≤ (cn : Int)) = false := by simpa using hcut
          have r5 := HR4.out.cell (j := 0) rfl
          have l5 := HC4.out.look HSZ
          rw [← HCV.out] at l5
          obtain ⟨w6, D6, hup, hC6, hg6⟩ := HC4.out.put (x0, x1, x2, x3) HSZ HLP.out
          have HC6 := Lib.hid hC6
          have HG6 := Lib.hid hg6
          have HNE := Lib.hid (map_ne_row HC4.out HO4.out)
          simp only at hup
          rw [← HCV.out] at hup
          clear hC6 hg6
          go_wp2
          go_roundw
          case rel =>
            have hB6 : Below w.heap.size w4 w6 := ⟨HG6.out.os, HG6.out.tape, HG6.out.output, HG6.out.size, fun i hi => HG6.out.block i (by omega) (fun e => by injection e; omega)⟩
            exact ⟨k + 1, g, m', cp, D6, by omega, by go_num, rfl, by rw [HSS.out]; exact hlen, by rw [HSS.out]; exact owns_grown HO4.out HG6.out (by simpa using HNE.out), by rw [take_succ_of HXK.out]; exact HC6, B4.trans hB6⟩
          case measure => simp [intOf]; omega
    · have HKN := Lib.hid (show k = xs.length by have := HX.out; omega)
      go_wp2
      go_ret
      exact ⟨g, m', cp, rfl, by rw [HE.out, ← HKN.out]; exact hlen.out, by rw [HE.out, ← HKN.out]; exact HO.out, hB⟩

theorem specCutLeft_at (lo hi : Nat) (v : Value) (lo' hi' : Nat) (v' : Value) (xs : List EnT) (cs : List (ByteArray × Int)) (hok : StOk xs) (hkc : ∀ x ∈ cs, cutSOk x) (w : World) (h : entrySAt w lo hi v xs) (h' : cutSAt w lo' hi' v' cs) :
    Calls Tryd.prog 13 #[v, v'] w fun e w' => ∃ u, e = .returned u ∧ intSAt w' w.heap.size w'.heap.size u (cutLeft xs cs) ∧ Below w.heap.size w w' := by
  obtain ⟨g, m, c, rfl, hx, hb, _, _, ho⟩ := h.open
  obtain ⟨g', m', c', rfl, hx', hb', _, _, ho'⟩ := h'.open
  exact (specCutLeft_any _ _ _ _ _ _ xs cs hb hx hok hb' hx' hkc (owns_cap ho).2 w (lies_of_own ho) (lies_of_own ho')).mono fun _ _ ⟨_, _, _, he, hl, ho', hb'⟩ => ⟨_, he, intSAt.made hl (by have := cutLeft_len xs cs; omega) ho', hb'⟩
theorem implCutLeft_at (lo hi : Nat) (v : Value) (lo' hi' : Nat) (v' : Value) (xs : List EnT) (cs : List (ByteArray × Int)) (hok : StOk xs) (hkc : ∀ x ∈ cs, cutSOk x) (w : World) (a : Addr) (hS : Sent a w) (hM : MaxL w) (h : entrySAt w lo hi v xs) (h' : cutSAt w lo' hi' v' cs) :
    Calls Tryd.prog 15 #[v, v'] w fun e w' => ∃ u, e = .returned u ∧ intSAt w' w.heap.size w'.heap.size u (cutLeft xs cs) ∧ Below w.heap.size w w' := by
  obtain ⟨g, m, c, rfl, hx, hb, _, _, ho⟩ := h.open
  obtain ⟨g', m', c', rfl, hx', hb', _, _, ho'⟩ := h'.open
  exact (implCutLeft_any _ _ _ _ _ _ xs cs hb hx hok hb' hx' hkc w a hS hM (lies_of_own ho) (lies_of_own ho')).mono fun _ _ ⟨_, _, _, he, hl, ho', hb'⟩ => ⟨_, he, intSAt.made hl (by have := cutLeft_len xs cs; omega) ho', hb'⟩
end Go.Proofs.YtodhmcgjnijllaaDoor
