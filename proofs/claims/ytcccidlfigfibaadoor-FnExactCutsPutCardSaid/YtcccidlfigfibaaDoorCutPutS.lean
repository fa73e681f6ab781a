/-
  CutsPut of the reference. No condition.
-/
import Derived.Test.YtcccidlfigfibaaDoorCutPutP
import Derived.Test.YtcccidlfigfibaaDoorCutsS
import Derived.Test.YtcccidlfigfibaaDoorKCut
namespace Go.Proofs.YtcccidlfigfibaaDoor
open Go.ChangeShapes Go.WideShapes Go.ChangeAt Go.RowKit

theorem cutPut_no {xs : List (ByteArray × Int)} {s : ByteArray} {m : Int} (h : cutPutB xs s m = false) : cutPutL xs s m = [] := by unfold cutPutL; rw [h]; rfl
theorem cutPut_yes {xs : List (ByteArray × Int)} {s : ByteArray} {m : Int} (h : cutPutB xs s m = true) : cutPutL xs s m = cutPut xs s m := by unfold cutPutL; rw [h]; rfl
theorem lies_single (w : World) (cs : Array Value) (t : TypeId) (size : Nat) (h : cs.size = size) : Lies (w.alloc (.cells cs t)) size (some ⟨w.heap.size, 0, none⟩) 1 cs.toList := by
  refine ⟨by simp [h], fun _ => ⟨w.heap.size, 0, rfl, by simp, fun j u hj => ?_⟩⟩
  rw [Nat.zero_add, cell_of_row _ _ j cs t (0, 0) (heap_alloc_new _ _)]
  simpa using hj
theorem cutsOne (s : ByteArray) (m : Int) : cutsB [(s, m)] = cutB (s, m) := by unfold cutsB cutsFrom; simp [sortedBy, ltO]
theorem insL_mem {α : Type} (ge eq : α → Bool) (x z : α) : ∀ {ys : List α}, z ∈ insL ge eq x ys → z = x ∨ z ∈ ys
  | [], h => by simp [insL] at h; exact .inl h
  | y :: ys, h => by
    rw [insL] at h
    split at h
    · rcases List.mem_cons.1 h with h | h
      · exact .inl h
      · split at h
        · exact .inr (List.mem_cons_of_mem _ h)
        · exact .inr h
    · rcases List.mem_cons.1 h with h | h
      · exact .inr (h ▸ List.mem_cons_self)
      · rcases insL_mem ge eq x z h with h | h
        · exact .inl h
        · exact .inr (List.mem_cons_of_mem _ h)
theorem cutPut_ok {xs : List (ByteArray × Int)} {s : ByteArray} {m : Int} (hx : ∀ x ∈ xs, cutSOk x) (hs : s.size ≤ 1048576) (hc : cutsB xs = true) (hb : cutB (s, m) = true) : ∀ x ∈ cutPut xs s m, cutSOk x := by
  intro z hz
  unfold cutPut at hz
  rcases insL_mem _ _ _ _ hz with rfl | h
  · have hv := from_small xs none s (by unfold cutsB at hc; rw [Bool.and_eq_true] at hc; exact hc.2)
    have hm1 : inB m 1 24 = true := by unfold cutB at hb; rw [Bool.and_eq_true] at hb; exact hb.2
    obtain ⟨m1, m2⟩ := inB_iff.1 hm1
    refine ⟨?_, hs⟩
    show IntOk (max m (fromI xs s))
    unfold IntOk
    omega
  · exact hx z h

set_option maxHeartbeats 25600000 in
theorem specPut_any (A : Option Addr) (n c : Nat) (xs : List (ByteArray × Int)) (s : ByteArray) (m : Int) (hn : n ≤ 1048576) (hx : xs.length = n) (hok : ∀ x ∈ xs, cutSOk x) (hs : s.size ≤ 1048576) (hmi : IntOk m) (w : World) (hL : Lies w 2 A n (xs.flatMap cutCells)) :
    Calls Tryd.prog 26 #[.slice A n c, .agg #[.string s, .int .i64 m]] w fun e w' => ∃ g k cap, e = .returned (.tuple #[.slice (some ⟨g, 0, none⟩) k cap, .bool (cutPutB xs s m)]) ∧ (cutPutL xs s m).length = k ∧ w'.ownsRow w.heap.size 57 2 (.slice (some ⟨g, 0, none⟩) k cap) k ((cutPutL xs s m).flatMap cutCells) ∧ Below w.heap.size w w' := by
  have HX := Lib.hid hx
  have HL := Lib.hid hL
  clear hx hL
  have B0 : Below w.heap.size w (w.alloc (.cells #[.string s, .int .i64 m] 57)) := below_alloc (Below.refl _ _) _
  have hO1 : ∀ x ∈ [(s, m)], cutSOk x := fun x hx => by
    rw [List.mem_singleton] at hx
    subst hx
    exact ⟨hmi, hs⟩
  cases E1 : cutsB xs
  · have hE0 : cutPutB xs s m = false := by unfold cutPutB; rw [E1]; rfl
    have HE := Lib.hid (cutPut_no hE0)
    have HB := Lib.hid hE0
    clear hE0
    go_enter Tryd.func26, Tryd.ntmps26
    go_wp2_with fail
    refine (specCuts_any A n c xs hn HX.out hok _ (HL.out.below B0)).mono ?_
    rintro e1 w1 ⟨rfl, hb1⟩
    rw [E1]
    have hB1 := below_step hb1 B0
    go_wp2
    go_ret2
    exact ⟨_, 0, 0, by rw [HB.out]; rfl, by rw [HE.out]; rfl, by rw [HE.out]; exact owns_nil' _ _ rfl hB1.size, below_alloc hB1 _⟩
  cases E2 : cutB (s, m)
  · have hE0 : cutPutB xs s m = false := by unfold cutPutB; rw [E1, E2]; rfl
    have HE := Lib.hid (cutPut_no hE0)
    have HB := Lib.hid hE0
    clear hE0
    go_enter Tryd.func26, Tryd.ntmps26
    go_wp2_with fail
    refine (specCuts_any A n c xs hn HX.out hok _ (HL.out.below B0)).mono ?_
    rintro e1 w1 ⟨rfl, hb1⟩
    rw [E1]
    have hB1 := below_step hb1 B0
    have y0 := box_cell hb1 (b := w.heap.size) (o := 0) (u := .string s) (by go_cell)
    have y1 := box_cell hb1 (b := w.heap.size) (o := 1) (u := .int .i64 m) (by go_cell)
    go_wp2_with fail
    refine (specCuts_any (some ⟨w1.heap.size, 0, none⟩) 1 1 [(s, m)] (by omega) rfl hO1 _ (lies_single w1 #[.string s, .int .i64 m] _ 2 rfl)).mono ?_
    rintro e1 w2 ⟨rfl, hb2⟩
    rw [cutsOne, E2]
    have hB2 := below_step hb2 (below_alloc hB1 _)
    go_wp2
    go_ret2
    exact ⟨_, 0, 0, by rw [HB.out]; rfl, by rw [HE.out]; rfl, by rw [HE.out]; exact owns_nil' _ _ rfl hB2.size, below_alloc hB2 _⟩
  have HP : Hid (insEnd (s, max m (fromI xs s)) (insRun (cutGe s) (cutEq s) (s, max m (fromI xs s)) (false, []) xs) = cutPut xs s m) := Lib.hid (by
    have h := insRun_end (cutGe s) (cutEq s) (s, max m (fromI xs s)) xs [] (cuts_insOk s (p := none) (by unfold cutsB at E1; rw [Bool.and_eq_true] at E1; exact E1.2))
    rw [h]; rfl)
  have HOK := Lib.hid (cutPut_ok hok hs E1 E2)
  have hfs := from_small xs none s (by unfold cutsB at E1; rw [Bool.and_eq_true] at E1; exact E1.2)
  have hmb : 1 ≤ m ∧ m ≤ 24 := by
    unfold cutB at E2; rw [Bool.and_eq_true] at E2
    exact inB_iff.1 E2.2
  have hn12 : n ≤ 12 := by
    have h := E1
    unfold cutsB at h; rw [Bool.and_eq_true] at h
    have := of_decide_eq_true h.1
    have := HX.out
    omega
  obtain ⟨F, hF⟩ : ∃ F, fromI xs s = F := ⟨_, rfl⟩
  rw [hF] at hfs HP
  have HF := Lib.hid hF
  clear hF
  go_enter Tryd.func26, Tryd.ntmps26
  go_wp2_with fail
  refine (specCuts_any A n c xs hn HX.out hok _ (HL.out.below B0)).mono ?_
  rintro e1 w1 ⟨rfl, hb1⟩
  rw [E1]
  have hB1 := below_step hb1 B0
  have y0 := box_cell hb1 (b := w.heap.size) (o := 0) (u := .string s) (by go_cell)
  have y1 := box_cell hb1 (b := w.heap.size) (o := 1) (u := .int .i64 m) (by go_cell)
  go_wp2_with fail
  refine (specCuts_any (some ⟨w1.heap.size, 0, none⟩) 1 1 [(s, m)] (by omega) rfl hO1 _ (lies_single w1 #[.string s, .int .i64 m] _ 2 rfl)).mono ?_
  rintro e1 w2 ⟨rfl, hb2⟩
  rw [cutsOne, E2]
  have hB2 := below_step hb2 (below_alloc hB1 _)
  have R2 : RowIs w2 w.heap.size 57 [.string s, .int .i64 m] := (((RowIs.new w #[.string s, .int .i64 m] 57).below hb1).alloc _).below hb2
  have z0 := R2.cell (j := 0) rfl
  have z1 := R2.cell (j := 1) rfl
  have g0 := R2.frozen 0
  have g1 := R2.frozen 1
  have hlt2 := R2.lt
  go_wp2_with fail
  go_region_with (go_at_call 56; refine (specFrom_any A n c xs s hn HX.out _ (HL.out.below (Below.drew hB2))).mono ?_; rintro e1 w3 ⟨rfl, hb3⟩; rw [HF.out]; have R3 := (RowIs.drew R2).below hb3; have hB3 := below_step hb3 (Below.drew hB2); have v0 := R3.cell (j := 0) rfl; have v1 := R3.cell (j := 1) rfl; have k0 := R3.frozen 0; have k1 := R3.frozen 1)
  all_goals
    have R4 := R3.set 1 (.int .i64 (max m F))
    have hB4 := hB3.setCell (p := ⟨w.heap.size, 1, none⟩) (Nat.le_refl _) (.int .i64 (max m F))
    obtain ⟨w4, hw4⟩ : ∃ w4, w3.setCell ⟨w.heap.size, 1, none⟩ (.int .i64 (max m F)) = w4 := ⟨_, rfl⟩
    rw [hw4] at R4 hB4 ⊢
    obtain ⟨M, hM⟩ : ∃ M, max m F = M := ⟨_, rfl⟩
    rw [hM] at HP R4 ⊢
    have R5 : RowIs w4 w.heap.size 57 [.string s, .int .i64 M] := R4
    clear hw4 R2 R3 R4 z0 z1 g0 g1 v0 v1 k0 k1 y0 y1 hb1 hb2 hb3 hB1 hB2 hB3 hlt2
    go_wp2
    go_loopw [6, 7, 8] (fun l d i wr => ∃ (k g k2 cp : Nat) (D : Bool) (out : List (ByteArray × Int)), k ≤ n ∧ i = .int .i64 k ∧ d = .bool D ∧ l = .slice (some ⟨g, 0, none⟩) k2 cp ∧ k2 ≤ k + 1 ∧ Hid (insRun (cutGe s) (cutEq s) (s, M) (false, []) (xs.take k) = (D, out)) ∧ Hid (out.length = k2) ∧ Hid (D = false → k2 ≤ k) ∧ RowIs wr w.heap.size 57 [.string s, .int .i64 M] ∧ wr.ownsRow (w.heap.size + 1) 57 2 (.slice (some ⟨g, 0, none⟩) k2 cp) k2 (out.flatMap cutCells) ∧ Below w.heap.size w wr) (fun _ _ i _ => n - (intOf i).toNat)
    case atStart => exact ⟨0, w4.heap.size, 0, 0, false, [], by omega, rfl, rfl, rfl, by omega, Lib.hid rfl, Lib.hid rfl, Lib.hid (by omega), R5.alloc _, owns_nil' _ _ rfl R5.lt, below_alloc hB4 _⟩
    case round =>
      obtain ⟨k, g1, k2, cc, D, out, hk, rfl, rfl, rfl, hm2, hI, hl, hD, hR, ho, hB⟩ := hrel
      have HO := Lib.hid ho
      have HR := Lib.hid hR
      have hB1 : w.heap.size + 1 ≤ wr.heap.size := hR.lt
      have x0 := hR.cell (j := 0) rfl
      have x1 := hR.cell (j := 1) rfl
      have hgl := (owns_lt HO.out).1
      clear ho hR R5
      by_cases hlt : k < n
      · obtain ⟨b, o1, rfl, hbk, hc⟩ := HL.out.row (fun _ => rfl) (by omega)
        obtain ⟨⟨y0, y1⟩, hyk⟩ := get_lt HX.out hlt
        have C0 : w.cell? ⟨b, o1 + k * 2, none⟩ = some (.string y0) := hc k _ hyk 0 _ rfl
        have C1 : w.cell? ⟨b, o1 + k * 2 + 1, none⟩ = some (.int .i64 y1) := hc k _ hyk 1 _ rfl
        have c0 := box_cell hB C0
        have c1 := box_cell hB C1
        have HS := Lib.hid ((insRun_succ (cutGe s) (cutEq s) (s, M) hyk (false, [])).trans (by rw [hI.out]))
        clear hc hyk
        rcases (show ltS y0 s = true ∨ (ltS y0 s = false ∧ y0 = s) ∨ (ltS y0 s = false ∧ y0 ≠ s) by by_cases h : y0 = s <;> cases ltS y0 s <;> simp [h]) with hlt1 | ⟨hlt1, he⟩ | ⟨hlt1, he⟩
        · have he : ¬ y0 = s := ltS_ne hlt1
          have hlt2' : ltS s y0 = false := ltS_asymm hlt1
          have hge : cutGe s (y0, y1) = false := by unfold cutGe; simp [hlt1]
          have heq : cutEq s (y0, y1) = false := by unfold cutEq; simp [he]
          cases D
          · skip
            have HS2 : Hid (insRun (cutGe s) (cutEq s) (s, M) (false, []) (xs.take (k + 1)) = (false, out ++ [(y0, y1)])) := Lib.hid (HS.out.trans (by unfold insStep; simp [hge, heq]))
            have hDm := hD.out rfl
            have G1 : Op.bytesLess y0.toList s.toList = true := hlt1
            have G3 : Op.bytesLess s.toList y0.toList = false := hlt2'
            have G4 : (y0.toList == s.toList) = false := str_ne he
            have G5 : (s.toList == y0.toList) = false := str_ne (fun e => he e.symm)
            have G6 : (y0.toList != s.toList) = true := by unfold bne; rw [G4]; rfl
            have G7 : (Op.bytesLess s.toList y0.toList || s.toList == y0.toList) = false := by rw [G3, G5]; rfl
            have G8 : (Op.bytesLess s.toList y0.toList || y0.toList == s.toList) = false := by rw [G3, G4]; rfl
            clear HS hI hge heq hD he hlt1 hlt2'
            have RA_c0 := After.cell c0
            have RA_c1 := After.cell c1
            have RA_x0 := After.cell x0
            have RA_x1 := After.cell x1
            go_wp2_with fail
            refine wp_region_after (by kernel_rfl) (by kernel_rfl) ?_
            repeat (go_big_quiet_step ((fail)))
            refine wpQuiet_nil ?_
            intro wn hw'
            have hwn := after_below hw'
            clear hw'
            have c0 := box_cell hwn c0
            have c1 := box_cell hwn c1
            have x0 := box_cell hwn x0
            have x1 := box_cell hwn x1
            replace HO := Lib.hid (owns_below HO.out hwn)
            replace HR := Lib.hid (HR.out.below hwn)
            have hB := below_step hwn hB
            have hB1 := Nat.le_trans hB1 hwn.size
            clear RA_c0
            clear RA_c1
            clear RA_x0
            clear RA_x1
            have RA_c0 := After.cell c0
            have RA_c1 := After.cell c1
            have RA_x0 := After.cell x0
            have RA_x1 := After.cell x1
            go_wp2_with fail
            refine wp_region_after (by kernel_rfl) (by kernel_rfl) ?_
            repeat (go_big_quiet_step ((fail)))
            refine wpQuiet_nil ?_
            intro wn hw'
            have hwn := after_below hw'
            clear hw'
            have c0 := box_cell hwn c0
            have c1 := box_cell hwn c1
            have x0 := box_cell hwn x0
            have x1 := box_cell hwn x1
            replace HO := Lib.hid (owns_below HO.out hwn)
            replace HR := Lib.hid (HR.out.below hwn)
            have hB := below_step hwn hB
            have hB1 := Nat.le_trans hB1 hwn.size
            clear RA_c0
            clear RA_c1
            clear RA_x0
            clear RA_x1
            go_wp2_with (at_builtin; refine wpList_app1 rfl _ _ 53 57 2 24 rowCut rfl (w.heap.size + 1) _ _ _ _ HO.out rfl rfl rfl rfl (by unfold maxLen; omega) (by omega) hB1 ?_; intro g3 c3 w1' ho1 hg1 hz1)
            have hB := below_grown hB hg1 (by omega) hB.size
            have hB1 := Nat.le_trans hB1 hg1.size
            replace HR := Lib.hid (HR.out.grown hg1 (by simp; omega))
            have HO := Lib.hid ho1
            have hgl := (owns_lt HO.out).1
            clear ho1 hg1
            have c0 := box_cell hB C0
            have c1 := box_cell hB C1
            have x0 := HR.out.cell (j := 0) rfl
            have x1 := HR.out.cell (j := 1) rfl
            go_wp2
            go_roundw
            case rel => exact ⟨k + 1, _, k2 + 1, _, false, out ++ [(y0, y1)], by omega, by go_num, rfl, rfl, by omega, HS2, Lib.hid (by have := hl.out; simp; omega), Lib.hid (fun _ => by omega), HR.out, by simpa [cutCells] using HO.out, hB⟩
            case measure => simp [intOf]; omega
          · skip
            have HS2 : Hid (insRun (cutGe s) (cutEq s) (s, M) (false, []) (xs.take (k + 1)) = (true, out ++ [(y0, y1)])) := Lib.hid (HS.out.trans (by unfold insStep; simp [hge, heq]))
            have G1 : Op.bytesLess y0.toList s.toList = true := hlt1
            have G3 : Op.bytesLess s.toList y0.toList = false := hlt2'
            have G4 : (y0.toList == s.toList) = false := str_ne he
            have G5 : (s.toList == y0.toList) = false := str_ne (fun e => he e.symm)
            have G6 : (y0.toList != s.toList) = true := by unfold bne; rw [G4]; rfl
            have G7 : (Op.bytesLess s.toList y0.toList || s.toList == y0.toList) = false := by rw [G3, G5]; rfl
            have G8 : (Op.bytesLess s.toList y0.toList || y0.toList == s.toList) = false := by rw [G3, G4]; rfl
            clear HS hI hge heq hD he hlt1 hlt2'
            have RA_c0 := After.cell c0
            have RA_c1 := After.cell c1
            have RA_x0 := After.cell x0
            have RA_x1 := After.cell x1
            go_wp2_with fail
            refine wp_region_after (by kernel_rfl) (by kernel_rfl) ?_
            repeat (go_big_quiet_step ((fail)))
            refine wpQuiet_nil ?_
            intro wn hw'
            have hwn := after_below hw'
            clear hw'
            have c0 := box_cell hwn c0
            have c1 := box_cell hwn c1
            have x0 := box_cell hwn x0
            have x1 := box_cell hwn x1
            replace HO := Lib.hid (owns_below HO.out hwn)
            replace HR := Lib.hid (HR.out.below hwn)
            have hB := below_step hwn hB
            have hB1 := Nat.le_trans hB1 hwn.size
            clear RA_c0
            clear RA_c1
            clear RA_x0
            clear RA_x1
            have RA_c0 := After.cell c0
            have RA_c1 := After.cell c1
            have RA_x0 := After.cell x0
            have RA_x1 := After.cell x1
            go_wp2_with fail
            refine wp_region_after (by kernel_rfl) (by kernel_rfl) ?_
            repeat (go_big_quiet_step ((fail)))
            refine wpQuiet_nil ?_
            intro wn hw'
            have hwn := after_below hw'
            clear hw'
            have c0 := box_cell hwn c0
            have c1 := box_cell hwn c1
            have x0 := box_cell hwn x0
            have x1 := box_cell hwn x1
            replace HO := Lib.hid (owns_below HO.out hwn)
            replace HR := Lib.hid (HR.out.below hwn)
            have hB := below_step hwn hB
            have hB1 := Nat.le_trans hB1 hwn.size
            clear RA_c0
            clear RA_c1
            clear RA_x0
            clear RA_x1
            go_wp2_with (at_builtin; refine wpList_app1 rfl _ _ 53 57 2 24 rowCut rfl (w.heap.size + 1) _ _ _ _ HO.out rfl rfl rfl rfl (by unfold maxLen; omega) (by omega) hB1 ?_; intro g3 c3 w1' ho1 hg1 hz1)
            have hB := below_grown hB hg1 (by omega) hB.size
            have hB1 := Nat.le_trans hB1 hg1.size
            replace HR := Lib.hid (HR.out.grown hg1 (by simp; omega))
            have HO := Lib.hid ho1
            have hgl := (owns_lt HO.out).1
            clear ho1 hg1
            have c0 := box_cell hB C0
            have c1 := box_cell hB C1
            have x0 := HR.out.cell (j := 0) rfl
            have x1 := HR.out.cell (j := 1) rfl
            go_wp2
            go_roundw
            case rel => exact ⟨k + 1, _, k2 + 1, _, true, out ++ [(y0, y1)], by omega, by go_num, rfl, rfl, by omega, HS2, Lib.hid (by have := hl.out; simp; omega), Lib.hid (fun h => by cases h), HR.out, by simpa [cutCells] using HO.out, hB⟩
            case measure => simp [intOf]; omega
        · have hlt2' : ltS s y0 = false := by rw [he]; exact ltS_irrefl _
          have hge : cutGe s (y0, y1) = true := by unfold cutGe; simp [hlt1]
          have heq : cutEq s (y0, y1) = true := by unfold cutEq; simp [he]
          cases D
          · skip
            have HS2 : Hid (insRun (cutGe s) (cutEq s) (s, M) (false, []) (xs.take (k + 1)) = (true, out ++ [(s, M)])) := Lib.hid (HS.out.trans (by unfold insStep; simp [hge, heq]))
            have hDm := hD.out rfl
            have G1 : Op.bytesLess y0.toList s.toList = false := hlt1
            have G3 : Op.bytesLess s.toList y0.toList = false := hlt2'
            have G4 : (y0.toList == s.toList) = true := by simp [he]
            have G5 : (s.toList == y0.toList) = true := by simp [he]
            have G6 : (y0.toList != s.toList) = false := by unfold bne; rw [G4]; rfl
            have G7 : (Op.bytesLess s.toList y0.toList || s.toList == y0.toList) = true := by rw [G3, G5]; rfl
            have G8 : (Op.bytesLess s.toList y0.toList || y0.toList == s.toList) = true := by rw [G3, G4]; rfl
            clear HS hI hge heq hD he hlt1 hlt2'
            have RA_c0 := After.cell c0
            have RA_c1 := After.cell c1
            have RA_x0 := After.cell x0
            have RA_x1 := After.cell x1
            go_wp2_with fail
            refine wp_region_after (by kernel_rfl) (by kernel_rfl) ?_
            repeat (go_big_quiet_step ((fail)))
            refine wpQuiet_nil ?_
            intro wn hw'
            have hwn := after_below hw'
            clear hw'
            have c0 := box_cell hwn c0
            have c1 := box_cell hwn c1
            have x0 := box_cell hwn x0
            have x1 := box_cell hwn x1
            replace HO := Lib.hid (owns_below HO.out hwn)
            replace HR := Lib.hid (HR.out.below hwn)
            have hB := below_step hwn hB
            have hB1 := Nat.le_trans hB1 hwn.size
            clear RA_c0
            clear RA_c1
            clear RA_x0
            clear RA_x1
            go_wp2_with (at_builtin; refine wpList_app1 rfl _ _ 53 57 2 24 rowCut rfl (w.heap.size + 1) _ _ _ _ HO.out rfl rfl rfl rfl (by unfold maxLen; omega) (by omega) hB1 ?_; intro g2 c2 w1' ho1 hg1 hz1)
            have hB := below_grown hB hg1 (by omega) hB.size
            have hB1 := Nat.le_trans hB1 hg1.size
            replace HR := Lib.hid (HR.out.grown hg1 (by simp; omega))
            have HO := Lib.hid ho1
            have hgl := (owns_lt HO.out).1
            clear ho1 hg1
            have c0 := box_cell hB C0
            have c1 := box_cell hB C1
            have x0 := HR.out.cell (j := 0) rfl
            have x1 := HR.out.cell (j := 1) rfl
            have RA_c0 := After.cell c0
            have RA_c1 := After.cell c1
            have RA_x0 := After.cell x0
            have RA_x1 := After.cell x1
            go_wp2_with fail
            refine wp_region_after (by kernel_rfl) (by kernel_rfl) ?_
            repeat (go_big_quiet_step ((fail)))
            refine wpQuiet_nil ?_
            intro wn hw'
            have hwn := after_below hw'
            clear hw'
            have c0 := box_cell hwn c0
            have c1 := box_cell hwn c1
            have x0 := box_cell hwn x0
            have x1 := box_cell hwn x1
            replace HO := Lib.hid (owns_below HO.out hwn)
            replace HR := Lib.hid (HR.out.below hwn)
            have hB := below_step hwn hB
            have hB1 := Nat.le_trans hB1 hwn.size
            clear RA_c0
            clear RA_c1
            clear RA_x0
            clear RA_x1
            go_wp2
            go_roundw
            case rel => exact ⟨k + 1, _, k2 + 1, _, true, out ++ [(s, M)], by omega, by go_num, rfl, rfl, by omega, HS2, Lib.hid (by have := hl.out; simp; omega), Lib.hid (fun h => by cases h), HR.out, by simpa [cutCells] using HO.out, hB⟩
            case measure => simp [intOf]; omega
          · skip
            have HS2 : Hid (insRun (cutGe s) (cutEq s) (s, M) (false, []) (xs.take (k + 1)) = (true, out)) := Lib.hid (HS.out.trans (by unfold insStep; simp [hge, heq]))
            have G1 : Op.bytesLess y0.toList s.toList = false := hlt1
            have G3 : Op.bytesLess s.toList y0.toList = false := hlt2'
            have G4 : (y0.toList == s.toList) = true := by simp [he]
            have G5 : (s.toList == y0.toList) = true := by simp [he]
            have G6 : (y0.toList != s.toList) = false := by unfold bne; rw [G4]; rfl
            have G7 : (Op.bytesLess s.toList y0.toList || s.toList == y0.toList) = true := by rw [G3, G5]; rfl
            have G8 : (Op.bytesLess s.toList y0.toList || y0.toList == s.toList) = true := by rw [G3, G4]; rfl
            clear HS hI hge heq hD he hlt1 hlt2'
            have RA_c0 := After.cell c0
            have RA_c1 := After.cell c1
            have RA_x0 := After.cell x0
            have RA_x1 := After.cell x1
            go_wp2_with fail
            refine wp_region_after (by kernel_rfl) (by kernel_rfl) ?_
            repeat (go_big_quiet_step ((fail)))
            refine wpQuiet_nil ?_
            intro wn hw'
            have hwn := after_below hw'
            clear hw'
            have c0 := box_cell hwn c0
            have c1 := box_cell hwn c1
            have x0 := box_cell hwn x0
            have x1 := box_cell hwn x1
            replace HO := Lib.hid (owns_below HO.out hwn)
            replace HR := Lib.hid (HR.out.below hwn)
            have hB := below_step hwn hB
            have hB1 := Nat.le_trans hB1 hwn.size
            clear RA_c0
            clear RA_c1
            clear RA_x0
            clear RA_x1
            have RA_c0 := After.cell c0
            have RA_c1 := After.cell c1
            have RA_x0 := After.cell x0
            have RA_x1 := After.cell x1
            go_wp2_with fail
            refine wp_region_after (by kernel_rfl) (by kernel_rfl) ?_
            repeat (go_big_quiet_step ((fail)))
            refine wpQuiet_nil ?_
            intro wn hw'
            have hwn := after_below hw'
            clear hw'
            have c0 := box_cell hwn c0
            have c1 := box_cell hwn c1
            have x0 := box_cell hwn x0
            have x1 := box_cell hwn x1
            replace HO := Lib.hid (owns_below HO.out hwn)
            replace HR := Lib.hid (HR.out.below hwn)
            have hB := below_step hwn hB
            have hB1 := Nat.le_trans hB1 hwn.size
            clear RA_c0
            clear RA_c1
            clear RA_x0
            clear RA_x1
            go_wp2
            go_roundw
            case rel => exact ⟨k + 1, _, k2, _, true, out, by omega, by go_num, rfl, rfl, by omega, HS2, Lib.hid (hl.out), Lib.hid (fun h => by cases h), HR.out, HO.out, hB⟩
            case measure => simp [intOf]; omega
        · have hlt2' : ltS s y0 = true := by
            cases h : ltS s y0
            · exact absurd (ltS_tri hlt1 h) he
            · rfl
          have hge : cutGe s (y0, y1) = true := by unfold cutGe; simp [hlt1]
          have heq : cutEq s (y0, y1) = false := by unfold cutEq; simp [he]
          cases D
          · skip
            have HS2 : Hid (insRun (cutGe s) (cutEq s) (s, M) (false, []) (xs.take (k + 1)) = (true, out ++ [(s, M)] ++ [(y0, y1)])) := Lib.hid (HS.out.trans (by unfold insStep; simp [hge, heq]))
            have hDm := hD.out rfl
            have G1 : Op.bytesLess y0.toList s.toList = false := hlt1
            have G3 : Op.bytesLess s.toList y0.toList = true := hlt2'
            have G4 : (y0.toList == s.toList) = false := str_ne he
            have G5 : (s.toList == y0.toList) = false := str_ne (fun e => he e.symm)
            have G6 : (y0.toList != s.toList) = true := by unfold bne; rw [G4]; rfl
            have G7 : (Op.bytesLess s.toList y0.toList || s.toList == y0.toList) = true := by rw [G3, G5]; rfl
            have G8 : (Op.bytesLess s.toList y0.toList || y0.toList == s.toList) = true := by rw [G3, G4]; rfl
            clear HS hI hge heq hD he hlt1 hlt2'
            have RA_c0 := After.cell c0
            have RA_c1 := After.cell c1
            have RA_x0 := After.cell x0
            have RA_x1 := After.cell x1
            go_wp2_with fail
            refine wp_region_after (by kernel_rfl) (by kernel_rfl) ?_
            repeat (go_big_quiet_step ((fail)))
            refine wpQuiet_nil ?_
            intro wn hw'
            have hwn := after_below hw'
            clear hw'
            have c0 := box_cell hwn c0
            have c1 := box_cell hwn c1
            have x0 := box_cell hwn x0
            have x1 := box_cell hwn x1
            replace HO := Lib.hid (owns_below HO.out hwn)
            replace HR := Lib.hid (HR.out.below hwn)
            have hB := below_step hwn hB
            have hB1 := Nat.le_trans hB1 hwn.size
            clear RA_c0
            clear RA_c1
            clear RA_x0
            clear RA_x1
            go_wp2_with (at_builtin; refine wpList_app1 rfl _ _ 53 57 2 24 rowCut rfl (w.heap.size + 1) _ _ _ _ HO.out rfl rfl rfl rfl (by unfold maxLen; omega) (by omega) hB1 ?_; intro g2 c2 w1' ho1 hg1 hz1)
            have hB := below_grown hB hg1 (by omega) hB.size
            have hB1 := Nat.le_trans hB1 hg1.size
            replace HR := Lib.hid (HR.out.grown hg1 (by simp; omega))
            have HO := Lib.hid ho1
            have hgl := (owns_lt HO.out).1
            clear ho1 hg1
            have c0 := box_cell hB C0
            have c1 := box_cell hB C1
            have x0 := HR.out.cell (j := 0) rfl
            have x1 := HR.out.cell (j := 1) rfl
            have RA_c0 := After.cell c0
            have RA_c1 := After.cell c1
            have RA_x0 := After.cell x0
            have RA_x1 := After.cell x1
            go_wp2_with fail
            refine wp_region_after (by kernel_rfl) (by kernel_rfl) ?_
            repeat (go_big_quiet_step ((fail)))
            refine wpQuiet_nil ?_
            intro wn hw'
            have hwn := after_below hw'
            clear hw'
            have c0 := box_cell hwn c0
            have c1 := box_cell hwn c1
            have x0 := box_cell hwn x0
            have x1 := box_cell hwn x1
            replace HO := Lib.hid (owns_below HO.out hwn)
            replace HR := Lib.hid (HR.out.below hwn)
            have hB := below_step hwn hB
            have hB1 := Nat.le_trans hB1 hwn.size
            clear RA_c0
            clear RA_c1
            clear RA_x0
            clear RA_x1
            go_wp2_with (at_builtin; refine wpList_app1 rfl _ _ 53 57 2 24 rowCut rfl (w.heap.size + 1) _ _ _ _ HO.out rfl rfl rfl rfl (by unfold maxLen; omega) (by omega) hB1 ?_; intro g3 c3 w1' ho1 hg1 hz1)
            have hB := below_grown hB hg1 (by omega) hB.size
            have hB1 := Nat.le_trans hB1 hg1.size
            replace HR := Lib.hid (HR.out.grown hg1 (by simp; omega))
            have HO := Lib.hid ho1
            have hgl := (owns_lt HO.out).1
            clear ho1 hg1
            have c0 := box_cell hB C0
            have c1 := box_cell hB C1
            have x0 := HR.out.cell (j := 0) rfl
            have x1 := HR.out.cell (j := 1) rfl
            go_wp2
            go_roundw
            case rel => exact ⟨k + 1, _, k2 + 1 + 1, _, true, out ++ [(s, M)] ++ [(y0, y1)], by omega, by go_num, rfl, rfl, by omega, HS2, Lib.hid (by have := hl.out; simp; omega), Lib.hid (fun h => by cases h), HR.out, by simpa [cutCells] using HO.out, hB⟩
            case measure => simp [intOf]; omega
          · skip
            have HS2 : Hid (insRun (cutGe s) (cutEq s) (s, M) (false, []) (xs.take (k + 1)) = (true, out ++ [(y0, y1)])) := Lib.hid (HS.out.trans (by unfold insStep; simp [hge, heq]))
            have G1 : Op.bytesLess y0.toList s.toList = false := hlt1
            have G3 : Op.bytesLess s.toList y0.toList = true := hlt2'
            have G4 : (y0.toList == s.toList) = false := str_ne he
            have G5 : (s.toList == y0.toList) = false := str_ne (fun e => he e.symm)
            have G6 : (y0.toList != s.toList) = true := by unfold bne; rw [G4]; rfl
            have G7 : (Op.bytesLess s.toList y0.toList || s.toList == y0.toList) = true := by rw [G3, G5]; rfl
            have G8 : (Op.bytesLess s.toList y0.toList || y0.toList == s.toList) = true := by rw [G3, G4]; rfl
            clear HS hI hge heq hD he hlt1 hlt2'
            have RA_c0 := After.cell c0
            have RA_c1 := After.cell c1
            have RA_x0 := After.cell x0
            have RA_x1 := After.cell x1
            go_wp2_with fail
            refine wp_region_after (by kernel_rfl) (by kernel_rfl) ?_
            repeat (go_big_quiet_step ((fail)))
            refine wpQuiet_nil ?_
            intro wn hw'
            have hwn := after_below hw'
            clear hw'
            have c0 := box_cell hwn c0
            have c1 := box_cell hwn c1
            have x0 := box_cell hwn x0
            have x1 := box_cell hwn x1
            replace HO := Lib.hid (owns_below HO.out hwn)
            replace HR := Lib.hid (HR.out.below hwn)
            have hB := below_step hwn hB
            have hB1 := Nat.le_trans hB1 hwn.size
            clear RA_c0
            clear RA_c1
            clear RA_x0
            clear RA_x1
            have RA_c0 := After.cell c0
            have RA_c1 := After.cell c1
            have RA_x0 := After.cell x0
            have RA_x1 := After.cell x1
            go_wp2_with fail
            refine wp_region_after (by kernel_rfl) (by kernel_rfl) ?_
            repeat (go_big_quiet_step ((fail)))
            refine wpQuiet_nil ?_
            intro wn hw'
            have hwn := after_below hw'
            clear hw'
            have c0 := box_cell hwn c0
            have c1 := box_cell hwn c1
            have x0 := box_cell hwn x0
            have x1 := box_cell hwn x1
            replace HO := Lib.hid (owns_below HO.out hwn)
            replace HR := Lib.hid (HR.out.below hwn)
            have hB := below_step hwn hB
            have hB1 := Nat.le_trans hB1 hwn.size
            clear RA_c0
            clear RA_c1
            clear RA_x0
            clear RA_x1
            go_wp2_with (at_builtin; refine wpList_app1 rfl _ _ 53 57 2 24 rowCut rfl (w.heap.size + 1) _ _ _ _ HO.out rfl rfl rfl rfl (by unfold maxLen; omega) (by omega) hB1 ?_; intro g3 c3 w1' ho1 hg1 hz1)
            have hB := below_grown hB hg1 (by omega) hB.size
            have hB1 := Nat.le_trans hB1 hg1.size
            replace HR := Lib.hid (HR.out.grown hg1 (by simp; omega))
            have HO := Lib.hid ho1
            have hgl := (owns_lt HO.out).1
            clear ho1 hg1
            have c0 := box_cell hB C0
            have c1 := box_cell hB C1
            have x0 := HR.out.cell (j := 0) rfl
            have x1 := HR.out.cell (j := 1) rfl
            go_wp2
            go_roundw
            case rel => exact ⟨k + 1, _, k2 + 1, _, true, out ++ [(y0, y1)], by omega, by go_num, rfl, rfl, by omega, HS2, Lib.hid (by have := hl.out; simp; omega), Lib.hid (fun h => by cases h), HR.out, by simpa [cutCells] using HO.out, hB⟩
            case measure => simp [intOf]; omega
      · obtain rfl : k = n := by omega
        have HI := Lib.hid (show insRun (cutGe s) (cutEq s) (s, M) (false, []) xs = (D, out) by have h := hI.out; rwa [List.take_of_length_le (by have := HX.out; omega)] at h)
        cases D
        · have HP2 : Hid (cutPut xs s m = out ++ [(s, M)]) := Lib.hid (by rw [← HP.out, HI.out]; rfl)
          have HLN : Hid ((out ++ [(s, M)]).length = k2 + 1) := Lib.hid (by have := hl.out; simp [this])
          clear HI hI hD
          go_wp2_with (at_builtin; refine wpList_app1 rfl _ _ 53 57 2 24 rowCut rfl (w.heap.size + 1) _ _ _ _ HO.out rfl rfl rfl rfl (by unfold maxLen; omega) (by omega) hB1 ?_; intro g2 c2 w7 ho1 hg1 hz1; have HO7 : Hid (w7.ownsRow (w.heap.size + 1) 57 2 (.slice (some ⟨g2, 0, none⟩) (k2 + 1) c2) (k2 + 1) ((out ++ [(s, M)]).flatMap cutCells)) := Lib.hid (by simpa [cutCells] using ho1); have hB7 := below_grown hB hg1 (by omega) hB.size; clear ho1 hg1)
          cases E3 : cutsB (cutPut xs s m)
          · have hE0 : cutPutB xs s m = false := by unfold cutPutB; rw [E1, E2, E3]; rfl
            have HE := Lib.hid (cutPut_no hE0)
            have HB := Lib.hid hE0
            clear hE0
            refine (specCuts_any _ _ _ (cutPut xs s m) (by omega) (by rw [HP2.out]; exact HLN.out) HOK.out _ (by rw [HP2.out]; exact lies_of_own HO7.out)).mono ?_
            rintro e9 w9 ⟨rfl, hb9⟩
            rw [E3]
            have hB9 := below_step hb9 hB7
            go_wp2
            go_ret2
            exact ⟨_, 0, 0, by rw [HB.out]; rfl, by rw [HE.out]; rfl, by rw [HE.out]; exact owns_nil' _ _ rfl hB9.size, below_alloc hB9 _⟩
          · have hE0 : cutPutB xs s m = true := by unfold cutPutB; rw [E1, E2, E3]; rfl
            have HE := Lib.hid (cutPut_yes hE0)
            have HB := Lib.hid hE0
            clear hE0
            refine (specCuts_any _ _ _ (cutPut xs s m) (by omega) (by rw [HP2.out]; exact HLN.out) HOK.out _ (by rw [HP2.out]; exact lies_of_own HO7.out)).mono ?_
            rintro e9 w9 ⟨rfl, hb9⟩
            rw [E3]
            have hB9 := below_step hb9 hB7
            go_wp2
            go_ret2
            exact ⟨_, _, _, by rw [HB.out]; rfl, by rw [HE.out, HP2.out]; exact HLN.out, by rw [HE.out, HP2.out]; exact ownsRow_base (owns_below HO7.out hb9) (by omega), hB9⟩
        · have HP2 : Hid (cutPut xs s m = out) := Lib.hid (by rw [← HP.out, HI.out]; rfl)
          have HLN := hl
          clear HI hI hD
          cases E3 : cutsB (cutPut xs s m)
          · have hE0 : cutPutB xs s m = false := by unfold cutPutB; rw [E1, E2, E3]; rfl
            have HE := Lib.hid (cutPut_no hE0)
            have HB := Lib.hid hE0
            clear hE0
            go_wp2_with fail
            refine (specCuts_any _ _ _ (cutPut xs s m) (by omega) (by rw [HP2.out]; exact HLN.out) HOK.out _ (by rw [HP2.out]; exact lies_of_own HO.out)).mono ?_
            rintro e9 w9 ⟨rfl, hb9⟩
            rw [E3]
            have hB9 := below_step hb9 hB
            go_wp2
            go_ret2
            exact ⟨_, 0, 0, by rw [HB.out]; rfl, by rw [HE.out]; rfl, by rw [HE.out]; exact owns_nil' _ _ rfl hB9.size, below_alloc hB9 _⟩
          · have hE0 : cutPutB xs s m = true := by unfold cutPutB; rw [E1, E2, E3]; rfl
            have HE := Lib.hid (cutPut_yes hE0)
            have HB := Lib.hid hE0
            clear hE0
            go_wp2_with fail
            refine (specCuts_any _ _ _ (cutPut xs s m) (by omega) (by rw [HP2.out]; exact HLN.out) HOK.out _ (by rw [HP2.out]; exact lies_of_own HO.out)).mono ?_
            rintro e9 w9 ⟨rfl, hb9⟩
            rw [E3]
            have hB9 := below_step hb9 hB
            go_wp2
            go_ret2
            exact ⟨_, _, _, by rw [HB.out]; rfl, by rw [HE.out, HP2.out]; exact HLN.out, by rw [HE.out, HP2.out]; exact ownsRow_base (owns_below HO.out hb9) (by omega), hB9⟩

theorem specPut_at (lo hi : Nat) (v : Value) (xs : List (ByteArray × Int)) (s : ByteArray) (m : Int) (hok : ∀ x ∈ xs, cutSOk x) (hs : s.size ≤ 1048576) (hmi : IntOk m) (w : World) (h : cutSAt w lo hi v xs) :
    Calls Tryd.prog 26 #[v, .agg #[.string s, .int .i64 m]] w fun e w' => ∃ u, e = .returned (.tuple #[u, .bool (cutPutB xs s m)]) ∧ cutSAt w' w.heap.size w'.heap.size u (cutPutL xs s m) ∧ Below w.heap.size w w' := by
  obtain ⟨g, k, c, rfl, hx, hb, _, _, ho⟩ := h.open
  exact (specPut_any _ _ _ xs s m hb hx hok hs hmi w (lies_of_own ho)).mono fun _ _ ⟨_, _, _, he, hl, hw, hB⟩ => ⟨_, he, cutSAt.made hl (by have := cutPutL_len xs s m; omega) hw, hB⟩
end Go.Proofs.YtcccidlfigfibaaDoor
