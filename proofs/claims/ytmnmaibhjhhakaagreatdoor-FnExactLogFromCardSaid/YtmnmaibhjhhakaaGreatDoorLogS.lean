/-
  LogFrom of the reference: what it returns, for every text. No condition.
-/
import Derived.Test.YtmnmaibhjhhakaaGreatDoorLogI
import Derived.Test.YtmnmaibhjhhakaaGreatDoorAppGG
import Derived.Deep.CutRange
namespace Go.Proofs.YtmnmaibhjhhakaaGreatDoor
open Go.ChangeShapes Go.WideShapes Go.ChangeAt Go.RowKit

/-- A block of just these cells, as a slice of one element. -/
theorem lies_block {w : World} {N : Nat} {cs : Array Value} {t : TypeId} {size : Nat} (h : w.heap[N]? = some (.cells cs t)) (hs : cs.size = size := by rfl) : Lies w size (some ⟨N, 0, none⟩) 1 cs.toList := by
  refine ⟨by simp [hs], fun _ => ⟨N, 0, rfl, (Array.getElem?_eq_some_iff.1 h).1, fun j u hj => ?_⟩⟩
  rw [Nat.zero_add, cell_of_row _ _ j cs t (0, 0) h]
  simpa using hj

set_option maxRecDepth 8000 in
set_option maxHeartbeats 12800000 in
theorem specLogF_any (s : ByteArray) (hs : s.size ≤ 1048576) (w : World) :
    Calls Tryz.prog 4 #[.string s] w fun e w' => ∃ g m c, e = .returned (.tuple #[.slice (some ⟨g, 0, none⟩) m c, .int .i64 ((logR s).2.1 : Nat), .int .i64 (logR s).2.2]) ∧ (logR s).1.length = m ∧ m ≤ 24 ∧ w'.ownsRow w.heap.size 32 4 (.slice (some ⟨g, 0, none⟩) m c) m ((logR s).1.flatMap entryCells) ∧ Below w.heap.size w w' := by
  go_enter Tryz.func4, Tryz.ntmps4
  go_wp2
  go_loopw [5, 6] (fun l q wr => ∃ (p f g m c : Nat) (xs : List EnT), p ≤ s.size ∧ q = .int .i64 p ∧ l = .slice (some ⟨g, 0, none⟩) m c ∧ m ≤ 24 ∧ s.size < f + p ∧ Hid (xs.length = m) ∧ Hid (logR s = logF s f xs p) ∧ Hid (∀ x ∈ xs, enS x ∧ eventOk x.2) ∧ Hid (wr.ownsRow w.heap.size 32 4 (.slice (some ⟨g, 0, none⟩) m c) m (xs.flatMap entryCells)) ∧ Below w.heap.size w wr) (fun _ q _ => s.size - (intOf q).toNat)
  case atStart => exact ⟨0, s.size + 1, w.heap.size, 0, 0, [], Nat.zero_le _, rfl, rfl, by omega, by omega, Lib.hid rfl, Lib.hid rfl, Lib.hid (by simp), Lib.hid (owns_nil' _ _ rfl (Nat.le_refl _)), below_alloc (Below.refl _ _) _⟩
  case round =>
    obtain ⟨p, f, g, m, c, xs, hp, rfl, rfl, hm, hf, hX, hL, hK, hO, hB⟩ := hrel
    have hgl2 := (owns_lt hO.out).2
    have hgl1 := (owns_lt hO.out).1
    have hwz := hB.size
    by_cases hlt : p < s.size
    · rcases end_cases s p with he | ⟨e, he, hpe, hes⟩
      · have HR := Lib.hid (hL.out.trans (log_torn hf hlt he))
        have HED := Lib.hid he
        clear he
        go_wp2_with (go_at_call 9; refine (l31End_any s hs p hp _).mono ?_; rintro e1 w1 ⟨rfl, rfl⟩; rw [HED.out])
        go_ret3
        exact ⟨g, m, c, by rw [HR.out]; rfl, by rw [HR.out]; exact hX.out, hm, by rw [HR.out]; exact hO.out, hB⟩
      · obtain ⟨⟨x0, x1, x2, x3⟩, bb, hent⟩ : ∃ x b, entR (s.extract p e) = (x, b) := ⟨_, _, rfl⟩
        have HEN := Lib.hid hent
        have HED := Lib.hid he
        have hz : (s.extract p e).size ≤ 1048576 := by rw [ByteArray.size_extract]; omega
        obtain ⟨t, ht⟩ : ∃ t, s.extract p e = t := ⟨_, rfl⟩
        have HTT := Lib.hid ht
        have j0 : (0 : Int) ≤ (p : Int) := by omega
        have k2 : (p : Int) ≤ (e : Int) := by omega
        have k3 : (e : Int) ≤ (s.size : Int) := by omega
        have k4 : (0 : Int) ≤ (e : Int) := by omega
        rw [ht] at hz
        clear he hent
        have HEN2 := Lib.hid (show entR t = ((x0, x1, x2, x3), bb) by rw [← HTT.out]; exact HEN.out)
        go_wp2_with fail
        refine (l31End_any s hs p hp _).mono ?_
        rintro e1 w1 ⟨rfl, rfl⟩
        rw [HED.out]
        go_wp2_with fail
        refine (specEntFrom_as t x0 x1 x2 x3 bb HEN2.out hz _).mono ?_
        rintro e2 w2 ⟨rfl, hb2⟩
        have hB2 := below_step hb2 hB
        have HO2 := Lib.hid (owns_below hO.out hb2)
        obtain ⟨wz, hwzz⟩ : ∃ wz, wz = w2.alloc (.cells #[.string x0, .int .i64 x1, .string x2, .int .i64 x3] 32) := ⟨_, rfl⟩
        have BA : Below w.heap.size w wz := by rw [hwzz]; exact below_alloc hB2 _
        have HO3 : Hid (wz.ownsRow w.heap.size 32 4 (.slice (some ⟨g, 0, none⟩) m c) m (xs.flatMap entryCells)) := Lib.hid (by rw [hwzz]; exact World.ownsRow.alloc HO2.out _)
        have RZ : Hid (RowIs wz w2.heap.size 32 [.string x0, .int .i64 x1, .string x2, .int .i64 x3]) := Lib.hid (by rw [hwzz]; exact RowIs.new w2 #[.string x0, .int .i64 x1, .string x2, .int .i64 x3] _)
        have HWZ := Lib.hid hwzz
        clear hwzz hO
        have HLW := Lib.hid (lies_of_own HO3.out)
        cases hst : (bb && storeB (xs ++ [(x0, x1, x2, x3)]))
        all_goals
          cases bb
        · -- no entry
          have HR := Lib.hid (hL.out.trans (log_bad hf hlt HED.out HEN.out rfl))
          go_upto_region 8 with (fail)
          rw [← HWZ.out]
          refine wp_region_after (by kernel_rfl) (by kernel_rfl) ?_
          repeat (go_big_quiet_step ((fail)))
          refine wpQuiet_nil ?_
          intro wn hw'
          have hwn := after_below hw'
          clear hw'
          have HO9 := Lib.hid (owns_below HO3.out hwn)
          have hB9 := below_step hwn BA
          go_wp2
          go_ret3
          exact ⟨g, m, c, by rw [HR.out]; rfl, by rw [HR.out]; exact hX.out, hm, by rw [HR.out]; exact HO9.out, hB9⟩
        · -- not storable
          have HR := Lib.hid (hL.out.trans (log_bad hf hlt HED.out HEN.out hst))
          have HST := Lib.hid (show storeB (xs ++ [(x0, x1, x2, x3)]) = false from hst)
          have hok := ent_ok HEN2.out hz
          have HKK := Lib.hid (show ∀ x ∈ xs ++ [(x0, x1, x2, x3)], enS x from fun x hx => by
            rcases List.mem_append.1 hx with h | h
            · exact (hK.out x h).1
            · obtain rfl := List.mem_singleton.1 h
              exact hok.1)
          have HLEN := Lib.hid (show (xs ++ [(x0, x1, x2, x3)]).length = m + 1 by rw [List.length_append, hX.out]; rfl)
          clear hok hst
          go_upto_region 8 with (fail)
          rw [← HWZ.out]
          go_cut [41] from 30 to 49 (fun b41 wr => b41 = .bool true ∧ Below wz.heap.size wz wr)
          case first =>
            have BR := Below.refl wz.heap.size wz
            have y0 := RZ.out.cell (j := 0) rfl
            have y1 := RZ.out.cell (j := 1) rfl
            have y2 := RZ.out.cell (j := 2) rfl
            have y3 := RZ.out.cell (j := 3) rfl
            have Y0 := y0
            have Y1 := y1
            have Y2 := y2
            have Y3 := y3
            go_region_held3 (fun wx => wx.cell? ⟨w2.heap.size, 0, none⟩ = some (.string x0) ∧ wx.cell? ⟨w2.heap.size, 1, none⟩ = some (.int .i64 x1) ∧ wx.cell? ⟨w2.heap.size, 2, none⟩ = some (.string x2) ∧ wx.cell? ⟨w2.heap.size, 3, none⟩ = some (.int .i64 x3)) ((go_split_ands; refine ⟨?_, ?_, ?_, ?_⟩ <;> first | assumption | (refine box_cell (below_alloc (Below.refl _ _) _) ?_; assumption) | (refine box_cell (W := wz) ?_ Y0; first | exact HB6.out | exact HB5.out | exact HS3.out | ((repeat' (first | (with_reducible exact Below.refl _ _) | (with_reducible assumption) | (with_reducible refine below_step (by assumption) ?_) | (with_reducible refine below_alloc ?_ _) | (with_reducible refine Below.drew ?_) | (with_reducible refine below_drewN ?_ _) | (with_reducible refine Below.setCell ?_ ?_ _) | go_size)); done)) | (refine box_cell (W := wz) ?_ Y1; first | exact HB6.out | exact HB5.out | exact HS3.out | ((repeat' (first | (with_reducible exact Below.refl _ _) | (with_reducible assumption) | (with_reducible refine below_step (by assumption) ?_) | (with_reducible refine below_alloc ?_ _) | (with_reducible refine Below.drew ?_) | (with_reducible refine below_drewN ?_ _) | (with_reducible refine Below.setCell ?_ ?_ _) | go_size)); done)) | (refine box_cell (W := wz) ?_ Y2; first | exact HB6.out | exact HB5.out | exact HS3.out | ((repeat' (first | (with_reducible exact Below.refl _ _) | (with_reducible assumption) | (with_reducible refine below_step (by assumption) ?_) | (with_reducible refine below_alloc ?_ _) | (with_reducible refine Below.drew ?_) | (with_reducible refine below_drewN ?_ _) | (with_reducible refine Below.setCell ?_ ?_ _) | go_size)); done)) | (refine box_cell (W := wz) ?_ Y3; first | exact HB6.out | exact HB5.out | exact HS3.out | ((repeat' (first | (with_reducible exact Below.refl _ _) | (with_reducible assumption) | (with_reducible refine below_step (by assumption) ?_) | (with_reducible refine below_alloc ?_ _) | (with_reducible refine Below.drew ?_) | (with_reducible refine below_drewN ?_ _) | (with_reducible refine Below.setCell ?_ ?_ _) | go_size)); done))))
              (first
                | (refine step_copyG ?_ ?_ ?_ 22 32 4 48 rowEntry ?_ ?_ g 0 m c (xs.flatMap entryCells) ?_ ?_ (entry_one xs) ?_ ?_ ?_; rfl; rotate_left 2; exact rfl; exact rfl; exact rfl; exact HLW.out; (unfold maxLen; omega); omega; intro g3 c3 w3 ho3 hS3 hz3; have HO := Lib.hid ho3; have HS3 := Lib.hid hS3; clear ho3 hS3; all_goals skip)
                | (refine step_copy2G ?_ ?_ ?_ 22 32 4 48 rowEntry ?_ ?_ g 0 m c (xs.flatMap entryCells) ?_ ?_ (entry_one xs) ?_ ?_ ?_; rfl; rotate_left 2; exact rfl; exact rfl; exact rfl; exact HLW.out; (unfold maxLen; omega); omega; intro g3 c3 w3 ho3 hS3 hz3 hr3; have HO := Lib.hid ho3; have HS3 := Lib.hid hS3; have HX3 := Lib.hid (lies_block hr3); clear ho3 hS3 hr3; all_goals skip)
                | (refine step_copy3G ?_ ?_ ?_ 22 32 4 48 rowEntry ?_ ?_ g 0 m c (xs.flatMap entryCells) ?_ ?_ (entry_one xs) ?_ ?_ ?_; rfl; rotate_left 2; exact rfl; exact rfl; exact rfl; exact HLW.out; (unfold maxLen; omega); omega; intro g3 c3 w3 ho3 hS3 hz3 hr3; have HO := Lib.hid ho3; have HS3 := Lib.hid hS3; have HX3 := Lib.hid (lies_block hr3); clear ho3 hS3 hr3; all_goals skip)
                | (refine step_appSG ?_ ?_ ?_ 22 32 4 48 rowEntry ?_ wz.heap.size g3 m c3 (xs.flatMap entryCells) ?_ ?_ ?_ 0 1 1 ([(x0, x1, x2, x3)].flatMap entryCells) ?_ ?_ (entry_one [(x0, x1, x2, x3)]) ?_ ?_ ?_ ?_; rfl; rotate_left 2; exact rfl; (first | exact HO.out | exact World.ownsRow.alloc HO.out _); exact rfl; rotate_left 1; exact rfl; (first | exact HX3.out | exact lies_new w3 #[.string x0, .int .i64 x1, .string x2, .int .i64 x3] _ 4 rfl); (unfold maxLen; omega); omega; (have h9 := HS3.out.size; first | omega | (simp; omega)); intro g5 c5 w5 ho5 hg5; have HO5 := Lib.hid ho5; have HB5 := Lib.hid (show Below wz.heap.size wz w5 from (by first | exact below_grown HS3.out hg5 (owns_lt HO.out).1 (by have := HS3.out.size; omega) | exact below_grown (below_alloc HS3.out _) hg5 (owns_lt HO.out).1 (by have := HS3.out.size; simp; omega))); clear ho5 hg5; all_goals skip)
                | (go_at_call 11; refine (specStore_any _ (m + 1) _ (xs ++ [(x0, x1, x2, x3)]) (by omega) HLEN.out HKK.out _ (by have h9 := lies_of_own HO5.out; rw [← List.flatMap_append] at h9; exact h9)).mono ?_; rintro e6 w6 ⟨rfl, hb6⟩; rw [HST.out]; have HB6 := Lib.hid (below_step hb6 HB5.out); all_goals skip))
            all_goals
              go_wp2
              go_meet
              case rel => exact ⟨rfl, by first | exact HB6.out | exact Below.drew HB6.out | ((repeat' (first | (with_reducible exact Below.refl _ _) | (with_reducible assumption) | (with_reducible refine below_step (by assumption) ?_) | (with_reducible refine below_alloc ?_ _) | (with_reducible refine Below.drew ?_) | (with_reducible refine below_drewN ?_ _) | (with_reducible refine Below.setCell ?_ ?_ _) | go_size)); done)⟩
          case rest =>
            obtain ⟨rfl, hBc⟩ := hcut
            have HO9 := Lib.hid (owns_below HO3.out hBc)
            have hB9 := below_step hBc BA
            go_wp2
            go_ret3
            exact ⟨g, m, c, by rw [HR.out]; rfl, by rw [HR.out]; exact hX.out, hm, by rw [HR.out]; exact HO9.out, hB9⟩
        · cases hst
        · have HR := Lib.hid (hL.out.trans (log_next hf hlt HED.out HEN.out hst))
          have HST := Lib.hid (show storeB (xs ++ [(x0, x1, x2, x3)]) = true from hst)
          have hm24 : m + 1 ≤ 24 := by
            have h9 := ((store_iff _).1 HST.out).1
            rw [List.length_append, hX.out] at h9
            exact h9
          have hok := ent_ok HEN2.out hz
          have HK2 := Lib.hid (show ∀ x ∈ xs ++ [(x0, x1, x2, x3)], enS x ∧ eventOk x.2 from fun x hx => by
            rcases List.mem_append.1 hx with h | h
            · exact hK.out x h
            · obtain rfl := List.mem_singleton.1 h
              exact hok)
          have HKK := Lib.hid (show ∀ x ∈ xs ++ [(x0, x1, x2, x3)], enS x from fun x hx => (HK2.out x hx).1)
          have HLEN := Lib.hid (show (xs ++ [(x0, x1, x2, x3)]).length = m + 1 by rw [List.length_append, hX.out]; rfl)
          clear hok hst
          go_upto_region 8 with (fail)
          rw [← HWZ.out]
          go_cut [41] from 30 to 49 (fun b41 wr => b41 = .bool false ∧ Below wz.heap.size wz wr)
          case first =>
            have BR := Below.refl wz.heap.size wz
            have y0 := RZ.out.cell (j := 0) rfl
            have y1 := RZ.out.cell (j := 1) rfl
            have y2 := RZ.out.cell (j := 2) rfl
            have y3 := RZ.out.cell (j := 3) rfl
            have Y0 := y0
            have Y1 := y1
            have Y2 := y2
            have Y3 := y3
            go_region_held3 (fun wx => wx.cell? ⟨w2.heap.size, 0, none⟩ = some (.string x0) ∧ wx.cell? ⟨w2.heap.size, 1, none⟩ = some (.int .i64 x1) ∧ wx.cell? ⟨w2.heap.size, 2, none⟩ = some (.string x2) ∧ wx.cell? ⟨w2.heap.size, 3, none⟩ = some (.int .i64 x3)) ((go_split_ands; refine ⟨?_, ?_, ?_, ?_⟩ <;> first | assumption | (refine box_cell (below_alloc (Below.refl _ _) _) ?_; assumption) | (refine box_cell (W := wz) ?_ Y0; first | exact HB6.out | exact HB5.out | exact HS3.out | ((repeat' (first | (with_reducible exact Below.refl _ _) | (with_reducible assumption) | (with_reducible refine below_step (by assumption) ?_) | (with_reducible refine below_alloc ?_ _) | (with_reducible refine Below.drew ?_) | (with_reducible refine below_drewN ?_ _) | (with_reducible refine Below.setCell ?_ ?_ _) | go_size)); done)) | (refine box_cell (W := wz) ?_ Y1; first | exact HB6.out | exact HB5.out | exact HS3.out | ((repeat' (first | (with_reducible exact Below.refl _ _) | (with_reducible assumption) | (with_reducible refine below_step (by assumption) ?_) | (with_reducible refine below_alloc ?_ _) | (with_reducible refine Below.drew ?_) | (with_reducible refine below_drewN ?_ _) | (with_reducible refine Below.setCell ?_ ?_ _) | go_size)); done)) | (refine box_cell (W := wz) ?_ Y2; first | exact HB6.out | exact HB5.out | exact HS3.out | ((repeat' (first | (with_reducible exact Below.refl _ _) | (with_reducible assumption) | (with_reducible refine below_step (by assumption) ?_) | (with_reducible refine below_alloc ?_ _) | (with_reducible refine Below.drew ?_) | (with_reducible refine below_drewN ?_ _) | (with_reducible refine Below.setCell ?_ ?_ _) | go_size)); done)) | (refine box_cell (W := wz) ?_ Y3; first | exact HB6.out | exact HB5.out | exact HS3.out | ((repeat' (first | (with_reducible exact Below.refl _ _) | (with_reducible assumption) | (with_reducible refine below_step (by assumption) ?_) | (with_reducible refine below_alloc ?_ _) | (with_reducible refine Below.drew ?_) | (with_reducible refine below_drewN ?_ _) | (with_reducible refine Below.setCell ?_ ?_ _) | go_size)); done))))
              (first
                | (refine step_copyG ?_ ?_ ?_ 22 32 4 48 rowEntry ?_ ?_ g 0 m c (xs.flatMap entryCells) ?_ ?_ (entry_one xs) ?_ ?_ ?_; rfl; rotate_left 2; exact rfl; exact rfl; exact rfl; exact HLW.out; (unfold maxLen; omega); omega; intro g3 c3 w3 ho3 hS3 hz3; have HO := Lib.hid ho3; have HS3 := Lib.hid hS3; clear ho3 hS3; all_goals skip)
                | (refine step_copy2G ?_ ?_ ?_ 22 32 4 48 rowEntry ?_ ?_ g 0 m c (xs.flatMap entryCells) ?_ ?_ (entry_one xs) ?_ ?_ ?_; rfl; rotate_left 2; exact rfl; exact rfl; exact rfl; exact HLW.out; (unfold maxLen; omega); omega; intro g3 c3 w3 ho3 hS3 hz3 hr3; have HO := Lib.hid ho3; have HS3 := Lib.hid hS3; have HX3 := Lib.hid (lies_block hr3); clear ho3 hS3 hr3; all_goals skip)
                | (refine step_copy3G ?_ ?_ ?_ 22 32 4 48 rowEntry ?_ ?_ g 0 m c (xs.flatMap entryCells) ?_ ?_ (entry_one xs) ?_ ?_ ?_; rfl; rotate_left 2; exact rfl; exact rfl; exact rfl; exact HLW.out; (unfold maxLen; omega); omega; intro g3 c3 w3 ho3 hS3 hz3 hr3; have HO := Lib.hid ho3; have HS3 := Lib.hid hS3; have HX3 := Lib.hid (lies_block hr3); clear ho3 hS3 hr3; all_goals skip)
                | (refine step_appSG ?_ ?_ ?_ 22 32 4 48 rowEntry ?_ wz.heap.size g3 m c3 (xs.flatMap entryCells) ?_ ?_ ?_ 0 1 1 ([(x0, x1, x2, x3)].flatMap entryCells) ?_ ?_ (entry_one [(x0, x1, x2, x3)]) ?_ ?_ ?_ ?_; rfl; rotate_left 2; exact rfl; (first | exact HO.out | exact World.ownsRow.alloc HO.out _); exact rfl; rotate_left 1; exact rfl; (first | exact HX3.out | exact lies_new w3 #[.string x0, .int .i64 x1, .string x2, .int .i64 x3] _ 4 rfl); (unfold maxLen; omega); omega; (have h9 := HS3.out.size; first | omega | (simp; omega)); intro g5 c5 w5 ho5 hg5; have HO5 := Lib.hid ho5; have HB5 := Lib.hid (show Below wz.heap.size wz w5 from (by first | exact below_grown HS3.out hg5 (owns_lt HO.out).1 (by have := HS3.out.size; omega) | exact below_grown (below_alloc HS3.out _) hg5 (owns_lt HO.out).1 (by have := HS3.out.size; simp; omega))); clear ho5 hg5; all_goals skip)
                | (go_at_call 11; refine (specStore_any _ (m + 1) _ (xs ++ [(x0, x1, x2, x3)]) (by omega) HLEN.out HKK.out _ (by have h9 := lies_of_own HO5.out; rw [← List.flatMap_append] at h9; exact h9)).mono ?_; rintro e6 w6 ⟨rfl, hb6⟩; rw [HST.out]; have HB6 := Lib.hid (below_step hb6 HB5.out); all_goals skip))
            all_goals
              go_wp2
              go_meet
              case rel => exact ⟨rfl, by first | exact HB6.out | exact Below.drew HB6.out | ((repeat' (first | (with_reducible exact Below.refl _ _) | (with_reducible assumption) | (with_reducible refine below_step (by assumption) ?_) | (with_reducible refine below_alloc ?_ _) | (with_reducible refine Below.drew ?_) | (with_reducible refine below_drewN ?_ _) | (with_reducible refine Below.setCell ?_ ?_ _) | go_size)); done)⟩
          case rest =>
            obtain ⟨rfl, hBc⟩ := hcut
            have HO9 := Lib.hid (owns_below HO3.out hBc)
            have hB9 := below_step hBc BA
            have R9 := RZ.out.below hBc
            have y0 := R9.cell (j := 0) rfl
            have y1 := R9.cell (j := 1) rfl
            have y2 := R9.cell (j := 2) rfl
            have y3 := R9.cell (j := 3) rfl
            have k5 : IntKind.i64.wrap ((e : Int) + 1) = ((e + 1 : Nat) : Int) := by
              rw [show ((e + 1 : Nat) : Int) = (e : Int) + 1 by omega]
              exact IntWalk.i64_in _ ⟨by omega, by omega⟩
            have hz9 := hB9.size
            have hl9 := (owns_lt HO9.out).1
            clear R9
            go_wp2_with (at_builtin; refine wpList_app1 rfl _ _ 22 32 4 48 rowEntry rfl w.heap.size _ m _ _ HO9.out rfl rfl rfl rfl (by unfold maxLen; omega) (by omega) hz9 ?_; intro g7 c7 w7 ho7 hg7 hz7; have HO7 := Lib.hid ho7; have HB7 := Lib.hid (below_grown hB9 hg7 hl9 hz9); clear ho7 hg7)
            go_roundw
            case rel => exact ⟨e + 1, f - 1, g7, m + 1, c7, xs ++ [(x0, x1, x2, x3)], by omega, by go_num, rfl, hm24, by omega, HLEN, HR, HK2, Lib.hid (by rw [List.flatMap_append]; exact HO7.out), HB7.out⟩
            case measure => simp [intOf]; omega
    · have HR := Lib.hid (hL.out.trans (log_done hf hp hlt))
      go_wp2
      go_ret3
      exact ⟨g, m, c, by rw [HR.out]; rfl, by rw [HR.out]; exact hX.out, hm, by rw [HR.out]; exact hO.out, hB⟩
end Go.Proofs.YtmnmaibhjhhakaaGreatDoor
