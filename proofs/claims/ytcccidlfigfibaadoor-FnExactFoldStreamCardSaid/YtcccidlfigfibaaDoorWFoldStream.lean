/-
  FnExactFoldStream returns true at every input: the program's FoldStream is the reference's, leaves its arguments as they were, and its result is its own. No condition.
-/
import Derived.Test.YtcccidlfigfibaaDoorFoldStrI
import Derived.Test.YtcccidlfigfibaaDoorKEntry
import Derived.Test.YtcccidlfigfibaaDoorEFold
import Derived.Deep.Cut
namespace Go.Proofs.YtcccidlfigfibaaDoor.lawFoldStream
open Go.ChangeShapes Go.WideShapes Go.ChangeAt Go.RowKit

set_option maxHeartbeats 6400000 in
theorem walk (w : World) (Axs : Option Addr) (nxs cxs : Nat) (xs : List (ByteArray × Int × ByteArray × Int)) (hncxs : nxs ≤ cxs) (hcmxs : cxs ≤ maxLen) (hxxs : xs.length = nxs) (hLxs : Lies w 4 Axs nxs (xs.flatMap entryCells)) (hoxs : ∀ x ∈ xs, entryOk x) (s : ByteArray) (_hs : StrOk s) (f0 : Int) (_hf0 : IntOk f0) (f1 : Int) (_hf1 : IntOk f1) (f2 : ByteArray) (hf2 : StrOk f2) (hQ : (∃ a, Sent a w) ∧ MaxL w) :
    Calls Tryd.prog 5 #[.slice Axs nxs cxs, .string s, .agg #[.int .i64 f0, .int .i64 f1, .string f2]] w fun e w' => e = .returned (.bool true) ∧ Below w.heap.size w w' := by
  obtain ⟨⟨aS, hS⟩, hM⟩ := hQ
  have hmxs : nxs ≤ maxLen := Nat.le_trans hncxs hcmxs
  have HXxs := Lib.hid hxxs
  have HLxs := Lib.hid hLxs
  have HOxs := Lib.hid hoxs
  clear hxxs hLxs hoxs
  by_cases cs0 : (1048576 : Int) < s.size
  · skip
    have QAxs := Lib.hid (ArgAt.mk' HLxs.out)
    have HB : Below w.heap.size w w := Below.refl _ _
    go_enter Tryd.func5, Tryd.ntmps5
    go_wp2
    go_ret
    exact ⟨rfl, (by repeat' (first | (with_reducible exact Below.refl _ _) | (with_reducible assumption) | (with_reducible refine below_step (by assumption) ?_) | (with_reducible refine below_alloc ?_ _) | (with_reducible refine Below.drew ?_) | (with_reducible refine below_drewN ?_ _) | (with_reducible refine Below.setCell ?_ ?_ _) | go_size))⟩
  have hns : s.size ≤ 1048576 := by omega
  by_cases cs1 : szR (1048576) nxs (xs.flatMap entryTexts) < 0
  · have es := Lib.hid (szR_neg cs1)
    clear cs1
    have QAxs := Lib.hid (ArgAt.mk' HLxs.out)
    have HB : Below w.heap.size w w := Below.refl _ _
    go_enter Tryd.func5, Tryd.ntmps5
    go_wp2_with fail
    refine (szEntryS_any _ _ _ hmxs xs HXxs.out HOxs.out _ (by omega) (by omega) _ (QAxs.out.keepB (below_alloc (Below.refl _ _) _)).1).mono ?_
    rintro e1 w1 ⟨rfl, b1⟩
    rw [es.out]
    have hs1 := b1.size
    simp only [World.size_alloc] at hs1
    have caaF_0 := box_cell b1 (b := w.heap.size) (o := 0) (u := .int .i64 f0) (by go_cell)
    have caaF_1 := box_cell b1 (b := w.heap.size) (o := 1) (u := .int .i64 f1) (by go_cell)
    have caaF_2 := box_cell b1 (b := w.heap.size) (o := 2) (u := .string f2) (by go_cell)
    have b1 := below_step b1 (below_alloc (Below.refl _ _) _)
    have ltcaaF : w.heap.size < w1.heap.size := World.block_lt_of_cell? w1 _ caaF_0
    have HB := below_step b1 HB
    have zz1 := b1.size
    replace QAxs := Lib.hid (QAxs.out.keepB b1)
    go_wp2
    go_ret
    exact ⟨rfl, HB⟩
  have hnxs := szR_len_of (by omega) cs1
  obtain ⟨r1, hr1, hra1, hrb1⟩ := szR_pos (by omega) cs1
  have es1 := Lib.hid hr1
  clear hr1 cs1
  by_cases cs2 : (r1) < f2.size
  · have es := Lib.hid (show szN (r1) f2.size = -1 by unfold szN; rw [if_pos cs2])
    have QAxs := Lib.hid (ArgAt.mk' HLxs.out)
    have HB : Below w.heap.size w w := Below.refl _ _
    go_enter Tryd.func5, Tryd.ntmps5
    go_wp2_with fail
    refine (szEntryS_any _ _ _ hmxs xs HXxs.out HOxs.out _ (by omega) (by omega) _ (QAxs.out.keepB (below_alloc (Below.refl _ _) _)).1).mono ?_
    rintro e1 w1 ⟨rfl, b1⟩
    rw [es1.out]
    have hs1 := b1.size
    simp only [World.size_alloc] at hs1
    have caaF_0 := box_cell b1 (b := w.heap.size) (o := 0) (u := .int .i64 f0) (by go_cell)
    have caaF_1 := box_cell b1 (b := w.heap.size) (o := 1) (u := .int .i64 f1) (by go_cell)
    have caaF_2 := box_cell b1 (b := w.heap.size) (o := 2) (u := .string f2) (by go_cell)
    have b1 := below_step b1 (below_alloc (Below.refl _ _) _)
    have ltcaaF : w.heap.size < w1.heap.size := World.block_lt_of_cell? w1 _ caaF_0
    have HB := below_step b1 HB
    have zz1 := b1.size
    replace QAxs := Lib.hid (QAxs.out.keepB b1)
    go_wp2_with fail
    refine (szFold_any _ _ _ _ (by omega) (by omega) hf2 _).mono ?_
    rintro e1 w2 ⟨rfl, b2⟩
    rw [es.out]
    have caaF_0 := box_cell b2 caaF_0
    have caaF_1 := box_cell b2 caaF_1
    have caaF_2 := box_cell b2 caaF_2
    have ltcaaF : w.heap.size < w2.heap.size := World.block_lt_of_cell? w2 _ caaF_0
    have HB := below_step b2 HB
    have zz2 := b2.size
    replace QAxs := Lib.hid (QAxs.out.keepB b2)
    go_wp2
    go_ret
    exact ⟨rfl, HB⟩
  have es2 := Lib.hid (show szN (r1) f2.size = r1 - f2.size by unfold szN; rw [if_neg cs2])
  have HSTxs := Lib.hid (show StOk xs from ⟨enS_ok (left := 1048576) (by omega) (by rw [es1.out]; exact hra1), enE_ok HOxs.out⟩)
  obtain ⟨⟨⟨d0, d1, d2⟩, k1, bb⟩, hres⟩ : ∃ r, foldStr xs s (f0, f1, f2) = r := ⟨_, rfl⟩
  have HRS := Lib.hid hres
  clear hres
  have QAxs := Lib.hid (ArgAt.mk' HLxs.out)
  have HB : Below w.heap.size w w := Below.refl _ _
  go_enter Tryd.func5, Tryd.ntmps5
  go_wp2_with fail
  refine (szEntryS_any _ _ _ hmxs xs HXxs.out HOxs.out _ (by omega) (by omega) _ (QAxs.out.keepB (below_alloc (Below.refl _ _) _)).1).mono ?_
  rintro e1 w1 ⟨rfl, b1⟩
  rw [es1.out]
  have hs1 := b1.size
  simp only [World.size_alloc] at hs1
  have caaF_0 := box_cell b1 (b := w.heap.size) (o := 0) (u := .int .i64 f0) (by go_cell)
  have caaF_1 := box_cell b1 (b := w.heap.size) (o := 1) (u := .int .i64 f1) (by go_cell)
  have caaF_2 := box_cell b1 (b := w.heap.size) (o := 2) (u := .string f2) (by go_cell)
  have b1 := below_step b1 (below_alloc (Below.refl _ _) _)
  have ltcaaF : w.heap.size < w1.heap.size := World.block_lt_of_cell? w1 _ caaF_0
  have HB := below_step b1 HB
  have zz1 := b1.size
  replace QAxs := Lib.hid (QAxs.out.keepB b1)
  go_wp2_with fail
  refine (szFold_any _ _ _ _ (by omega) (by omega) hf2 _).mono ?_
  rintro e1 w2 ⟨rfl, b2⟩
  rw [es2.out]
  have caaF_0 := box_cell b2 caaF_0
  have caaF_1 := box_cell b2 caaF_1
  have caaF_2 := box_cell b2 caaF_2
  have ltcaaF : w.heap.size < w2.heap.size := World.block_lt_of_cell? w2 _ caaF_0
  have HB := below_step b2 HB
  have zz2 := b2.size
  replace QAxs := Lib.hid (QAxs.out.keepB b2)
  have BR := Below.refl w2.heap.size w2
  go_upto_region 10 with (fail)
  go_cut [8, 9, 10] from 11 (fun u0 u1 u2 wr => ∃ (bx : Nat) (wz : World), wz = wr ∧ u0 = .pointer (some ⟨bx, 0, none⟩) ∧ u1 = .int .i64 k1 ∧ u2 = .bool bb ∧ wr.cell? ⟨bx, 0, none⟩ = some (.int .i64 (d0)) ∧ wr.cell? ⟨bx, 1, none⟩ = some (.int .i64 (d1)) ∧ wr.cell? ⟨bx, 2, none⟩ = some (.string (d2)) ∧ Below w2.heap.size w2 wr)
  case first =>
    go_region_held3 (fun wx => wx.cell? ⟨w.heap.size, 0, none⟩ = some (.int .i64 f0) ∧ wx.cell? ⟨w.heap.size, 1, none⟩ = some (.int .i64 f1) ∧ wx.cell? ⟨w.heap.size, 2, none⟩ = some (.string f2) ∧ Below w2.heap.size w2 wx) ((go_split_ands; refine ⟨?_, ?_, ?_, ?_⟩ <;> first | assumption | (refine box_cell (by assumption) ?_; assumption) | (refine below_step (by assumption) ?_; assumption) | exact Below.drew (by assumption) | ((repeat' (first | (with_reducible exact Below.refl _ _) | (with_reducible assumption) | (with_reducible refine below_step (by assumption) ?_) | (with_reducible refine below_alloc ?_ _) | (with_reducible refine Below.drew ?_) | (with_reducible refine below_drewN ?_ _) | (with_reducible refine Below.setCell ?_ ?_ _) | go_size)); done) | (refine box_cell (W := w2) ?_ caaF_0; (repeat' (first | (with_reducible exact Below.refl _ _) | (with_reducible assumption) | (with_reducible refine below_step (by assumption) ?_) | (with_reducible refine below_alloc ?_ _) | (with_reducible refine Below.drew ?_) | (with_reducible refine below_drewN ?_ _) | (with_reducible refine Below.setCell ?_ ?_ _) | go_size)); done) | (refine box_cell (W := w2) ?_ caaF_1; (repeat' (first | (with_reducible exact Below.refl _ _) | (with_reducible assumption) | (with_reducible refine below_step (by assumption) ?_) | (with_reducible refine below_alloc ?_ _) | (with_reducible refine Below.drew ?_) | (with_reducible refine below_drewN ?_ _) | (with_reducible refine Below.setCell ?_ ?_ _) | go_size)); done) | (refine box_cell (W := w2) ?_ caaF_2; (repeat' (first | (with_reducible exact Below.refl _ _) | (with_reducible assumption) | (with_reducible refine below_step (by assumption) ?_) | (with_reducible refine below_alloc ?_ _) | (with_reducible refine Below.drew ?_) | (with_reducible refine below_drewN ?_ _) | (with_reducible refine Below.setCell ?_ ?_ _) | go_size)); done)))
      (first
        | (go_at_call 10; go_split_ands; refine (toEntryS_at _ _ _ _ xs hnxs HXxs.out _ (QAxs.out.keepB (by assumption))).mono ?_; rintro e1 wA1 ⟨vA1, rfl, fA1, bA1⟩; have HTaList := Lib.hid fA1; clear fA1; have BW1 : Below w2.heap.size w2 wA1 := below_step bA1 (show Below w2.heap.size w2 _ by assumption); have hzz1 := BW1.size; (try (have hlx1 : w2.heap.size < wA1.heap.size := (by have hq := bA1.size; simp at hq; omega))))
        | (go_at_call 21; refine (toFold_any _ _ _ _).mono ?_; rintro e1 wA2 ⟨rfl, bA2⟩; have bC2 : Below wA1.heap.size wA1 wA2 := (by first | exact bA2 | exact below_step bA2 (below_alloc (Below.refl _ _) _)); have HTaList := Lib.hid (HTaList.out.keepB bC2); have BW2 : Below w2.heap.size w2 wA2 := below_step bC2 BW1; have hzz2 := BW2.size; (try (have hlx2 : wA1.heap.size < wA2.heap.size := (by have hq := bA2.size; simp at hq; omega))))
        | (go_at_call 20; refine (specFoldStr_as _ _ _ xs s (f0, f1, f2) d0 d1 d2 k1 _ HRS.out HSTxs.out hns _hf0 hf2 _ (HTaList.out.keepB (by first | exact Below.refl _ _ | exact below_alloc (Below.refl _ _) _))).mono ?_; rintro e1 w3 ⟨rfl, b3⟩; have BW3 : Below w2.heap.size w2 w3 := (by first | exact below_step b3 BW2 | exact below_step b3 (below_alloc BW2 _)); (try (have hlx3 : wA2.heap.size < w3.heap.size := (by have hq := b3.size; simp at hq; omega))); (try (have hRz : RowIs w3 wA2.heap.size 42 [.int .i64 0, .int .i64 0, .string ⟨#[]⟩] := (RowIs.below (by exact RowIs.new wA2 #[.int .i64 0, .int .i64 0, .string ⟨#[]⟩] 42) b3); have yc2_0 := hRz.cell (j := 0) rfl; have yf2_0 := hRz.frozen 0; have yc2_1 := hRz.cell (j := 1) rfl; have yf2_1 := hRz.frozen 1; have yc2_2 := hRz.cell (j := 2) rfl; have yf2_2 := hRz.frozen 2; have ylt2 := hRz.lt; clear hRz)); (try (have hRz : RowIs w3 wA1.heap.size 42 [.int .i64 0, .int .i64 0, .string ⟨#[]⟩] := ((RowIs.below (by exact RowIs.new wA1 #[.int .i64 0, .int .i64 0, .string ⟨#[]⟩] 42) bA2).below b3); have yc1_0 := hRz.cell (j := 0) rfl; have yf1_0 := hRz.frozen 0; have yc1_1 := hRz.cell (j := 1) rfl; have yf1_1 := hRz.frozen 1; have yc1_2 := hRz.cell (j := 2) rfl; have yf1_2 := hRz.frozen 2; have ylt1 := hRz.lt; clear hRz)); (try (have hRz : RowIs w3 w2.heap.size 42 [.int .i64 0, .int .i64 0, .string ⟨#[]⟩] := (((RowIs.below (by exact RowIs.new w2 #[.int .i64 0, .int .i64 0, .string ⟨#[]⟩] 42) bA1).below bA2).below b3); have yc0_0 := hRz.cell (j := 0) rfl; have yf0_0 := hRz.frozen 0; have yc0_1 := hRz.cell (j := 1) rfl; have yf0_1 := hRz.frozen 1; have yc0_2 := hRz.cell (j := 2) rfl; have yf0_2 := hRz.frozen 2; have ylt0 := hRz.lt; clear hRz))))
    all_goals
      have hzA1 := bA1.size
      have hzA2 := bA2.size
      have hzB := b3.size
      have hzW := BW3.size
      have hzC1 := BW1.size
      have hzC2 := BW2.size
      go_wp2
      go_meet
      case rel =>
        first
          | exact ⟨_, _, rfl, rfl, rfl, rfl, by go_cell, by go_cell, by go_cell, below_alloc BW3 _⟩
          | (have hR : RowIs w3 wA2.heap.size 42 [.int .i64 0, .int .i64 0, .string ⟨#[]⟩] := (RowIs.below (by exact RowIs.new wA2 #[.int .i64 0, .int .i64 0, .string ⟨#[]⟩] 42) b3)
             exact ⟨_, _, rfl, rfl, rfl, rfl, (((hR.set 0 _).set 1 _).set 2 _).cell (j := 0) rfl, (((hR.set 0 _).set 1 _).set 2 _).cell (j := 1) rfl, (((hR.set 0 _).set 1 _).set 2 _).cell (j := 2) rfl, (((BW3.setCell (by show w2.heap.size ≤ wA2.heap.size; omega) _).setCell (by show w2.heap.size ≤ wA2.heap.size; omega) _).setCell (by show w2.heap.size ≤ wA2.heap.size; omega) _)⟩)
          | (have hR : RowIs w3 wA1.heap.size 42 [.int .i64 0, .int .i64 0, .string ⟨#[]⟩] := ((RowIs.below (by exact RowIs.new wA1 #[.int .i64 0, .int .i64 0, .string ⟨#[]⟩] 42) bA2).below b3)
             exact ⟨_, _, rfl, rfl, rfl, rfl, (((hR.set 0 _).set 1 _).set 2 _).cell (j := 0) rfl, (((hR.set 0 _).set 1 _).set 2 _).cell (j := 1) rfl, (((hR.set 0 _).set 1 _).set 2 _).cell (j := 2) rfl, (((BW3.setCell (by show w2.heap.size ≤ wA1.heap.size; omega) _).setCell (by show w2.heap.size ≤ wA1.heap.size; omega) _).setCell (by show w2.heap.size ≤ wA1.heap.size; omega) _)⟩)
          | (have hR : RowIs w3 w2.heap.size 42 [.int .i64 0, .int .i64 0, .string ⟨#[]⟩] := (((RowIs.below (by exact RowIs.new w2 #[.int .i64 0, .int .i64 0, .string ⟨#[]⟩] 42) bA1).below bA2).below b3)
             exact ⟨_, _, rfl, rfl, rfl, rfl, (((hR.set 0 _).set 1 _).set 2 _).cell (j := 0) rfl, (((hR.set 0 _).set 1 _).set 2 _).cell (j := 1) rfl, (((hR.set 0 _).set 1 _).set 2 _).cell (j := 2) rfl, (((BW3.setCell (by show w2.heap.size ≤ w2.heap.size; omega) _).setCell (by show w2.heap.size ≤ w2.heap.size; omega) _).setCell (by show w2.heap.size ≤ w2.heap.size; omega) _)⟩)
  case rest =>
    obtain ⟨bx3, w3, rfl, rfl, rfl, rfl, cx3_0, cx3_1, cx3_2, b3⟩ := hcut
    have caaF_0 := box_cell b3 caaF_0
    have caaF_1 := box_cell b3 caaF_1
    have caaF_2 := box_cell b3 caaF_2
    have ltcaaF : w.heap.size < w3.heap.size := World.block_lt_of_cell? w3 _ caaF_0
    have HB := below_step b3 HB
    have zz3 := b3.size
    replace QAxs := Lib.hid (QAxs.out.keepB b3)
    have cbw0_0 := cx3_0
    have cbw0_1 := cx3_1
    have cbw0_2 := cx3_2
    have ltcbw0 : bx3 < w3.heap.size := World.block_lt_of_cell? w3 _ cbw0_0
    go_wp2_with fail
    refine (toEntryS_at _ _ _ _ xs hnxs HXxs.out _ (QAxs.out)).mono ?_
    rintro e1 w4 ⟨v4, rfl, f4, b4⟩
    have caaF_0 := box_cell b4 caaF_0
    have caaF_1 := box_cell b4 caaF_1
    have caaF_2 := box_cell b4 caaF_2
    have cbw0_0 := box_cell b4 cbw0_0
    have cbw0_1 := box_cell b4 cbw0_1
    have cbw0_2 := box_cell b4 cbw0_2
    have ltcaaF : w.heap.size < w4.heap.size := World.block_lt_of_cell? w4 _ caaF_0
    have ltcbw0 : bx3 < w4.heap.size := World.block_lt_of_cell? w4 _ cbw0_0
    have HB := below_step b4 HB
    have zz4 := b4.size
    replace QAxs := Lib.hid (QAxs.out.keepB b4)
    have Xx0 := Lib.hid f4
    clear f4
    go_wp2_with fail
    refine (toFold_any _ _ _ _).mono ?_
    rintro e1 w5 ⟨rfl, b5⟩
    have caaF_0 := box_cell b5 caaF_0
    have caaF_1 := box_cell b5 caaF_1
    have caaF_2 := box_cell b5 caaF_2
    have cbw0_0 := box_cell b5 cbw0_0
    have cbw0_1 := box_cell b5 cbw0_1
    have cbw0_2 := box_cell b5 cbw0_2
    have ltcaaF : w.heap.size < w5.heap.size := World.block_lt_of_cell? w5 _ caaF_0
    have ltcbw0 : bx3 < w5.heap.size := World.block_lt_of_cell? w5 _ cbw0_0
    have HB := below_step b5 HB
    have zz5 := b5.size
    replace QAxs := Lib.hid (QAxs.out.keepB b5)
    replace Xx0 := Lib.hid (Xx0.out.keepB b5)
    go_wp2_with fail
    refine (implFoldStr_as _ _ _ xs s (f0, f1, f2) d0 d1 d2 k1 _ HRS.out HSTxs.out hns _hf0 hf2 _ aS (hS.below HB (Nat.le_refl _)) (hM.below HB) (Xx0.out)).mono ?_
    rintro e1 w6 ⟨rfl, b6⟩
    have caaF_0 := box_cell b6 caaF_0
    have caaF_1 := box_cell b6 caaF_1
    have caaF_2 := box_cell b6 caaF_2
    have cbw0_0 := box_cell b6 cbw0_0
    have cbw0_1 := box_cell b6 cbw0_1
    have cbw0_2 := box_cell b6 cbw0_2
    have ltcaaF : w.heap.size < w6.heap.size := World.block_lt_of_cell? w6 _ caaF_0
    have ltcbw0 : bx3 < w6.heap.size := World.block_lt_of_cell? w6 _ cbw0_0
    have HB := below_step b6 HB
    have zz6 := b6.size
    replace QAxs := Lib.hid (QAxs.out.keepB b6)
    replace Xx0 := Lib.hid (Xx0.out.keepB b6)
    go_wp2_with fail
    refine (eqFold_any (d0, d1, d2) (d0, d1, d2) _).mono ?_
    rintro e1 w7 ⟨rfl, b7⟩
    rw [dec_self]
    have hs7 := b7.size
    simp only [World.size_alloc] at hs7
    have cbg0_0 := box_cell b7 (b := w6.heap.size) (o := 0) (u := .int .i64 (d0)) (by go_cell)
    have cbg0_1 := box_cell b7 (b := w6.heap.size) (o := 1) (u := .int .i64 (d1)) (by go_cell)
    have cbg0_2 := box_cell b7 (b := w6.heap.size) (o := 2) (u := .string (d2)) (by go_cell)
    have b7 := below_step b7 (below_alloc (Below.refl _ _) _)
    have caaF_0 := box_cell b7 caaF_0
    have caaF_1 := box_cell b7 caaF_1
    have caaF_2 := box_cell b7 caaF_2
    have cbw0_0 := box_cell b7 cbw0_0
    have cbw0_1 := box_cell b7 cbw0_1
    have cbw0_2 := box_cell b7 cbw0_2
    have ltcaaF : w.heap.size < w7.heap.size := World.block_lt_of_cell? w7 _ caaF_0
    have ltcbw0 : bx3 < w7.heap.size := World.block_lt_of_cell? w7 _ cbw0_0
    have ltcbg0 : w6.heap.size < w7.heap.size := World.block_lt_of_cell? w7 _ cbg0_0
    have HB := below_step b7 HB
    have zz7 := b7.size
    replace QAxs := Lib.hid (QAxs.out.keepB b7)
    replace Xx0 := Lib.hid (Xx0.out.keepB b7)
    go_wp2_with fail
    refine (toEntryS_at _ _ _ _ xs hnxs HXxs.out _ (QAxs.out)).mono ?_
    rintro e1 w8 ⟨v8, rfl, f8, b8⟩
    have caaF_0 := box_cell b8 caaF_0
    have caaF_1 := box_cell b8 caaF_1
    have caaF_2 := box_cell b8 caaF_2
    have cbw0_0 := box_cell b8 cbw0_0
    have cbw0_1 := box_cell b8 cbw0_1
    have cbw0_2 := box_cell b8 cbw0_2
    have cbg0_0 := box_cell b8 cbg0_0
    have cbg0_1 := box_cell b8 cbg0_1
    have cbg0_2 := box_cell b8 cbg0_2
    have ltcaaF : w.heap.size < w8.heap.size := World.block_lt_of_cell? w8 _ caaF_0
    have ltcbw0 : bx3 < w8.heap.size := World.block_lt_of_cell? w8 _ cbw0_0
    have ltcbg0 : w6.heap.size < w8.heap.size := World.block_lt_of_cell? w8 _ cbg0_0
    have HB := below_step b8 HB
    have zz8 := b8.size
    replace QAxs := Lib.hid (QAxs.out.keepB b8)
    replace Xx0 := Lib.hid (Xx0.out.keepB b8)
    have TE := Lib.hid f8
    clear f8
    go_wp2_with fail
    refine (eqEntryS_at _ _ _ _ _ _ _ _ _ (Xx0.out) (TE.out)).mono ?_
    rintro e1 w9 ⟨rfl, b9⟩
    rw [dec_self]
    have caaF_0 := box_cell b9 caaF_0
    have caaF_1 := box_cell b9 caaF_1
    have caaF_2 := box_cell b9 caaF_2
    have cbw0_0 := box_cell b9 cbw0_0
    have cbw0_1 := box_cell b9 cbw0_1
    have cbw0_2 := box_cell b9 cbw0_2
    have cbg0_0 := box_cell b9 cbg0_0
    have cbg0_1 := box_cell b9 cbg0_1
    have cbg0_2 := box_cell b9 cbg0_2
    have ltcaaF : w.heap.size < w9.heap.size := World.block_lt_of_cell? w9 _ caaF_0
    have ltcbw0 : bx3 < w9.heap.size := World.block_lt_of_cell? w9 _ cbw0_0
    have ltcbg0 : w6.heap.size < w9.heap.size := World.block_lt_of_cell? w9 _ cbg0_0
    have HB := below_step b9 HB
    have zz9 := b9.size
    replace QAxs := Lib.hid (QAxs.out.keepB b9)
    replace Xx0 := Lib.hid (Xx0.out.keepB b9)
    replace TE := Lib.hid (TE.out.keepB b9)
    clear TE
    go_wp2
    go_ret
    exact ⟨rfl, HB⟩



set_option maxRecDepth 100000 in
theorem opened {H : Type} {enc : TypeId × Value → H} (W : World) (base : Nat) (args : Array Value) (ds : List (DataW H)) (ps : List MemPlace)
    (hval : ∀ (j : Nat) t v, (#[22, 9, 40] : Array TypeId)[j]? = some t → args[j]? = some v → Value.okWide Tryd.prog W .any base t v)
    (hA : DataW.TrodAll enc Tryd.prog W 0 (fun _ => true) true [22, 9, 40] args.toList ds ps) (hL : (∃ a, Sent a W) ∧ MaxL W) :
    Calls Tryd.prog 5 args W fun e W' => e = .returned (.bool true) ∧ Below W.heap.size W W' := by
  obtain ⟨v0, vs0, d0, ds0, p0, q0, hargs, rfl, rfl, h0, r0⟩ := trodAll_cons hA
  obtain ⟨v1, vs1, d1, ds1, p1, q1, rfl, rfl, rfl, h1, r1⟩ := trodAll_cons r0
  obtain ⟨v2, vs2, d2, ds2, p2, q2, rfl, rfl, rfl, h2, r2⟩ := trodAll_cons r1
  obtain ⟨rfl, rfl, rfl⟩ := trodAll_nil r2
  obtain rfl : args = #[v0, v1, v2] := by cases args; simp_all
  obtain ⟨A0, n0, k0, xs0, rfl, nc0, cm0, xl0, xL0, xo0⟩ := open_rows (ks := [1, 0, 1, 0]) entryCells entryOk (entryDec W) Tryd.underlying22 (by kernel_rfl) (by kernel_rfl) (by decide) (fun _ => rfl) (hval 0 22 v0 rfl rfl) h0
  obtain ⟨a1, rfl, rfl, rfl, w1⟩ := Go.ChangeMaps.open_string Tryd.underlying9 (hval 1 9 v1 rfl rfl) h1
  obtain ⟨cs2, rfl, hc2⟩ := open_cells (ks := [0, 0, 1]) Tryd.underlying40 (by kernel_rfl) (hval 2 40 v2 rfl rfl) h2
  obtain ⟨c2_0, c2_1, c2_2, rfl⟩ : ∃ c2_0 c2_1 c2_2 : Value, cs2 = [c2_0, c2_1, c2_2] := by
    have hl := hc2.length
    match cs2, hl with
    | [c2_0, c2_1, c2_2], _ => exact ⟨_, _, _, rfl⟩
  obtain ⟨⟨x2_0, rfl, o2_0⟩, ⟨x2_1, rfl, o2_1⟩, ⟨x2_2, rfl, o2_2⟩, _⟩ := hc2
  exact walk W A0 n0 k0 xs0 nc0 cm0 xl0 xL0 xo0 a1 w1 x2_0 o2_0 x2_1 o2_1 x2_2 o2_2 hL
end Go.Proofs.YtcccidlfigfibaaDoor.lawFoldStream
