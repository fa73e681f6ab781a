/-
  FnExactSubTake returns true at every input: the program's SubTake is the reference's, leaves its arguments as they were, and its result is its own. No condition.
-/
import Derived.Test.YtcccidlfigfibaaDoorSubTA
import Derived.Test.YtcccidlfigfibaaDoorKEntry
import Derived.Test.YtcccidlfigfibaaDoorESub
import Derived.Deep.Cut
namespace Go.Proofs.YtcccidlfigfibaaDoor.lawSubTake
open Go.ChangeShapes Go.WideShapes Go.ChangeAt Go.RowKit

set_option maxRecDepth 8000 in
set_option maxHeartbeats 6400000 in
theorem walk (w : World) (Axs : Option Addr) (nxs cxs : Nat) (xs : List (ByteArray × Int × ByteArray × Int)) (hncxs : nxs ≤ cxs) (hcmxs : cxs ≤ maxLen) (hxxs : xs.length = nxs) (hLxs : Lies w 4 Axs nxs (xs.flatMap entryCells)) (hoxs : ∀ x ∈ xs, entryOk x) (c0 : ByteArray) (hc0 : StrOk c0) (p0 : Int) (_hp0 : IntOk p0) (mm : Int) (_hmm : IntOk mm) (hQ : (∃ a, Sent a w) ∧ MaxL w) :
    Calls Tryd.prog 4 #[.slice Axs nxs cxs, .agg #[.string c0, .int .i64 p0], .int .i64 mm] w fun e w' => e = .returned (.bool true) ∧ Below w.heap.size w w' := by
  obtain ⟨⟨aS, hS⟩, hM⟩ := hQ
  have hmxs : nxs ≤ maxLen := Nat.le_trans hncxs hcmxs
  have HXxs := Lib.hid hxxs
  have HLxs := Lib.hid hLxs
  have HOxs := Lib.hid hoxs
  clear hxxs hLxs hoxs
  by_cases cs0 : szR (1048576) nxs (xs.flatMap entryTexts) < 0
  · have es := Lib.hid (szR_neg cs0)
    clear cs0
    have QAxs := Lib.hid (ArgAt.mk' HLxs.out)
    have HB : Below w.heap.size w w := Below.refl _ _
    go_enter Tryd.func4, Tryd.ntmps4
    go_wp2_with fail
    refine (szEntryS_any _ _ _ hmxs xs HXxs.out HOxs.out _ (by omega) (by omega) _ (QAxs.out.keepB (below_alloc (Below.refl _ _) _)).1).mono ?_
    rintro e1 w1 ⟨rfl, b1⟩
    rw [es.out]
    have hs1 := b1.size
    simp only [World.size_alloc] at hs1
    have caaS_0 := box_cell b1 (b := w.heap.size) (o := 0) (u := .string c0) (by go_cell)
    have caaS_1 := box_cell b1 (b := w.heap.size) (o := 1) (u := .int .i64 p0) (by go_cell)
    have b1 := below_step b1 (below_alloc (Below.refl _ _) _)
    have ltcaaS : w.heap.size < w1.heap.size := World.block_lt_of_cell? w1 _ caaS_0
    have HB := below_step b1 HB
    have zz1 := b1.size
    replace QAxs := Lib.hid (QAxs.out.keepB b1)
    go_wp2
    go_ret
    exact ⟨rfl, HB⟩
  have hnxs := szR_len_of (by omega) cs0
  obtain ⟨r0, hr0, hra0, hrb0⟩ := szR_pos (by omega) cs0
  have es0 := Lib.hid hr0
  clear hr0 cs0
  by_cases cs1 : (r0) < c0.size
  · have es := Lib.hid (show szN (r0) c0.size = -1 by unfold szN; rw [if_pos cs1])
    have QAxs := Lib.hid (ArgAt.mk' HLxs.out)
    have HB : Below w.heap.size w w := Below.refl _ _
    go_enter Tryd.func4, Tryd.ntmps4
    go_wp2_with fail
    refine (szEntryS_any _ _ _ hmxs xs HXxs.out HOxs.out _ (by omega) (by omega) _ (QAxs.out.keepB (below_alloc (Below.refl _ _) _)).1).mono ?_
    rintro e1 w1 ⟨rfl, b1⟩
    rw [es0.out]
    have hs1 := b1.size
    simp only [World.size_alloc] at hs1
    have caaS_0 := box_cell b1 (b := w.heap.size) (o := 0) (u := .string c0) (by go_cell)
    have caaS_1 := box_cell b1 (b := w.heap.size) (o := 1) (u := .int .i64 p0) (by go_cell)
    have b1 := below_step b1 (below_alloc (Below.refl _ _) _)
    have ltcaaS : w.heap.size < w1.heap.size := World.block_lt_of_cell? w1 _ caaS_0
    have HB := below_step b1 HB
    have zz1 := b1.size
    replace QAxs := Lib.hid (QAxs.out.keepB b1)
    go_wp2_with fail
    refine (szSub_any _ _ _ (by omega) (by omega) hc0 _).mono ?_
    rintro e1 w2 ⟨rfl, b2⟩
    rw [es.out]
    have caaS_0 := box_cell b2 caaS_0
    have caaS_1 := box_cell b2 caaS_1
    have ltcaaS : w.heap.size < w2.heap.size := World.block_lt_of_cell? w2 _ caaS_0
    have HB := below_step b2 HB
    have zz2 := b2.size
    replace QAxs := Lib.hid (QAxs.out.keepB b2)
    go_wp2
    go_ret
    exact ⟨rfl, HB⟩
  have es1 := Lib.hid (show szN (r0) c0.size = r0 - c0.size by unfold szN; rw [if_neg cs1])
  have HSTxs := Lib.hid (show StOk xs from ⟨enS_ok (left := 1048576) (by omega) (by rw [es0.out]; exact hra0), enE_ok HOxs.out⟩)
  obtain ⟨cc, hcc⟩ : ∃ cc, subCat xs c0 p0 mm = cc := ⟨_, rfl⟩
  obtain ⟨pp, hpp⟩ : ∃ pp, subAt xs c0 p0 mm = pp := ⟨_, rfl⟩
  obtain ⟨bb, hbb⟩ : ∃ bb, subTakeB xs c0 p0 mm = bb := ⟨_, rfl⟩
  have HCC := Lib.hid hcc
  have HPP := Lib.hid hpp
  have HBB := Lib.hid hbb
  clear hcc hpp hbb
  have QAxs := Lib.hid (ArgAt.mk' HLxs.out)
  have HB : Below w.heap.size w w := Below.refl _ _
  go_enter Tryd.func4, Tryd.ntmps4
  go_wp2_with fail
  refine (szEntryS_any _ _ _ hmxs xs HXxs.out HOxs.out _ (by omega) (by omega) _ (QAxs.out.keepB (below_alloc (Below.refl _ _) _)).1).mono ?_
  rintro e1 w1 ⟨rfl, b1⟩
  rw [es0.out]
  have hs1 := b1.size
  simp only [World.size_alloc] at hs1
  have caaS_0 := box_cell b1 (b := w.heap.size) (o := 0) (u := .string c0) (by go_cell)
  have caaS_1 := box_cell b1 (b := w.heap.size) (o := 1) (u := .int .i64 p0) (by go_cell)
  have b1 := below_step b1 (below_alloc (Below.refl _ _) _)
  have ltcaaS : w.heap.size < w1.heap.size := World.block_lt_of_cell? w1 _ caaS_0
  have HB := below_step b1 HB
  have zz1 := b1.size
  replace QAxs := Lib.hid (QAxs.out.keepB b1)
  go_wp2_with fail
  refine (szSub_any _ _ _ (by omega) (by omega) hc0 _).mono ?_
  rintro e1 w2 ⟨rfl, b2⟩
  rw [es1.out]
  have caaS_0 := box_cell b2 caaS_0
  have caaS_1 := box_cell b2 caaS_1
  have ltcaaS : w.heap.size < w2.heap.size := World.block_lt_of_cell? w2 _ caaS_0
  have HB := below_step b2 HB
  have zz2 := b2.size
  replace QAxs := Lib.hid (QAxs.out.keepB b2)
  have BR := Below.refl w2.heap.size w2
  go_upto_region 8 with (fail)
  go_cut [8, 9, 10] from 11 (fun u0 u1 u2 wr => ∃ (bx : Nat) (wz : World) (vS0 : Value), wz = wr ∧ u0 = vS0 ∧ u1 = .pointer (some ⟨bx, 0, none⟩) ∧ u2 = .bool bb ∧ wr.cell? ⟨bx, 0, none⟩ = some (.string (cc)) ∧ wr.cell? ⟨bx, 1, none⟩ = some (.int .i64 (pp)) ∧ entrySAt wr w2.heap.size wr.heap.size vS0 (subTook xs c0 p0 mm) ∧ Below w2.heap.size w2 wr)
  case first =>
    go_region_held3 (fun wx => wx.cell? ⟨w.heap.size, 0, none⟩ = some (.string c0) ∧ wx.cell? ⟨w.heap.size, 1, none⟩ = some (.int .i64 p0) ∧ Below w2.heap.size w2 wx) ((go_split_ands; refine ⟨?_, ?_, ?_⟩ <;> first | assumption | (refine box_cell (by assumption) ?_; assumption) | (refine below_step (by assumption) ?_; assumption) | exact Below.drew (by assumption) | ((repeat' (first | (with_reducible exact Below.refl _ _) | (with_reducible assumption) | (with_reducible refine below_step (by assumption) ?_) | (with_reducible refine below_alloc ?_ _) | (with_reducible refine Below.drew ?_) | (with_reducible refine below_drewN ?_ _) | (with_reducible refine Below.setCell ?_ ?_ _) | go_size)); done) | (refine box_cell (W := w2) ?_ caaS_0; (repeat' (first | (with_reducible exact Below.refl _ _) | (with_reducible assumption) | (with_reducible refine below_step (by assumption) ?_) | (with_reducible refine below_alloc ?_ _) | (with_reducible refine Below.drew ?_) | (with_reducible refine below_drewN ?_ _) | (with_reducible refine Below.setCell ?_ ?_ _) | go_size)); done) | (refine box_cell (W := w2) ?_ caaS_1; (repeat' (first | (with_reducible exact Below.refl _ _) | (with_reducible assumption) | (with_reducible refine below_step (by assumption) ?_) | (with_reducible refine below_alloc ?_ _) | (with_reducible refine Below.drew ?_) | (with_reducible refine below_drewN ?_ _) | (with_reducible refine Below.setCell ?_ ?_ _) | go_size)); done)))
      (first
        | (go_at_call 10; go_split_ands; refine (toEntryS_at _ _ _ _ xs hnxs HXxs.out _ (QAxs.out.keepB (by assumption))).mono ?_; rintro e1 wA1 ⟨vA1, rfl, fA1, bA1⟩; have HTaList := Lib.hid fA1; clear fA1; have BW1 : Below w2.heap.size w2 wA1 := below_step bA1 (show Below w2.heap.size w2 _ by assumption); have hzz1 := BW1.size; (try (have hlx1 : w2.heap.size < wA1.heap.size := (by have hq := bA1.size; simp at hq; omega))))
        | (go_at_call 11; refine (toSub_any _ _ _).mono ?_; rintro e1 wA2 ⟨rfl, bA2⟩; have bC2 : Below wA1.heap.size wA1 wA2 := (by first | exact bA2 | exact below_step bA2 (below_alloc (Below.refl _ _) _)); have HTaList := Lib.hid (HTaList.out.keepB bC2); have BW2 : Below w2.heap.size w2 wA2 := below_step bC2 BW1; have hzz2 := BW2.size; (try (have hlx2 : wA1.heap.size < wA2.heap.size := (by have hq := bA2.size; simp at hq; omega))))
        | (go_at_call 14; refine (specTake0_as _ _ _ xs c0 p0 mm cc pp bb HCC.out HPP.out HBB.out HSTxs.out hc0 _ (HTaList.out.keepB (by first | exact Below.refl _ _ | exact below_alloc (Below.refl _ _) _))).mono ?_; rintro e1 w3 ⟨v3_0, rfl, f3_0, b3⟩; have BW3 : Below w2.heap.size w2 w3 := (by first | exact below_step b3 BW2 | exact below_step b3 (below_alloc BW2 _)); (try (have hlx3 : wA2.heap.size < w3.heap.size := (by have hq := b3.size; simp at hq; omega))); (try (have hRz : RowIs w3 wA2.heap.size 30 [.string ⟨#[]⟩, .int .i64 0] := (RowIs.below (by exact RowIs.new wA2 #[.string ⟨#[]⟩, .int .i64 0] 30) b3); have yc2_0 := hRz.cell (j := 0) rfl; have yf2_0 := hRz.frozen 0; have yc2_1 := hRz.cell (j := 1) rfl; have yf2_1 := hRz.frozen 1; have ylt2 := hRz.lt; clear hRz)); (try (have hRz : RowIs w3 wA1.heap.size 30 [.string ⟨#[]⟩, .int .i64 0] := ((RowIs.below (by exact RowIs.new wA1 #[.string ⟨#[]⟩, .int .i64 0] 30) bA2).below b3); have yc1_0 := hRz.cell (j := 0) rfl; have yf1_0 := hRz.frozen 0; have yc1_1 := hRz.cell (j := 1) rfl; have yf1_1 := hRz.frozen 1; have ylt1 := hRz.lt; clear hRz)); (try (have hRz : RowIs w3 w2.heap.size 30 [.string ⟨#[]⟩, .int .i64 0] := (((RowIs.below (by exact RowIs.new w2 #[.string ⟨#[]⟩, .int .i64 0] 30) bA1).below bA2).below b3); have yc0_0 := hRz.cell (j := 0) rfl; have yf0_0 := hRz.frozen 0; have yc0_1 := hRz.cell (j := 1) rfl; have yf0_1 := hRz.frozen 1; have ylt0 := hRz.lt; clear hRz))))
    all_goals
      have hzA1 := bA1.size
      have hzA2 := bA2.size
      have hzB := b3.size
      have hzW := BW3.size
      have hzC1 := BW1.size
      have hzC2 := BW2.size
      go_wp2
      go_meet
      case rel =>
        first
          | exact ⟨_, _, v3_0, rfl, rfl, rfl, rfl, by go_cell, by go_cell, (f3_0.keepB (below_alloc (Below.refl _ _) _)).wide (by first | omega | (simp; omega)) (by simp) (Nat.le_refl _), below_alloc BW3 _⟩
          | (have hR : RowIs w3 wA2.heap.size 30 [.string ⟨#[]⟩, .int .i64 0] := (RowIs.below (by exact RowIs.new wA2 #[.string ⟨#[]⟩, .int .i64 0] 30) b3)
             exact ⟨_, _, v3_0, rfl, rfl, rfl, rfl, ((hR.set 0 _).set 1 _).cell (j := 0) rfl, ((hR.set 0 _).set 1 _).cell (j := 1) rfl, ((f3_0.other hR (by decide) 0 _).other (hR.set 0 _) (by decide) 1 _).wide (by first | omega | (simp; omega)) (by simp) (Nat.le_refl _), ((BW3.setCell (by show w2.heap.size ≤ wA2.heap.size; omega) _).setCell (by show w2.heap.size ≤ wA2.heap.size; omega) _)⟩)
          | (have hR : RowIs w3 wA1.heap.size 30 [.string ⟨#[]⟩, .int .i64 0] := ((RowIs.below (by exact RowIs.new wA1 #[.string ⟨#[]⟩, .int .i64 0] 30) bA2).below b3)
             exact ⟨_, _, v3_0, rfl, rfl, rfl, rfl, ((hR.set 0 _).set 1 _).cell (j := 0) rfl, ((hR.set 0 _).set 1 _).cell (j := 1) rfl, ((f3_0.other hR (by decide) 0 _).other (hR.set 0 _) (by decide) 1 _).wide (by first | omega | (simp; omega)) (by simp) (Nat.le_refl _), ((BW3.setCell (by show w2.heap.size ≤ wA1.heap.size; omega) _).setCell (by show w2.heap.size ≤ wA1.heap.size; omega) _)⟩)
          | (have hR : RowIs w3 w2.heap.size 30 [.string ⟨#[]⟩, .int .i64 0] := (((RowIs.below (by exact RowIs.new w2 #[.string ⟨#[]⟩, .int .i64 0] 30) bA1).below bA2).below b3)
             exact ⟨_, _, v3_0, rfl, rfl, rfl, rfl, ((hR.set 0 _).set 1 _).cell (j := 0) rfl, ((hR.set 0 _).set 1 _).cell (j := 1) rfl, ((f3_0.other hR (by decide) 0 _).other (hR.set 0 _) (by decide) 1 _).wide (by first | omega | (simp; omega)) (by simp) (Nat.le_refl _), ((BW3.setCell (by show w2.heap.size ≤ w2.heap.size; omega) _).setCell (by show w2.heap.size ≤ w2.heap.size; omega) _)⟩)
  case rest =>
    obtain ⟨bx3, w3, v3_0, rfl, rfl, rfl, rfl, cx3_0, cx3_1, f3_0, b3⟩ := hcut
    have caaS_0 := box_cell b3 caaS_0
    have caaS_1 := box_cell b3 caaS_1
    have ltcaaS : w.heap.size < w3.heap.size := World.block_lt_of_cell? w3 _ caaS_0
    have HB := below_step b3 HB
    have zz3 := b3.size
    replace QAxs := Lib.hid (QAxs.out.keepB b3)
    have Rw0 := Lib.hid f3_0
    clear f3_0
    have cbw1_0 := cx3_0
    have cbw1_1 := cx3_1
    have ltcbw1 : bx3 < w3.heap.size := World.block_lt_of_cell? w3 _ cbw1_0
    go_wp2_with fail
    refine (toEntryS_at _ _ _ _ xs hnxs HXxs.out _ (QAxs.out)).mono ?_
    rintro e1 w4 ⟨v4, rfl, f4, b4⟩
    have caaS_0 := box_cell b4 caaS_0
    have caaS_1 := box_cell b4 caaS_1
    have cbw1_0 := box_cell b4 cbw1_0
    have cbw1_1 := box_cell b4 cbw1_1
    have ltcaaS : w.heap.size < w4.heap.size := World.block_lt_of_cell? w4 _ caaS_0
    have ltcbw1 : bx3 < w4.heap.size := World.block_lt_of_cell? w4 _ cbw1_0
    have HB := below_step b4 HB
    have zz4 := b4.size
    replace QAxs := Lib.hid (QAxs.out.keepB b4)
    replace Rw0 := Lib.hid (Rw0.out.keepB b4)
    have Xx0 := Lib.hid f4
    clear f4
    go_wp2_with fail
    refine (toSub_any _ _ _).mono ?_
    rintro e1 w5 ⟨rfl, b5⟩
    have caaS_0 := box_cell b5 caaS_0
    have caaS_1 := box_cell b5 caaS_1
    have cbw1_0 := box_cell b5 cbw1_0
    have cbw1_1 := box_cell b5 cbw1_1
    have ltcaaS : w.heap.size < w5.heap.size := World.block_lt_of_cell? w5 _ caaS_0
    have ltcbw1 : bx3 < w5.heap.size := World.block_lt_of_cell? w5 _ cbw1_0
    have HB := below_step b5 HB
    have zz5 := b5.size
    replace QAxs := Lib.hid (QAxs.out.keepB b5)
    replace Rw0 := Lib.hid (Rw0.out.keepB b5)
    replace Xx0 := Lib.hid (Xx0.out.keepB b5)
    go_wp2_with fail
    refine (implTake0_as _ _ _ xs c0 p0 mm cc pp bb HCC.out HPP.out HBB.out HSTxs.out hc0 _ aS (hS.below HB (Nat.le_refl _)) (hM.below HB) (Xx0.out)).mono ?_
    rintro e1 w6 ⟨v6_0, rfl, f6_0, b6⟩
    have caaS_0 := box_cell b6 caaS_0
    have caaS_1 := box_cell b6 caaS_1
    have cbw1_0 := box_cell b6 cbw1_0
    have cbw1_1 := box_cell b6 cbw1_1
    have ltcaaS : w.heap.size < w6.heap.size := World.block_lt_of_cell? w6 _ caaS_0
    have ltcbw1 : bx3 < w6.heap.size := World.block_lt_of_cell? w6 _ cbw1_0
    have HB := below_step b6 HB
    have zz6 := b6.size
    replace QAxs := Lib.hid (QAxs.out.keepB b6)
    replace Rw0 := Lib.hid (Rw0.out.keepB b6)
    replace Xx0 := Lib.hid (Xx0.out.keepB b6)
    have Rg0 := Lib.hid f6_0
    clear f6_0
    go_wp2_with fail
    refine (eqEntryS_at _ _ _ _ _ _ _ _ _ (Rg0.out.keepB (below_alloc (Below.refl _ _) _)) (Rw0.out.keepB (below_alloc (Below.refl _ _) _))).mono ?_
    rintro e1 w7 ⟨rfl, b7⟩
    rw [dec_self]
    have hs7 := b7.size
    simp only [World.size_alloc] at hs7
    have cbg1_0 := box_cell b7 (b := w6.heap.size) (o := 0) (u := .string (cc)) (by go_cell)
    have cbg1_1 := box_cell b7 (b := w6.heap.size) (o := 1) (u := .int .i64 (pp)) (by go_cell)
    have b7 := below_step b7 (below_alloc (Below.refl _ _) _)
    have caaS_0 := box_cell b7 caaS_0
    have caaS_1 := box_cell b7 caaS_1
    have cbw1_0 := box_cell b7 cbw1_0
    have cbw1_1 := box_cell b7 cbw1_1
    have ltcaaS : w.heap.size < w7.heap.size := World.block_lt_of_cell? w7 _ caaS_0
    have ltcbw1 : bx3 < w7.heap.size := World.block_lt_of_cell? w7 _ cbw1_0
    have ltcbg1 : w6.heap.size < w7.heap.size := World.block_lt_of_cell? w7 _ cbg1_0
    have HB := below_step b7 HB
    have zz7 := b7.size
    replace QAxs := Lib.hid (QAxs.out.keepB b7)
    replace Rw0 := Lib.hid (Rw0.out.keepB b7)
    replace Xx0 := Lib.hid (Xx0.out.keepB b7)
    replace Rg0 := Lib.hid (Rg0.out.keepB b7)
    go_wp2_with fail
    refine (eqSub_any (cc, pp) (cc, pp) _).mono ?_
    rintro e1 w8 ⟨rfl, b8⟩
    rw [dec_self]
    have caaS_0 := box_cell b8 caaS_0
    have caaS_1 := box_cell b8 caaS_1
    have cbw1_0 := box_cell b8 cbw1_0
    have cbw1_1 := box_cell b8 cbw1_1
    have cbg1_0 := box_cell b8 cbg1_0
    have cbg1_1 := box_cell b8 cbg1_1
    have ltcaaS : w.heap.size < w8.heap.size := World.block_lt_of_cell? w8 _ caaS_0
    have ltcbw1 : bx3 < w8.heap.size := World.block_lt_of_cell? w8 _ cbw1_0
    have ltcbg1 : w6.heap.size < w8.heap.size := World.block_lt_of_cell? w8 _ cbg1_0
    have HB := below_step b8 HB
    have zz8 := b8.size
    replace QAxs := Lib.hid (QAxs.out.keepB b8)
    replace Rw0 := Lib.hid (Rw0.out.keepB b8)
    replace Xx0 := Lib.hid (Xx0.out.keepB b8)
    replace Rg0 := Lib.hid (Rg0.out.keepB b8)
    go_wp2_with fail
    refine (toEntryS_at _ _ _ _ xs hnxs HXxs.out _ (QAxs.out)).mono ?_
    rintro e1 w9 ⟨v9, rfl, f9, b9⟩
    have caaS_0 := box_cell b9 caaS_0
    have caaS_1 := box_cell b9 caaS_1
    have cbw1_0 := box_cell b9 cbw1_0
    have cbw1_1 := box_cell b9 cbw1_1
    have cbg1_0 := box_cell b9 cbg1_0
    have cbg1_1 := box_cell b9 cbg1_1
    have ltcaaS : w.heap.size < w9.heap.size := World.block_lt_of_cell? w9 _ caaS_0
    have ltcbw1 : bx3 < w9.heap.size := World.block_lt_of_cell? w9 _ cbw1_0
    have ltcbg1 : w6.heap.size < w9.heap.size := World.block_lt_of_cell? w9 _ cbg1_0
    have HB := below_step b9 HB
    have zz9 := b9.size
    replace QAxs := Lib.hid (QAxs.out.keepB b9)
    replace Rw0 := Lib.hid (Rw0.out.keepB b9)
    replace Xx0 := Lib.hid (Xx0.out.keepB b9)
    replace Rg0 := Lib.hid (Rg0.out.keepB b9)
    have TE := Lib.hid f9
    clear f9
    go_wp2_with fail
    refine (eqEntryS_at _ _ _ _ _ _ _ _ _ (Xx0.out) (TE.out)).mono ?_
    rintro e1 w10 ⟨rfl, b10⟩
    rw [dec_self]
    have caaS_0 := box_cell b10 caaS_0
    have caaS_1 := box_cell b10 caaS_1
    have cbw1_0 := box_cell b10 cbw1_0
    have cbw1_1 := box_cell b10 cbw1_1
    have cbg1_0 := box_cell b10 cbg1_0
    have cbg1_1 := box_cell b10 cbg1_1
    have ltcaaS : w.heap.size < w10.heap.size := World.block_lt_of_cell? w10 _ caaS_0
    have ltcbw1 : bx3 < w10.heap.size := World.block_lt_of_cell? w10 _ cbw1_0
    have ltcbg1 : w6.heap.size < w10.heap.size := World.block_lt_of_cell? w10 _ cbg1_0
    have HB := below_step b10 HB
    have zz10 := b10.size
    replace QAxs := Lib.hid (QAxs.out.keepB b10)
    replace Rw0 := Lib.hid (Rw0.out.keepB b10)
    replace Xx0 := Lib.hid (Xx0.out.keepB b10)
    replace Rg0 := Lib.hid (Rg0.out.keepB b10)
    replace TE := Lib.hid (TE.out.keepB b10)
    clear TE
    have hl10 := Xx0.out.1
    have LF := Xx0
    clear Xx0
    go_wp2_with fail
    refine (markEntryS_at _ _ _ _ _ _ (by omega) (by omega) LF.out.1 _ LF.out.2).mono ?_
    rintro e1 w11 ⟨rfl, _, b11⟩
    have caaS_0 := cell_keep b11 (by omega) caaS_0
    have caaS_1 := cell_keep b11 (by omega) caaS_1
    have ltcaaS : w.heap.size < w11.heap.size := World.block_lt_of_cell? w11 _ caaS_0
    have cbw1_0 := cell_keep b11 (by omega) cbw1_0
    have cbw1_1 := cell_keep b11 (by omega) cbw1_1
    have ltcbw1 : bx3 < w11.heap.size := World.block_lt_of_cell? w11 _ cbw1_0
    have cbg1_0 := cell_keep b11 (by omega) cbg1_0
    have cbg1_1 := cell_keep b11 (by omega) cbg1_1
    have ltcbg1 : w6.heap.size < w11.heap.size := World.block_lt_of_cell? w11 _ cbg1_0
    have zz11 := b11.size
    have HB := Within.below HB b11 (by omega) HB.size
    replace QAxs := Lib.hid (QAxs.out.keep b11 (by omega))
    replace Rw0 := Lib.hid (Rw0.out.keep b11 (by omega))
    replace Rg0 := Lib.hid (Rg0.out.keep b11 (by omega))
    clear LF
    go_wp2_with fail
    refine (eqEntryS_at _ _ _ _ _ _ _ _ _ (Rg0.out) (Rw0.out)).mono ?_
    rintro e1 w12 ⟨rfl, b12⟩
    rw [dec_self]
    have caaS_0 := box_cell b12 caaS_0
    have caaS_1 := box_cell b12 caaS_1
    have cbw1_0 := box_cell b12 cbw1_0
    have cbw1_1 := box_cell b12 cbw1_1
    have cbg1_0 := box_cell b12 cbg1_0
    have cbg1_1 := box_cell b12 cbg1_1
    have ltcaaS : w.heap.size < w12.heap.size := World.block_lt_of_cell? w12 _ caaS_0
    have ltcbw1 : bx3 < w12.heap.size := World.block_lt_of_cell? w12 _ cbw1_0
    have ltcbg1 : w6.heap.size < w12.heap.size := World.block_lt_of_cell? w12 _ cbg1_0
    have HB := below_step b12 HB
    have zz12 := b12.size
    replace QAxs := Lib.hid (QAxs.out.keepB b12)
    replace Rw0 := Lib.hid (Rw0.out.keepB b12)
    replace Rg0 := Lib.hid (Rg0.out.keepB b12)
    go_wp2_with fail
    refine (eqSub_any (cc, pp) (cc, pp) _).mono ?_
    rintro e1 w13 ⟨rfl, b13⟩
    rw [dec_self]
    have caaS_0 := box_cell b13 caaS_0
    have caaS_1 := box_cell b13 caaS_1
    have cbw1_0 := box_cell b13 cbw1_0
    have cbw1_1 := box_cell b13 cbw1_1
    have cbg1_0 := box_cell b13 cbg1_0
    have cbg1_1 := box_cell b13 cbg1_1
    have ltcaaS : w.heap.size < w13.heap.size := World.block_lt_of_cell? w13 _ caaS_0
    have ltcbw1 : bx3 < w13.heap.size := World.block_lt_of_cell? w13 _ cbw1_0
    have ltcbg1 : w6.heap.size < w13.heap.size := World.block_lt_of_cell? w13 _ cbg1_0
    have HB := below_step b13 HB
    have zz13 := b13.size
    replace QAxs := Lib.hid (QAxs.out.keepB b13)
    replace Rw0 := Lib.hid (Rw0.out.keepB b13)
    replace Rg0 := Lib.hid (Rg0.out.keepB b13)
    have hl13 := Rg0.out.1
    have LF := Rg0
    clear Rg0
    go_wp2_with fail
    refine (markEntryS_at _ _ _ _ _ _ (by omega) (by omega) LF.out.1 _ LF.out.2).mono ?_
    rintro e1 w14 ⟨rfl, f14, b14⟩
    have caaS_0 := cell_keep b14 (by omega) caaS_0
    have caaS_1 := cell_keep b14 (by omega) caaS_1
    have ltcaaS : w.heap.size < w14.heap.size := World.block_lt_of_cell? w14 _ caaS_0
    have cbw1_0 := cell_keep b14 (by omega) cbw1_0
    have cbw1_1 := cell_keep b14 (by omega) cbw1_1
    have ltcbw1 : bx3 < w14.heap.size := World.block_lt_of_cell? w14 _ cbw1_0
    have cbg1_0 := cell_keep b14 (by omega) cbg1_0
    have cbg1_1 := cell_keep b14 (by omega) cbg1_1
    have ltcbg1 : w6.heap.size < w14.heap.size := World.block_lt_of_cell? w14 _ cbg1_0
    have zz14 := b14.size
    have HB := Within.below HB b14 (by omega) HB.size
    replace QAxs := Lib.hid (QAxs.out.keep b14 (by omega))
    replace Rw0 := Lib.hid (Rw0.out.keep b14 (by omega))
    have Hg0 := Lib.hid f14
    clear f14
    clear LF
    go_wp2_with fail
    refine (heldEntryS_at _ _ _ _ _ (by omega) (by omega) _ (Hg0.out)).mono ?_
    rintro e1 w15 ⟨rfl, b15⟩
    have caaS_0 := box_cell b15 caaS_0
    have caaS_1 := box_cell b15 caaS_1
    have cbw1_0 := box_cell b15 cbw1_0
    have cbw1_1 := box_cell b15 cbw1_1
    have cbg1_0 := box_cell b15 cbg1_0
    have cbg1_1 := box_cell b15 cbg1_1
    have ltcaaS : w.heap.size < w15.heap.size := World.block_lt_of_cell? w15 _ caaS_0
    have ltcbw1 : bx3 < w15.heap.size := World.block_lt_of_cell? w15 _ cbw1_0
    have ltcbg1 : w6.heap.size < w15.heap.size := World.block_lt_of_cell? w15 _ cbg1_0
    have HB := below_step b15 HB
    have zz15 := b15.size
    replace QAxs := Lib.hid (QAxs.out.keepB b15)
    replace Rw0 := Lib.hid (Rw0.out.keepB b15)
    replace Hg0 := Lib.hid (Hg0.out.keepB b15)
    have BR := Below.refl w15.heap.size w15
    go_upto_region 27 with (fail)
    go_cut [18, 19, 20] from 21 (fun u0 u1 u2 wr => ∃ (bx : Nat) (wz : World) (vS0 : Value), wz = wr ∧ u0 = vS0 ∧ u1 = .pointer (some ⟨bx, 0, none⟩) ∧ u2 = .bool bb ∧ wr.cell? ⟨bx, 0, none⟩ = some (.string (cc)) ∧ wr.cell? ⟨bx, 1, none⟩ = some (.int .i64 (pp)) ∧ entrySAt wr w15.heap.size wr.heap.size vS0 (subTook xs c0 p0 mm) ∧ Below w15.heap.size w15 wr)
    case first =>
      go_region_held3 (fun wx => wx.cell? ⟨w.heap.size, 0, none⟩ = some (.string c0) ∧ wx.cell? ⟨w.heap.size, 1, none⟩ = some (.int .i64 p0) ∧ Below w15.heap.size w15 wx) ((go_split_ands; refine ⟨?_, ?_, ?_⟩ <;> first | assumption | (refine box_cell (by assumption) ?_; assumption) | (refine below_step (by assumption) ?_; assumption) | exact Below.drew (by assumption) | ((repeat' (first | (with_reducible exact Below.refl _ _) | (with_reducible assumption) | (with_reducible refine below_step (by assumption) ?_) | (with_reducible refine below_alloc ?_ _) | (with_reducible refine Below.drew ?_) | (with_reducible refine below_drewN ?_ _) | (with_reducible refine Below.setCell ?_ ?_ _) | go_size)); done) | (refine box_cell (W := w15) ?_ caaS_0; (repeat' (first | (with_reducible exact Below.refl _ _) | (with_reducible assumption) | (with_reducible refine below_step (by assumption) ?_) | (with_reducible refine below_alloc ?_ _) | (with_reducible refine Below.drew ?_) | (with_reducible refine below_drewN ?_ _) | (with_reducible refine Below.setCell ?_ ?_ _) | go_size)); done) | (refine box_cell (W := w15) ?_ caaS_1; (repeat' (first | (with_reducible exact Below.refl _ _) | (with_reducible assumption) | (with_reducible refine below_step (by assumption) ?_) | (with_reducible refine below_alloc ?_ _) | (with_reducible refine Below.drew ?_) | (with_reducible refine below_drewN ?_ _) | (with_reducible refine Below.setCell ?_ ?_ _) | go_size)); done)))
        (first
          | (go_at_call 10; go_split_ands; refine (toEntryS_at _ _ _ _ xs hnxs HXxs.out _ (QAxs.out.keepB (by assumption))).mono ?_; rintro e1 wA1 ⟨vA1, rfl, fA1, bA1⟩; have HTaList := Lib.hid fA1; clear fA1; have BW1 : Below w15.heap.size w15 wA1 := below_step bA1 (show Below w15.heap.size w15 _ by assumption); have hzz1 := BW1.size; (try (have hlx1 : w15.heap.size < wA1.heap.size := (by have hq := bA1.size; simp at hq; omega))))
          | (go_at_call 11; refine (toSub_any _ _ _).mono ?_; rintro e1 wA2 ⟨rfl, bA2⟩; have bC2 : Below wA1.heap.size wA1 wA2 := (by first | exact bA2 | exact below_step bA2 (below_alloc (Below.refl _ _) _)); have HTaList := Lib.hid (HTaList.out.keepB bC2); have BW2 : Below w15.heap.size w15 wA2 := below_step bC2 BW1; have hzz2 := BW2.size; (try (have hlx2 : wA1.heap.size < wA2.heap.size := (by have hq := bA2.size; simp at hq; omega))))
          | (go_at_call 15; refine (implTake0_as _ _ _ xs c0 p0 mm cc pp bb HCC.out HPP.out HBB.out HSTxs.out hc0 _ aS (hS.below (by first | exact below_step BW2 HB | exact below_alloc (below_step BW2 HB) _) (Nat.le_refl _)) (hM.below (by first | exact below_step BW2 HB | exact below_alloc (below_step BW2 HB) _)) (HTaList.out.keepB (by first | exact Below.refl _ _ | exact below_alloc (Below.refl _ _) _))).mono ?_; rintro e1 w16 ⟨v16_0, rfl, f16_0, b16⟩; have BW3 : Below w15.heap.size w15 w16 := (by first | exact below_step b16 BW2 | exact below_step b16 (below_alloc BW2 _)); (try (have hlx3 : wA2.heap.size < w16.heap.size := (by have hq := b16.size; simp at hq; omega))); (try (have hRz : RowIs w16 wA2.heap.size 30 [.string ⟨#[]⟩, .int .i64 0] := (RowIs.below (by exact RowIs.new wA2 #[.string ⟨#[]⟩, .int .i64 0] 30) b16); have yc2_0 := hRz.cell (j := 0) rfl; have yf2_0 := hRz.frozen 0; have yc2_1 := hRz.cell (j := 1) rfl; have yf2_1 := hRz.frozen 1; have ylt2 := hRz.lt; clear hRz)); (try (have hRz : RowIs w16 wA1.heap.size 30 [.string ⟨#[]⟩, .int .i64 0] := ((RowIs.below (by exact RowIs.new wA1 #[.string ⟨#[]⟩, .int .i64 0] 30) bA2).below b16); have yc1_0 := hRz.cell (j := 0) rfl; have yf1_0 := hRz.frozen 0; have yc1_1 := hRz.cell (j := 1) rfl; have yf1_1 := hRz.frozen 1; have ylt1 := hRz.lt; clear hRz)); (try (have hRz : RowIs w16 w15.heap.size 30 [.string ⟨#[]⟩, .int .i64 0] := (((RowIs.below (by exact RowIs.new w15 #[.string ⟨#[]⟩, .int .i64 0] 30) bA1).below bA2).below b16); have yc0_0 := hRz.cell (j := 0) rfl; have yf0_0 := hRz.frozen 0; have yc0_1 := hRz.cell (j := 1) rfl; have yf0_1 := hRz.frozen 1; have ylt0 := hRz.lt; clear hRz))))
      all_goals
        have hzA1 := bA1.size
        have hzA2 := bA2.size
        have hzB := b16.size
        have hzW := BW3.size
        have hzC1 := BW1.size
        have hzC2 := BW2.size
        go_wp2
        go_meet
        case rel =>
          first
            | exact ⟨_, _, v16_0, rfl, rfl, rfl, rfl, by go_cell, by go_cell, (f16_0.keepB (below_alloc (Below.refl _ _) _)).wide (by first | omega | (simp; omega)) (by simp) (Nat.le_refl _), below_alloc BW3 _⟩
            | (have hR : RowIs w16 wA2.heap.size 30 [.string ⟨#[]⟩, .int .i64 0] := (RowIs.below (by exact RowIs.new wA2 #[.string ⟨#[]⟩, .int .i64 0] 30) b16)
               exact ⟨_, _, v16_0, rfl, rfl, rfl, rfl, ((hR.set 0 _).set 1 _).cell (j := 0) rfl, ((hR.set 0 _).set 1 _).cell (j := 1) rfl, ((f16_0.other hR (by decide) 0 _).other (hR.set 0 _) (by decide) 1 _).wide (by first | omega | (simp; omega)) (by simp) (Nat.le_refl _), ((BW3.setCell (by show w15.heap.size ≤ wA2.heap.size; omega) _).setCell (by show w15.heap.size ≤ wA2.heap.size; omega) _)⟩)
            | (have hR : RowIs w16 wA1.heap.size 30 [.string ⟨#[]⟩, .int .i64 0] := ((RowIs.below (by exact RowIs.new wA1 #[.string ⟨#[]⟩, .int .i64 0] 30) bA2).below b16)
               exact ⟨_, _, v16_0, rfl, rfl, rfl, rfl, ((hR.set 0 _).set 1 _).cell (j := 0) rfl, ((hR.set 0 _).set 1 _).cell (j := 1) rfl, ((f16_0.other hR (by decide) 0 _).other (hR.set 0 _) (by decide) 1 _).wide (by first | omega | (simp; omega)) (by simp) (Nat.le_refl _), ((BW3.setCell (by show w15.heap.size ≤ wA1.heap.size; omega) _).setCell (by show w15.heap.size ≤ wA1.heap.size; omega) _)⟩)
            | (have hR : RowIs w16 w15.heap.size 30 [.string ⟨#[]⟩, .int .i64 0] := (((RowIs.below (by exact RowIs.new w15 #[.string ⟨#[]⟩, .int .i64 0] 30) bA1).below bA2).below b16)
               exact ⟨_, _, v16_0, rfl, rfl, rfl, rfl, ((hR.set 0 _).set 1 _).cell (j := 0) rfl, ((hR.set 0 _).set 1 _).cell (j := 1) rfl, ((f16_0.other hR (by decide) 0 _).other (hR.set 0 _) (by decide) 1 _).wide (by first | omega | (simp; omega)) (by simp) (Nat.le_refl _), ((BW3.setCell (by show w15.heap.size ≤ w15.heap.size; omega) _).setCell (by show w15.heap.size ≤ w15.heap.size; omega) _)⟩)
    case rest =>
      obtain ⟨bx16, w16, v16_0, rfl, rfl, rfl, rfl, cx16_0, cx16_1, f16_0, b16⟩ := hcut
      have caaS_0 := box_cell b16 caaS_0
      have caaS_1 := box_cell b16 caaS_1
      have cbw1_0 := box_cell b16 cbw1_0
      have cbw1_1 := box_cell b16 cbw1_1
      have cbg1_0 := box_cell b16 cbg1_0
      have cbg1_1 := box_cell b16 cbg1_1
      have ltcaaS : w.heap.size < w16.heap.size := World.block_lt_of_cell? w16 _ caaS_0
      have ltcbw1 : bx3 < w16.heap.size := World.block_lt_of_cell? w16 _ cbw1_0
      have ltcbg1 : w6.heap.size < w16.heap.size := World.block_lt_of_cell? w16 _ cbg1_0
      have HB := below_step b16 HB
      have zz16 := b16.size
      replace QAxs := Lib.hid (QAxs.out.keepB b16)
      replace Rw0 := Lib.hid (Rw0.out.keepB b16)
      replace Hg0 := Lib.hid (Hg0.out.keepB b16)
      have Rh0 := Lib.hid f16_0
      clear f16_0
      have cbh1_0 := cx16_0
      have cbh1_1 := cx16_1
      have ltcbh1 : bx16 < w16.heap.size := World.block_lt_of_cell? w16 _ cbh1_0
      go_wp2_with fail
      refine (eqEntryS_at _ _ _ _ _ _ _ _ _ (Rh0.out) (Rw0.out)).mono ?_
      rintro e1 w17 ⟨rfl, b17⟩
      rw [dec_self]
      have caaS_0 := box_cell b17 caaS_0
      have caaS_1 := box_cell b17 caaS_1
      have cbw1_0 := box_cell b17 cbw1_0
      have cbw1_1 := box_cell b17 cbw1_1
      have cbg1_0 := box_cell b17 cbg1_0
      have cbg1_1 := box_cell b17 cbg1_1
      have cbh1_0 := box_cell b17 cbh1_0
      have cbh1_1 := box_cell b17 cbh1_1
      have ltcaaS : w.heap.size < w17.heap.size := World.block_lt_of_cell? w17 _ caaS_0
      have ltcbw1 : bx3 < w17.heap.size := World.block_lt_of_cell? w17 _ cbw1_0
      have ltcbg1 : w6.heap.size < w17.heap.size := World.block_lt_of_cell? w17 _ cbg1_0
      have ltcbh1 : bx16 < w17.heap.size := World.block_lt_of_cell? w17 _ cbh1_0
      have HB := below_step b17 HB
      have zz17 := b17.size
      replace QAxs := Lib.hid (QAxs.out.keepB b17)
      replace Rw0 := Lib.hid (Rw0.out.keepB b17)
      replace Hg0 := Lib.hid (Hg0.out.keepB b17)
      replace Rh0 := Lib.hid (Rh0.out.keepB b17)
      go_wp2_with fail
      refine (eqSub_any (cc, pp) (cc, pp) _).mono ?_
      rintro e1 w18 ⟨rfl, b18⟩
      rw [dec_self]
      have caaS_0 := box_cell b18 caaS_0
      have caaS_1 := box_cell b18 caaS_1
      have cbw1_0 := box_cell b18 cbw1_0
      have cbw1_1 := box_cell b18 cbw1_1
      have cbg1_0 := box_cell b18 cbg1_0
      have cbg1_1 := box_cell b18 cbg1_1
      have cbh1_0 := box_cell b18 cbh1_0
      have cbh1_1 := box_cell b18 cbh1_1
      have ltcaaS : w.heap.size < w18.heap.size := World.block_lt_of_cell? w18 _ caaS_0
      have ltcbw1 : bx3 < w18.heap.size := World.block_lt_of_cell? w18 _ cbw1_0
      have ltcbg1 : w6.heap.size < w18.heap.size := World.block_lt_of_cell? w18 _ cbg1_0
      have ltcbh1 : bx16 < w18.heap.size := World.block_lt_of_cell? w18 _ cbh1_0
      have HB := below_step b18 HB
      have zz18 := b18.size
      replace QAxs := Lib.hid (QAxs.out.keepB b18)
      replace Rw0 := Lib.hid (Rw0.out.keepB b18)
      replace Hg0 := Lib.hid (Hg0.out.keepB b18)
      replace Rh0 := Lib.hid (Rh0.out.keepB b18)
      go_wp2_with fail
      refine (heldEntryS_at _ _ _ _ _ (by omega) (by omega) _ (Hg0.out)).mono ?_
      rintro e1 w19 ⟨rfl, b19⟩
      have caaS_0 := box_cell b19 caaS_0
      have caaS_1 := box_cell b19 caaS_1
      have cbw1_0 := box_cell b19 cbw1_0
      have cbw1_1 := box_cell b19 cbw1_1
      have cbg1_0 := box_cell b19 cbg1_0
      have cbg1_1 := box_cell b19 cbg1_1
      have cbh1_0 := box_cell b19 cbh1_0
      have cbh1_1 := box_cell b19 cbh1_1
      have ltcaaS : w.heap.size < w19.heap.size := World.block_lt_of_cell? w19 _ caaS_0
      have ltcbw1 : bx3 < w19.heap.size := World.block_lt_of_cell? w19 _ cbw1_0
      have ltcbg1 : w6.heap.size < w19.heap.size := World.block_lt_of_cell? w19 _ cbg1_0
      have ltcbh1 : bx16 < w19.heap.size := World.block_lt_of_cell? w19 _ cbh1_0
      have HB := below_step b19 HB
      have zz19 := b19.size
      replace QAxs := Lib.hid (QAxs.out.keepB b19)
      replace Rw0 := Lib.hid (Rw0.out.keepB b19)
      replace Hg0 := Lib.hid (Hg0.out.keepB b19)
      replace Rh0 := Lib.hid (Rh0.out.keepB b19)
      go_wp2
      go_ret
      exact ⟨rfl, HB⟩



set_option maxRecDepth 100000 in
theorem opened {H : Type} {enc : TypeId × Value → H} (W : World) (base : Nat) (args : Array Value) (ds : List (DataW H)) (ps : List MemPlace)
    (hval : ∀ (j : Nat) t v, (#[22, 24, 3] : Array TypeId)[j]? = some t → args[j]? = some v → Value.okWide Tryd.prog W .any base t v)
    (hA : DataW.TrodAll enc Tryd.prog W 0 (fun _ => true) true [22, 24, 3] args.toList ds ps) (hL : (∃ a, Sent a W) ∧ MaxL W) :
    Calls Tryd.prog 4 args W fun e W' => e = .returned (.bool true) ∧ Below W.heap.size W W' := by
  obtain ⟨v0, vs0, d0, ds0, p0, q0, hargs, rfl, rfl, h0, r0⟩ := trodAll_cons hA
  obtain ⟨v1, vs1, d1, ds1, p1, q1, rfl, rfl, rfl, h1, r1⟩ := trodAll_cons r0
  obtain ⟨v2, vs2, d2, ds2, p2, q2, rfl, rfl, rfl, h2, r2⟩ := trodAll_cons r1
  obtain ⟨rfl, rfl, rfl⟩ := trodAll_nil r2
  obtain rfl : args = #[v0, v1, v2] := by cases args; simp_all
  obtain ⟨A0, n0, k0, xs0, rfl, nc0, cm0, xl0, xL0, xo0⟩ := open_rows (ks := [1, 0, 1, 0]) entryCells entryOk (entryDec W) Tryd.underlying22 (by kernel_rfl) (by kernel_rfl) (by decide) (fun _ => rfl) (hval 0 22 v0 rfl rfl) h0
  obtain ⟨cs1, rfl, hc1⟩ := open_cells (ks := [1, 0]) Tryd.underlying24 (by kernel_rfl) (hval 1 24 v1 rfl rfl) h1
  obtain ⟨c1_0, c1_1, rfl⟩ : ∃ c1_0 c1_1 : Value, cs1 = [c1_0, c1_1] := by
    have hl := hc1.length
    match cs1, hl with
    | [c1_0, c1_1], _ => exact ⟨_, _, rfl⟩
  obtain ⟨⟨x1_0, rfl, o1_0⟩, ⟨x1_1, rfl, o1_1⟩, _⟩ := hc1
  obtain ⟨a2, rfl, rfl, rfl, w2⟩ := open_int Tryd.underlying3 (hval 2 3 v2 rfl rfl) h2
  exact walk W A0 n0 k0 xs0 nc0 cm0 xl0 xL0 xo0 x1_0 o1_0 x1_1 o1_1 a2 (bounds_i64 w2) hL
end Go.Proofs.YtcccidlfigfibaaDoor.lawSubTake
