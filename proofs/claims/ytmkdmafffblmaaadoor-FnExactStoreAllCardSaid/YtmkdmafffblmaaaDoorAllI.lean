/-
  StoreAll of the program. No condition beyond what the rows list.
-/
import Derived.Test.YtmkdmafffblmaaaDoorPieceI
namespace Go.Proofs.YtmkdmafffblmaaaDoor
open Go.ChangeShapes Go.WideShapes Go.ChangeAt Go.RowKit

set_option maxHeartbeats 3200000 in
theorem implAll_any (b o : Nat) (n c : Nat) (xs : List EnT) (fr ma : Int) (hn : n ≤ 1048576) (hx : xs.length = n) (hnc : n ≤ c) (hok : StOk xs) (w : World) (a : Addr) (hS : Sent a w) (hM : MaxL w) (hL : Lies w 4 (some ⟨b, o, none⟩) n (xs.flatMap entryCells)) :
    Calls Tryd.prog 9 #[.slice (some ⟨b, o, none⟩) n c, .int .i64 fr, .int .i64 ma] w fun e w' => ∃ g m c', e = .returned (.slice (some ⟨g, 0, none⟩) m c') ∧ (allL xs fr ma).length = m ∧ w'.ownsRow w.heap.size 52 4 (.slice (some ⟨g, 0, none⟩) m c') m ((allL xs fr ma).flatMap entryCells) ∧ Below w.heap.size w w' := by
  have HX := Lib.hid hx
  have HL := Lib.hid hL
  clear hx hL
  cases E1 : storeB xs
  · have HE := Lib.hid (show allL xs fr ma = [] by unfold allL; rw [E1]; rfl)
    go_enter Tryd.func9, Tryd.ntmps9
    go_wp2_with fail
    refine (implStore_any _ n c xs hn HX.out hok.small hok.ints _ a hS hM HL.out).mono ?_
    rintro e1 w1 ⟨rfl, hb1⟩
    rw [E1]
    go_wp2
    go_ret
    exact ⟨_, 0, 0, rfl, by rw [HE.out]; rfl, by rw [HE.out]; exact owns_nil' _ _ rfl hb1.size, (by repeat' (first | (with_reducible exact Below.refl _ _) | (with_reducible assumption) | (with_reducible refine below_step (by assumption) ?_) | (with_reducible refine below_alloc ?_ _) | (with_reducible refine Below.drew ?_) | (with_reducible refine below_drewN ?_ _) | (with_reducible refine Below.setCell ?_ ?_ _) | go_size))⟩
  cases E2 : (inB fr 0 99 && inB ma 0 99)
  · have HE := Lib.hid (show allL xs fr ma = [] by unfold allL; rw [Bool.and_assoc, E1, E2]; rfl)
    go_enter Tryd.func9, Tryd.ntmps9
    go_wp2_with fail
    refine (implStore_any _ n c xs hn HX.out hok.small hok.ints _ a hS hM HL.out).mono ?_
    rintro e1 w1 ⟨rfl, hb1⟩
    rw [E1]
    go_wp2_with fail
    refine (implReadable_any _ _ _).mono ?_
    rintro e2 w2 ⟨rfl, rfl⟩
    rw [E2]
    go_wp2
    go_ret
    exact ⟨_, 0, 0, rfl, by rw [HE.out]; rfl, by rw [HE.out]; exact owns_nil' _ _ rfl hb1.size, (by repeat' (first | (with_reducible exact Below.refl _ _) | (with_reducible assumption) | (with_reducible refine below_step (by assumption) ?_) | (with_reducible refine below_alloc ?_ _) | (with_reducible refine Below.drew ?_) | (with_reducible refine below_drewN ?_ _) | (with_reducible refine Below.setCell ?_ ?_ _) | go_size))⟩
  obtain ⟨E3, E4⟩ := (Bool.and_eq_true _ _).mp E2
  have HE0 := Lib.hid (all_yes E1 E3 E4)
  obtain ⟨hf0, hf1⟩ := inB_iff.1 E3
  obtain ⟨hq0, hq1⟩ := inB_iff.1 E4
  obtain ⟨f, rfl⟩ := Int.eq_ofNat_of_zero_le hf0
  obtain ⟨q, rfl⟩ := Int.eq_ofNat_of_zero_le hq0
  have HE := Lib.hid (show allL xs (f : Int) (q : Int) = pieceL (f : Int) (q : Int) xs from HE0.out)
  clear HE0 E3 E4
  go_enter Tryd.func9, Tryd.ntmps9
  go_wp2_with fail
  refine (implStore_any _ n c xs hn HX.out hok.small hok.ints _ a hS hM HL.out).mono ?_
  rintro e1 w1 ⟨rfl, hb1⟩
  rw [E1]
  go_wp2_with fail
  refine (implReadable_any _ _ _).mono ?_
  rintro e2 w2 ⟨rfl, rfl⟩
  rw [show (inB (f : Int) 0 99 && inB (q : Int) 0 99) = true from E2]
  go_wp2_with fail
  refine (pieceEn_any b o n c xs f q hn HX.out hnc (by omega) (by omega) _ (HL.out.below hb1)).mono ?_
  rintro e3 w3 ⟨g, m, c', rfl, hl, ho, hb3⟩
  have HLn := Lib.hid hl
  have HO := Lib.hid ho
  clear hl ho
  go_wp2
  go_ret
  exact ⟨g, m, c', rfl, by rw [HE.out]; exact HLn.out, by rw [HE.out]; exact ownsRow_base HO.out hb1.size, (by repeat' (first | (with_reducible exact Below.refl _ _) | (with_reducible assumption) | (with_reducible refine below_step (by assumption) ?_) | (with_reducible refine below_alloc ?_ _) | (with_reducible refine Below.drew ?_) | (with_reducible refine below_drewN ?_ _) | (with_reducible refine Below.setCell ?_ ?_ _) | go_size))⟩

theorem specAll_at (lo hi : Nat) (v : Value) (xs : List EnT) (fr ma : Int) (hok : StOk xs) (w : World) (h : entrySAt w lo hi v xs) :
    Calls Tryd.prog 7 #[v, .int .i64 fr, .int .i64 ma] w fun e w' => ∃ v', e = .returned v' ∧ entrySAt w' w.heap.size w'.heap.size v' (allL xs fr ma) ∧ Below w.heap.size w w' := by
  obtain ⟨g, m, c, rfl, hx, hb, _, _, ho⟩ := h.open
  exact (specAll_any _ _ _ xs fr ma hb hx hok w (lies_of_own ho)).mono fun _ _ ⟨_, _, _, he, hl, ho', hb'⟩ => ⟨_, he, entrySAt.made hl (by have := allL_le xs fr ma; omega) ho', hb'⟩
theorem implAll_at (lo hi : Nat) (v : Value) (xs : List EnT) (fr ma : Int) (hok : StOk xs) (w : World) (a : Addr) (hS : Sent a w) (hM : MaxL w) (h : entrySAt w lo hi v xs) :
    Calls Tryd.prog 9 #[v, .int .i64 fr, .int .i64 ma] w fun e w' => ∃ v', e = .returned v' ∧ entrySAt w' w.heap.size w'.heap.size v' (allL xs fr ma) ∧ Below w.heap.size w w' := by
  obtain ⟨g, m, c, rfl, hx, hb, _, _, ho⟩ := h.open
  have hnc : m ≤ c := by
    rcases ho.2 with ⟨q, _⟩ | ⟨g', c', cur, q, _, _, hc, _⟩
    · cases q
    · cases q; exact hc
  exact (implAll_any _ _ _ _ xs fr ma hb hx hnc hok w a hS hM (lies_of_own ho)).mono fun _ _ ⟨_, _, _, he, hl, ho', hb'⟩ => ⟨_, he, entrySAt.made hl (by have := allL_le xs fr ma; omega) ho', hb'⟩
end Go.Proofs.YtmkdmafffblmaaaDoor
