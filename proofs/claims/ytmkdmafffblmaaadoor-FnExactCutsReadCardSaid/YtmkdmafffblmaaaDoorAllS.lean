/-
  A piece of a list; StoreAll of the reference. No condition beyond what the rows list.
-/
import Derived.Test.YtmkdmafffblmaaaDoorStoreVer
namespace Go.Proofs.YtmkdmafffblmaaaDoor
open Go.ChangeShapes Go.WideShapes Go.ChangeAt Go.RowKit

def pieceL {α : Type} (f q : Int) (xs : List α) : List α := (xs.drop f.toNat).take q.toNat
def allL (xs : List EnT) (f q : Int) : List EnT := if storeB xs && inB f 0 99 && inB q 0 99 then pieceL f q xs else []
theorem pieceL_le {α : Type} (f q : Int) (xs : List α) : (pieceL f q xs).length ≤ xs.length := by unfold pieceL; simp; omega
theorem allL_le (xs : List EnT) (f q : Int) : (allL xs f q).length ≤ xs.length := by
  unfold allL
  split
  · exact pieceL_le _ _ _
  · simp
theorem all_yes {xs : List EnT} {f q : Int} (h1 : storeB xs = true) (h2 : inB f 0 99 = true) (h3 : inB q 0 99 = true) : allL xs f q = pieceL f q xs := by unfold allL; rw [h1, h2, h3]; rfl
theorem piece_succ {α : Type} {xs : List α} {f j : Nat} {x : α} (h : xs[f + j]? = some x) : (xs.drop f).take (j + 1) = (xs.drop f).take j ++ [x] := by
  rw [List.take_add_one, List.getElem?_drop, h]; rfl
theorem piece_end {α : Type} {xs : List α} {f j q : Nat} (h : xs.length ≤ f + j) (hq : j ≤ q) : (xs.drop f).take q = (xs.drop f).take j := by
  rw [List.take_of_length_le (by simp; omega), List.take_of_length_le (by simp; omega)]

set_option maxHeartbeats 6400000 in
theorem specAll_any (A : Option Addr) (n c : Nat) (xs : List EnT) (fr ma : Int) (hn : n ≤ 1048576) (hx : xs.length = n) (hok : StOk xs) (w : World) (hL : Lies w 4 A n (xs.flatMap entryCells)) :
    Calls Tryd.prog 7 #[.slice A n c, .int .i64 fr, .int .i64 ma] w fun e w' => ∃ g m c', e = .returned (.slice (some ⟨g, 0, none⟩) m c') ∧ (allL xs fr ma).length = m ∧ w'.ownsRow w.heap.size 52 4 (.slice (some ⟨g, 0, none⟩) m c') m ((allL xs fr ma).flatMap entryCells) ∧ Below w.heap.size w w' := by
  have HX := Lib.hid hx
  have HL := Lib.hid hL
  clear hx hL
  have HN := Lib.hid (owns_nil w 52 4)
  cases E1 : storeB xs
  · have HE := Lib.hid (show allL xs fr ma = [] by unfold allL; rw [E1]; rfl)
    go_enter Tryd.func7, Tryd.ntmps7
    go_wp2_with fail
    refine (specStore_any A n c xs hn HX.out hok.small _ (HL.out.below (by repeat' (first | (with_reducible exact Below.refl _ _) | (with_reducible assumption) | (with_reducible refine below_step (by assumption) ?_) | (with_reducible refine below_alloc ?_ _) | (with_reducible refine Below.drew ?_) | (with_reducible refine below_drewN ?_ _) | (with_reducible refine Below.setCell ?_ ?_ _) | go_size)))).mono ?_
    rintro e1 w1 ⟨rfl, hb1⟩
    rw [E1]
    go_wp2
    go_ret
    exact ⟨_, 0, 0, rfl, by rw [HE.out]; rfl, by rw [HE.out]; exact owns_below HN.out hb1, (by repeat' (first | (with_reducible exact Below.refl _ _) | (with_reducible assumption) | (with_reducible refine below_step (by assumption) ?_) | (with_reducible refine below_alloc ?_ _) | (with_reducible refine Below.drew ?_) | (with_reducible refine below_drewN ?_ _) | (with_reducible refine Below.setCell ?_ ?_ _) | go_size))⟩
  cases E2 : inB fr 0 99
  · have HE := Lib.hid (show allL xs fr ma = [] by unfold allL; rw [E1, E2]; rfl)
    go_enter Tryd.func7, Tryd.ntmps7
    go_wp2_with fail
    refine (specStore_any A n c xs hn HX.out hok.small _ (HL.out.below (by repeat' (first | (with_reducible exact Below.refl _ _) | (with_reducible assumption) | (with_reducible refine below_step (by assumption) ?_) | (with_reducible refine below_alloc ?_ _) | (with_reducible refine Below.drew ?_) | (with_reducible refine below_drewN ?_ _) | (with_reducible refine Below.setCell ?_ ?_ _) | go_size)))).mono ?_
    rintro e1 w1 ⟨rfl, hb1⟩
    rw [E1]
    go_wp2_with fail
    refine (l6In_any _ _ _ _).mono ?_
    rintro e2 w2 ⟨rfl, rfl⟩
    rw [E2]
    go_wp2
    go_ret
    exact ⟨_, 0, 0, rfl, by rw [HE.out]; rfl, by rw [HE.out]; exact owns_below HN.out hb1, (by repeat' (first | (with_reducible exact Below.refl _ _) | (with_reducible assumption) | (with_reducible refine below_step (by assumption) ?_) | (with_reducible refine below_alloc ?_ _) | (with_reducible refine Below.drew ?_) | (with_reducible refine below_drewN ?_ _) | (with_reducible refine Below.setCell ?_ ?_ _) | go_size))⟩
  cases E3 : inB ma 0 99
  · have HE := Lib.hid (show allL xs fr ma = [] by unfold allL; rw [E1, E2, E3]; rfl)
    go_enter Tryd.func7, Tryd.ntmps7
    go_wp2_with fail
    refine (specStore_any A n c xs hn HX.out hok.small _ (HL.out.below (by repeat' (first | (with_reducible exact Below.refl _ _) | (with_reducible assumption) | (with_reducible refine below_step (by assumption) ?_) | (with_reducible refine below_alloc ?_ _) | (with_reducible refine Below.drew ?_) | (with_reducible refine below_drewN ?_ _) | (with_reducible refine Below.setCell ?_ ?_ _) | go_size)))).mono ?_
    rintro e1 w1 ⟨rfl, hb1⟩
    rw [E1]
    go_wp2_with fail
    refine (l6In_any _ _ _ _).mono ?_
    rintro e2 w2 ⟨rfl, rfl⟩
    rw [E2]
    go_wp2_with fail
    refine (l6In_any _ _ _ _).mono ?_
    rintro e3 w3 ⟨rfl, rfl⟩
    rw [E3]
    go_wp2
    go_ret
    exact ⟨_, 0, 0, rfl, by rw [HE.out]; rfl, by rw [HE.out]; exact owns_below HN.out hb1, (by repeat' (first | (with_reducible exact Below.refl _ _) | (with_reducible assumption) | (with_reducible refine below_step (by assumption) ?_) | (with_reducible refine below_alloc ?_ _) | (with_reducible refine Below.drew ?_) | (with_reducible refine below_drewN ?_ _) | (with_reducible refine Below.setCell ?_ ?_ _) | go_size))⟩
  have HE0 := Lib.hid (all_yes E1 E2 E3)
  obtain ⟨hf0, hf1⟩ := inB_iff.1 E2
  obtain ⟨hq0, hq1⟩ := inB_iff.1 E3
  obtain ⟨f, rfl⟩ := Int.eq_ofNat_of_zero_le hf0
  obtain ⟨q, rfl⟩ := Int.eq_ofNat_of_zero_le hq0
  have HE := Lib.hid (show allL xs (f : Int) (q : Int) = (xs.drop f).take q from HE0.out)
  have wq : IntKind.i64.wrap ((f : Int) + (q : Int)) = (f : Int) + (q : Int) := IntWalk.i64_in _ ⟨by omega, by omega⟩
  clear HE0
  go_enter Tryd.func7, Tryd.ntmps7
  go_wp2_with fail
  refine (specStore_any A n c xs hn HX.out hok.small _ (HL.out.below (by repeat' (first | (with_reducible exact Below.refl _ _) | (with_reducible assumption) | (with_reducible refine below_step (by assumption) ?_) | (with_reducible refine below_alloc ?_ _) | (with_reducible refine Below.drew ?_) | (with_reducible refine below_drewN ?_ _) | (with_reducible refine Below.setCell ?_ ?_ _) | go_size)))).mono ?_
  rintro e1 w1 ⟨rfl, hb1⟩
  rw [E1]
  go_wp2_with fail
  refine (l6In_any _ _ _ _).mono ?_
  rintro e2 w2 ⟨rfl, rfl⟩
  rw [E2]
  go_wp2_with fail
  refine (l6In_any _ _ _ _).mono ?_
  rintro e3 w3 ⟨rfl, rfl⟩
  rw [E3]
  have HO1 := Lib.hid (owns_below HN.out hb1)
  have B1 : Below w.heap.size w w1 := (by repeat' (first | (with_reducible exact Below.refl _ _) | (with_reducible assumption) | (with_reducible refine below_step (by assumption) ?_) | (with_reducible refine below_alloc ?_ _) | (with_reducible refine Below.drew ?_) | (with_reducible refine below_drewN ?_ _) | (with_reducible refine Below.setCell ?_ ?_ _) | go_size))
  clear HN
  go_wp2_with fail
  go_loopw [7, 8] (fun l i wr => ∃ (k j g c : Nat), Hid (k = f + j) ∧ i = .int .i64 k ∧ l = .slice (some ⟨g, 0, none⟩) j c ∧ j ≤ q ∧ Hid (j = 0 ∨ f + j ≤ n) ∧ Hid (wr.ownsRow w.heap.size 52 4 (.slice (some ⟨g, 0, none⟩) j c) j (((xs.drop f).take j).flatMap entryCells)) ∧ Below w.heap.size w wr) (fun _ i _ => n - (intOf i).toNat)
  case atStart => exact ⟨f, 0, w.heap.size, 0, Lib.hid rfl, rfl, rfl, Nat.zero_le _, Lib.hid (Or.inl rfl), Lib.hid (by simpa using HO1.out), B1⟩
  case round =>
    obtain ⟨k, j, g, c', hk, rfl, rfl, hjq, hjn, hO, hB⟩ := hrel
    have hgl := (owns_lt hO.out).1
    by_cases hlt : k < n
    · have t1 : decide ((k : Int) < (n : Int)) = true := by simp; omega
      by_cases hlq : j < q
      · have t2 : decide ((k : Int) < (f : Int) + (q : Int)) = true := by have := hk.out; simp; omega
        obtain ⟨b, o, rfl, hb, hc⟩ := (HL.out.below hB).row (fun _ => rfl) (by omega)
        obtain ⟨⟨x0, x1, x2, x3⟩, hxk⟩ := get_lt HX.out hlt
        have c0 : wr.cell? ⟨b, o + k * 4, none⟩ = some (.string x0) := hc k _ hxk 0 _ rfl
        have c1 : wr.cell? ⟨b, o + k * 4 + 1, none⟩ = some (.int .i64 x1) := hc k _ hxk 1 _ rfl
        have c2 : wr.cell? ⟨b, o + k * 4 + 2, none⟩ = some (.string x2) := hc k _ hxk 2 _ rfl
        have c3 : wr.cell? ⟨b, o + k * 4 + 3, none⟩ = some (.int .i64 x3) := hc k _ hxk 3 _ rfl
        have HFE := Lib.hid (piece_succ (f := f) (j := j) (by rw [← hk.out]; exact hxk))
        clear hxk hc
        have hjb : j ≤ 1048576 := by omega
        go_wp2_with (at_builtin; refine wpList_app1 rfl _ _ 24 52 4 48 rowEntry rfl w.heap.size g j c' _ hO.out rfl rfl rfl rfl (by unfold maxLen; omega) (by omega) hB.size ?_; intro g4 c4 w4 ho4 hg4 hz4; have HO4 := Lib.hid ho4; have HB4 := Lib.hid (below_grown hB hg4 hgl hB.size); clear ho4 hg4)
        go_roundw
        case rel => exact ⟨k + 1, j + 1, g4, c4, Lib.hid (by have := hk.out; omega), by go_num, rfl, by omega, Lib.hid (by have := hk.out; omega), Lib.hid (by rw [HFE.out, List.flatMap_append]; exact HO4.out), HB4.out⟩
        case measure => simp [intOf]; omega
      · have t2 : decide ((k : Int) < (f : Int) + (q : Int)) = false := by have := hk.out; simp; omega
        obtain rfl : j = q := by omega
        have HLN := Lib.hid (show (allL xs (f : Int) (j : Int)).length = j by rw [HE.out]; have := hjn.out; have := hk.out; have := HX.out; simp; omega)
        go_wp2
        go_ret
        exact ⟨g, j, c', rfl, HLN.out, by rw [HE.out]; exact hO.out, hB⟩
    · have t1 : decide ((k : Int) < (n : Int)) = false := by simp; omega
      have HT := Lib.hid (piece_end (xs := xs) (f := f) (j := j) (q := q) (by have := hk.out; have := HX.out; omega) hjq)
      have HLN := Lib.hid (show (allL xs (f : Int) (q : Int)).length = j by rw [HE.out, HT.out]; have := hjn.out; have := hk.out; have := HX.out; simp; omega)
      go_wp2
      go_ret
      exact ⟨g, j, c', rfl, HLN.out, by rw [HE.out, HT.out]; exact hO.out, hB⟩
end Go.Proofs.YtmkdmafffblmaaaDoor
