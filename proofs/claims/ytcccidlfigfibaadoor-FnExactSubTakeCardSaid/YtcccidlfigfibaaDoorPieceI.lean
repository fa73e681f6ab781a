/-
  A piece of a list in the program. No condition.
-/
import Derived.Test.YtcccidlfigfibaaDoorAllS
import Derived.Test.YtcccidlfigfibaaDoorKEvent
namespace Go.Proofs.YtcccidlfigfibaaDoor
open Go.ChangeShapes Go.WideShapes Go.ChangeAt Go.RowKit

theorem fm_len {α : Type} {f : α → List Value} {K : Nat} (hc : ∀ x, (f x).length = K) : ∀ l : List α, (l.flatMap f).length = l.length * K
  | [] => by simp
  | x :: l => by rw [List.flatMap_cons, List.length_append, hc, fm_len hc l, List.length_cons, Nat.succ_mul]; omega
theorem lies_piece {α : Type} {f : α → List Value} {K : Nat} (hc : ∀ x, (f x).length = K) {w : World} {b o n : Nat} {xs : List α} (hx : xs.length = n) (h : Lies w K (some ⟨b, o, none⟩) n (xs.flatMap f)) (s m : Nat) (hs : s + m ≤ n) : Lies w K (some ⟨b, o + s * K, none⟩) m (((xs.drop s).take m).flatMap f) := by
  obtain ⟨h1, h2⟩ := h
  refine ⟨by rw [fm_len hc]; congr 1; simp; omega, fun hm => ?_⟩
  obtain ⟨b', o', e, hb, hcell⟩ := h2 (by omega)
  cases e
  refine ⟨b, o + s * K, rfl, hb, fun j u hj => ?_⟩
  have hsplit : xs.flatMap f = (xs.take s).flatMap f ++ (((xs.drop s).take m).flatMap f ++ ((xs.drop s).drop m).flatMap f) := by rw [← List.flatMap_append, ← List.flatMap_append, List.take_append_drop, List.take_append_drop]
  have hl : ((xs.take s).flatMap f).length = s * K := by rw [fm_len hc]; congr 1; simp; omega
  have hj2 := (List.getElem?_eq_some_iff.1 hj).1
  have := hcell (s * K + j) u (by rw [hsplit, List.getElem?_append_right (by omega), hl, Nat.add_sub_cancel_left, List.getElem?_append_left hj2]; exact hj)
  rwa [← Nat.add_assoc] at this
theorem piece_min {α : Type} {xs : List α} {f q s e n : Nat} (hx : xs.length = n) (hs : s = min f n) (he : e = min (f + q) n) : pieceL (f : Int) (q : Int) xs = (xs.drop s).take (e - s) := by
  show (xs.drop f).take q = _
  subst hs he
  by_cases h : f ≤ n
  · rw [Nat.min_eq_left h]
    by_cases h2 : f + q ≤ n
    · rw [Nat.min_eq_left h2, Nat.add_sub_cancel_left]
    · rw [Nat.min_eq_right (by omega), List.take_of_length_le (by simp; omega), List.take_of_length_le (by simp; omega)]
  · rw [List.drop_of_length_le (by omega), List.drop_of_length_le (by omega)]; simp

theorem implReadable_any (f q : Int) (w : World) : Calls Tryd.prog 44 #[.int .i64 f, .int .i64 q] w fun e w' => e = .returned (.bool (inB f 0 99 && inB q 0 99)) ∧ w' = w := by
  have h1 : decide (0 ≤ f) = true ∨ decide (0 ≤ f) = false := by cases decide (0 ≤ f) <;> simp
  by_cases a1 : 0 ≤ f
  · by_cases a2 : f ≤ 99
    · by_cases a3 : 0 ≤ q
      · by_cases a4 : q ≤ 99
        · have HE := Lib.hid (show (inB f 0 99 && inB q 0 99) = true by unfold inB; simp [a1, a2, a3, a4])
          go_enter Tryd.func44, Tryd.ntmps44
          go_wp2
          go_ret
          exact ⟨by rw [HE.out]; rfl, rfl⟩
        · have HE := Lib.hid (show (inB f 0 99 && inB q 0 99) = false by unfold inB; simp [a1, a2, a3, a4])
          go_enter Tryd.func44, Tryd.ntmps44
          go_wp2
          go_ret
          exact ⟨by rw [HE.out]; rfl, rfl⟩
      · have HE := Lib.hid (show (inB f 0 99 && inB q 0 99) = false by unfold inB; simp [a1, a2, a3])
        go_enter Tryd.func44, Tryd.ntmps44
        go_wp2
        go_ret
        exact ⟨by rw [HE.out]; rfl, rfl⟩
    · have HE := Lib.hid (show (inB f 0 99 && inB q 0 99) = false by unfold inB; simp [a1, a2])
      go_enter Tryd.func44, Tryd.ntmps44
      go_wp2
      go_ret
      exact ⟨by rw [HE.out]; rfl, rfl⟩
  · have HE := Lib.hid (show (inB f 0 99 && inB q 0 99) = false by unfold inB; simp [a1])
    go_enter Tryd.func44, Tryd.ntmps44
    go_wp2
    go_ret
    exact ⟨by rw [HE.out]; rfl, rfl⟩

set_option maxHeartbeats 3200000 in
theorem pieceEv_any (b o n c : Nat) (xs : List (Int × ByteArray × Int)) (f q : Nat) (hn : n ≤ 1048576) (hx : xs.length = n) (hnc : n ≤ c) (hf : f ≤ 99) (hq : q ≤ 99) (w : World) (hL : Lies w 3 (some ⟨b, o, none⟩) n (xs.flatMap eventCells)) :
    Calls Tryd.prog 77 #[.slice (some ⟨b, o, none⟩) n c, .int .i64 f, .int .i64 q] w fun e w' => ∃ g m c', e = .returned (.slice (some ⟨g, 0, none⟩) m c') ∧ (pieceL (f : Int) (q : Int) xs).length = m ∧ w'.ownsRow w.heap.size 70 3 (.slice (some ⟨g, 0, none⟩) m c') m ((pieceL (f : Int) (q : Int) xs).flatMap eventCells) ∧ Below w.heap.size w w' := by
  have HX := Lib.hid hx
  have HL := Lib.hid hL
  clear hx hL
  have wq : IntKind.i64.wrap ((f : Int) + (q : Int)) = (f : Int) + (q : Int) := IntWalk.i64_in _ ⟨by omega, by omega⟩
  obtain ⟨s, hs⟩ : ∃ s, s = min f n := ⟨_, rfl⟩
  obtain ⟨e, he⟩ : ∃ e, e = min (f + q) n := ⟨_, rfl⟩
  have m1 : (if (n : Int) < (f : Int) then (n : Int) else (f : Int)) = (s : Int) := by rw [hs]; split <;> omega
  have m2 : (if (n : Int) < (f : Int) + (q : Int) then (n : Int) else (f : Int) + (q : Int)) = (e : Int) := by rw [he]; split <;> omega
  have m3 : min (f : Int) (n : Int) = (s : Int) := by rw [hs]; omega
  have m4 : min ((f : Int) + (q : Int)) (n : Int) = (e : Int) := by rw [he]; omega
  have hse : s ≤ e := by omega
  have hen : e ≤ n := by omega
  have hec : e ≤ c := by omega
  have HP := Lib.hid (piece_min (xs := xs) HX.out hs he)
  obtain ⟨o', mA, HLP⟩ : ∃ o', (if c = s then (some ⟨b, o, none⟩ : Option Addr) else some ⟨b, o + s * 3, none⟩) = some ⟨b, o', none⟩ ∧ Hid (Lies w 3 (some ⟨b, o', none⟩) (e - s) (((xs.drop s).take (e - s)).flatMap eventCells)) := by
    have h := lies_piece (f := eventCells) (K := 3) (fun x => rfl) HX.out HL.out s (e - s) (by omega)
    by_cases hc : c = s
    · refine ⟨o, by rw [if_pos hc], Lib.hid ⟨h.1, fun h0 => ?_⟩⟩
      omega
    · exact ⟨_, by rw [if_neg hc], Lib.hid h⟩
  have HPL := Lib.hid (show (pieceL (f : Int) (q : Int) xs).length = e - s by rw [HP.out]; have := HX.out; simp; omega)
  have H1 := Lib.hid (show ∀ u ∈ (((xs.drop s).take (e - s)).flatMap eventCells), u.oneCell' = true by
    intro u hu
    obtain ⟨x, _, hx⟩ := List.mem_flatMap.1 hu
    simp only [eventCells, List.mem_cons, List.not_mem_nil, or_false] at hx
    rcases hx with rfl | rfl | rfl <;> rfl)
  clear hs he
  go_enter Tryd.func77, Tryd.ntmps77
  go_wp2_with (at_builtin; refine wpList_appS rfl _ _ 84 70 3 32 rowEvent rfl w.heap.size w.heap.size 0 0 [] (owns_nil w _ _) rfl b o' (e - s) (c - s) _ rfl (HLP.out.below (below_alloc (Below.refl _ _) _)) H1.out (by unfold maxLen; omega) (by omega) (by simp) ?_; intro g cap w1 ho1 hg1; have ho2 : w1.ownsRow w.heap.size 70 3 (.slice (some ⟨g, 0, none⟩) (e - s) cap) (e - s) (((xs.drop s).take (e - s)).flatMap eventCells) := (by simpa using ho1); have HO := Lib.hid ho2; have HG := Lib.hid hg1; clear ho1 ho2 hg1)
  go_ret
  exact ⟨g, e - s, cap, rfl, HPL.out, by rw [HP.out]; exact HO.out, (below_alloc (Below.refl _ w) (.cells #[] 70)).trans (only_below (B := w.heap.size) HG.out (by simp) (Nat.le_refl _))⟩

/-- A piece of no list. -/
theorem pieceEv0_any (f q : Nat) (hf : f ≤ 99) (hq : q ≤ 99) (w : World) :
    Calls Tryd.prog 77 #[.slice none 0 0, .int .i64 f, .int .i64 q] w fun e w' => ∃ g m c', e = .returned (.slice (some ⟨g, 0, none⟩) m c') ∧ (pieceL (f : Int) (q : Int) ([] : List (Int × ByteArray × Int))).length = m ∧ w'.ownsRow w.heap.size 70 3 (.slice (some ⟨g, 0, none⟩) m c') m ((pieceL (f : Int) (q : Int) ([] : List (Int × ByteArray × Int))).flatMap eventCells) ∧ Below w.heap.size w w' := by
  have wq : IntKind.i64.wrap ((f : Int) + (q : Int)) = (f : Int) + (q : Int) := IntWalk.i64_in _ ⟨by omega, by omega⟩
  have m1 : (if (0 : Int) < (f : Int) then (0 : Int) else (f : Int)) = 0 := by split <;> omega
  have m2 : (if (0 : Int) < (f : Int) + (q : Int) then (0 : Int) else (f : Int) + (q : Int)) = 0 := by split <;> omega
  have m3 : min (f : Int) (0 : Int) = 0 := by omega
  have m4 : min ((f : Int) + (q : Int)) (0 : Int) = 0 := by omega
  have HP := Lib.hid (show pieceL (f : Int) (q : Int) ([] : List (Int × ByteArray × Int)) = [] by unfold pieceL; simp)
  go_enter Tryd.func77, Tryd.ntmps77
  go_wp2
  go_ret
  exact ⟨_, 0, 0, rfl, by rw [HP.out]; rfl, by rw [HP.out]; exact owns_nil w _ _, (by repeat' (first | (with_reducible exact Below.refl _ _) | (with_reducible assumption) | (with_reducible refine below_step (by assumption) ?_) | (with_reducible refine below_alloc ?_ _) | (with_reducible refine Below.drew ?_) | (with_reducible refine below_drewN ?_ _) | (with_reducible refine Below.setCell ?_ ?_ _) | go_size))⟩
end Go.Proofs.YtcccidlfigfibaaDoor
