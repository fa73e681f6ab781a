/-
  The locks of who holds the stripes: the program's method, for every eight holders. No condition.
-/
import Derived.Test.YtfbnpnajpkhkdaaHoldA
import Derived.Test.YtfbnpnajpkhkdaaKLock
namespace Go.Proofs.Ytfbnpnajpkhkdaa
open Go.ChangeShapes Go.WideShapes Go.ChangeAt Go.RowKit

theorem locksArr_le : ∀ (hs : List Int) (s : Nat), (locksArr s hs).length ≤ hs.length
  | [], _ => Nat.le_refl _
  | h :: hs, s => by
    rw [locksArr]
    have := locksArr_le hs (s + 1)
    split <;> simp <;> omega

set_option maxHeartbeats 1600000 in
theorem locksOf_any (a0 a1 a2 a3 a4 a5 a6 a7 : Int) (w : World) :
    Calls Try.prog 81 #[.agg #[.int .i64 a0, .int .i64 a1, .int .i64 a2, .int .i64 a3, .int .i64 a4, .int .i64 a5, .int .i64 a6, .int .i64 a7]] w fun e w' => ∃ g m c, e = .returned (.slice (some ⟨g, 0, none⟩) m c) ∧ (locksArr 0 [a0, a1, a2, a3, a4, a5, a6, a7]).length = m ∧ w'.ownsRow w.heap.size 104 2 (.slice (some ⟨g, 0, none⟩) m c) m ((locksArr 0 [a0, a1, a2, a3, a4, a5, a6, a7]).flatMap lockCells) ∧ Below w.heap.size w w' := by
  go_enter Try.func81, Try.ntmps81
  go_wp2
  go_loopw [3, 8] (fun l i wr => ∃ k g m c : Nat, k ≤ 8 ∧ i = .int .i64 k ∧ l = .slice (some ⟨g, 0, none⟩) m c ∧ m ≤ k ∧ Hid ((locksArr 0 ([a0, a1, a2, a3, a4, a5, a6, a7].take k)).length = m) ∧ wr.ownsRow w.heap.size 104 2 (.slice (some ⟨g, 0, none⟩) m c) m ((locksArr 0 ([a0, a1, a2, a3, a4, a5, a6, a7].take k)).flatMap lockCells) ∧ Below w.heap.size w wr) (fun _ i _ => 8 - (intOf i).toNat)
  case atStart =>
    refine ⟨0, _, 0, 0, by omega, rfl, rfl, Nat.le_refl _, Lib.hid rfl, owns_nil' _ _ (by simp) (by omega), (by repeat' (first | (with_reducible exact Below.refl _ _) | (with_reducible assumption) | (with_reducible refine below_step (by assumption) ?_) | (with_reducible refine below_alloc ?_ _) | (with_reducible refine Below.drew ?_) | (with_reducible refine below_drewN ?_ _) | (with_reducible refine Below.setCell ?_ ?_ _) | go_size))⟩
  case round =>
    obtain ⟨k, g, m, c, hk, rfl, rfl, hm, hl, ho, hB⟩ := hrel
    have HO := Lib.hid ho
    clear ho
    by_cases hlt : k < 8
    · obtain ⟨o, hko⟩ := get_lt (xs := [a0, a1, a2, a3, a4, a5, a6, a7]) (n := 8) rfl hlt
      have hidx := idx8 hlt hko
      have HK : Hid (locksArr 0 ([a0, a1, a2, a3, a4, a5, a6, a7].take (k + 1)) = locksArr 0 ([a0, a1, a2, a3, a4, a5, a6, a7].take k) ++ (if o = 0 then [] else [((k : Int), o)])) := Lib.hid (by
        rw [take_succ_of hko, locksArr_snoc]
        simp only [List.length_take, List.length_cons, List.length_nil]
        rw [show (0 + min k (0 + 1 + 1 + 1 + 1 + 1 + 1 + 1 + 1) : Nat) = k by omega])
      clear hko
      by_cases h0 : o = 0
      · have E : (o != 0) = false := by simp [h0]
        have HK2 := Lib.hid (HK.out.trans (by rw [if_pos h0, List.append_nil]))
        clear h0 HK
        go_wp2
        go_roundw
        case rel => exact ⟨k + 1, g, m, c, by omega, by go_num, rfl, by omega, Lib.hid (by rw [HK2.out]; exact hl.out), by rw [HK2.out]; exact HO.out, (by repeat' (first | (with_reducible exact Below.refl _ _) | (with_reducible assumption) | (with_reducible refine below_step (by assumption) ?_) | (with_reducible refine below_alloc ?_ _) | (with_reducible refine Below.drew ?_) | (with_reducible refine below_drewN ?_ _) | (with_reducible refine Below.setCell ?_ ?_ _) | go_size))⟩
        case measure => simp [intOf]; omega
      · have E : (o != 0) = true := by simp [h0]
        have HK2 := Lib.hid (HK.out.trans (by rw [if_neg h0]))
        clear h0 HK
        go_wp2_with (at_builtin; refine wpList_app1 rfl _ _ 41 104 2 16 rowLock rfl w.heap.size g m c _ HO.out rfl rfl rfl rfl (by unfold maxLen; omega) (by omega) hB.size ?_; intro g' c' w1 ho1 hg1 hz1; have HO1 := Lib.hid ho1; have hgl := (owns_lt HO.out).1; clear ho1)
        go_roundw
        case rel => exact ⟨k + 1, g', m + 1, c', by omega, by go_num, rfl, by omega, Lib.hid (by rw [HK2.out, List.length_append, hl.out]; rfl), by rw [HK2.out, List.flatMap_append]; exact HO1.out, below_grown hB hg1 hgl hB.size⟩
        case measure => simp [intOf]; omega
    · obtain rfl : k = 8 := by omega
      go_wp2
      go_ret
      exact ⟨g, m, c, rfl, hl.out, HO.out, hB⟩
end Go.Proofs.Ytfbnpnajpkhkdaa
