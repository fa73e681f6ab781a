/-
  Slices of strings within an interval of blocks (nil is let by): the laws' equality, marks, and whether the marks are held. No condition.
-/
import Derived.Test.YtipkhmcnkldbbaaDoorTString
import Derived.Test.YtipkhmcnkldbbaaDoorKeep
import Derived.Test.YtipkhmcnkldbbaaDoorMarkText
namespace Go.Proofs.YtipkhmcnkldbbaaDoor
open Go.ChangeShapes Go.WideShapes Go.ChangeAt Go.RowKit

/-- A row, or nil. -/
def RowN (w : World) (lo hi : Nat) (e : TypeId) (size : Nat) (v : Value) (n : Nat) (cells : List Value) : Prop := RowAt w lo hi e size v n cells ∨ (v = .slice none 0 0 ∧ n = 0 ∧ cells = [] ∧ hi ≤ w.heap.size)
theorem RowN.keep {w w' : World} {lo hi lo' hi' : Nat} {e : TypeId} {size n : Nat} {v : Value} {cells : List Value} (h : RowN w lo hi e size v n cells) (k : Within w w' lo' hi') (d : hi ≤ lo' ∨ hi' ≤ lo) : RowN w' lo hi e size v n cells := by
  rcases h with h | ⟨h1, h2, h3, h4⟩
  · exact .inl (h.keep k d)
  · exact .inr ⟨h1, h2, h3, Nat.le_trans h4 k.size⟩
theorem RowN.keepB {w w' : World} {lo hi : Nat} {e : TypeId} {size n : Nat} {v : Value} {cells : List Value} (h : RowN w lo hi e size v n cells) (k : Below w.heap.size w w') : RowN w' lo hi e size v n cells := h.keep (Within.of_below k 0 0) (.inr (Nat.zero_le _))
/-- A row that a call made, told by ownsRow of any value. -/
theorem RowN.of {w w' : World} {e : TypeId} {size n : Nat} {v : Value} {cells : List Value} (_hw : w.heap.size ≤ w'.heap.size) (h : w'.ownsRow w.heap.size e size v n cells) : RowN w' w.heap.size w'.heap.size e size v n cells := by
  have h0 := h
  obtain ⟨h1, ⟨rfl, rfl⟩ | ⟨g, cap, cur, rfl, _⟩⟩ := h
  · exact .inr ⟨rfl, rfl, List.length_eq_zero_iff.1 (by omega), Nat.le_refl _⟩
  · exact .inl (RowAt.made h0)
theorem RowN.open {w : World} {lo hi : Nat} {e : TypeId} {size n : Nat} {v : Value} {cells : List Value} (h : RowN w lo hi e size v n cells) : ∃ A c, v = .slice A n c ∧ Lies w size A n cells := by
  rcases h with ⟨g, c, rfl, _, _, _, ho⟩ | ⟨rfl, rfl, rfl, _⟩
  · exact ⟨_, _, rfl, lies_of_own ho⟩
  · exact ⟨none, 0, rfl, by simp, fun h => absurd h (by omega)⟩

def stringSAt (w : World) (lo hi : Nat) (v : Value) (xs : List ByteArray) : Prop := xs.length ≤ 1048576 ∧ RowN w lo hi 9 1 v xs.length (xs.flatMap strCells)
theorem stringSAt.keep {w w' : World} {lo hi lo' hi' : Nat} {v : Value} {xs : List ByteArray} (h : stringSAt w lo hi v xs) (k : Within w w' lo' hi') (d : hi ≤ lo' ∨ hi' ≤ lo) : stringSAt w' lo hi v xs := ⟨h.1, h.2.keep k d⟩
theorem stringSAt.keepB {w w' : World} {lo hi : Nat} {v : Value} {xs : List ByteArray} (h : stringSAt w lo hi v xs) (k : Below w.heap.size w w') : stringSAt w' lo hi v xs := ⟨h.1, h.2.keepB k⟩
theorem eqStringS_at (lo hi lo' hi' : Nat) (v v' : Value) (xs ys : List ByteArray) (w : World) (h : stringSAt w lo hi v xs) (h' : stringSAt w lo' hi' v' ys) :
    Calls Tryd.prog 12 #[v, v'] w fun e w' => e = .returned (.bool (decide (xs = ys))) ∧ Below w.heap.size w w' := by
  obtain ⟨A, c, rfl, hA⟩ := h.2.open
  obtain ⟨A', c', rfl, hA'⟩ := h'.2.open
  exact eqStringS_any _ _ _ _ _ _ xs ys h.1 rfl rfl w hA hA'

def strMarks (q : Int) : List Value := [.string (mtext (q))]
def stringHeld (w : World) (lo hi : Nat) (v : Value) (q : Int) (n : Nat) : Prop := n ≤ 1048576 ∧ RowN w lo hi 9 1 v n (marksBy strMarks 1 q n)
theorem stringHeld.keep {w w' : World} {lo hi lo' hi' : Nat} {v : Value} {q : Int} {n : Nat} (h : stringHeld w lo hi v q n) (k : Within w w' lo' hi') (d : hi ≤ lo' ∨ hi' ≤ lo) : stringHeld w' lo hi v q n := ⟨h.1, h.2.keep k d⟩
theorem stringHeld.keepB {w w' : World} {lo hi : Nat} {v : Value} {q : Int} {n : Nat} (h : stringHeld w lo hi v q n) (k : Below w.heap.size w w') : stringHeld w' lo hi v q n := ⟨h.1, h.2.keepB k⟩

theorem markStringS_nil (q : Int) (w : World) : Calls Tryd.prog 13 #[.slice none 0 0, .int .i64 q] w fun e w' => e = .returned (.int .i64 q) ∧ w = w' := by
  go_enter Tryd.func13, Tryd.ntmps13
  go_wp2
  go_rounds 1
  go_ret
  exact ⟨rfl, rfl⟩
set_option maxHeartbeats 3200000 in
theorem markStringS_own (base g n c : Nat) (cells : List Value) (q : Int) (h1 : 1 ≤ q) (h2 : q ≤ 1099511627776) (hn : n ≤ 1048576) (w : World) (ho : w.ownsRow base 9 1 (.slice (some ⟨g, 0, none⟩) n c) n cells) :
    Calls Tryd.prog 13 #[.slice (some ⟨g, 0, none⟩) n c, .int .i64 q] w fun e w' => e = .returned (.int .i64 (q + (n : Int))) ∧ w'.ownsRow base 9 1 (.slice (some ⟨g, 0, none⟩) n c) n (marksBy strMarks 1 q n) ∧ w.grownBy w' (some g) := by
  go_enter Tryd.func13, Tryd.ntmps13
  go_wp2
  go_loopw [1, 5] (fun p i wr => ∃ k : Nat, k ≤ n ∧ i = .int .i64 k ∧ p = .int .i64 (q + (k : Int)) ∧ FillC wr base 9 1 g n c (marksBy strMarks 1 q k) k ∧ w.grownBy wr (some g)) (fun _ i _ => n - (intOf i).toNat)
  case atStart => exact ⟨0, Nat.zero_le _, rfl, by simp, FillC.start ho, only_refl _ _⟩
  case round =>
    obtain ⟨k, hk, rfl, rfl, hF, hG⟩ := hrel
    by_cases hlt : k < n
    · skip
      obtain ⟨ys, hys, ht, hd⟩ := hF
      have HY := Lib.hid hys
      have HT := Lib.hid ht
      have HD := Lib.hid hd
      clear hys ht hd
      have hg0 := (owns_lt HY.out).2
      go_wp2_with fail
      refine (markText_any _ (by omega) (by omega) _).mono ?_
      rintro e1 w1 ⟨rfl, hb1⟩
      have HY1 := Lib.hid (owns_below HY.out hb1)
      have hG := only_trans hG (only_of_below hb1 _)
      clear HY
      have HY := HY1
      clear HY1
      have f1_0 := HY.out.frozenAt k
      obtain ⟨u1_0, d1_0⟩ := owns_cell HY.out (show k < n * 1 by omega)
      go_wp2
      go_roundw
      case rel =>
        refine ⟨k + 1, by omega, by go_num, by go_num, ?_, only_setCell hG (.inl rfl) _⟩
        rw [marksBy]
        have h := fillC_of HT.out HD.out hlt [.string (mtext (q + ((k * 1 : Nat) : Int)))] rfl (HY.out.stored (k * 1) (.string (mtext (q + ((k * 1 : Nat) : Int))))).1
        simpa [Nat.mul_one, strMarks] using h
      case measure => simp [intOf]; omega
    · obtain rfl : k = n := by omega
      go_wp2
      go_ret
      exact ⟨by first | rfl | simp, hF.owns, hG⟩

theorem markStringS_at (lo hi : Nat) (v : Value) (n : Nat) (cells : List Value) (q : Int) (h1 : 1 ≤ q) (h2 : q ≤ 1099511627776) (hn : n ≤ 1048576) (w : World) (h : RowN w lo hi 9 1 v n cells) :
    Calls Tryd.prog 13 #[v, .int .i64 q] w fun e w' => e = .returned (.int .i64 (q + (n : Int))) ∧ stringHeld w' lo hi v q n ∧ Within w w' lo hi := by
  rcases h with ⟨g, c, rfl, k1, k2, k3, ho⟩ | ⟨rfl, rfl, rfl, h3⟩
  · exact (markStringS_own lo g n c cells q h1 h2 hn w ho).mono fun _ w' ⟨he, ho', hg⟩ => ⟨he, ⟨hn, .inl ⟨g, c, rfl, k1, k2, Nat.le_trans k3 hg.size, ho'⟩⟩, Within.of_grown hg k1 k2⟩
  · exact (markStringS_nil q w).mono fun _ w' ⟨he, hw⟩ => by subst hw; exact ⟨by rw [he]; exact ret_int (by simp), ⟨Nat.zero_le _, .inr ⟨rfl, rfl, rfl, h3⟩⟩, Within.refl _ _ _⟩

end Go.Proofs.YtipkhmcnkldbbaaDoor
