/-
  ExpectFrom of the reference and of the program: what each returns, for every text. No condition.
-/
import Derived.Test.YtinghmdpjgbefaaNum
import Derived.Test.YtinghmdpjgbefaaDec
namespace Go.Proofs.Ytinghmdpjgbefaa
open Go.ChangeShapes Go.WideShapes Go.ChangeAt Go.RowKit

theorem specExpectValid_any (n : Int) (w : World) : Calls Try.prog 66 #[.int .i64 n] w fun e w' => e = .returned (.bool (inB n (-2) 23)) ∧ w = w' := by
  go_enter Try.func66, Try.ntmps66
  go_wp2_with (go_at_call 47; refine (l6In_any _ _ _ _).mono ?_; rintro e1 w1 ⟨rfl, rfl⟩)
  go_ret
  exact ⟨rfl, rfl⟩
theorem specExpectText_any (n : Int) (h0 : 0 ≤ n) (h1 : n ≤ 9223372036854775807) (w : World) :
    Calls Try.prog 37 #[.int .i64 n] w fun e w' => e = .returned (.string (if n ≤ 23 then decS n else ⟨#[]⟩)) ∧ Below w.heap.size w w' := by
  have n1 : (n == -2) = false := by simp; omega
  have n2 : (n == -1) = false := by simp; omega
  by_cases h : n ≤ 23
  · rw [if_pos h]
    go_enter Try.func37, Try.ntmps37
    have hv : inB n (-2) 23 = true := inB_t (by omega)
    go_wp2_with (first | (go_at_call 66; refine (specExpectValid_any _ _).mono ?_; rintro e1 w1 ⟨rfl, rfl⟩; rw [hv]) | (go_at_call 67; refine (l6Dec_any n h0 h1 _).mono ?_; rintro e1 w1 ⟨rfl, hb1⟩))
    go_ret
    exact ⟨rfl, (by repeat' (first | (with_reducible exact Below.refl _ _) | (with_reducible assumption) | (with_reducible refine below_step (by assumption) ?_) | (with_reducible refine below_alloc ?_ _) | (with_reducible refine Below.drew ?_) | (with_reducible refine below_drewN ?_ _) | (with_reducible refine Below.setCell ?_ ?_ _) | go_size))⟩
  · rw [if_neg h]
    have hv : inB n (-2) 23 = false := inB_f (by omega)
    clear h
    go_enter Try.func37, Try.ntmps37
    go_wp2_with (go_at_call 66; refine (specExpectValid_any _ _).mono ?_; rintro e1 w1 ⟨rfl, rfl⟩; rw [hv])
    go_ret
    exact ⟨rfl, (by repeat' (first | (with_reducible exact Below.refl _ _) | (with_reducible assumption) | (with_reducible refine below_step (by assumption) ?_) | (with_reducible refine below_alloc ?_ _) | (with_reducible refine Below.drew ?_) | (with_reducible refine below_drewN ?_ _) | (with_reducible refine Below.setCell ?_ ?_ _) | go_size))⟩


def expV (s : ByteArray) : Int := if (s.toList == [97, 110, 121]) = true then -2 else if (s.toList == [110, 111, 110, 101]) = true then -1 else numV s 23
def expB (s : ByteArray) : Bool := (s.toList == [97, 110, 121]) || (s.toList == [110, 111, 110, 101]) || numB s 23

theorem implExpectFrom_any (s : ByteArray) (hs : s.size ≤ maxLen) (w : World) :
    Calls Try.prog 10 #[.string s] w fun e w' => e = .returned (.tuple #[.int .i64 (expV s), .bool (expB s)]) ∧ w = w' := by
  cases c1 : (s.toList == [97, 110, 121])
  · cases c2 : (s.toList == [110, 111, 110, 101])
    · have HE := Lib.hid (show expV s = numV s 23 ∧ expB s = numB s 23 by unfold expV expB; rw [c1, c2]; exact ⟨rfl, rfl⟩)
      go_enter Try.func10, Try.ntmps10
      go_wp2_with (go_at_call 38; refine (numberFrom_any s hs 23 (by omega) (by omega) _).mono ?_; rintro e1 w1 ⟨rfl, rfl⟩)
      go_ret2
      exact ⟨by rw [HE.out.1, HE.out.2]; rfl, rfl⟩
    · have HE := Lib.hid (show expV s = -1 ∧ expB s = true by unfold expV expB; rw [c1, c2]; exact ⟨rfl, rfl⟩)
      go_enter Try.func10, Try.ntmps10
      go_wp2
      go_ret2
      exact ⟨by rw [HE.out.1, HE.out.2]; rfl, rfl⟩
  · have HE := Lib.hid (show expV s = -2 ∧ expB s = true by unfold expV expB; rw [c1]; exact ⟨rfl, rfl⟩)
    go_enter Try.func10, Try.ntmps10
    go_wp2
    go_ret2
    exact ⟨by rw [HE.out.1, HE.out.2]; rfl, rfl⟩

theorem fiveV_le (s : ByteArray) : -1 ≤ fiveV s ∧ fiveV s ≤ 99999 := by
  unfold fiveV
  split
  · rename_i h
    simp only [Bool.and_eq_true, decide_eq_true_eq] at h
    have h1 := dval_lt _ h.2
    have hsz : s.data.toList.length = s.size := by simp
    have h2 : s.data.toList.length ≤ 5 := by omega
    have h3 := Nat.pow_le_pow_right (show 1 ≤ 10 by omega) h2
    omega
  · omega
theorem fiveV_size {s : ByteArray} (h : 0 ≤ fiveV s) : 0 < s.size := by
  unfold fiveV at h
  split at h
  · rename_i h'
    simp only [Bool.and_eq_true, decide_eq_true_eq] at h'
    omega
  · omega

set_option maxHeartbeats 1600000 in
theorem specExpectFrom_any (s : ByteArray) (hs : s.size ≤ maxLen) (w : World) :
    Calls Try.prog 9 #[.string s] w fun e w' => e = .returned (.tuple #[.int .i64 (expV s), .bool (expB s)]) ∧ Below w.heap.size w w' := by
  cases c1 : (s.toList == [97, 110, 121])
  · cases c2 : (s.toList == [110, 111, 110, 101])
    · have HE := Lib.hid (show expV s = numV s 23 ∧ expB s = numB s 23 by unfold expV expB; rw [c1, c2]; exact ⟨rfl, rfl⟩)
      have hb := fiveV_le s
      by_cases hneg : fiveV s < 0
      · have hn : numB s 23 = false := by
          rw [Bool.eq_false_iff]; intro h
          have := (num_five (s := s) (most := 23) (by omega) (by omega)).1 h; omega
        have HN := Lib.hid (show expV s = 0 ∧ expB s = false by rw [HE.out.1, HE.out.2, numV_f hn, hn]; exact ⟨rfl, rfl⟩)
        clear hn HE
        go_enter Try.func9, Try.ntmps9
        go_wp2_with (go_at_call 36; refine (l1Number_any s hs _).mono ?_; rintro e1 w1 ⟨rfl, rfl⟩)
        go_ret2
        exact ⟨by rw [HN.out.1, HN.out.2]; rfl, Below.refl _ _⟩
      · have h0 : 0 ≤ fiveV s := by omega
        obtain ⟨hb1, hb2⟩ := hb
        by_cases he : (if fiveV s ≤ 23 then decS (fiveV s) else ⟨#[]⟩) = s
        · have hle : fiveV s ≤ 23 := by
            by_cases h : fiveV s ≤ 23
            · exact h
            · rw [if_neg h] at he; have h1 := fiveV_size h0; rw [← he] at h1; exact absurd h1 (by decide)
          have hd : decS (fiveV s) = s := by rw [if_pos hle] at he; exact he
          have hn := (num_five (s := s) (most := 23) (by omega) (by omega)).2 ⟨h0, hle, hd⟩
          have HN := Lib.hid (show expV s = fiveV s ∧ expB s = true by rw [HE.out.1, HE.out.2, num_val (by omega) (by omega) hn, hn]; exact ⟨rfl, rfl⟩)
          have HH := Lib.hid he
          clear hn HE he hd hle
          go_enter Try.func9, Try.ntmps9
          go_wp2_with fail
          refine (l1Number_any s hs _).mono ?_
          rintro e1 w1 ⟨rfl, rfl⟩
          go_wp2_with fail
          refine (specExpectText_any (fiveV s) h0 (by omega) _).mono ?_
          rintro e2 w2 ⟨rfl, hb2⟩
          rw [HH.out]
          go_wp2
          go_ret2
          exact ⟨by rw [HN.out.1, HN.out.2]; rfl, (by repeat' (first | (with_reducible exact Below.refl _ _) | (with_reducible assumption) | (with_reducible refine below_step (by assumption) ?_) | (with_reducible refine below_alloc ?_ _) | (with_reducible refine Below.drew ?_) | (with_reducible refine below_drewN ?_ _) | (with_reducible refine Below.setCell ?_ ?_ _) | go_size))⟩
        · have hn : numB s 23 = false := by
            rw [Bool.eq_false_iff]; intro h
            obtain ⟨a1, a2, a3⟩ := (num_five (s := s) (most := 23) (by omega) (by omega)).1 h
            exact he (by rw [if_pos a2]; exact a3)
          have HN := Lib.hid (show expV s = 0 ∧ expB s = false by rw [HE.out.1, HE.out.2, numV_f hn, hn]; exact ⟨rfl, rfl⟩)
          obtain ⟨T, hT⟩ : ∃ T, (if fiveV s ≤ 23 then decS (fiveV s) else ⟨#[]⟩) = T := ⟨_, rfl⟩
          rw [hT] at he
          have F1 : (T.toList == s.toList) = false := str_ne he
          have F2 : (T.toList != s.toList) = true := by unfold bne; rw [F1]; rfl
          have HH := Lib.hid hT
          clear hn HE he hT
          go_enter Try.func9, Try.ntmps9
          go_wp2_with fail
          refine (l1Number_any s hs _).mono ?_
          rintro e1 w1 ⟨rfl, rfl⟩
          go_wp2_with fail
          refine (specExpectText_any (fiveV s) h0 (by omega) _).mono ?_
          rintro e2 w2 ⟨rfl, hb2⟩
          rw [HH.out]
          go_wp2
          go_ret2
          exact ⟨by rw [HN.out.1, HN.out.2]; rfl, (by repeat' (first | (with_reducible exact Below.refl _ _) | (with_reducible assumption) | (with_reducible refine below_step (by assumption) ?_) | (with_reducible refine below_alloc ?_ _) | (with_reducible refine Below.drew ?_) | (with_reducible refine below_drewN ?_ _) | (with_reducible refine Below.setCell ?_ ?_ _) | go_size))⟩
    · have HE := Lib.hid (show expV s = -1 ∧ expB s = true by unfold expV expB; rw [c1, c2]; exact ⟨rfl, rfl⟩)
      go_enter Try.func9, Try.ntmps9
      go_wp2
      go_ret2
      exact ⟨by rw [HE.out.1, HE.out.2]; rfl, Below.refl _ _⟩
  · have HE := Lib.hid (show expV s = -2 ∧ expB s = true by unfold expV expB; rw [c1]; exact ⟨rfl, rfl⟩)
    go_enter Try.func9, Try.ntmps9
    go_wp2
    go_ret2
    exact ⟨by rw [HE.out.1, HE.out.2]; rfl, Below.refl _ _⟩
end Go.Proofs.Ytinghmdpjgbefaa
