/-
  Words and ranges: what l6In, l1Word and wordValid return, for every input. No condition.
-/
import Derived.Test.YtmnmaibhjhhakaaGreatDoorFrame
namespace Go.Proofs.YtmnmaibhjhhakaaGreatDoor
open Go.ChangeShapes Go.WideShapes Go.ChangeAt Go.RowKit

/-- lo ≤ n ≤ hi. -/
def inB (n lo hi : Int) : Bool := decide (lo ≤ n) && decide (n ≤ hi)
theorem inB_t {n lo hi : Int} (h : lo ≤ n ∧ n ≤ hi) : inB n lo hi = true := by unfold inB; simp [h]
theorem inB_f {n lo hi : Int} (h : ¬ (lo ≤ n ∧ n ≤ hi)) : inB n lo hi = false := by unfold inB; simp; omega
theorem inB_iff {n lo hi : Int} : inB n lo hi = true ↔ lo ≤ n ∧ n ≤ hi := by unfold inB; simp

theorem l6In_any (n lo hi : Int) (w : World) : Calls Tryz.prog 34 #[.int .i64 n, .int .i64 lo, .int .i64 hi] w fun e w' => e = .returned (.bool (inB n lo hi)) ∧ w = w' := by
  by_cases h1 : lo ≤ n
  · by_cases h2 : n ≤ hi
    · rw [inB_t ⟨h1, h2⟩]
      go_enter Tryz.func34, Tryz.ntmps34
      go_wp2
      go_ret
      exact ⟨by simp, rfl⟩
    · rw [inB_f (by omega)]
      go_enter Tryz.func34, Tryz.ntmps34
      go_wp2
      go_ret
      exact ⟨by simp, rfl⟩
  · rw [inB_f (by omega)]
    go_enter Tryz.func34, Tryz.ntmps34
    go_wp2
    go_ret
    exact ⟨by simp, rfl⟩

/-- A small letter. -/
def lowB (c : UInt8) : Bool := decide (97 ≤ c.toNat) && decide (c.toNat ≤ 122)
/-- A word: 1 to 6 small letters. -/
def wordB (s : ByteArray) : Bool := inB s.size 1 6 && s.data.toList.all lowB

theorem all_take_succ {s : ByteArray} {k : Nat} (p : UInt8 → Bool) (h : k < s.size) (ht : (s.data.toList.take k).all p = true) (hc : p s[k] = true) : (s.data.toList.take (k + 1)).all p = true := by
  rw [List.take_succ_eq_append_getElem (by simpa using h), List.all_append, ht]
  simp only [List.all_cons, List.all_nil, Bool.and_true, Bool.true_and]
  exact hc
theorem not_all {s : ByteArray} {k : Nat} (p : UInt8 → Bool) (h : k < s.size) (hc : p s[k] = false) : s.data.toList.all p = false := by
  rw [Bool.eq_false_iff]
  intro ha
  rw [List.all_eq_true] at ha
  have := ha s[k] (by simp only [ByteArray.getElem_eq_getElem_data]; exact Array.getElem_mem_toList _)
  rw [hc] at this
  cases this
theorem low_no {c : UInt8} (h : ¬ (97 ≤ c.toNat ∧ c.toNat ≤ 122)) : lowB c = false := by unfold lowB; simp; omega
theorem low_yes {c : UInt8} (h : 97 ≤ c.toNat ∧ c.toNat ≤ 122) : lowB c = true := by unfold lowB; simp [h]
theorem word_bad {s : ByteArray} (h : s.data.toList.all lowB = false) : wordB s = false := by unfold wordB; rw [h]; simp
theorem word_len {s : ByteArray} (h : ¬ (1 ≤ s.size ∧ s.size ≤ 6)) : wordB s = false := by unfold wordB; rw [inB_f (by omega)]; simp
theorem word_in {s : ByteArray} (h : s.data.toList.all lowB = true) : wordB s = inB s.size 1 6 := by unfold wordB; rw [h]; simp

set_option maxHeartbeats 800000 in
theorem l1Word_any (s : ByteArray) (hs : s.size ≤ maxLen) (w : World) : Calls Tryz.prog 37 #[.string s] w fun e w' => e = .returned (.bool (wordB s)) ∧ w = w' := by
  unfold maxLen at hs
  go_enter Tryz.func37, Tryz.ntmps37
  go_wp2
  go_loop [3] (fun i => ∃ k : Nat, k ≤ s.size ∧ i = .int .i64 k ∧ Hid ((s.data.toList.take k).all lowB = true)) (fun i => s.size - (intOf i).toNat)
  case atStart => exact ⟨0, Nat.zero_le _, rfl, by unfold Hid; simp⟩
  case round =>
    obtain ⟨k, hk, rfl, ht⟩ := hrel
    by_cases hlt : k < s.size
    · by_cases c1 : (s[k].toNat : Int) < 97
      · have hr := Lib.hid (word_bad (not_all lowB hlt (low_no (by omega))))
        go_wp2
        go_ret
        exact ⟨ret_bool hr.out.symm, rfl⟩
      · by_cases c2 : (122 : Int) < (s[k].toNat : Int)
        · have hr := Lib.hid (word_bad (not_all lowB hlt (low_no (by omega))))
          go_wp2
          go_ret
          exact ⟨ret_bool hr.out.symm, rfl⟩
        · have hr := Lib.hid (all_take_succ lowB hlt ht.out (low_yes (by omega)))
          go_wp2
          go_round
          case rel => exact ⟨k + 1, by omega, by go_num, hr⟩
          case measure => simp [intOf]; omega
    · have hr : Hid (wordB s = inB s.size 1 6) := Lib.hid (word_in (by rw [List.take_of_length_le (by simp; omega)] at ht; exact ht.out))
      go_wp2_with (go_at_call 34; refine (l6In_any _ _ _ _).mono ?_; rintro e w' ⟨rfl, rfl⟩)
      go_ret
      exact ⟨ret_bool hr.out.symm, rfl⟩

set_option maxHeartbeats 800000 in
theorem wordValid_any (s : ByteArray) (hs : s.size ≤ maxLen) (w : World) : Calls Tryz.prog 59 #[.string s] w fun e w' => e = .returned (.bool (wordB s)) ∧ w = w' := by
  unfold maxLen at hs
  by_cases l1 : s.size < 1
  · have hr := Lib.hid (word_len (s := s) (by omega))
    go_enter Tryz.func59, Tryz.ntmps59
    go_wp2
    go_ret
    exact ⟨ret_bool hr.out.symm, rfl⟩
  by_cases l2 : 6 < s.size
  · have hr := Lib.hid (word_len (s := s) (by omega))
    go_enter Tryz.func59, Tryz.ntmps59
    go_wp2
    go_ret
    exact ⟨ret_bool hr.out.symm, rfl⟩
  go_enter Tryz.func59, Tryz.ntmps59
  go_wp2
  go_loop [3] (fun i => ∃ k : Nat, k ≤ s.size ∧ i = .int .i64 k ∧ Hid ((s.data.toList.take k).all lowB = true)) (fun i => s.size - (intOf i).toNat)
  case atStart => exact ⟨0, Nat.zero_le _, rfl, by unfold Hid; simp⟩
  case round =>
    obtain ⟨k, hk, rfl, ht⟩ := hrel
    by_cases hlt : k < s.size
    · by_cases c1 : (s[k].toNat : Int) < 97
      · have hr := Lib.hid (word_bad (not_all lowB hlt (low_no (by omega))))
        go_wp2
        go_ret
        exact ⟨ret_bool hr.out.symm, rfl⟩
      · by_cases c2 : (122 : Int) < (s[k].toNat : Int)
        · have hr := Lib.hid (word_bad (not_all lowB hlt (low_no (by omega))))
          go_wp2
          go_ret
          exact ⟨ret_bool hr.out.symm, rfl⟩
        · have hr := Lib.hid (all_take_succ lowB hlt ht.out (low_yes (by omega)))
          go_wp2
          go_round
          case rel => exact ⟨k + 1, by omega, by go_num, hr⟩
          case measure => simp [intOf]; omega
    · have hr : Hid (wordB s = true) := Lib.hid ((word_in (by rw [List.take_of_length_le (by simp; omega)] at ht; exact ht.out)).trans (inB_t (by omega)))
      go_wp2
      go_ret
      exact ⟨ret_bool hr.out.symm, rfl⟩
end Go.Proofs.YtmnmaibhjhhakaaGreatDoor
