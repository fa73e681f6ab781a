/-
  Numbers in digits: what impl.numberFrom and spec.l1Number return, for every text. No condition.
-/
import Derived.Test.YtmkdmafffblmaaaDoorCore
import Derived.Test.YtmkdmafffblmaaaDoorPNum
namespace Go.Proofs.YtmkdmafffblmaaaDoor
open Go.ChangeShapes Go.WideShapes Go.ChangeAt Go.RowKit

theorem take_all_dig {s : ByteArray} {k : Nat} (h : k < s.size) (ht : (s.data.toList.take k).all digB = true) (hc : digB s[k] = true) : (s.data.toList.take (k + 1)).all digB = true := all_take_succ digB h ht hc
theorem take_dval {s : ByteArray} {k : Nat} (h : k < s.size) : dval (s.data.toList.take (k + 1)) = dval (s.data.toList.take k) * 10 + (s[k].toNat - 48) := by
  rw [List.take_succ_eq_append_getElem (by simpa using h), dval_snoc]; rfl
theorem not_dig {s : ByteArray} {k : Nat} (h : k < s.size) (hc : ¬ (48 ≤ s[k].toNat ∧ s[k].toNat ≤ 57)) : s.data.toList.all digB = false := not_all digB h (by unfold digB; simp; omega)
theorem dig_yes {c : UInt8} (h : 48 ≤ c.toNat ∧ c.toNat ≤ 57) : digB c = true := by unfold digB; simp [h]
theorem num_nodig {s : ByteArray} {most : Int} (h : s.data.toList.all digB = false) : numB s most = false := by unfold numB canonB; rw [h]; simp
theorem num_big {s : ByteArray} {most : Int} {k : Nat} (h : most < (dval (s.data.toList.take k) : Int)) : numB s most = false := by
  have := dval_mono s.data.toList k
  unfold numB
  rw [decide_eq_false (by omega), Bool.and_false]
theorem num_empty {s : ByteArray} {most : Int} (h : s.size = 0) : numB s most = false := by
  have : s.data.toList = [] := List.eq_nil_of_length_eq_zero (by rw [show s.data.toList.length = s.size by simp]; exact h)
  unfold numB canonB; rw [this]; rfl
theorem head_zero {s : ByteArray} (h : 0 < s.size) : s.data.toList.head? = some s[0] := by
  rw [List.head?_eq_getElem?, List.getElem?_eq_getElem (by simpa using h)]; rfl
theorem num_zero {s : ByteArray} {most : Int} (h : 1 < s.size) (h0 : s[0].toNat = 48) : numB s most = false := by
  have hz : zeroB s.data.toList = true := by
    unfold zeroB
    rw [head_zero (by omega), decide_eq_true (by simpa using h : 1 < s.data.toList.length)]
    have : s[0] = 48 := UInt8.toNat_inj.1 (by simpa using h0)
    simp [this]
  unfold numB canonB; rw [hz]; simp
theorem num_fine {s : ByteArray} {most : Int} (h : 0 < s.size) (hz : 1 < s.size → s[0].toNat ≠ 48) (hd : s.data.toList.all digB = true) (hm : (dval s.data.toList : Int) ≤ most) : numB s most = true := by
  have h1 : s.data.toList ≠ [] := fun e => by have h1 : s.data.toList.length = s.size := (by simp); rw [e, List.length_nil] at h1; omega
  have h2 : zeroB s.data.toList = false := by
    unfold zeroB
    rw [head_zero h]
    by_cases c : 1 < s.size
    · have : s[0] ≠ 48 := fun e => hz c (by rw [e]; rfl)
      simp [this]
    · rw [decide_eq_false (by simpa using c)]; rfl
  unfold numB
  rw [canon_mk h1 h2 hd, decide_eq_true hm]; rfl
theorem str_nonempty {s : ByteArray} (h : 0 < s.size) : s.toList.isEmpty = false := by
  cases e : s.toList with
  | nil =>
    rw [ByteArray.toList_eq] at e
    have h1 : s.data.toList.length = s.size := by simp
    rw [e, List.length_nil] at h1
    omega
  | cons a l => rfl
theorem str_isempty {s : ByteArray} (h : s.size = 0) : s.toList.isEmpty = true := by
  rw [List.isEmpty_iff, ByteArray.toList_eq]; exact List.eq_nil_of_length_eq_zero (by rw [show s.data.toList.length = s.size by simp]; exact h)

set_option maxHeartbeats 3200000 in
theorem numberFrom_any (s : ByteArray) (hs : s.size ≤ maxLen) (most : Int) (h0 : 0 ≤ most) (h1 : most ≤ 99999) (w : World) :
    Calls Tryd.prog 63 #[.string s, .int .i64 most] w fun e w' => e = .returned (.tuple #[.int .i64 (numV s most), .bool (numB s most)]) ∧ w = w' := by
  unfold maxLen at hs
  by_cases hz : s.size = 0
  · have HE := Lib.hid (num_empty (most := most) hz)
    have e1 := str_isempty hz
    clear hz
    go_enter Tryd.func63, Tryd.ntmps63
    go_wp2
    go_ret2
    exact ⟨by rw [numV_f HE.out, HE.out]; rfl, rfl⟩
  have hpos : 0 < s.size := by omega
  have e1 := str_nonempty hpos
  clear hz
  by_cases hl : 1 < s.size ∧ s[0].toNat = 48
  · have HE := Lib.hid (num_zero (most := most) hl.1 hl.2)
    obtain ⟨hl1, hl2⟩ := hl
    have e2 : ((s[0].toNat : Int) == 48) = true := by simp; omega
    have e3 : decide ((1 : Int) < (s.size : Int)) = true := by simp; omega
    have hl1' : (1 : Int) < s.size := by omega
    clear hl2
    go_enter Tryd.func63, Tryd.ntmps63
    go_wp2
    go_ret2
    exact ⟨by rw [numV_f HE.out, HE.out]; rfl, rfl⟩
  · have HZ := Lib.hid (show 1 < s.size → s[0].toNat ≠ 48 from fun h h' => hl ⟨h, h'⟩)
    have main : ∀ (hg : (s.size = 1 ∧ decide ((1 : Int) < (s.size : Int)) = false) ∨ ((1 : Int) < s.size ∧ ((s[0].toNat : Int) == 48) = false)), Calls Tryd.prog 63 #[.string s, .int .i64 most] w fun e w' => e = .returned (.tuple #[.int .i64 (numV s most), .bool (numB s most)]) ∧ w = w' := by
      intro hg
      rcases hg with ⟨hg1, hg⟩ | ⟨hg1, hg⟩
      all_goals
        have HG1 := Lib.hid hg1
        clear hg1 hl
        go_enter Tryd.func63, Tryd.ntmps63
        first
          | go_wp2_with fail
        go_loop [6, 7] (fun n i => ∃ (k v : Nat), k ≤ s.size ∧ i = .int .i64 k ∧ n = .int .i64 v ∧ (v : Int) ≤ most ∧ Hid (dval (s.data.toList.take k) = v) ∧ Hid ((s.data.toList.take k).all digB = true)) (fun _ i => s.size - (intOf i).toNat)
        case atStart => exact ⟨0, 0, Nat.zero_le _, rfl, rfl, by omega, Lib.hid (by simp [dval]), Lib.hid (by simp)⟩
        case round =>
          obtain ⟨k, v, hk, rfl, rfl, hv, hd, ha⟩ := hrel
          by_cases hlt : k < s.size
          · by_cases c1 : (s[k].toNat : Int) < 48
            · have HE := Lib.hid (num_nodig (most := most) (not_dig hlt (by omega)))
              go_wp2
              go_ret2
              exact ⟨by rw [numV_f HE.out, HE.out]; rfl, rfl⟩
            · by_cases c2 : (57 : Int) < (s[k].toNat : Int)
              · have HE := Lib.hid (num_nodig (most := most) (not_dig hlt (by omega)))
                go_wp2
                go_ret2
                exact ⟨by rw [numV_f HE.out, HE.out]; rfl, rfl⟩
              · have hd2 := Lib.hid ((take_dval hlt).trans (by rw [hd.out]))
                have ha2 := Lib.hid (take_all_dig hlt ha.out (dig_yes (by omega)))
                have hc : ((s[k].toNat - 48 : Nat) : Int) = (s[k].toNat : Int) - 48 := by omega
                have HC := Lib.hid hc
                clear hc
                by_cases c3 : most < (v : Int) * 10 + ((s[k].toNat : Int) - 48)
                · have HE := Lib.hid (num_big (s := s) (most := most) (k := k + 1) (by rw [hd2.out]; have := HC.out; omega))
                  go_wp2
                  go_ret2
                  exact ⟨by rw [numV_f HE.out, HE.out]; rfl, rfl⟩
                · go_wp2
                  go_round
                  case rel => exact ⟨k + 1, v * 10 + (s[k].toNat - 48), by omega, by go_num, by have := HC.out; simp; omega, by have := HC.out; omega, hd2, ha2⟩
                  case measure => simp [intOf]; omega
          · have ht : s.data.toList.take k = s.data.toList := List.take_of_length_le (by simp; omega)
            rw [ht] at hd ha
            have HE := Lib.hid (num_fine (most := most) hpos HZ.out ha.out (by rw [hd.out]; exact hv))
            have HV := Lib.hid ((numV_t HE.out).trans (by rw [hd.out]))
            clear ht
            go_wp2
            go_ret2
            exact ⟨by rw [HV.out, HE.out]; rfl, rfl⟩
    by_cases h2 : 1 < s.size
    · exact main (.inr ⟨by omega, by have := HZ.out h2; simp; omega⟩)
    · exact main (.inl ⟨by omega, by simp; omega⟩)

set_option maxHeartbeats 3200000 in
theorem l1Number_any (s : ByteArray) (hs : s.size ≤ maxLen) (w : World) :
    Calls Tryd.prog 59 #[.string s] w fun e w' => e = .returned (.int .i64 (fiveV s)) ∧ w = w' := by
  unfold maxLen at hs
  cases E1 : inB s.size 1 5
  · have HE : Hid (fiveV s = -1) := Lib.hid (by
      unfold fiveV
      rw [if_neg]
      intro h
      simp only [Bool.and_eq_true, decide_eq_true_eq] at h
      have : inB s.size 1 5 = true := inB_t (by omega)
      rw [E1] at this; cases this)
    go_enter Tryd.func59, Tryd.ntmps59
    go_wp2_with (go_at_call 26; refine (l6In_any _ _ _ _).mono ?_; rintro e w' ⟨rfl, rfl⟩; rw [E1])
    go_ret
    exact ⟨ret_int HE.out.symm, rfl⟩
  · have hr := inB_iff.1 E1
    obtain ⟨hr1, hr2⟩ := hr
    have HN : Hid (s.data.toList.all digB = false → fiveV s = -1) := Lib.hid (fun h => by unfold fiveV; rw [h, Bool.and_false, if_neg (by simp)])
    have HY : Hid (s.data.toList.all digB = true → fiveV s = (dval s.data.toList : Int)) := Lib.hid (fun h => by unfold fiveV; rw [h, decide_eq_true (by omega : 1 ≤ s.size), decide_eq_true (by omega : s.size ≤ 5)]; rfl)
    go_enter Tryd.func59, Tryd.ntmps59
    go_wp2_with (go_at_call 26; refine (l6In_any _ _ _ _).mono ?_; rintro e w' ⟨rfl, rfl⟩; rw [E1])
    go_loop [3, 4] (fun n i => ∃ (k v : Nat), k ≤ s.size ∧ i = .int .i64 k ∧ n = .int .i64 v ∧ v ≤ 1000000 ∧ Hid (dval (s.data.toList.take k) = v) ∧ Hid ((s.data.toList.take k).all digB = true)) (fun _ i => s.size - (intOf i).toNat)
    case atStart => exact ⟨0, 0, Nat.zero_le _, rfl, rfl, by omega, Lib.hid (by simp [dval]), Lib.hid (by simp)⟩
    case round =>
      obtain ⟨k, v, hk, rfl, rfl, hv, hd, ha⟩ := hrel
      by_cases hlt : k < s.size
      · by_cases c1 : (s[k].toNat : Int) < 48
        · have HE := Lib.hid (HN.out (not_dig hlt (by omega)))
          go_wp2
          go_ret
          exact ⟨ret_int HE.out.symm, rfl⟩
        · by_cases c2 : (57 : Int) < (s[k].toNat : Int)
          · have HE := Lib.hid (HN.out (not_dig hlt (by omega)))
            go_wp2
            go_ret
            exact ⟨ret_int HE.out.symm, rfl⟩
          · have hd2 := Lib.hid ((take_dval hlt).trans (by rw [hd.out]))
            have ha2 := Lib.hid (take_all_dig hlt ha.out (dig_yes (by omega)))
            have HC := Lib.hid (show ((s[k].toNat - 48 : Nat) : Int) = (s[k].toNat : Int) - 48 by omega)
            have hb : v * 10 + (s[k].toNat - 48) ≤ 1000000 := by
              have h1 := dval_lt _ ha2.out
              rw [hd2.out, List.length_take] at h1
              have hsz : s.data.toList.length = s.size := by simp
              have h2 : min (k + 1) s.data.toList.length ≤ 5 := by omega
              have h3 := Nat.pow_le_pow_right (show 1 ≤ 10 by omega) h2
              omega
            go_wp2
            go_round
            case rel => exact ⟨k + 1, v * 10 + (s[k].toNat - 48), by omega, by go_num, by have := HC.out; simp; omega, hb, hd2, ha2⟩
            case measure => simp [intOf]; omega
      · have ht : s.data.toList.take k = s.data.toList := List.take_of_length_le (by simp; omega)
        rw [ht] at hd ha
        have HE := Lib.hid ((HY.out ha.out).trans (by rw [hd.out]))
        clear ht
        go_wp2
        go_ret
        exact ⟨ret_int HE.out.symm, rfl⟩
end Go.Proofs.YtmkdmafffblmaaaDoor
