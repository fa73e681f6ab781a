/-
  LocksFree of the reference and of the program: whether nobody but an owner holds one of some stripes. No condition.
-/
import Derived.Test.YtfbnpnajpkhkdaaLocksOf
import Derived.Test.YtfbnpnajpkhkdaaKInt
import Derived.Test.YtfbnpnajpkhkdaaAsc
namespace Go.Proofs.Ytfbnpnajpkhkdaa
open Go.ChangeShapes Go.WideShapes Go.ChangeAt Go.RowKit

def locksFreeB (xs : List (Int × Int)) (o : Int) (ss : List Int) : Bool := locksFrom (-1) xs && inB o 1 99 && ascTo (-1) 8 ss && freeB xs o ss

set_option maxHeartbeats 3200000 in
theorem l11Stripes_any (A : Option Addr) (n c : Nat) (ss : List Int) (hn : n ≤ 1048576) (hx : ss.length = n) (w : World) (hL : Lies w 1 A n (ss.flatMap intCells)) :
    Calls Try.prog 84 #[.slice A n c] w fun e w' => e = .returned (.bool (ascTo (-1) 8 ss)) ∧ Below w.heap.size w w' := by
  go_enter Try.func84, Try.ntmps84
  go_wp2
  go_loopw [3] (fun i wr => ∃ (k : Nat) (L : Int), k ≤ n ∧ i = .int .i64 k ∧ Hid (ascTo (-1) 8 ss = ascTo L 8 (ss.drop k)) ∧ -1 ≤ L ∧ Hid (0 < k → ss[k - 1]? = some L) ∧ Hid (k = 0 → L = -1) ∧ Below w.heap.size w wr) (fun i _ => n - (intOf i).toNat)
  case atStart => exact ⟨0, -1, Nat.zero_le _, rfl, Lib.hid rfl, by omega, Lib.hid (by omega), Lib.hid (fun _ => rfl), Below.refl _ _⟩
  case round =>
    obtain ⟨k, L, hk, rfl, hT, hL1, hP, hZ, hB⟩ := hrel
    by_cases hlt : k < n
    · obtain ⟨b, o, rfl, hb, hc⟩ := (hL.below hB).row (fun _ => rfl) (by omega)
      obtain ⟨x0, hxk⟩ := get_lt hx hlt
      have c0 : wr.cell? ⟨b, o + k, none⟩ = some (.int .i64 x0) := by simpa using hc k _ hxk 0 _ rfl
      have HX := Lib.hid hxk
      have HT := Lib.hid (asc_step hxk hT.out)
      have HC := Lib.hid hc
      clear hxk hc hT
      cases E0 : inB x0 0 7
      · have HE : Hid (ascTo (-1) 8 ss = false) := Lib.hid (by
          rw [HT.out]; unfold inB at E0; simp at E0 ⊢; omega)
        go_wp2_with fail
        go_quiet ((go_at_call 83; exact quiet_left (l6In_any _ _ _ _)))
        go_wp2
        go_ret
        exact ⟨ret_bool HE.out.symm, (by repeat' (first | (with_reducible exact Below.refl _ _) | (with_reducible assumption) | (with_reducible refine below_step (by assumption) ?_) | (with_reducible refine below_alloc ?_ _) | (with_reducible refine Below.drew ?_) | (with_reducible refine below_drewN ?_ _) | (with_reducible refine Below.setCell ?_ ?_ _) | go_size))⟩
      have h7 : 0 ≤ x0 ∧ x0 ≤ 7 := inB_iff.1 E0
      obtain ⟨h70, h71⟩ := h7
      by_cases hk0 : k = 0
      · have HE : Hid (ascTo (-1) 8 ss = ascTo x0 8 (ss.drop (k + 1))) := Lib.hid (by
          rw [HT.out, hZ.out hk0]; simp; omega)
        have z : decide ((0 : Int) < (k : Int)) = false := by simp; omega
        have z2 : decide (0 < k) = false := by simp; omega
        clear hk0 hZ hP HC
        go_wp2_with fail
        go_quiet ((go_at_call 83; exact quiet_left (l6In_any _ _ _ _)))
        go_wp2
        go_roundw
        case rel => exact ⟨k + 1, x0, by omega, by go_num, HE, by omega, Lib.hid (fun _ => HX.out), Lib.hid (by omega), (by repeat' (first | (with_reducible exact Below.refl _ _) | (with_reducible assumption) | (with_reducible refine below_step (by assumption) ?_) | (with_reducible refine below_alloc ?_ _) | (with_reducible refine Below.drew ?_) | (with_reducible refine below_drewN ?_ _) | (with_reducible refine Below.setCell ?_ ?_ _) | go_size))⟩
        case measure => simp [intOf]; omega
      · have hy := hP.out (by omega)
        have d0 : wr.cell? ⟨b, o + (k - 1), none⟩ = some (.int .i64 L) := by simpa using HC.out (k - 1) _ hy 0 _ rfl
        have z : decide ((0 : Int) < (k : Int)) = true := by simp; omega
        have z1 : (1 : Int) ≤ (k : Int) := by omega
        have z2 : 0 < k := by omega
        clear hy hk0 hZ hP HC
        by_cases hle : x0 ≤ L
        · have HE : Hid (ascTo (-1) 8 ss = false) := Lib.hid (by rw [HT.out]; simp; omega)
          go_wp2_with fail
          go_quiet ((go_at_call 83; exact quiet_left (l6In_any _ _ _ _)))
          go_wp2
          go_ret
          exact ⟨ret_bool HE.out.symm, (by repeat' (first | (with_reducible exact Below.refl _ _) | (with_reducible assumption) | (with_reducible refine below_step (by assumption) ?_) | (with_reducible refine below_alloc ?_ _) | (with_reducible refine Below.drew ?_) | (with_reducible refine below_drewN ?_ _) | (with_reducible refine Below.setCell ?_ ?_ _) | go_size))⟩
        · have HE : Hid (ascTo (-1) 8 ss = ascTo x0 8 (ss.drop (k + 1))) := Lib.hid (by rw [HT.out]; simp; omega)
          have hle' : decide (x0 ≤ L) = false := by simp; omega
          go_wp2_with fail
          go_quiet ((go_at_call 83; exact quiet_left (l6In_any _ _ _ _)))
          go_wp2
          go_roundw
          case rel => exact ⟨k + 1, x0, by omega, by go_num, HE, by omega, Lib.hid (fun _ => HX.out), Lib.hid (by omega), (by repeat' (first | (with_reducible exact Below.refl _ _) | (with_reducible assumption) | (with_reducible refine below_step (by assumption) ?_) | (with_reducible refine below_alloc ?_ _) | (with_reducible refine Below.drew ?_) | (with_reducible refine below_drewN ?_ _) | (with_reducible refine Below.setCell ?_ ?_ _) | go_size))⟩
          case measure => simp [intOf]; omega
    · have HE : Hid (ascTo (-1) 8 ss = true) := Lib.hid (by
        rw [hT.out, List.drop_of_length_le (by omega)]; rfl)
      go_wp2
      go_ret
      exact ⟨ret_bool HE.out.symm, (by repeat' (first | (with_reducible exact Below.refl _ _) | (with_reducible assumption) | (with_reducible refine below_step (by assumption) ?_) | (with_reducible refine below_alloc ?_ _) | (with_reducible refine Below.drew ?_) | (with_reducible refine below_drewN ?_ _) | (with_reducible refine Below.setCell ?_ ?_ _) | go_size))⟩

/-- One lock is on none of some stripes, or its owner's. -/
def freeOne (x : Int × Int) (o : Int) (ss : List Int) : Bool := ss.all (fun s => decide (¬ (x.1 = s ∧ x.2 ≠ o)))
theorem freeP_eq (xs : List (Int × Int)) (o : Int) (ss : List Int) : freeP xs o ss = xs.all (fun x => freeOne x o ss) := rfl

set_option maxHeartbeats 6400000 in
theorem l11Free_any (A : Option Addr) (n c : Nat) (xs : List (Int × Int)) (hn : n ≤ 1048576) (hx : xs.length = n) (o : Int) (B : Option Addr) (m d : Nat) (ss : List Int) (hm : m ≤ 1048576) (hy : ss.length = m) (w : World) (hL : Lies w 2 A n (xs.flatMap lockCells)) (hM : Lies w 1 B m (ss.flatMap intCells)) :
    Calls Try.prog 85 #[.slice A n c, .int .i64 o, .slice B m d] w fun e w' => e = .returned (.bool (freeP xs o ss)) ∧ Below w.heap.size w w' := by
  have HX := Lib.hid hx
  have HY := Lib.hid hy
  have HL := Lib.hid hL
  have HM := Lib.hid hM
  clear hx hy hL hM
  go_enter Try.func85, Try.ntmps85
  go_wp2
  go_loopw [7] (fun i wr => ∃ k : Nat, k ≤ n ∧ i = .int .i64 k ∧ Hid (freeP (xs.take k) o ss = true) ∧ Below w.heap.size w wr) (fun i _ => n - (intOf i).toNat)
  case atStart => exact ⟨0, Nat.zero_le _, rfl, Lib.hid rfl, Below.refl _ _⟩
  case round =>
    obtain ⟨k, hk, rfl, hT, hB⟩ := hrel
    by_cases hlt : k < n
    · obtain ⟨b, o1, rfl, hb, hc⟩ := (HL.out.below hB).row (fun _ => rfl) (by omega)
      obtain ⟨⟨x0, x1⟩, hxk⟩ := get_lt HX.out hlt
      have c0 : wr.cell? ⟨b, o1 + k * 2, none⟩ = some (.int .i64 x0) := hc k _ hxk 0 _ rfl
      have c1 : wr.cell? ⟨b, o1 + k * 2 + 1, none⟩ = some (.int .i64 x1) := hc k _ hxk 1 _ rfl
      have HK := Lib.hid hxk
      clear hxk hc
      go_wp2
      obtain ⟨wo, hwo⟩ : ∃ wo : World, wo = wr := ⟨_, rfl⟩
      subst hwo
      go_loopw [8] (fun i wi => ∃ j : Nat, j ≤ m ∧ i = .int .i64 j ∧ Hid (freeOne (x0, x1) o (ss.take j) = true) ∧ Below wo.heap.size wo wi) (fun i _ => m - (intOf i).toNat)
      case atStart => exact ⟨0, Nat.zero_le _, rfl, Lib.hid rfl, Below.refl _ _⟩
      case round =>
        obtain ⟨j, hj, rfl, hS, hC⟩ := hrel
        by_cases hjt : j < m
        · have e0 := box_cell hC c0
          have e1 := box_cell hC c1
          obtain ⟨b', o', rfl, hb', hc'⟩ := ((HM.out.below hB).below hC).row (fun _ => rfl) (by omega)
          obtain ⟨y0, hyj⟩ := get_lt HY.out hjt
          have d0 : wr.cell? ⟨b', o' + j, none⟩ = some (.int .i64 y0) := by simpa using hc' j _ hyj 0 _ rfl
          have HJ := Lib.hid hyj
          have hBC := below_step hC hB
          clear hyj hc'
          by_cases h1 : x0 = y0
          · have q1 : (x0 == y0) = true := by simp [h1]
            by_cases h2 : x1 = o
            · have q2 : (x1 != o) = false := by simp [h2]
              have HS := Lib.hid (show freeOne (x0, x1) o (ss.take (j + 1)) = true by
                have := hS.out
                unfold freeOne at this ⊢
                rw [take_succ_of HJ.out, List.all_append, this]; simp [h2])
              clear h1 h2
              go_wp2_with fail
              go_quiet (fail)
              go_wp2
              go_roundw
              case rel => exact ⟨j + 1, by omega, by go_num, HS, (by repeat' (first | (with_reducible exact Below.refl _ _) | (with_reducible assumption) | (with_reducible refine below_step (by assumption) ?_) | (with_reducible refine below_alloc ?_ _) | (with_reducible refine Below.drew ?_) | (with_reducible refine below_drewN ?_ _) | (with_reducible refine Below.setCell ?_ ?_ _) | go_size))⟩
              case measure => simp [intOf]; omega
            · have q2 : (x1 != o) = true := by simp [h2]
              have HE := Lib.hid (show freeP xs o ss = false by
                rw [Bool.eq_false_iff]
                intro hf
                unfold freeP at hf
                rw [List.all_eq_true] at hf
                have hf1 := hf _ (List.mem_of_getElem? HK.out)
                rw [List.all_eq_true] at hf1
                have hf2 := hf1 _ (List.mem_of_getElem? HJ.out)
                simp at hf2
                exact hf2.elim (fun h => h h1) h2)
              clear h1 h2
              go_wp2_with fail
              go_quiet (fail)
              go_wp2
              go_ret
              exact ⟨ret_bool HE.out.symm, (by repeat' (first | (with_reducible exact Below.refl _ _) | (with_reducible assumption) | (with_reducible refine below_step (by assumption) ?_) | (with_reducible refine below_alloc ?_ _) | (with_reducible refine Below.drew ?_) | (with_reducible refine below_drewN ?_ _) | (with_reducible refine Below.setCell ?_ ?_ _) | go_size))⟩
          · have q1 : (x0 == y0) = false := by simp [h1]
            have HS := Lib.hid (show freeOne (x0, x1) o (ss.take (j + 1)) = true by
                have := hS.out
                unfold freeOne at this ⊢
                rw [take_succ_of HJ.out, List.all_append, this]; simp [h1])
            clear h1
            go_wp2_with fail
            go_quiet (fail)
            go_wp2
            go_roundw
            case rel => exact ⟨j + 1, by omega, by go_num, HS, (by repeat' (first | (with_reducible exact Below.refl _ _) | (with_reducible assumption) | (with_reducible refine below_step (by assumption) ?_) | (with_reducible refine below_alloc ?_ _) | (with_reducible refine Below.drew ?_) | (with_reducible refine below_drewN ?_ _) | (with_reducible refine Below.setCell ?_ ?_ _) | go_size))⟩
            case measure => simp [intOf]; omega
        · have HS := Lib.hid (show freeP (xs.take (k + 1)) o ss = true by
            have h1 := hS.out
            rw [List.take_of_length_le (by have := HY.out; omega)] at h1
            have h2 := hT.out
            rw [freeP_eq] at h2 ⊢
            rw [take_succ_of HK.out, List.all_append, h2]; simp [h1])
          have hBC := below_step hC hB
          go_wp2
          go_roundw
          case rel => exact ⟨k + 1, by omega, by go_num, HS, (by repeat' (first | (with_reducible exact Below.refl _ _) | (with_reducible assumption) | (with_reducible refine below_step (by assumption) ?_) | (with_reducible refine below_alloc ?_ _) | (with_reducible refine Below.drew ?_) | (with_reducible refine below_drewN ?_ _) | (with_reducible refine Below.setCell ?_ ?_ _) | go_size))⟩
          case measure => simp [intOf]; omega
    · have HE : Hid (freeP xs o ss = true) := Lib.hid (by
        have h := hT.out
        rwa [List.take_of_length_le (by have := HX.out; omega)] at h)
      go_wp2
      go_ret
      exact ⟨ret_bool HE.out.symm, (by repeat' (first | (with_reducible exact Below.refl _ _) | (with_reducible assumption) | (with_reducible refine below_step (by assumption) ?_) | (with_reducible refine below_alloc ?_ _) | (with_reducible refine Below.drew ?_) | (with_reducible refine below_drewN ?_ _) | (with_reducible refine Below.setCell ?_ ?_ _) | go_size))⟩

theorem free_f0 {xs : List (Int × Int)} {o : Int} {ss : List Int} (h : locksFrom (-1) xs = false) : locksFreeB xs o ss = false := by unfold locksFreeB; rw [h]; rfl
theorem free_f1 {xs : List (Int × Int)} {o : Int} {ss : List Int} (h : inB o 1 99 = false) : locksFreeB xs o ss = false := by unfold locksFreeB; rw [h]; simp
theorem free_f2 {xs : List (Int × Int)} {o : Int} {ss : List Int} (h : ascTo (-1) 8 ss = false) : locksFreeB xs o ss = false := by unfold locksFreeB; rw [h]; simp
theorem free_f3 {xs : List (Int × Int)} {o : Int} {ss : List Int} (h : freeB xs o ss = false) : locksFreeB xs o ss = false := by unfold locksFreeB; rw [h]; simp

set_option maxHeartbeats 3200000 in
theorem specFree_any (A : Option Addr) (n c : Nat) (xs : List (Int × Int)) (hn : n ≤ 1048576) (hx : xs.length = n) (o : Int) (B : Option Addr) (m d : Nat) (ss : List Int) (hm : m ≤ 1048576) (hy : ss.length = m) (w : World) (hL : Lies w 2 A n (xs.flatMap lockCells)) (hM : Lies w 1 B m (ss.flatMap intCells)) :
    Calls Try.prog 34 #[.slice A n c, .int .i64 o, .slice B m d] w fun e w' => e = .returned (.bool (locksFreeB xs o ss)) ∧ Below w.heap.size w w' := by
  have HX := Lib.hid hx
  have HY := Lib.hid hy
  have HL := Lib.hid hL
  have HM := Lib.hid hM
  clear hx hy hL hM
  cases E1 : locksFrom (-1) xs
  · have HE := Lib.hid (free_f0 (o := o) (ss := ss) E1)
    go_enter Try.func34, Try.ntmps34
    go_wp2_with fail
    refine (specLocks_any _ _ _ xs hn HX.out _ HL.out).mono ?_
    rintro e1 w1 ⟨rfl, hb1⟩
    rw [E1]
    go_wp2
    go_ret
    exact ⟨ret_bool HE.out.symm, (by repeat' (first | (with_reducible exact Below.refl _ _) | (with_reducible assumption) | (with_reducible refine below_step (by assumption) ?_) | (with_reducible refine below_alloc ?_ _) | (with_reducible refine Below.drew ?_) | (with_reducible refine below_drewN ?_ _) | (with_reducible refine Below.setCell ?_ ?_ _) | go_size))⟩
  cases E2 : inB o 1 99
  · have HE := Lib.hid (free_f1 (xs := xs) (ss := ss) E2)
    go_enter Try.func34, Try.ntmps34
    go_wp2_with fail
    refine (specLocks_any _ _ _ xs hn HX.out _ HL.out).mono ?_
    rintro e1 w1 ⟨rfl, hb1⟩
    rw [E1]
    go_wp2_with (go_at_call 83; refine (l6In_any _ _ _ _).mono ?_; rintro e2 w2 ⟨rfl, rfl⟩; rw [E2])
    go_ret
    exact ⟨ret_bool HE.out.symm, (by repeat' (first | (with_reducible exact Below.refl _ _) | (with_reducible assumption) | (with_reducible refine below_step (by assumption) ?_) | (with_reducible refine below_alloc ?_ _) | (with_reducible refine Below.drew ?_) | (with_reducible refine below_drewN ?_ _) | (with_reducible refine Below.setCell ?_ ?_ _) | go_size))⟩
  have HF := Lib.hid (free_same o ss E1)
  cases E3 : ascTo (-1) 8 ss
  · have HE := Lib.hid (free_f2 (xs := xs) (o := o) E3)
    go_enter Try.func34, Try.ntmps34
    go_wp2_with fail
    refine (specLocks_any _ _ _ xs hn HX.out _ HL.out).mono ?_
    rintro e1 w1 ⟨rfl, hb1⟩
    rw [E1]
    go_wp2_with fail
    refine (l6In_any _ _ _ _).mono ?_
    rintro e2 w2 ⟨rfl, rfl⟩
    rw [E2]
    go_wp2_with fail
    refine (l11Stripes_any _ _ _ ss hm HY.out _ (HM.out.below hb1)).mono ?_
    rintro e2 w2 ⟨rfl, hb2⟩
    rw [E3]
    go_wp2
    go_ret
    exact ⟨ret_bool HE.out.symm, (by repeat' (first | (with_reducible exact Below.refl _ _) | (with_reducible assumption) | (with_reducible refine below_step (by assumption) ?_) | (with_reducible refine below_alloc ?_ _) | (with_reducible refine Below.drew ?_) | (with_reducible refine below_drewN ?_ _) | (with_reducible refine Below.setCell ?_ ?_ _) | go_size))⟩
  · have HE := Lib.hid (show locksFreeB xs o ss = freeP xs o ss by unfold locksFreeB; rw [E1, E2, E3, HF.out]; rfl)
    clear HF
    go_enter Try.func34, Try.ntmps34
    go_wp2_with fail
    refine (specLocks_any _ _ _ xs hn HX.out _ HL.out).mono ?_
    rintro e1 w1 ⟨rfl, hb1⟩
    rw [E1]
    go_wp2_with fail
    refine (l6In_any _ _ _ _).mono ?_
    rintro e2 w2 ⟨rfl, rfl⟩
    rw [E2]
    go_wp2_with fail
    refine (l11Stripes_any _ _ _ ss hm HY.out _ (HM.out.below hb1)).mono ?_
    rintro e2 w2 ⟨rfl, hb2⟩
    rw [E3]
    go_wp2_with fail
    refine (l11Free_any _ _ _ xs hn HX.out o _ _ _ ss hm HY.out _ ((HL.out.below hb1).below hb2) ((HM.out.below hb1).below hb2)).mono ?_
    rintro e2 w3 ⟨rfl, hb3⟩
    go_wp2
    go_ret
    exact ⟨ret_bool HE.out.symm, (by repeat' (first | (with_reducible exact Below.refl _ _) | (with_reducible assumption) | (with_reducible refine below_step (by assumption) ?_) | (with_reducible refine below_alloc ?_ _) | (with_reducible refine Below.drew ?_) | (with_reducible refine below_drewN ?_ _) | (with_reducible refine Below.setCell ?_ ?_ _) | go_size))⟩

theorem freeB_take {xs : List (Int × Int)} {o : Int} {ss : List Int} {k : Nat} {s h : Int} (hs : ss[k]? = some s) (h0 : 0 ≤ s) (h7 : s ≤ 7) (hh : (holdsL xs)[s.toNat]? = some h) (hc : h = 0 ∨ h = o) (ht : freeB xs o (ss.take k) = true) : freeB xs o (ss.take (k + 1)) = true := by
  rw [holdsL_get _ _ (lt8 h0 h7)] at hh
  have e := Option.some.inj hh
  rw [show ((s.toNat : Nat) : Int) = s by omega] at e
  unfold freeB at ht ⊢
  rw [take_succ_of hs, List.all_append, ht]
  simp only [List.all_cons, List.all_nil, Bool.and_true, Bool.true_and, decide_eq_true_eq]
  rw [e]; exact hc
theorem freeB_not {xs : List (Int × Int)} {o : Int} {ss : List Int} {k : Nat} {s h : Int} (hs : ss[k]? = some s) (h0 : 0 ≤ s) (h7 : s ≤ 7) (hh : (holdsL xs)[s.toNat]? = some h) (hc : ¬ h = 0) (hd : ¬ h = o) : freeB xs o ss = false := by
  rw [holdsL_get _ _ (lt8 h0 h7)] at hh
  have e := Option.some.inj hh
  rw [show ((s.toNat : Nat) : Int) = s by omega] at e
  rw [Bool.eq_false_iff]
  intro hf
  unfold freeB at hf
  rw [List.all_eq_true] at hf
  have := hf _ (List.mem_of_getElem? hs)
  simp only [decide_eq_true_eq] at this
  rw [e] at this
  omega

set_option maxHeartbeats 6400000 in
theorem implFree_any (A : Option Addr) (n c : Nat) (xs : List (Int × Int)) (hn : n ≤ 1048576) (hx : xs.length = n) (o : Int) (B : Option Addr) (m d : Nat) (ss : List Int) (hm : m ≤ 1048576) (hy : ss.length = m) (w : World) (hL : Lies w 2 A n (xs.flatMap lockCells)) (hM : Lies w 1 B m (ss.flatMap intCells)) :
    Calls Try.prog 36 #[.slice A n c, .int .i64 o, .slice B m d] w fun e w' => e = .returned (.bool (locksFreeB xs o ss)) ∧ Below w.heap.size w w' := by
  have HX := Lib.hid hx
  have HY := Lib.hid hy
  have HL := Lib.hid hL
  have HM := Lib.hid hM
  clear hx hy hL hM
  cases E1 : locksFrom (-1) xs
  · have HE := Lib.hid (free_f0 (o := o) (ss := ss) E1)
    go_enter Try.func36, Try.ntmps36
    go_wp2_with fail
    refine (implLocks_any _ _ _ xs hn HX.out _ HL.out).mono ?_
    rintro e1 w1 ⟨rfl, hb1⟩
    rw [E1]
    go_wp2
    go_ret
    exact ⟨ret_bool HE.out.symm, (by repeat' (first | (with_reducible exact Below.refl _ _) | (with_reducible assumption) | (with_reducible refine below_step (by assumption) ?_) | (with_reducible refine below_alloc ?_ _) | (with_reducible refine Below.drew ?_) | (with_reducible refine below_drewN ?_ _) | (with_reducible refine Below.setCell ?_ ?_ _) | go_size))⟩
  cases E2 : inB o 1 99
  · have HE := Lib.hid (free_f1 (xs := xs) (ss := ss) E2)
    go_enter Try.func36, Try.ntmps36
    go_wp2_with fail
    refine (implLocks_any _ _ _ xs hn HX.out _ HL.out).mono ?_
    rintro e1 w1 ⟨rfl, hb1⟩
    rw [E1]
    go_wp2_with (go_at_call 86; refine (ownerValid_any _ _).mono ?_; rintro e2 w2 ⟨rfl, rfl⟩; rw [E2])
    go_ret
    exact ⟨ret_bool HE.out.symm, (by repeat' (first | (with_reducible exact Below.refl _ _) | (with_reducible assumption) | (with_reducible refine below_step (by assumption) ?_) | (with_reducible refine below_alloc ?_ _) | (with_reducible refine Below.drew ?_) | (with_reducible refine below_drewN ?_ _) | (with_reducible refine Below.setCell ?_ ?_ _) | go_size))⟩
  have HA := Lib.hid (show ascTo (-1) 8 ss = false → locksFreeB xs o ss = false from free_f2)
  have HF := Lib.hid (show freeB xs o ss = false → locksFreeB xs o ss = false from free_f3)
  have HG := Lib.hid (show ascTo (-1) 8 ss = true → freeB xs o ss = true → locksFreeB xs o ss = true from fun h1 h2 => by unfold locksFreeB; rw [E1, E2, h1, h2]; rfl)
  have HV := Lib.hid (fun (x : Int × Int) (hx : x ∈ xs) => (show 0 ≤ x.1 ∧ x.1 ≤ 7 by have := locks_above E1 x hx; omega))
  obtain ⟨a0, a1, a2, a3, a4, a5, a6, a7, he⟩ := eight (holdsL_length xs)
  have HH := Lib.hid he
  clear he
  go_enter Try.func36, Try.ntmps36
  go_wp2_with fail
  refine (implLocks_any _ _ _ xs hn HX.out _ HL.out).mono ?_
  rintro e1 w1 ⟨rfl, hb1⟩
  rw [E1]
  go_wp2_with fail
  refine (ownerValid_any _ _).mono ?_
  rintro e2 w2 ⟨rfl, rfl⟩
  rw [E2]
  go_wp2_with fail
  refine (holdersOf_any _ _ _ xs hn HX.out HV.out _ _ _ _ _ _ _ _ HH.out _ (HL.out.below hb1)).mono ?_
  rintro e1 w2 ⟨rfl, hb2⟩
  have hB2 := below_step hb2 hb1
  go_wp2_with fail
  go_loopw [8, 23] (fun l i wr => ∃ (k : Nat) (L : Int), k ≤ m ∧ i = .int .i64 k ∧ l = .int .i64 L ∧ -1 ≤ L ∧ Hid (ascTo (-1) 8 ss = ascTo L 8 (ss.drop k)) ∧ Hid (freeB xs o (ss.take k) = true) ∧ RowIs wr w2.heap.size 108 (vals (holdsL xs)) ∧ Below w.heap.size w wr) (fun _ i _ => m - (intOf i).toNat)
  case atStart => exact ⟨0, -1, Nat.zero_le _, rfl, rfl, by omega, Lib.hid rfl, Lib.hid rfl, by rw [HH.out]; exact RowIs.new w2 _ _, (by repeat' (first | (with_reducible exact Below.refl _ _) | (with_reducible assumption) | (with_reducible refine below_step (by assumption) ?_) | (with_reducible refine below_alloc ?_ _) | (with_reducible refine Below.drew ?_) | (with_reducible refine below_drewN ?_ _) | (with_reducible refine Below.setCell ?_ ?_ _) | go_size))⟩
  case round =>
    obtain ⟨k, L, hk, rfl, rfl, hL1, hT, hFr, hR, hB⟩ := hrel
    by_cases hlt : k < m
    · obtain ⟨b, o1, rfl, hb, hc⟩ := (HM.out.below hB).row (fun _ => rfl) (by omega)
      obtain ⟨x0, hxk⟩ := get_lt HY.out hlt
      have c0 : wr.cell? ⟨b, o1 + k, none⟩ = some (.int .i64 x0) := by simpa using hc k _ hxk 0 _ rfl
      have HT := Lib.hid (asc_step hxk hT.out)
      have HK := Lib.hid hxk
      clear hxk hc hT
      by_cases g1 : x0 ≤ L
      · have HE : Hid (locksFreeB xs o ss = false) := Lib.hid (HA.out (by rw [HT.out]; simp; omega))
        clear hR
        go_wp2
        go_ret
        exact ⟨ret_bool HE.out.symm, (by repeat' (first | (with_reducible exact Below.refl _ _) | (with_reducible assumption) | (with_reducible refine below_step (by assumption) ?_) | (with_reducible refine below_alloc ?_ _) | (with_reducible refine Below.drew ?_) | (with_reducible refine below_drewN ?_ _) | (with_reducible refine Below.setCell ?_ ?_ _) | go_size))⟩
      by_cases g2 : 8 ≤ x0
      · have HE : Hid (locksFreeB xs o ss = false) := Lib.hid (HA.out (by rw [HT.out]; simp; omega))
        clear hR
        go_wp2
        go_ret
        exact ⟨ret_bool HE.out.symm, (by repeat' (first | (with_reducible exact Below.refl _ _) | (with_reducible assumption) | (with_reducible refine below_step (by assumption) ?_) | (with_reducible refine below_alloc ?_ _) | (with_reducible refine Below.drew ?_) | (with_reducible refine below_drewN ?_ _) | (with_reducible refine Below.setCell ?_ ?_ _) | go_size))⟩
      have q0 : 0 ≤ x0 := by omega
      have q7 : x0 ≤ 7 := by omega
      have HT2 : Hid (ascTo (-1) 8 ss = ascTo x0 8 (ss.drop (k + 1))) := Lib.hid (by rw [HT.out]; simp; omega)
      obtain ⟨h, hh⟩ := get_lt (holdsL_length xs) (lt8 q0 q7)
      have d0 := hR.cell (vals_get hh)
      have HI := Lib.hid hh
      have HR := Lib.hid hR
      clear hh hR HT
      by_cases h0 : h = 0
      · have z0 : (h != 0) = false := by simp [h0]
        have HFr := Lib.hid (freeB_take HK.out q0 q7 HI.out (.inl h0) hFr.out)
        clear h0
        go_wp2
        go_roundw
        case rel => exact ⟨k + 1, x0, by omega, by go_num, rfl, by omega, HT2, HFr, HR.out, (by repeat' (first | (with_reducible exact Below.refl _ _) | (with_reducible assumption) | (with_reducible refine below_step (by assumption) ?_) | (with_reducible refine below_alloc ?_ _) | (with_reducible refine Below.drew ?_) | (with_reducible refine below_drewN ?_ _) | (with_reducible refine Below.setCell ?_ ?_ _) | go_size))⟩
        case measure => simp [intOf]; omega
      · have z0 : (h != 0) = true := by simp [h0]
        by_cases h1 : h = o
        · have z1 : (h != o) = false := by simp [h1]
          have HFr := Lib.hid (freeB_take HK.out q0 q7 HI.out (.inr h1) hFr.out)
          clear h0 h1
          go_wp2
          go_roundw
          case rel => exact ⟨k + 1, x0, by omega, by go_num, rfl, by omega, HT2, HFr, HR.out, (by repeat' (first | (with_reducible exact Below.refl _ _) | (with_reducible assumption) | (with_reducible refine below_step (by assumption) ?_) | (with_reducible refine below_alloc ?_ _) | (with_reducible refine Below.drew ?_) | (with_reducible refine below_drewN ?_ _) | (with_reducible refine Below.setCell ?_ ?_ _) | go_size))⟩
          case measure => simp [intOf]; omega
        · have z1 : (h != o) = true := by simp [h1]
          have HE := Lib.hid (HF.out (freeB_not HK.out q0 q7 HI.out h0 h1))
          clear h0 h1
          go_wp2
          go_ret
          exact ⟨ret_bool HE.out.symm, (by repeat' (first | (with_reducible exact Below.refl _ _) | (with_reducible assumption) | (with_reducible refine below_step (by assumption) ?_) | (with_reducible refine below_alloc ?_ _) | (with_reducible refine Below.drew ?_) | (with_reducible refine below_drewN ?_ _) | (with_reducible refine Below.setCell ?_ ?_ _) | go_size))⟩
    · have HE : Hid (locksFreeB xs o ss = true) := Lib.hid (HG.out (by rw [hT.out, List.drop_of_length_le (by have := HY.out; omega)]; rfl) (by have h := hFr.out; rwa [List.take_of_length_le (by have := HY.out; omega)] at h))
      clear hR
      go_wp2
      go_ret
      exact ⟨ret_bool HE.out.symm, (by repeat' (first | (with_reducible exact Below.refl _ _) | (with_reducible assumption) | (with_reducible refine below_step (by assumption) ?_) | (with_reducible refine below_alloc ?_ _) | (with_reducible refine Below.drew ?_) | (with_reducible refine below_drewN ?_ _) | (with_reducible refine Below.setCell ?_ ?_ _) | go_size))⟩

theorem specFree_at (lo hi lo' hi' : Nat) (v u : Value) (xs : List (Int × Int)) (o : Int) (ss : List Int) (w : World) (h : lockSAt w lo hi v xs) (k : intSAt w lo' hi' u ss) :
    Calls Try.prog 34 #[v, .int .i64 o, u] w fun e w' => e = .returned (.bool (locksFreeB xs o ss)) ∧ Below w.heap.size w w' := by
  obtain ⟨g, m, c, rfl, hx, hb, _, _, ho⟩ := h.open
  obtain ⟨g', m', c', rfl, hx', hb', _, _, ho'⟩ := k.open
  exact specFree_any _ _ _ xs hb hx o _ _ _ ss hb' hx' w (lies_of_own ho) (lies_of_own ho')
theorem implFree_at (lo hi lo' hi' : Nat) (v u : Value) (xs : List (Int × Int)) (o : Int) (ss : List Int) (w : World) (h : lockSAt w lo hi v xs) (k : intSAt w lo' hi' u ss) :
    Calls Try.prog 36 #[v, .int .i64 o, u] w fun e w' => e = .returned (.bool (locksFreeB xs o ss)) ∧ Below w.heap.size w w' := by
  obtain ⟨g, m, c, rfl, hx, hb, _, _, ho⟩ := h.open
  obtain ⟨g', m', c', rfl, hx', hb', _, _, ho'⟩ := k.open
  exact implFree_any _ _ _ xs hb hx o _ _ _ ss hb' hx' w (lies_of_own ho) (lies_of_own ho')
end Go.Proofs.Ytfbnpnajpkhkdaa
