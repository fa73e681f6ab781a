/-
  Names of streams: what the program's and the reference's functions return, for every text. No condition beyond what the rows list.
-/
import Derived.Test.YtmkdmafffblmaaaDoorPName
import Derived.Test.YtmkdmafffblmaaaDoorNum
import Derived.Test.YtmkdmafffblmaaaDoorFrameS
import Derived.Test.YtmkdmafffblmaaaDoorIsErr
import Derived.Test.YtmkdmafffblmaaaDoorDec
import Derived.OwnWalk
namespace Go.Proofs.YtmkdmafffblmaaaDoor
open Go.ChangeShapes Go.WideShapes Go.ChangeAt Go.RowKit

set_option maxHeartbeats 1600000 in
theorem l2At_any (s : ByteArray) (hs : s.size ≤ maxLen) (w : World) : Calls Tryd.prog 58 #[.string s] w fun e w' => e = .returned (.int .i64 (hyp s)) ∧ w = w' := by
  unfold maxLen at hs
  go_enter Tryd.func58, Tryd.ntmps58
  go_wp2
  go_loop [3] (fun i => ∃ k : Nat, k ≤ s.size ∧ i = .int .i64 k ∧ Hid (Lib.NoOcc s.data.toList [45] k)) (fun i => s.size - (intOf i).toNat)
  case atStart => exact ⟨0, Nat.zero_le _, rfl, Lib.hid (Lib.NoOcc.zero _ _)⟩
  case round =>
    obtain ⟨k, hk, rfl, hN⟩ := hrel
    by_cases hlt : k < s.size
    · by_cases hc : s[k].toNat = 45
      · have HE := Lib.hid (hyp_hit hlt hN.out hc)
        have e2 : ((s[k].toNat : Int) == 45) = true := by simp; omega
        clear hc
        go_wp2
        go_ret
        exact ⟨by rw [HE.out]; rfl, rfl⟩
      · have HE := Lib.hid (no_succ hlt hN.out hc)
        have e2 : ((s[k].toNat : Int) == 45) = false := by simp; omega
        clear hc
        go_wp2
        go_round
        case rel => exact ⟨k + 1, by omega, by go_num, HE⟩
        case measure => simp [intOf]; omega
    · obtain rfl : k = s.size := by omega
      have HE := Lib.hid (hyp_none hN.out)
      go_wp2
      go_ret
      exact ⟨by rw [HE.out]; rfl, rfl⟩

theorem nameOf_f {c : ByteArray} {n : Int} (h : (wordB c && inB n 0 999) = false) : nameOfS c n = ⟨#[]⟩ := by unfold nameOfS; rw [h]; rfl
theorem word_size {k : ByteArray} (h2 : wordB k = true) : k.size ≤ 6 := by
  have h4 : inB (k.size : Int) 1 6 = true := by
    unfold wordB at h2
    simp only [Bool.and_eq_true] at h2
    first | exact h2.1 | exact h2.2
  rw [inB_iff] at h4
  omega

set_option maxHeartbeats 1600000 in
theorem specNameOf_any (s : ByteArray) (hs : StrOk s) (n : Int) (w : World) : Calls Tryd.prog 60 #[.string s, .int .i64 n] w fun e w' => e = .returned (.string (nameOfS s n)) ∧ Below w.heap.size w w' := by
  cases cw : wordB s
  · have HE := Lib.hid (nameOf_f (c := s) (n := n) (by rw [cw]; rfl))
    go_enter Tryd.func60, Tryd.ntmps60
    go_wp2_with (first | (go_at_call 56; refine (l1Word_any _ hs _).mono ?_; rintro e1 w1 ⟨rfl, rfl⟩; rw [cw]))
    go_ret
    exact ⟨by rw [HE.out]; rfl, (by repeat' (first | (with_reducible exact Below.refl _ _) | (with_reducible assumption) | (with_reducible refine below_step (by assumption) ?_) | (with_reducible refine below_alloc ?_ _) | (with_reducible refine Below.drew ?_) | (with_reducible refine below_drewN ?_ _) | (with_reducible refine Below.setCell ?_ ?_ _) | go_size))⟩
  cases ei : inB n 0 999
  · have HE := Lib.hid (nameOf_f (c := s) (n := n) (by rw [cw, ei]; rfl))
    go_enter Tryd.func60, Tryd.ntmps60
    go_wp2_with (first | (go_at_call 56; refine (l1Word_any _ hs _).mono ?_; rintro e1 w1 ⟨rfl, rfl⟩; rw [cw]) | (go_at_call 26; refine (l6In_any _ _ _ _).mono ?_; rintro e1 w1 ⟨rfl, rfl⟩; rw [ei]))
    go_ret
    exact ⟨by rw [HE.out]; rfl, (by repeat' (first | (with_reducible exact Below.refl _ _) | (with_reducible assumption) | (with_reducible refine below_step (by assumption) ?_) | (with_reducible refine below_alloc ?_ _) | (with_reducible refine Below.drew ?_) | (with_reducible refine below_drewN ?_ _) | (with_reducible refine Below.setCell ?_ ?_ _) | go_size))⟩
  · have HE := Lib.hid (show nameOfS s n = s ++ ⟨#[45]⟩ ++ decS n by unfold nameOfS; rw [cw, ei]; rfl)
    have g := inB_iff.1 ei
    have z1 := word_size cw
    have hz : (decS n).size ≤ 20 := by
      show (Lib.decDigits n.toNat).toArray.size ≤ 20
      rw [List.size_toArray, Lib.decDigits_length]; exact nDigits_le _ 19 (by omega)
    have hz2 : s.size + 1 + (decS n).size ≤ 9223372036854775807 := by omega
    go_enter Tryd.func60, Tryd.ntmps60
    go_wp2_with (first | (go_at_call 56; refine (l1Word_any _ hs _).mono ?_; rintro e1 w1 ⟨rfl, rfl⟩; rw [cw]) | (go_at_call 26; refine (l6In_any _ _ _ _).mono ?_; rintro e1 w1 ⟨rfl, rfl⟩; rw [ei]) | (go_at_call 66; refine (l6Dec_any n (by omega) (by omega) _).mono ?_; rintro e1 w1 ⟨rfl, hb1⟩))
    go_ret
    exact ⟨by rw [HE.out]; rfl, (by repeat' (first | (with_reducible exact Below.refl _ _) | (with_reducible assumption) | (with_reducible refine below_step (by assumption) ?_) | (with_reducible refine below_alloc ?_ _) | (with_reducible refine Below.drew ?_) | (with_reducible refine below_drewN ?_ _) | (with_reducible refine Below.setCell ?_ ?_ _) | go_size))⟩

theorem catS_size (s : ByteArray) : (catS s).size ≤ s.size := by
  unfold catS
  simp
  omega
theorem restS_size (s : ByteArray) : (restS s).size ≤ s.size := by
  unfold restS
  simp
theorem name_f1 {s : ByteArray} (h : ¬ 0 ≤ hyp s) : nameB s = false := by unfold nameB; rw [decide_eq_false h]; rfl
theorem name_f2 {s : ByteArray} (h : wordB (catS s) = false) : nameB s = false := by unfold nameB; rw [h]; simp
theorem name_f3 {s : ByteArray} (h : numB (restS s) 999 = false) : nameB s = false := by unfold nameB; rw [h]; simp
theorem name_t {s : ByteArray} (h : 0 ≤ hyp s) (h2 : wordB (catS s) = true) (h3 : numB (restS s) 999 = true) : nameB s = true := by unfold nameB; rw [decide_eq_true h, h2, h3]; rfl

/-- The number of a name. -/
def nthS (s : ByteArray) : Int := numV (restS s) 999

theorem cut_any (s : ByteArray) (hs : s.size ≤ 1048576) (w : World) (hM : MaxL w) (h : 0 ≤ hyp s) :
    Calls Tryd.prog 61 #[.string s, .string ⟨#[45]⟩] w fun e w' => e = .returned (.tuple #[.string (catS s), .string (restS s), .bool true]) ∧ Below w.heap.size w w' := by
  obtain ⟨m, hm⟩ := hM
  refine (Tryd.strings_Cut s ⟨#[45]⟩ m w (by omega) hm).mono fun e w' ⟨he, n, hw⟩ => ?_
  subst hw
  refine ⟨?_, below_drewN (Below.refl _ _) n⟩
  rw [he, show (⟨#[45]⟩ : ByteArray).data.toList = [45] from rfl, cut_cat h, cut_rest h, cut_found, decide_eq_true h]
theorem cut_no (s : ByteArray) (hs : s.size ≤ 1048576) (w : World) (hM : MaxL w) (h : ¬ 0 ≤ hyp s) :
    Calls Tryd.prog 61 #[.string s, .string ⟨#[45]⟩] w fun e w' => (∃ c r : ByteArray, e = .returned (.tuple #[.string c, .string r, .bool false])) ∧ Below w.heap.size w w' := by
  obtain ⟨m, hm⟩ := hM
  refine (Tryd.strings_Cut s ⟨#[45]⟩ m w (by omega) hm).mono fun e w' ⟨he, n, hw⟩ => ?_
  subst hw
  refine ⟨⟨⟨(Lib.cut s.data.toList [45]).1.toArray⟩, ⟨(Lib.cut s.data.toList [45]).2.1.toArray⟩, ?_⟩, below_drewN (Below.refl _ _) n⟩
  rw [he, show (⟨#[45]⟩ : ByteArray).data.toList = [45] from rfl, cut_found, decide_eq_false h]

/-- errNoName's value. -/
def errV (a : Addr) : Value := .iface 114 (.pointer (some a))

set_option maxHeartbeats 1600000 in
theorem split_no (s : ByteArray) (hs : s.size ≤ 1048576) (a : Addr) (w : World) (hS : Sent a w) (hM : MaxL w) (h : nameB s = false) :
    Calls Tryd.prog 52 #[.string s] w fun e w' => e = .returned (.tuple #[.string ⟨#[]⟩, .int .i64 0, .iface 114 (.pointer (some a))]) ∧ Below w.heap.size w w' := by
  have k1 := catS_size s
  have k2 := restS_size s
  have hC1 : StrOk (catS s) := by unfold StrOk maxLen; omega
  have hC2 : (restS s).size ≤ maxLen := by unfold maxLen; omega
  have g0 := hS.cell
  by_cases hh : 0 ≤ hyp s
  · cases cw : wordB (catS s)
    · go_enter Tryd.func52, Tryd.ntmps52
      go_wp2_with (first | (go_at_call 61; refine (cut_any s hs _ hM hh).mono ?_; rintro e1 w1 ⟨rfl, hb1⟩; have g1 := box_cell hb1 g0) | (go_at_call 62; refine (wordValid_any _ hC1 _).mono ?_; rintro e1 w2 ⟨rfl, rfl⟩; rw [cw]))
      have RA_g1 := After.cell g1
      go_wp2_with fail
      refine wp_region_after (by kernel_rfl) (by kernel_rfl) ?_
      repeat (go_big_quiet_step ((fail)))
      refine wpQuiet_nil ?_
      intro wn hw'
      have hwn := after_below hw'
      clear hw'
      have g1 := box_cell hwn g1
      have hb1 := below_step hwn hb1
      clear RA_g1
      go_wp2
      go_ret3
      exact ⟨rfl, (by repeat' (first | (with_reducible exact Below.refl _ _) | (with_reducible assumption) | (with_reducible refine below_step (by assumption) ?_) | (with_reducible refine below_alloc ?_ _) | (with_reducible refine Below.drew ?_) | (with_reducible refine below_drewN ?_ _) | (with_reducible refine Below.setCell ?_ ?_ _) | go_size))⟩
    · cases cn : numB (restS s) 999
      · have HV := Lib.hid (numV_f cn)
        go_enter Tryd.func52, Tryd.ntmps52
        go_wp2_with (first | (go_at_call 61; refine (cut_any s hs _ hM hh).mono ?_; rintro e1 w1 ⟨rfl, hb1⟩; have g1 := box_cell hb1 g0) | (go_at_call 62; refine (wordValid_any _ hC1 _).mono ?_; rintro e1 w2 ⟨rfl, rfl⟩; rw [cw]) | (go_at_call 63; refine (numberFrom_any _ hC2 999 (by omega) (by omega) _).mono ?_; rintro e1 w3 ⟨rfl, rfl⟩; rw [cn]))
        have RA_g1 := After.cell g1
        go_wp2_with fail
        refine wp_region_after (by kernel_rfl) (by kernel_rfl) ?_
        repeat (go_big_quiet_step ((fail)))
        refine wpQuiet_nil ?_
        intro wn hw'
        have hwn := after_below hw'
        clear hw'
        have g1 := box_cell hwn g1
        have hb1 := below_step hwn hb1
        clear RA_g1
        go_wp2
        go_ret3
        exact ⟨rfl, (by repeat' (first | (with_reducible exact Below.refl _ _) | (with_reducible assumption) | (with_reducible refine below_step (by assumption) ?_) | (with_reducible refine below_alloc ?_ _) | (with_reducible refine Below.drew ?_) | (with_reducible refine below_drewN ?_ _) | (with_reducible refine Below.setCell ?_ ?_ _) | go_size))⟩
      · exact absurd (name_t hh cw cn) (by rw [h]; simp)
  · go_enter Tryd.func52, Tryd.ntmps52
    go_wp2_with (first | (go_at_call 61; refine (cut_no s hs _ hM hh).mono ?_; rintro e1 w1 ⟨⟨c, r, rfl⟩, hb1⟩; have g1 := box_cell hb1 g0))
    have RA_g1 := After.cell g1
    go_wp2_with fail
    refine wp_region_after (by kernel_rfl) (by kernel_rfl) ?_
    repeat (go_big_quiet_step ((fail)))
    refine wpQuiet_nil ?_
    intro wn hw'
    have hwn := after_below hw'
    clear hw'
    have g1 := box_cell hwn g1
    have hb1 := below_step hwn hb1
    clear RA_g1
    go_wp2
    go_ret3
    exact ⟨rfl, (by repeat' (first | (with_reducible exact Below.refl _ _) | (with_reducible assumption) | (with_reducible refine below_step (by assumption) ?_) | (with_reducible refine below_alloc ?_ _) | (with_reducible refine Below.drew ?_) | (with_reducible refine below_drewN ?_ _) | (with_reducible refine Below.setCell ?_ ?_ _) | go_size))⟩

set_option maxHeartbeats 1600000 in
theorem split_yes (s : ByteArray) (hs : s.size ≤ 1048576) (w : World) (hM : MaxL w) (h : nameB s = true) :
    Calls Tryd.prog 52 #[.string s] w fun e w' => e = .returned (.tuple #[.string (catS s), .int .i64 (nthS s), .nilIface]) ∧ Below w.heap.size w w' := by
  have k1 := catS_size s
  have k2 := restS_size s
  have hC1 : StrOk (catS s) := by unfold StrOk maxLen; omega
  have hC2 : (restS s).size ≤ maxLen := by unfold maxLen; omega
  unfold nameB at h
  simp only [Bool.and_eq_true] at h
  obtain ⟨⟨h0, cw⟩, cn⟩ := h
  have hh : 0 ≤ hyp s := of_decide_eq_true h0
  clear h0
  have HV := Lib.hid (show numV (restS s) 999 = nthS s from rfl)
  go_enter Tryd.func52, Tryd.ntmps52
  go_wp2_with (first | (go_at_call 61; refine (cut_any s hs _ hM hh).mono ?_; rintro e1 w1 ⟨rfl, hb1⟩) | (go_at_call 62; refine (wordValid_any _ hC1 _).mono ?_; rintro e1 w2 ⟨rfl, rfl⟩; rw [cw]) | (go_at_call 63; refine (numberFrom_any _ hC2 999 (by omega) (by omega) _).mono ?_; rintro e1 w3 ⟨rfl, rfl⟩; rw [cn]))
  go_ret3
  exact ⟨by rw [← HV.out]; rfl, (by repeat' (first | (with_reducible exact Below.refl _ _) | (with_reducible assumption) | (with_reducible refine below_step (by assumption) ?_) | (with_reducible refine below_alloc ?_ _) | (with_reducible refine Below.drew ?_) | (with_reducible refine below_drewN ?_ _) | (with_reducible refine Below.setCell ?_ ?_ _) | go_size))⟩
end Go.Proofs.YtmkdmafffblmaaaDoor
