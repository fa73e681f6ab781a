/-
  Slices of Cut: the laws' copy and count. For every readable slice. No condition.
-/
import Derived.Test.YtcccidlfigfibaaDoorTCut
namespace Go.Proofs.YtcccidlfigfibaaDoor
open Go.ChangeShapes Go.WideShapes Go.ChangeAt Go.RowKit

theorem infoCut : (Tryd.prog.info? 57).map (fun i => (i.zero, i.size, i.bytes)) = some (some (.agg #[.string ByteArray.empty, .int .i64 0]), 2, 24) := by kernel_rfl

set_option maxHeartbeats 1600000 in
theorem toCutS_any (A : Option Addr) (n c : Nat) (xs : List (ByteArray × Int)) (hn : n ≤ 1048576) (hx : xs.length = n) (w : World) (hL : Lies w 2 A n (xs.flatMap cutCells)) :
    Calls Tryd.prog 27 #[.slice A n c] w fun e w' => ∃ g, e = .returned (.slice (some ⟨g, 0, none⟩) n n) ∧ w'.ownsRow w.heap.size 57 2 (.slice (some ⟨g, 0, none⟩) n n) n (xs.flatMap cutCells) ∧ Below w.heap.size w w' := by
  obtain ⟨i0, hi, hz0, hz1, hz2⟩ := info_parts infoCut
  have hmk := fun W => run_make_rowN (P := Tryd.prog) 53 57 i0 _ Tryd.underlying53 hi hz0 .i64 .i64 n n (Nat.le_refl _) (by rw [hz2]; omega) (by omega) W
  rw [hz1] at hmk
  clear hi hz0 hz1 hz2
  go_enter Tryd.func27, Tryd.ntmps27
  go_wp2
  go_loopw [4] (fun i wr => ∃ k : Nat, k ≤ n ∧ i = .int .i64 k ∧ Filled wr w.heap.size 57 2 w.heap.size n ((xs.take k).flatMap cutCells) k ∧ Below w.heap.size w wr) (fun i _ => n - (intOf i).toNat)
  case atStart => exact ⟨0, Nat.zero_le _, rfl, Filled.start _ n (Nat.le_refl _) (by unfold maxLen; omega) (by simp [size_madeCells]), below_alloc (Below.refl _ _) _⟩
  case round =>
    obtain ⟨k, hk, rfl, hF, hB⟩ := hrel
    by_cases hlt : k < n
    · obtain ⟨b, o, rfl, hb, hc⟩ := (hL.below hB).row (fun _ => rfl) (by omega)
      obtain ⟨⟨x0, x1⟩, hxk⟩ := get_lt hx hlt
      have c0 : wr.cell? ⟨b, o + k * 2, none⟩ = some (.string x0) := hc k _ hxk 0 _ rfl
      have c1 : wr.cell? ⟨b, o + k * 2 + 1, none⟩ = some (.int .i64 x1) := hc k _ hxk 1 _ rfl
      have HX := Lib.hid hxk
      clear hxk hc
      go_wp2_with (go_at_call 28; refine (toCut_any _ _ _).mono ?_; rintro e1 w1 ⟨rfl, hb1⟩; have F1 := hF.step hb1; obtain ⟨u0, d0⟩ := F1.cell (k * 2) (by omega); have f0 := F1.frozen (k * 2); obtain ⟨u1, d1⟩ := F1.cell (k * 2 + 1) (by omega); have f1 := F1.frozen (k * 2 + 1))
      go_roundw
      case rel => exact ⟨k + 1, by omega, by go_num, by rw [flat_succ _ HX.out]; exact F1.stored [.string x0, .int .i64 x1] rfl hlt, setAll_below [.string x0, .int .i64 x1] _ (k * 2) (Nat.le_refl _) (below_step hb1 hB)⟩
      case measure => simp [intOf]; omega
    · obtain rfl : k = n := by omega
      go_wp2
      go_ret
      rw [List.take_of_length_le (by omega)] at hF
      exact ⟨_, rfl, hF.owns, hB⟩

def cutTexts (x : ByteArray × Int) : List ByteArray := [x.1]
set_option maxHeartbeats 1600000 in
theorem szCutS_any (A : Option Addr) (n c : Nat) (hn : n ≤ maxLen) (xs : List (ByteArray × Int)) (hx : xs.length = n) (hok : ∀ x ∈ xs, cutOk x) (left : Int) (h0 : 0 ≤ left) (h1 : left ≤ 1048576) (w : World) (hL : Lies w 2 A n (xs.flatMap cutCells)) :
    Calls Tryd.prog 24 #[.slice A n c, .int .i64 left] w fun e w' => e = .returned (.int .i64 (szR left n (xs.flatMap cutTexts))) ∧ Below w.heap.size w w' := by
  unfold maxLen at hn
  by_cases c : left < n
  · have e : Hid (szR left n (xs.flatMap cutTexts) = -1) := Lib.hid (by unfold szR; rw [if_pos c])
    go_enter Tryd.func24, Tryd.ntmps24
    go_wp2
    go_ret
    exact ⟨ret_int e.out.symm, Below.refl _ _⟩
  · have e : Hid (szR left n (xs.flatMap cutTexts) = szT (left - n) (xs.flatMap cutTexts)) := Lib.hid (by unfold szR; rw [if_neg c])
    go_enter Tryd.func24, Tryd.ntmps24
    go_wp2
    go_loopw [1, 5] (fun l i wr => ∃ (k : Nat) (r : Int), k ≤ n ∧ i = .int .i64 k ∧ l = .int .i64 r ∧ 0 ≤ r ∧ r ≤ 1048576 ∧ Hid (szT (left - n) (xs.flatMap cutTexts) = szT r ((xs.drop k).flatMap cutTexts)) ∧ Below w.heap.size w wr) (fun _ i _ => n - (intOf i).toNat)
    case atStart => exact ⟨0, left - n, Nat.zero_le _, rfl, rfl, by omega, by omega, by unfold Hid; rfl, Below.refl _ _⟩
    case round =>
      obtain ⟨k, r, hk, rfl, rfl, hl0, hl1, hT, hB⟩ := hrel
      by_cases hlt : k < n
      · obtain ⟨b, o, rfl, hb, hc⟩ := (hL.below hB).row (fun _ => rfl) (by omega)
        obtain ⟨⟨x0, x1⟩, hxk⟩ := get_lt hx hlt
        have c0 : wr.cell? ⟨b, o + k * 2, none⟩ = some (.string x0) := hc k _ hxk 0 _ rfl
        have c1 : wr.cell? ⟨b, o + k * 2 + 1, none⟩ = some (.int .i64 x1) := hc k _ hxk 1 _ rfl
        obtain ⟨ok0, _⟩ := hok _ (List.mem_of_getElem? hxk)
        have HT : Hid (szT (left - n) (xs.flatMap cutTexts) = szT r ([x0] ++ (xs.drop (k + 1)).flatMap cutTexts)) := Lib.hid (hT.out.trans (by rw [drop_of hxk, List.flatMap_cons]; rfl))
        clear hxk hc hT
        by_cases q : szT r [x0] < 0
        · have Q : szT r [x0] = -1 := szT_neg q hl0
          have HE := Lib.hid ((e.out.trans HT.out).trans (szT_append_neg hl0 q _))
          clear q
          go_wp2_with (go_at_call 25; refine (szCut_any _ _ _ hl0 hl1 ok0 _).mono ?_; rintro e1 w1 ⟨rfl, hb1⟩; rw [← szT_one, Q])
          go_ret
          exact ⟨ret_int HE.out.symm, (by repeat' (first | (with_reducible exact Below.refl _ _) | (with_reducible assumption) | (with_reducible refine below_step (by assumption) ?_) | (with_reducible refine below_alloc ?_ _) | (with_reducible refine Below.drew ?_) | (with_reducible refine below_drewN ?_ _) | (with_reducible refine Below.setCell ?_ ?_ _) | go_size))⟩
        · obtain ⟨r', Q, q0, q1⟩ := szT_pos hl0 q
          have HE := Lib.hid (HT.out.trans (szT_append_pos Q q0 _))
          have q2 : r' ≤ 1048576 := by omega
          clear q
          go_wp2_with (go_at_call 25; refine (szCut_any _ _ _ hl0 hl1 ok0 _).mono ?_; rintro e1 w1 ⟨rfl, hb1⟩; rw [← szT_one, Q])
          go_roundw
          case rel => exact ⟨k + 1, r', by omega, by go_num, rfl, q0, q2, HE, (by repeat' (first | (with_reducible exact Below.refl _ _) | (with_reducible assumption) | (with_reducible refine below_step (by assumption) ?_) | (with_reducible refine below_alloc ?_ _) | (with_reducible refine Below.drew ?_) | (with_reducible refine below_drewN ?_ _) | (with_reducible refine Below.setCell ?_ ?_ _) | go_size))⟩
          case measure => simp [intOf]; omega
      · have HE : Hid (szR left n (xs.flatMap cutTexts) = r) := Lib.hid (by
          rw [e.out, hT.out, List.drop_of_length_le (by omega)]; rfl)
        go_wp2
        go_ret
        exact ⟨ret_int HE.out.symm, (by repeat' (first | (with_reducible exact Below.refl _ _) | (with_reducible assumption) | (with_reducible refine below_step (by assumption) ?_) | (with_reducible refine below_alloc ?_ _) | (with_reducible refine Below.drew ?_) | (with_reducible refine below_drewN ?_ _) | (with_reducible refine Below.setCell ?_ ?_ _) | go_size))⟩

end Go.Proofs.YtcccidlfigfibaaDoor
