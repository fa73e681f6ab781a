/-
  Slices of Lock: the laws' copy and count. For every readable slice. No condition.
-/
import Derived.Test.YtfbnpnajpkhkdaaTLock
namespace Go.Proofs.Ytfbnpnajpkhkdaa
open Go.ChangeShapes Go.WideShapes Go.ChangeAt Go.RowKit

theorem infoLock : (Try.prog.info? 104).map (fun i => (i.zero, i.size, i.bytes)) = some (some (.agg #[.int .i64 0, .int .i64 0]), 2, 16) := by kernel_rfl

set_option maxHeartbeats 1600000 in
theorem toLockS_any (A : Option Addr) (n c : Nat) (xs : List (Int × Int)) (hn : n ≤ 1048576) (hx : xs.length = n) (w : World) (hL : Lies w 2 A n (xs.flatMap lockCells)) :
    Calls Try.prog 29 #[.slice A n c] w fun e w' => ∃ g, e = .returned (.slice (some ⟨g, 0, none⟩) n n) ∧ w'.ownsRow w.heap.size 104 2 (.slice (some ⟨g, 0, none⟩) n n) n (xs.flatMap lockCells) ∧ Below w.heap.size w w' := by
  obtain ⟨i0, hi, hz0, hz1, hz2⟩ := info_parts infoLock
  have hmk := fun W => run_make_rowN (P := Try.prog) 41 104 i0 _ Try.underlying41 hi hz0 .i64 .i64 n n (Nat.le_refl _) (by rw [hz2]; omega) (by omega) W
  rw [hz1] at hmk
  clear hi hz0 hz1 hz2
  go_enter Try.func29, Try.ntmps29
  go_wp2
  go_loopw [4] (fun i wr => ∃ k : Nat, k ≤ n ∧ i = .int .i64 k ∧ Filled wr w.heap.size 104 2 w.heap.size n ((xs.take k).flatMap lockCells) k ∧ Below w.heap.size w wr) (fun i _ => n - (intOf i).toNat)
  case atStart => exact ⟨0, Nat.zero_le _, rfl, Filled.start _ n (Nat.le_refl _) (by unfold maxLen; omega) (by simp [size_madeCells]), below_alloc (Below.refl _ _) _⟩
  case round =>
    obtain ⟨k, hk, rfl, hF, hB⟩ := hrel
    by_cases hlt : k < n
    · obtain ⟨b, o, rfl, hb, hc⟩ := (hL.below hB).row (fun _ => rfl) (by omega)
      obtain ⟨⟨x0, x1⟩, hxk⟩ := get_lt hx hlt
      have c0 : wr.cell? ⟨b, o + k * 2, none⟩ = some (.int .i64 x0) := hc k _ hxk 0 _ rfl
      have c1 : wr.cell? ⟨b, o + k * 2 + 1, none⟩ = some (.int .i64 x1) := hc k _ hxk 1 _ rfl
      have HX := Lib.hid hxk
      clear hxk hc
      go_wp2_with (go_at_call 78; refine (toLock_any _ _ _).mono ?_; rintro e1 w1 ⟨rfl, hb1⟩; have F1 := hF.step hb1; obtain ⟨u0, d0⟩ := F1.cell (k * 2) (by omega); have f0 := F1.frozen (k * 2); obtain ⟨u1, d1⟩ := F1.cell (k * 2 + 1) (by omega); have f1 := F1.frozen (k * 2 + 1))
      go_roundw
      case rel => exact ⟨k + 1, by omega, by go_num, by rw [flat_succ _ HX.out]; exact F1.stored [.int .i64 x0, .int .i64 x1] rfl hlt, setAll_below [.int .i64 x0, .int .i64 x1] _ (k * 2) (Nat.le_refl _) (below_step hb1 hB)⟩
      case measure => simp [intOf]; omega
    · obtain rfl : k = n := by omega
      go_wp2
      go_ret
      rw [List.take_of_length_le (by omega)] at hF
      exact ⟨_, rfl, hF.owns, hB⟩

theorem szLockS_any (A : Option Addr) (n c : Nat) (hn : n ≤ maxLen) (left : Int) (h0 : 0 ≤ left) (h1 : left ≤ 1048576) (w : World) :
    Calls Try.prog 27 #[.slice A n c, .int .i64 left] w fun e w' => e = .returned (.int .i64 (szN left n)) ∧ w = w' := by
  unfold maxLen at hn
  by_cases c : left < n
  · have e : Hid (szN left n = -1) := Lib.hid (by unfold szN; rw [if_pos c])
    go_enter Try.func27, Try.ntmps27
    go_wp2
    go_ret
    exact ⟨ret_int e.out.symm, rfl⟩
  · have e : Hid (szN left n = left - n) := Lib.hid (by unfold szN; rw [if_neg c])
    go_enter Try.func27, Try.ntmps27
    go_wp2
    go_ret
    exact ⟨ret_int e.out.symm, rfl⟩

end Go.Proofs.Ytfbnpnajpkhkdaa
