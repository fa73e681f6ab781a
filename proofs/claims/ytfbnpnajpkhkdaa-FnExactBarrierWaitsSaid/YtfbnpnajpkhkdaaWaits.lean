/-
  BarrierWaits of the program and of the reference: what each returns, for every barrier. No condition.
-/
import Derived.Test.YtfbnpnajpkhkdaaUpTo
namespace Go.Proofs.Ytfbnpnajpkhkdaa
open Go.ChangeShapes Go.WideShapes Go.ChangeAt Go.RowKit

set_option maxHeartbeats 1600000 in
theorem specWaits_any (next : Int) (_hi : IntOk next) (A : Option Addr) (n c : Nat) (zs : List Int) (hn : n ≤ 1048576) (hx : zs.length = n) (w : World) (hL : Lies w 1 A n (zs.flatMap intCells)) :
    Calls Try.prog 46 #[.agg #[.int .i64 next, .slice A n c]] w fun e w' => e = .returned (.int .i64 (waits next zs)) ∧ Below w.heap.size w w' := by
  have HX := Lib.hid hx
  have HL := Lib.hid hL
  clear hx hL
  cases E : barrierB next zs
  · have HE : Hid (waits next zs = -1) := Lib.hid (by unfold waits; rw [E]; rfl)
    go_enter Try.func46, Try.ntmps46
    go_wp2_with fail
    refine (specBarrier_any next _ n c zs hn HX.out _ (HL.out.below (by first | exact Below.refl _ _ | exact below_alloc (Below.refl _ _) _))).mono ?_
    rintro e1 w1 ⟨rfl, hb1⟩
    rw [E]
    have m0 := box_cell hb1 (b := w.heap.size) (o := 0) (u := .int .i64 next) (by go_cell)
    have m1 := box_cell hb1 (b := w.heap.size) (o := 1) (u := .slice A n c) (by go_cell)
    go_wp2
    go_ret
    exact ⟨by rw [HE.out]; rfl, (by repeat' (first | (with_reducible exact Below.refl _ _) | (with_reducible assumption) | (with_reducible refine below_step (by assumption) ?_) | (with_reducible refine below_alloc ?_ _) | (with_reducible refine Below.drew ?_) | (with_reducible refine below_drewN ?_ _) | (with_reducible refine Below.setCell ?_ ?_ _) | go_size))⟩
  · have hb := barrier_in E
    obtain ⟨F, hF⟩ : ∃ F, firstOpen next zs = F := ⟨_, rfl⟩
    have HE : Hid (waits next zs = next - n - F) := Lib.hid (by unfold waits; rw [E, HX.out, hF]; rfl)
    rw [hF] at hb
    have HF : Hid (upTo next zs = F) := Lib.hid (by unfold upTo; rw [E, hF]; rfl)
    have HG := Lib.hid hF
    have w1 : IntKind.i64.wrap (next - (n : Int)) = next - (n : Int) := IntWalk.i64_in _ ⟨by omega, by omega⟩
    have w2 : IntKind.i64.wrap (next - (n : Int) - F) = next - (n : Int) - F := IntWalk.i64_in _ ⟨by omega, by omega⟩
    clear hF
    go_enter Try.func46, Try.ntmps46
    go_wp2_with fail
    refine (specBarrier_any next _ n c zs hn HX.out _ (HL.out.below (by first | exact Below.refl _ _ | exact below_alloc (Below.refl _ _) _))).mono ?_
    rintro e1 w1 ⟨rfl, hb1⟩
    rw [E]
    have m0 := box_cell hb1 (b := w.heap.size) (o := 0) (u := .int .i64 next) (by go_cell)
    have m1 := box_cell hb1 (b := w.heap.size) (o := 1) (u := .slice A n c) (by go_cell)
    have HL1 : Hid (Lies w1 1 A n (zs.flatMap intCells)) := Lib.hid ((HL.out.below (below_alloc (Below.refl _ _) _)).below hb1)
    have n0 := After.cell m0
    have n1 := After.cell m1
    go_wp2_with fail
    refine wp_region_after (by kernel_rfl) (by kernel_rfl) ?_
    repeat (go_big_quiet_step ((go_at_call 90; exact after_call (v := .int .i64 F) (by rw [← HG.out]; exact l12UpTo_any _ _ _ _ _ HX.out _ (HL1.out.below (After.h _))))))
    refine wpQuiet_nil ?_
    intro wn hw'
    have hwn := after_below hw'
    clear hw'
    go_wp2
    go_ret
    exact ⟨by rw [HE.out]; first | (simp; done) | (simp; omega), (by repeat' (first | (with_reducible exact Below.refl _ _) | (with_reducible assumption) | (with_reducible refine below_step (by assumption) ?_) | (with_reducible refine below_alloc ?_ _) | (with_reducible refine Below.drew ?_) | (with_reducible refine below_drewN ?_ _) | (with_reducible refine Below.setCell ?_ ?_ _) | go_size))⟩

set_option maxHeartbeats 1600000 in
theorem implWaits_any (next : Int) (_hi : IntOk next) (g : Nat) (n c : Nat) (zs : List Int) (hn : n ≤ 1048576) (hx : zs.length = n) (w : World) (hL : Lies w 1 (some ⟨g, 0, none⟩) n (zs.flatMap intCells)) :
    Calls Try.prog 47 #[.agg #[.int .i64 next, .slice (some ⟨g, 0, none⟩) n c]] w fun e w' => e = .returned (.int .i64 (waits next zs)) ∧ Below w.heap.size w w' := by
  have HX := Lib.hid hx
  have HL := Lib.hid hL
  clear hx hL
  cases E : barrierB next zs
  · have HE : Hid (waits next zs = -1) := Lib.hid (by unfold waits; rw [E]; rfl)
    go_enter Try.func47, Try.ntmps47
    go_wp2_with fail
    refine (implBarrier_any next _ n c zs hn HX.out _ (HL.out.below (by first | exact Below.refl _ _ | exact below_alloc (Below.refl _ _) _))).mono ?_
    rintro e1 w1 ⟨rfl, hb1⟩
    rw [E]
    have m0 := box_cell hb1 (b := w.heap.size) (o := 0) (u := .int .i64 next) (by go_cell)
    have m1 := box_cell hb1 (b := w.heap.size) (o := 1) (u := .slice (some ⟨g, 0, none⟩) n c) (by go_cell)
    go_wp2
    go_ret
    exact ⟨by rw [HE.out]; rfl, (by repeat' (first | (with_reducible exact Below.refl _ _) | (with_reducible assumption) | (with_reducible refine below_step (by assumption) ?_) | (with_reducible refine below_alloc ?_ _) | (with_reducible refine Below.drew ?_) | (with_reducible refine below_drewN ?_ _) | (with_reducible refine Below.setCell ?_ ?_ _) | go_size))⟩
  · have hb := barrier_in E
    obtain ⟨F, hF⟩ : ∃ F, firstOpen next zs = F := ⟨_, rfl⟩
    have HE : Hid (waits next zs = next - n - F) := Lib.hid (by unfold waits; rw [E, HX.out, hF]; rfl)
    rw [hF] at hb
    have HF : Hid (upTo next zs = F) := Lib.hid (by unfold upTo; rw [E, hF]; rfl)
    have HG := Lib.hid hF
    have w1 : IntKind.i64.wrap (next - F) = next - F := IntWalk.i64_in _ ⟨by omega, by omega⟩
    have w2 : IntKind.i64.wrap (next - F - (n : Int)) = next - F - (n : Int) := IntWalk.i64_in _ ⟨by omega, by omega⟩
    clear hF
    go_enter Try.func47, Try.ntmps47
    go_wp2_with fail
    refine (implBarrier_any next _ n c zs hn HX.out _ (HL.out.below (by first | exact Below.refl _ _ | exact below_alloc (Below.refl _ _) _))).mono ?_
    rintro e1 w1 ⟨rfl, hb1⟩
    rw [E]
    have m0 := box_cell hb1 (b := w.heap.size) (o := 0) (u := .int .i64 next) (by go_cell)
    have m1 := box_cell hb1 (b := w.heap.size) (o := 1) (u := .slice (some ⟨g, 0, none⟩) n c) (by go_cell)
    have HL1 : Hid (Lies w1 1 (some ⟨g, 0, none⟩) n (zs.flatMap intCells)) := Lib.hid ((HL.out.below (below_alloc (Below.refl _ _) _)).below hb1)
    have n0 := After.cell m0
    have n1 := After.cell m1
    go_wp2_with fail
    refine wp_region_after (by kernel_rfl) (by kernel_rfl) ?_
    repeat (go_big_quiet_step ((go_at_call 44; exact after_call (v := .int .i64 F) (by rw [← HF.out]; exact implUpTo_any _ _hi _ _ _ _ hn HX.out _ (HL1.out.below (After.h _))))))
    refine wpQuiet_nil ?_
    intro wn hw'
    have hwn := after_below hw'
    clear hw'
    go_wp2
    go_ret
    exact ⟨by rw [HE.out]; first | (simp; done) | (simp; omega), (by repeat' (first | (with_reducible exact Below.refl _ _) | (with_reducible assumption) | (with_reducible refine below_step (by assumption) ?_) | (with_reducible refine below_alloc ?_ _) | (with_reducible refine Below.drew ?_) | (with_reducible refine below_drewN ?_ _) | (with_reducible refine Below.setCell ?_ ?_ _) | go_size))⟩
end Go.Proofs.Ytfbnpnajpkhkdaa
