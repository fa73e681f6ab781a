/-
  The fold of events from the first one on: what the program's FoldOf and the reference's return. No condition.
-/
import Derived.Test.YtfbnpnajpkhkdaaFoldI
namespace Go.Proofs.Ytfbnpnajpkhkdaa
open Go.ChangeShapes Go.WideShapes Go.ChangeAt Go.RowKit

def foldOf (xs : List Ev) : Fd × Bool := if eventsB xs then (foldOver (-1, 0, ByteArray.empty) xs, true) else (fdZero, false)
theorem foldOf_on (xs : List Ev) : foldOn (-1, 0, ByteArray.empty) xs = foldOf xs := by
  unfold foldOn foldOf
  have h0 : foldB (-1) 0 ByteArray.empty = true := by simp [foldB, ByteArray.toList_eq]
  cases E : eventsB xs
  · simp [h0]
  · simp [h0, fold_of_valid E]

set_option maxHeartbeats 3200000 in
theorem implFoldOf_any (A : Option Addr) (n c : Nat) (xs : List Ev) (hn : n ≤ 1048576) (hnc : n ≤ c) (hx : xs.length = n) (hok : ∀ x ∈ xs, eventOk x) (w : World) (hL : Lies w 3 A n (xs.flatMap eventCells)) :
    Calls Try.prog 21 #[.slice A n c] w fun e w' => e = .returned (fdV (foldOf xs)) ∧ Below w.heap.size w w' := by
  have HX := Lib.hid hx
  have HK := Lib.hid hok
  have HL := Lib.hid (hL.below (below_alloc (Below.refl _ w) (.cells #[.int .i64 0, .int .i64 0, .string ⟨#[]⟩] 30)))
  have hq := Box3.new w 30 (.int .i64 0) (.int .i64 0) (.string ⟨#[]⟩)
  have HQ := Lib.hid hq
  clear hx hok hL hq
  go_enter Try.func21, Try.ntmps21
  go_wp2_with fail
  refine (implFoldOn_any (-1, 0, ByteArray.empty) (by unfold IntOk; omega) (by unfold StrOk maxLen; simp) A n c xs hn hnc HX.out HK.out _ HL.out).mono ?_
  rintro e1 w1 ⟨rfl, hb1⟩
  rw [foldOf_on]
  obtain ⟨a0, a1, a2, f0, f1, f2⟩ := HQ.out.below hb1
  obtain ⟨⟨⟨r0, r1, r2⟩, r3⟩, hr⟩ : ∃ R, R = foldOf xs := ⟨_, rfl⟩
  rw [← hr]
  have HR := Lib.hid hr
  clear hr
  unfold fdV
  go_wp2
  refine bodyPost_ret (v := .tuple #[.agg #[.int .i64 r0, .int .i64 r1, .string r2], .bool r3]) (by simp [results, Try.results21, go_sem, *]) rfl ⟨by rw [← HR.out]; rfl, ?_⟩
  exact (by repeat' (first | (with_reducible exact Below.refl _ _) | (with_reducible assumption) | (with_reducible refine below_step (by assumption) ?_) | (with_reducible refine below_alloc ?_ _) | (with_reducible refine Below.drew ?_) | (with_reducible refine below_drewN ?_ _) | (with_reducible refine Below.setCell ?_ ?_ _) | go_size))

set_option maxHeartbeats 3200000 in
theorem specFoldOf_any (A : Option Addr) (n c : Nat) (xs : List Ev) (hn : n ≤ 1048576) (hx : xs.length = n) (hok : ∀ x ∈ xs, eventOk x) (w : World) (hL : Lies w 3 A n (xs.flatMap eventCells)) :
    Calls Try.prog 20 #[.slice A n c] w fun e w' => e = .returned (fdV (foldOf xs)) ∧ Below w.heap.size w w' := by
  have HX := Lib.hid hx
  have HK := Lib.hid hok
  have HL := Lib.hid (hL.below (below_alloc (Below.refl _ w) (.cells #[.int .i64 0, .int .i64 0, .string ⟨#[]⟩] 30)))
  have hq := Box3.new w 30 (.int .i64 0) (.int .i64 0) (.string ⟨#[]⟩)
  have HQ := Lib.hid hq
  clear hx hok hL hq
  cases E2 : eventsB xs
  · have HE : Hid (foldOf xs = (fdZero, false)) := Lib.hid (by unfold foldOf; rw [E2]; rfl)
    go_enter Try.func20, Try.ntmps20
    go_wp2_with fail
    refine (specEvents_any _ _ _ xs hn HX.out HK.out _ HL.out).mono ?_
    rintro e1 w1 ⟨rfl, hb1⟩
    rw [E2]
    obtain ⟨a0, a1, a2, f0, f1, f2⟩ := HQ.out.below hb1
    go_wp2
    refine bodyPost_ret (v := fdV (foldOf xs)) (by rw [HE.out]; simp [results, Try.results20, go_sem, fdV, fdZero, *]; try rfl) rfl ⟨rfl, ?_⟩
    exact (by repeat' (first | (with_reducible exact Below.refl _ _) | (with_reducible assumption) | (with_reducible refine below_step (by assumption) ?_) | (with_reducible refine below_alloc ?_ _) | (with_reducible refine Below.drew ?_) | (with_reducible refine below_drewN ?_ _) | (with_reducible refine Below.setCell ?_ ?_ _) | go_size))
  · obtain ⟨h24, hall⟩ := events_all E2
    have HA := Lib.hid (fun x hx => (hall x hx).2.2)
    have h24' : n ≤ 24 := by have := HX.out; omega
    obtain ⟨⟨v', s', l'⟩, hg⟩ : ∃ g, g = foldOver (-1, 0, ByteArray.empty) xs := ⟨_, rfl⟩
    have HG := Lib.hid hg
    have HE : Hid (foldOf xs = ((v', s', l'), true)) := Lib.hid (by unfold foldOf; rw [E2, hg]; rfl)
    clear hg hall h24
    go_enter Try.func20, Try.ntmps20
    go_wp2_with fail
    refine (specEvents_any _ _ _ xs hn HX.out HK.out _ HL.out).mono ?_
    rintro e1 w1 ⟨rfl, hb1⟩
    rw [E2]
    go_wp2_with fail
    refine (l21On_any (-1, 0, ByteArray.empty) A n c xs HX.out h24' (by simp) HA.out _ (HL.out.below hb1)).mono ?_
    rintro e1 w2 ⟨rfl, hb2⟩
    rw [← HG.out]
    obtain ⟨a0, a1, a2, f0, f1, f2⟩ := (HQ.out.below hb1).below hb2
    go_wp2
    refine bodyPost_ret (v := fdV (foldOf xs)) (by rw [HE.out]; simp [results, Try.results20, go_sem, fdV, *]) rfl ⟨rfl, ?_⟩
    exact (by repeat' (first | (with_reducible exact Below.refl _ _) | (with_reducible assumption) | (with_reducible refine below_step (by assumption) ?_) | (with_reducible refine below_alloc ?_ _) | (with_reducible refine Below.drew ?_) | (with_reducible refine below_drewN ?_ _) | (with_reducible refine Below.setCell ?_ ?_ _) | go_size))
end Go.Proofs.Ytfbnpnajpkhkdaa
