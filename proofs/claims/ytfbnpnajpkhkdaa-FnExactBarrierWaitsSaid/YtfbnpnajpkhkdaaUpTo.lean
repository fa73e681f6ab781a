/-
  BarrierUpTo and BarrierWaits of the program and of the reference: what each returns, for every barrier. No condition.
-/
import Derived.Test.YtfbnpnajpkhkdaaHeapO
namespace Go.Proofs.Ytfbnpnajpkhkdaa
open Go.ChangeShapes Go.WideShapes Go.ChangeAt Go.RowKit

def firstOpen (next : Int) (zs : List Int) : Int := match zs with | [] => next | z :: _ => z
def upTo (next : Int) (zs : List Int) : Int := if barrierB next zs then firstOpen next zs else -1
def waits (next : Int) (zs : List Int) : Int := if barrierB next zs then next - zs.length - firstOpen next zs else -1

theorem asc_above : ∀ (xs : List Int) (lo hi : Int), ascTo lo hi xs = true → ∀ (k : Nat) (y : Int), xs[k]? = some y → lo < y := by
  intro xs
  induction xs with
  | nil => intro lo hi h k y hy; simp at hy
  | cons z zs ih =>
    intro lo hi h k y hy
    have hh : lo < z ∧ z < hi ∧ ascTo z hi zs = true := by
      unfold ascTo at h; simp at h; exact ⟨h.1.1, h.1.2, h.2⟩
    cases k with
    | zero => rw [List.getElem?_cons_zero] at hy; cases hy; exact hh.1
    | succ k => rw [List.getElem?_cons_succ] at hy; have := ih z hi hh.2.2 k y hy; omega
theorem asc_pair : ∀ (xs : List Int) (lo hi : Int), ascTo lo hi xs = true → ∀ (j k : Nat) (x y : Int), j < k → xs[j]? = some x → xs[k]? = some y → x < y := by
  intro xs
  induction xs with
  | nil => intro lo hi h j k x y _ hx; simp at hx
  | cons z zs ih =>
    intro lo hi h j k x y hjk hx hy
    have hh : lo < z ∧ z < hi ∧ ascTo z hi zs = true := by
      unfold ascTo at h; simp at h; exact ⟨h.1.1, h.1.2, h.2⟩
    obtain ⟨k, rfl⟩ : ∃ k', k = k' + 1 := ⟨k - 1, by omega⟩
    rw [List.getElem?_cons_succ] at hy
    cases j with
    | zero =>
      rw [List.getElem?_cons_zero] at hx
      cases hx
      exact asc_above zs z hi hh.2.2 k y hy
    | succ j =>
      rw [List.getElem?_cons_succ] at hx
      exact ih z hi hh.2.2 j k x y (by omega) hx hy
theorem barrier_asc {next : Int} {zs : List Int} (h : barrierB next zs = true) : AscL zs := by
  unfold barrierB at h
  simp at h
  exact asc_pair zs (-1) next h.2
theorem barrier_in {next : Int} {zs : List Int} (h : barrierB next zs = true) : 0 ≤ next ∧ next ≤ 100 ∧ 0 ≤ firstOpen next zs ∧ firstOpen next zs ≤ 100 := by
  unfold barrierB at h
  simp at h
  have h1 := inB_iff.1 h.1
  cases zs with
  | nil => exact ⟨h1.1, h1.2, h1.1, h1.2⟩
  | cons z zs =>
    have h2 := h.2
    unfold ascTo at h2; simp at h2
    exact ⟨h1.1, h1.2, by show 0 ≤ z; omega, by show z ≤ 100; omega⟩

set_option maxHeartbeats 1600000 in
theorem l12UpTo_any (next : Int) (A : Option Addr) (n c : Nat) (zs : List Int) (hx : zs.length = n) (w : World) (hL : Lies w 1 A n (zs.flatMap intCells)) :
    Calls Try.prog 90 #[.agg #[.int .i64 next, .slice A n c]] w fun e w' => e = .returned (.int .i64 (firstOpen next zs)) ∧ Below w.heap.size w w' := by
  cases zs with
  | nil =>
    have hn0 : n = 0 := by simpa using hx.symm
    subst hn0
    go_enter Try.func90, Try.ntmps90
    go_wp2
    go_ret
    exact ⟨rfl, (by repeat' (first | (with_reducible exact Below.refl _ _) | (with_reducible assumption) | (with_reducible refine below_step (by assumption) ?_) | (with_reducible refine below_alloc ?_ _) | (with_reducible refine Below.drew ?_) | (with_reducible refine below_drewN ?_ _) | (with_reducible refine Below.setCell ?_ ?_ _) | go_size))⟩
  | cons z zs =>
    have hpos : 0 < n := by rw [← hx]; simp
    have hp : decide ((0 : Int) < (n : Int)) = true := by simp; omega
    obtain ⟨b, o, rfl, hb, hc⟩ := (hL.below (below_alloc (Below.refl _ w) (.cells #[.int .i64 next, .slice A n c] 59))).row (fun _ => rfl) hpos
    have c0 := hc 0 z rfl 0 _ rfl
    simp only [Nat.zero_mul, Nat.add_zero] at c0
    clear hc hL hx
    go_enter Try.func90, Try.ntmps90
    go_wp2
    go_ret
    exact ⟨rfl, (by repeat' (first | (with_reducible exact Below.refl _ _) | (with_reducible assumption) | (with_reducible refine below_step (by assumption) ?_) | (with_reducible refine below_alloc ?_ _) | (with_reducible refine Below.drew ?_) | (with_reducible refine below_drewN ?_ _) | (with_reducible refine Below.setCell ?_ ?_ _) | go_size))⟩

set_option maxHeartbeats 1600000 in
theorem specUpTo_any (next : Int) (_hi : IntOk next) (A : Option Addr) (n c : Nat) (zs : List Int) (hn : n ≤ 1048576) (hx : zs.length = n) (w : World) (hL : Lies w 1 A n (zs.flatMap intCells)) :
    Calls Try.prog 42 #[.agg #[.int .i64 next, .slice A n c]] w fun e w' => e = .returned (.int .i64 (upTo next zs)) ∧ Below w.heap.size w w' := by
  have HX := Lib.hid hx
  have HL := Lib.hid hL
  clear hx hL
  cases E : barrierB next zs
  · have HE : Hid (upTo next zs = -1) := Lib.hid (by unfold upTo; rw [E]; rfl)
    go_enter Try.func42, Try.ntmps42
    go_wp2_with fail
    refine (specBarrier_any next A n c zs hn HX.out _ (HL.out.below (by first | exact Below.refl _ _ | exact below_alloc (Below.refl _ _) _))).mono ?_
    rintro e1 w1 ⟨rfl, hb1⟩
    rw [E]
    have m0 := box_cell hb1 (b := w.heap.size) (o := 0) (u := .int .i64 next) (by go_cell)
    have m1 := box_cell hb1 (b := w.heap.size) (o := 1) (u := .slice A n c) (by go_cell)
    go_wp2
    go_ret
    exact ⟨by rw [HE.out]; rfl, (by repeat' (first | (with_reducible exact Below.refl _ _) | (with_reducible assumption) | (with_reducible refine below_step (by assumption) ?_) | (with_reducible refine below_alloc ?_ _) | (with_reducible refine Below.drew ?_) | (with_reducible refine below_drewN ?_ _) | (with_reducible refine Below.setCell ?_ ?_ _) | go_size))⟩
  · have HE : Hid (upTo next zs = firstOpen next zs) := Lib.hid (by unfold upTo; rw [E]; rfl)
    go_enter Try.func42, Try.ntmps42
    go_wp2_with fail
    refine (specBarrier_any next A n c zs hn HX.out _ (HL.out.below (by first | exact Below.refl _ _ | exact below_alloc (Below.refl _ _) _))).mono ?_
    rintro e1 w1 ⟨rfl, hb1⟩
    rw [E]
    have m0 := box_cell hb1 (b := w.heap.size) (o := 0) (u := .int .i64 next) (by go_cell)
    have m1 := box_cell hb1 (b := w.heap.size) (o := 1) (u := .slice A n c) (by go_cell)
    go_wp2_with fail
    refine (l12UpTo_any next A n c zs HX.out _ ((HL.out.below (below_alloc (Below.refl _ _) _)).below hb1)).mono ?_
    rintro e1 w2 ⟨rfl, hb2⟩
    rw [← HE.out]
    go_wp2
    go_ret
    exact ⟨rfl, (by repeat' (first | (with_reducible exact Below.refl _ _) | (with_reducible assumption) | (with_reducible refine below_step (by assumption) ?_) | (with_reducible refine below_alloc ?_ _) | (with_reducible refine Below.drew ?_) | (with_reducible refine below_drewN ?_ _) | (with_reducible refine Below.setCell ?_ ?_ _) | go_size))⟩

theorem first_at {next : Int} {zs : List Int} (h : 0 < zs.length) : zs[0]? = some (firstOpen next zs) := by
  cases zs with
  | nil => simp at h
  | cons z zs => rfl
theorem first_none {next : Int} {zs : List Int} (h : zs.length = 0) : firstOpen next zs = next := by
  cases zs with
  | nil => rfl
  | cons z zs => simp at h

set_option maxHeartbeats 1600000 in
theorem implUpTo_any (next : Int) (_hi : IntOk next) (g : Nat) (n c : Nat) (zs : List Int) (hn : n ≤ 1048576) (hx : zs.length = n) (w : World) (hL : Lies w 1 (some ⟨g, 0, none⟩) n (zs.flatMap intCells)) :
    Calls Try.prog 44 #[.agg #[.int .i64 next, .slice (some ⟨g, 0, none⟩) n c]] w fun e w' => e = .returned (.int .i64 (upTo next zs)) ∧ Below w.heap.size w w' := by
  have HX := Lib.hid hx
  have HL := Lib.hid hL
  clear hx hL
  cases E : barrierB next zs
  · have HE : Hid (upTo next zs = -1) := Lib.hid (by unfold upTo; rw [E]; rfl)
    go_enter Try.func44, Try.ntmps44
    go_wp2_with fail
    refine (implBarrier_any next _ n c zs hn HX.out _ (HL.out.below (by first | exact Below.refl _ _ | exact below_alloc (Below.refl _ _) _))).mono ?_
    rintro e1 w1 ⟨rfl, hb1⟩
    rw [E]
    have m0 := box_cell hb1 (b := w.heap.size) (o := 0) (u := .int .i64 next) (by go_cell)
    have m1 := box_cell hb1 (b := w.heap.size) (o := 1) (u := .slice (some ⟨g, 0, none⟩) n c) (by go_cell)
    go_wp2
    go_ret
    exact ⟨by rw [HE.out]; rfl, (by repeat' (first | (with_reducible exact Below.refl _ _) | (with_reducible assumption) | (with_reducible refine below_step (by assumption) ?_) | (with_reducible refine below_alloc ?_ _) | (with_reducible refine Below.drew ?_) | (with_reducible refine below_drewN ?_ _) | (with_reducible refine Below.setCell ?_ ?_ _) | go_size))⟩
  · have HE : Hid (upTo next zs = firstOpen next zs) := Lib.hid (by unfold upTo; rw [E]; rfl)
    have HA := Lib.hid (barrier_asc E)
    go_enter Try.func44, Try.ntmps44
    go_wp2_with fail
    refine (implBarrier_any next _ n c zs hn HX.out _ (HL.out.below (by first | exact Below.refl _ _ | exact below_alloc (Below.refl _ _) _))).mono ?_
    rintro e1 w1 ⟨rfl, hb1⟩
    rw [E]
    have m0 := box_cell hb1 (b := w.heap.size) (o := 0) (u := .int .i64 next) (by go_cell)
    have m1 := box_cell hb1 (b := w.heap.size) (o := 1) (u := .slice (some ⟨g, 0, none⟩) n c) (by go_cell)
    go_wp2_with fail
    refine (heapOf_any g 0 n c zs hn HX.out HA.out _ ((HL.out.below (below_alloc (Below.refl _ _) _)).below hb1)).mono ?_
    rintro e1 w2 ⟨h, g2, c2, rfl, q0, hown, _, _, hb2⟩
    have m0 := box_cell hb2 m0
    have HO := Lib.hid hown
    clear hown
    by_cases h0 : n = 0
    · have z0 : decide ((n : Int) = 0) = true := by simp; omega
      have z1 : decide (n = 0) = true := by simp; omega
      go_wp2_with fail
      refine (len_any _ _ _ _).mono ?_
      rintro e1 w3 ⟨rfl, rfl⟩
      go_wp2
      go_ret
      exact ⟨by rw [HE.out, first_none (by have := HX.out; omega)]; rfl, (by repeat' (first | (with_reducible exact Below.refl _ _) | (with_reducible assumption) | (with_reducible refine below_step (by assumption) ?_) | (with_reducible refine below_alloc ?_ _) | (with_reducible refine Below.drew ?_) | (with_reducible refine below_drewN ?_ _) | (with_reducible refine Below.setCell ?_ ?_ _) | go_size))⟩
    · have z0 : decide ((n : Int) = 0) = false := by simp; omega
      have z1 : decide (n = 0) = false := by simp; omega
      have z2 : decide ((0 : Int) < (n : Int)) = true := by simp; omega
      obtain ⟨b', o', e', _, hc⟩ := (lies_of_own HO.out).row (fun _ => rfl) (by omega : 0 < n)
      cases e'
      have c0 := hc 0 _ (first_at (next := next) (by have := HX.out; omega)) 0 _ rfl
      simp only [Nat.zero_mul, Nat.add_zero] at c0
      clear hc
      go_wp2_with fail
      refine (len_any _ _ _ _).mono ?_
      rintro e1 w3 ⟨rfl, rfl⟩
      go_wp2
      go_ret
      exact ⟨by rw [HE.out]; rfl, (by repeat' (first | (with_reducible exact Below.refl _ _) | (with_reducible assumption) | (with_reducible refine below_step (by assumption) ?_) | (with_reducible refine below_alloc ?_ _) | (with_reducible refine Below.drew ?_) | (with_reducible refine below_drewN ?_ _) | (with_reducible refine Below.setCell ?_ ?_ _) | go_size))⟩
end Go.Proofs.Ytfbnpnajpkhkdaa
