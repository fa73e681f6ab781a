/-
  Folds over events: the plain law, and what the reference's l21On returns. The events' numbers lie between 0 and 999, the fold's between -1 and 23 and between 0 and 100000; at most 24 events.
-/
import Derived.Test.YtcccidlfigfibaaDoorEvents
import Derived.Test.YtcccidlfigfibaaDoorFold
namespace Go.Proofs.YtcccidlfigfibaaDoor
open Go.ChangeShapes Go.WideShapes Go.ChangeAt Go.RowKit

abbrev Fd := Int × Int × ByteArray
abbrev Ev := Int × ByteArray × Int
def foldStep (f : Fd) (e : Ev) : Fd := (f.1 + 1, f.2.1 + e.2.2, e.2.1)
def foldOver (f : Fd) (xs : List Ev) : Fd := xs.foldl foldStep f
theorem foldOver_succ {f : Fd} {xs : List Ev} {k : Nat} {x : Ev} (hx : xs[k]? = some x) : foldOver f (xs.take (k + 1)) = foldStep (foldOver f (xs.take k)) x := by
  unfold foldOver
  rw [take_succ_of hx, List.foldl_append]; rfl
theorem foldOver_v (f : Fd) : ∀ xs : List Ev, (foldOver f xs).1 = f.1 + xs.length := by
  intro xs
  induction xs generalizing f with
  | nil => simp [foldOver]
  | cons x xs ih =>
    show (foldOver (foldStep f x) xs).1 = _
    rw [ih]; simp [foldStep]; omega
theorem foldOver_s (f : Fd) : ∀ xs : List Ev, (∀ x ∈ xs, 0 ≤ x.2.2 ∧ x.2.2 ≤ 999) → f.2.1 ≤ (foldOver f xs).2.1 ∧ (foldOver f xs).2.1 ≤ f.2.1 + 999 * xs.length := by
  intro xs
  induction xs generalizing f with
  | nil => intro _; simp [foldOver]
  | cons x xs ih =>
    intro h
    show f.2.1 ≤ (foldOver (foldStep f x) xs).2.1 ∧ (foldOver (foldStep f x) xs).2.1 ≤ _
    have h1 := ih (foldStep f x) (fun y hy => h y (by simp [hy]))
    have h2 := h x (by simp)
    simp only [foldStep, List.length_cons] at h1 ⊢
    omega
/-- What valid events are. -/
theorem evs_all : ∀ (xs pre : List Ev), evs pre xs = true → ∀ x ∈ xs, evOk x = true
  | [], _, _, x, hx => by simp at hx
  | y :: xs, pre, h, x, hx => by
    simp only [evs, Bool.and_eq_true] at h
    rcases List.mem_cons.1 hx with rfl | hx
    · exact h.1.1
    · exact evs_all xs _ h.2 x hx
theorem events_all {xs : List Ev} (h : eventsB xs = true) : xs.length ≤ 24 ∧ ∀ x ∈ xs, (1 ≤ x.1 ∧ x.1 ≤ 9999) ∧ wordB x.2.1 = true ∧ (0 ≤ x.2.2 ∧ x.2.2 ≤ 999) := by
  unfold eventsB at h
  simp only [Bool.and_eq_true, decide_eq_true_eq] at h
  refine ⟨h.1, fun x hx => ?_⟩
  have h1 := evs_all xs [] h.2 x hx
  unfold evOk eventB at h1
  simp only [Bool.and_eq_true] at h1
  exact ⟨inB_iff.1 h1.1.1, h1.1.2, inB_iff.1 h1.2⟩
theorem fold_bounds {f : Fd} (h : foldB f.1 f.2.1 f.2.2 = true) : (-1 ≤ f.1 ∧ f.1 ≤ 23) ∧ 0 ≤ f.2.1 ∧ f.2.1 ≤ 100000 := by
  unfold foldB at h
  split at h
  · rename_i e
    simp only [Bool.and_eq_true, beq_iff_eq] at h
    omega
  · simp only [Bool.and_eq_true] at h
    have h1 := inB_iff.1 h.1.1
    have h2 := inB_iff.1 h.1.2
    omega
/-- The fold of valid events from the first one on is valid. -/
theorem fold_of_valid {xs : List Ev} (h : eventsB xs = true) : foldB (foldOver (-1, 0, ByteArray.empty) xs).1 (foldOver (-1, 0, ByteArray.empty) xs).2.1 (foldOver (-1, 0, ByteArray.empty) xs).2.2 = true := by
  obtain ⟨hl, ha⟩ := events_all h
  rcases List.eq_nil_or_concat xs with rfl | ⟨ys, y, rfl⟩
  · simp [foldB, foldOver, ByteArray.toList_eq]
  · rw [List.concat_eq_append] at *
    have hv := foldOver_v (-1, 0, ByteArray.empty) (ys ++ [y])
    have hs := foldOver_s (-1, 0, ByteArray.empty) (ys ++ [y]) (fun x hx => (ha x hx).2.2)
    have hk : (foldOver (-1, 0, ByteArray.empty) (ys ++ [y])).2.2 = y.2.1 := by unfold foldOver; rw [List.foldl_append]; rfl
    have hw := (ha y (by simp)).2.1
    simp only [List.length_append, List.length_cons, List.length_nil] at hv hs hl
    unfold foldB
    rw [if_neg (by omega), hk, hw, inB_t (by omega), inB_t (by omega)]
    rfl
/-- Every piece of the way stays in range. -/
theorem fold_range {f : Fd} {xs : List Ev} (hf : (-1 ≤ f.1 ∧ f.1 ≤ 23) ∧ 0 ≤ f.2.1 ∧ f.2.1 ≤ 100000) (hl : xs.length ≤ 24) (ha : ∀ x ∈ xs, 0 ≤ x.2.2 ∧ x.2.2 ≤ 999) (k : Nat) :
    (-1 ≤ (foldOver f (xs.take k)).1 ∧ (foldOver f (xs.take k)).1 ≤ 47) ∧ 0 ≤ (foldOver f (xs.take k)).2.1 ∧ (foldOver f (xs.take k)).2.1 ≤ 200000 := by
  have hv := foldOver_v f (xs.take k)
  have hs := foldOver_s f (xs.take k) (fun x hx => ha x (List.mem_of_mem_take hx))
  have : (xs.take k).length ≤ 24 := by rw [List.length_take]; omega
  omega

/-- Block b holds three cells, none frozen. -/
def Box3 (w : World) (b : Nat) (u0 u1 u2 : Value) : Prop :=
  w.cell? ⟨b, 0, none⟩ = some u0 ∧ w.cell? ⟨b, 1, none⟩ = some u1 ∧ w.cell? ⟨b, 2, none⟩ = some u2 ∧ w.frozen? ⟨b, 0, none⟩ = false ∧ w.frozen? ⟨b, 1, none⟩ = false ∧ w.frozen? ⟨b, 2, none⟩ = false
theorem Box3.below {w w' : World} {b : Nat} {u0 u1 u2 : Value} (h : Box3 w b u0 u1 u2) (hb : Below w.heap.size w w') : Box3 w' b u0 u1 u2 := by
  obtain ⟨h0, h1, h2, f0, f1, f2⟩ := h
  have hlt : b < w.heap.size := World.block_lt_of_cell? w _ h0
  exact ⟨box_cell hb h0, box_cell hb h1, box_cell hb h2, (hb.frozen (p := ⟨b, 0, none⟩) hlt).trans f0, (hb.frozen (p := ⟨b, 1, none⟩) hlt).trans f1, (hb.frozen (p := ⟨b, 2, none⟩) hlt).trans f2⟩
theorem Box3.new (w : World) (t : TypeId) (u0 u1 u2 : Value) : Box3 (w.alloc (.cells #[u0, u1, u2] t)) w.heap.size u0 u1 u2 := by
  refine ⟨by go_cell, by go_cell, by go_cell, by simp [go_sem], by simp [go_sem], by simp [go_sem]⟩
theorem Box3.lt {w : World} {b : Nat} {u0 u1 u2 : Value} (h : Box3 w b u0 u1 u2) : b < w.heap.size := World.block_lt_of_cell? w _ h.1
theorem Box3.only {w w' : World} {b g : Nat} {u0 u1 u2 : Value} (h : Box3 w b u0 u1 u2) (hb : w.grownBy w' (some g)) (hne : b ≠ g) : Box3 w' b u0 u1 u2 := by
  have hlt := h.lt
  obtain ⟨h0, h1, h2, f0, f1, f2⟩ := h
  exact ⟨only_cell hb hne h0, only_cell hb hne h1, only_cell hb hne h2, only_frozen hb hne hlt f0, only_frozen hb hne hlt f1, only_frozen hb hne hlt f2⟩

theorem Box3.setOther {w : World} {b : Nat} {u0 u1 u2 : Value} (h : Box3 w b u0 u1 u2) {p : Addr} (hne : b ≠ p.block) (u : Value) : Box3 (w.setCell p u) b u0 u1 u2 :=
  h.only (only_setCell (g := p.block) (only_refl _ _) (.inl rfl) u) hne

set_option maxHeartbeats 3200000 in
theorem l21On_any (f : Fd) (A : Option Addr) (n c : Nat) (xs : List Ev) (hx : xs.length = n) (hn : n ≤ 24) (hf : (-1 ≤ f.1 ∧ f.1 ≤ 23) ∧ 0 ≤ f.2.1 ∧ f.2.1 ≤ 100000) (ha : ∀ x ∈ xs, 0 ≤ x.2.2 ∧ x.2.2 ≤ 999) (w : World) (hL : Lies w 3 A n (xs.flatMap eventCells)) :
    Calls Tryd.prog 49 #[.agg #[.int .i64 f.1, .int .i64 f.2.1, .string f.2.2], .slice A n c] w fun e w' => e = .returned (.agg #[.int .i64 (foldOver f xs).1, .int .i64 (foldOver f xs).2.1, .string (foldOver f xs).2.2]) ∧ Below w.heap.size w w' := by
  have HX := Lib.hid hx
  have HF := Lib.hid hf
  have HA := Lib.hid ha
  clear hx hf ha
  go_enter Tryd.func49, Tryd.ntmps49
  go_wp2
  go_loopw [5] (fun i wr => ∃ (k : Nat) (v s : Int) (l : ByteArray), k ≤ n ∧ i = .int .i64 k ∧ Hid (foldOver f (xs.take k) = (v, s, l)) ∧ wr.cell? ⟨w.heap.size, 0, none⟩ = some (.int .i64 v) ∧ wr.cell? ⟨w.heap.size, 1, none⟩ = some (.int .i64 s) ∧ wr.cell? ⟨w.heap.size, 2, none⟩ = some (.string l) ∧
      wr.frozen? ⟨w.heap.size, 0, none⟩ = false ∧ wr.frozen? ⟨w.heap.size, 1, none⟩ = false ∧ wr.frozen? ⟨w.heap.size, 2, none⟩ = false ∧
      wr.cell? ⟨w.heap.size + 1, 0, none⟩ = some (.int .i64 0) ∧ wr.cell? ⟨w.heap.size + 1, 1, none⟩ = some (.int .i64 0) ∧ wr.cell? ⟨w.heap.size + 1, 2, none⟩ = some (.string ⟨#[]⟩) ∧
      wr.frozen? ⟨w.heap.size + 1, 0, none⟩ = false ∧ wr.frozen? ⟨w.heap.size + 1, 1, none⟩ = false ∧ wr.frozen? ⟨w.heap.size + 1, 2, none⟩ = false ∧ Below w.heap.size w wr) (fun i _ => n - (intOf i).toNat)
  case atStart => exact ⟨0, f.1, f.2.1, f.2.2, Nat.zero_le _, rfl, Lib.hid rfl, by go_cell, by go_cell, by go_cell, by simp [go_sem], by simp [go_sem], by simp [go_sem], by go_cell, by go_cell, by go_cell, by simp [go_sem], by simp [go_sem], by simp [go_sem], (by repeat' (first | (with_reducible exact Below.refl _ _) | (with_reducible assumption) | (with_reducible refine below_step (by assumption) ?_) | (with_reducible refine below_alloc ?_ _) | (with_reducible refine Below.drew ?_) | (with_reducible refine below_drewN ?_ _) | (with_reducible refine Below.setCell ?_ ?_ _) | go_size))⟩
  case round =>
    obtain ⟨k, v, s, l, hk, rfl, hT, p0, p1, p2, z0, z1, z2, q0, q1, q2, y0, y1, y2, hB⟩ := hrel
    have hr := fold_range HF.out (by rw [HX.out]; exact hn) HA.out k
    rw [hT.out] at hr
    obtain ⟨⟨v0, v1⟩, s0, s1⟩ := hr
    simp only at v0 v1 s0 s1
    by_cases hlt : k < n
    · obtain ⟨b, o, rfl, hb, hc⟩ := hL.row (fun _ => rfl) (by omega)
      obtain ⟨⟨x0, x1, x2⟩, hxk⟩ := get_lt HX.out hlt
      have c0 : wr.cell? ⟨b, o + k * 3, none⟩ = some (.int .i64 x0) := box_cell hB (hc k _ hxk 0 _ rfl)
      have c1 : wr.cell? ⟨b, o + k * 3 + 1, none⟩ = some (.string x1) := box_cell hB (hc k _ hxk 1 _ rfl)
      have c2 : wr.cell? ⟨b, o + k * 3 + 2, none⟩ = some (.int .i64 x2) := box_cell hB (hc k _ hxk 2 _ rfl)
      have hbw : ¬ b = w.heap.size := by omega
      have hbw1 : ¬ b = w.heap.size + 1 := by omega
      have d := HA.out _ (List.mem_of_getElem? hxk)
      obtain ⟨d0, d1⟩ := d
      simp only at d0 d1
      have e1 : IntKind.i64.wrap (s + x2) = s + x2 := IntWalk.i64_in _ ⟨by omega, by omega⟩
      have HE : Hid (foldOver f (xs.take (k + 1)) = (v + 1, s + x2, x1)) := Lib.hid (by rw [foldOver_succ hxk, hT.out]; rfl)
      clear hxk hc hT
      go_wp2_with fail
      go_region
      go_wp2
      go_roundw
      case rel => exact ⟨k + 1, v + 1, s + x2, x1, by omega, by go_num, HE, by go_cell, by go_cell, by go_cell, by simp [go_sem, *], by simp [go_sem, *], by simp [go_sem, *], by go_cell, by go_cell, by go_cell, by simp [go_sem, *], by simp [go_sem, *], by simp [go_sem, *], (by repeat' (first | (with_reducible exact Below.refl _ _) | (with_reducible assumption) | (with_reducible refine below_step (by assumption) ?_) | (with_reducible refine below_alloc ?_ _) | (with_reducible refine Below.drew ?_) | (with_reducible refine below_drewN ?_ _) | (with_reducible refine Below.setCell ?_ ?_ _) | go_size))⟩
      case measure => simp [intOf]; omega
    · have HE : Hid (foldOver f xs = (v, s, l)) := Lib.hid (by
        have h := hT.out
        rwa [List.take_of_length_le (by rw [HX.out]; omega)] at h)
      go_wp2
      refine bodyPost_ret (v := .agg #[.int .i64 v, .int .i64 s, .string l]) (by simp [results, Tryd.results49, go_sem, *]) rfl ⟨by rw [HE.out], ?_⟩
      exact (by repeat' (first | (with_reducible exact Below.refl _ _) | (with_reducible assumption) | (with_reducible refine below_step (by assumption) ?_) | (with_reducible refine below_alloc ?_ _) | (with_reducible refine Below.drew ?_) | (with_reducible refine below_drewN ?_ _) | (with_reducible refine Below.setCell ?_ ?_ _) | go_size))
end Go.Proofs.YtcccidlfigfibaaDoor
