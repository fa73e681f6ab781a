/-
  Folds over events: what the program's FoldOn and the reference's return, for every fold and every slice of events. No condition.
-/
import Derived.Test.YtcccidlfigfibaaDoorFoldL
namespace Go.Proofs.YtcccidlfigfibaaDoor
open Go.ChangeShapes Go.WideShapes Go.ChangeAt Go.RowKit

set_option maxHeartbeats 1600000 in
theorem folder_any (v s : Int) (l : ByteArray) (w : World) :
    Calls Tryd.prog 78 #[.agg #[.int .i64 v, .int .i64 s, .string l]] w fun e w' => e = .returned (.func (Fn.func 89) #[] #[.pointer (some ⟨w.heap.size, 0, none⟩)]) ∧ w' = w.alloc (.cells #[.int .i64 v, .int .i64 s, .string l] 42) := by
  have hmf : ∀ (fn : Fn) (first cap : Array Value) (w : World), (Instr.makeFunc fn first cap).run Tryd.prog w = .ok (.func fn first cap) w := fun _ _ _ _ => rfl
  go_enter Tryd.func78, Tryd.ntmps78
  go_wp2
  go_ret
  exact ⟨rfl, rfl⟩

set_option maxHeartbeats 1600000 in
theorem fstep_any (g : Nat) (v s : Int) (l : ByteArray) (id : Int) (kd : ByteArray) (d : Int) (w : World) (c0 : w.cell? ⟨g, 0, none⟩ = some (.int .i64 v)) (c1 : w.cell? ⟨g, 1, none⟩ = some (.int .i64 s)) (c2 : w.cell? ⟨g, 2, none⟩ = some (.string l))
    (f0 : w.frozen? ⟨g, 0, none⟩ = false) (f1 : w.frozen? ⟨g, 1, none⟩ = false) (f2 : w.frozen? ⟨g, 2, none⟩ = false) (hv : -1 ≤ v ∧ v ≤ 47) (hs : 0 ≤ s ∧ s ≤ 200000) (hd : 0 ≤ d ∧ d ≤ 999) :
    Calls Tryd.prog 89 #[.agg #[.int .i64 id, .string kd, .int .i64 d], .pointer (some ⟨g, 0, none⟩)] w fun e w' => e = .returned (.agg #[.int .i64 (v + 1), .int .i64 (s + d), .string kd]) ∧
      (w'.cell? ⟨g, 0, none⟩ = some (.int .i64 (v + 1)) ∧ w'.cell? ⟨g, 1, none⟩ = some (.int .i64 (s + d)) ∧ w'.cell? ⟨g, 2, none⟩ = some (.string kd)) ∧ (w'.frozen? ⟨g, 0, none⟩ = false ∧ w'.frozen? ⟨g, 1, none⟩ = false ∧ w'.frozen? ⟨g, 2, none⟩ = false) ∧ w.grownBy w' (some g) := by
  obtain ⟨v0, v1⟩ := hv
  obtain ⟨s0, s1⟩ := hs
  obtain ⟨d0, d1⟩ := hd
  have hlt : g < w.heap.size := World.block_lt_of_cell? w _ c0
  have hne : ¬ g = w.heap.size := by omega
  have hne1 : ¬ g = w.heap.size + 1 := by omega
  go_enter Tryd.func89, Tryd.ntmps89
  go_wp2
  refine bodyPost_ret (v := .agg #[.int .i64 (v + 1), .int .i64 (s + d), .string kd]) (by simp [results, Tryd.results89, go_sem, *]) rfl ⟨rfl, ⟨by go_cell, by go_cell, by go_cell⟩, ⟨by simp [go_sem, *], by simp [go_sem, *], by simp [go_sem, *]⟩, ?_⟩
  repeat' (first | exact only_refl _ _ | (refine only_alloc ?_ _) | (refine only_setCell ?_ (by first | exact .inl rfl | (right; simp; omega) | (right; simp)) _))

/-- A fold of valid events, or nothing. -/
def fdZero : Fd := (0, 0, ByteArray.empty)
def foldOn (f : Fd) (xs : List Ev) : Fd × Bool :=
  if foldB f.1 f.2.1 f.2.2 && eventsB xs then (if foldB (foldOver f xs).1 (foldOver f xs).2.1 (foldOver f xs).2.2 then (foldOver f xs, true) else (fdZero, false)) else (fdZero, false)
def fdV (r : Fd × Bool) : Value := .tuple #[.agg #[.int .i64 r.1.1, .int .i64 r.1.2.1, .string r.1.2.2], .bool r.2]

set_option maxHeartbeats 6400000 in
theorem implFoldOn_any (f : Fd) (hf : IntOk f.1) (hl : StrOk f.2.2) (A : Option Addr) (n c : Nat) (xs : List Ev) (hn : n ≤ 1048576) (hnc : n ≤ c) (hx : xs.length = n) (hok : ∀ x ∈ xs, eventOk x) (w : World) (hL : Lies w 3 A n (xs.flatMap eventCells)) :
    Calls Tryd.prog 54 #[.agg #[.int .i64 f.1, .int .i64 f.2.1, .string f.2.2], .slice A n c] w fun e w' => e = .returned (fdV (foldOn f xs)) ∧ Below w.heap.size w w' := by
  obtain ⟨v, s, l⟩ := f
  have HX := Lib.hid hx
  have HK := Lib.hid hok
  obtain ⟨w0, hw0⟩ : ∃ w0, w0 = (w.alloc (.cells #[.int .i64 v, .int .i64 s, .string l] 42)).alloc (.cells #[.int .i64 0, .int .i64 0, .string ⟨#[]⟩] 42) := ⟨_, rfl⟩
  have B0 : Below w.heap.size w w0 := by rw [hw0]; exact below_alloc (below_alloc (Below.refl _ _) _) _
  have hp : Box3 w0 w.heap.size (.int .i64 v) (.int .i64 s) (.string l) := by rw [hw0]; exact (Box3.new w _ _ _ _).below (below_alloc (Below.refl _ _) _)
  have hq : Box3 w0 (w.heap.size + 1) (.int .i64 0) (.int .i64 0) (.string ⟨#[]⟩) := by rw [hw0]; have h := Box3.new (w.alloc (.cells #[.int .i64 v, .int .i64 s, .string l] 42)) 42 (.int .i64 0) (.int .i64 0) (.string ⟨#[]⟩); rw [World.size_alloc] at h; exact h
  have HW0 := Lib.hid hw0
  have HP := Lib.hid hp
  have HQ := Lib.hid hq
  have hL0 := Lib.hid (hL.below B0)
  have HLw := Lib.hid hL
  obtain ⟨p0, p1, p2, -, -, -⟩ := hp
  clear hw0 hL hx hok hq
  cases E1 : foldB v s l
  · have HE : Hid (foldOn (v, s, l) xs = (fdZero, false)) := Lib.hid (by unfold foldOn; simp only [E1, Bool.false_and]; rfl)
    go_enter Tryd.func54, Tryd.ntmps54
    go_wp2_with fail
    rw [← HW0.out]
    refine (implFold_any _ _ _ hf hl _).mono ?_
    rintro e1 w1 ⟨rfl, hb1⟩
    rw [E1]
    obtain ⟨a0, a1, a2, f0, f1, f2⟩ := HQ.out.below hb1
    have hBw : Below w.heap.size w w1 := below_step hb1 B0
    go_wp2
    refine bodyPost_ret (v := fdV (foldOn (v, s, l) xs)) (by rw [HE.out]; simp [results, Tryd.results54, go_sem, fdV, fdZero, *]; try rfl) rfl ⟨rfl, ?_⟩
    exact (by repeat' (first | (with_reducible exact Below.refl _ _) | (with_reducible assumption) | (with_reducible refine below_step (by assumption) ?_) | (with_reducible refine below_alloc ?_ _) | (with_reducible refine Below.drew ?_) | (with_reducible refine below_drewN ?_ _) | (with_reducible refine Below.setCell ?_ ?_ _) | go_size))
  cases E2 : eventsB xs
  · have HE : Hid (foldOn (v, s, l) xs = (fdZero, false)) := Lib.hid (by unfold foldOn; simp only [E1, E2, Bool.and_false]; rfl)
    go_enter Tryd.func54, Tryd.ntmps54
    go_wp2_with fail
    rw [← HW0.out]
    refine (implFold_any _ _ _ hf hl _).mono ?_
    rintro e1 w1 ⟨rfl, hb1⟩
    rw [E1]
    go_wp2_with fail
    refine (implEvents_any _ _ _ xs hn hnc HX.out HK.out _ (hL0.out.below hb1)).mono ?_
    rintro e1 w2 ⟨rfl, hb2⟩
    rw [E2]
    obtain ⟨a0, a1, a2, f0, f1, f2⟩ := (HQ.out.below hb1).below hb2
    have hBw : Below w.heap.size w w2 := below_step hb2 (below_step hb1 B0)
    go_wp2
    refine bodyPost_ret (v := fdV (foldOn (v, s, l) xs)) (by rw [HE.out]; simp [results, Tryd.results54, go_sem, fdV, fdZero, *]; try rfl) rfl ⟨rfl, ?_⟩
    exact (by repeat' (first | (with_reducible exact Below.refl _ _) | (with_reducible assumption) | (with_reducible refine below_step (by assumption) ?_) | (with_reducible refine below_alloc ?_ _) | (with_reducible refine Below.drew ?_) | (with_reducible refine below_drewN ?_ _) | (with_reducible refine Below.setCell ?_ ?_ _) | go_size))
  obtain ⟨h24, hall⟩ := events_all E2
  have hfb := fold_bounds (f := (v, s, l)) E1
  have HA := Lib.hid (fun x hx => (hall x hx).2.2)
  have HFB := Lib.hid hfb
  have h24' : n ≤ 24 := by have := HX.out; omega
  obtain ⟨⟨v', s', l'⟩, hg⟩ : ∃ g, g = foldOver (v, s, l) xs := ⟨_, rfl⟩
  have HG := Lib.hid hg
  have hv' : IntOk v' := by
    have := fold_range hfb h24 HA.out xs.length
    rw [List.take_length, ← hg] at this
    exact ⟨by simp only at this; omega, by simp only at this; omega⟩
  have hl' : StrOk l' := by
    rcases List.eq_nil_or_concat xs with h0 | ⟨ys, y, h0⟩
    · rw [h0] at hg; simp [foldOver] at hg; rw [hg.2.2]; exact hl
    · rw [List.concat_eq_append] at h0
      have hy := (HK.out y (by rw [h0]; simp)).2.1
      rw [h0] at hg; unfold foldOver at hg; rw [List.foldl_append] at hg
      have : l' = y.2.1 := congrArg (fun p : Fd => p.2.2) hg
      rw [this]; exact hy
  have HV' := Lib.hid hv'
  have HE0 : Hid (foldOn (v, s, l) xs = (if foldB v' s' l' then ((v', s', l'), true) else (fdZero, false))) := Lib.hid (by unfold foldOn; simp only [E1, E2, ← hg]; rfl)
  clear hg hall h24 hfb hv'
  cases E3 : foldB v' s' l'
  all_goals
    have HE := Lib.hid (HE0.out.trans (by rw [E3]))
    go_enter Tryd.func54, Tryd.ntmps54
    go_wp2_with fail
    rw [← HW0.out]
    refine (implFold_any _ _ _ hf hl _).mono ?_
    rintro e1 w1 ⟨rfl, hb1⟩
    rw [E1]
    go_wp2_with fail
    refine (implEvents_any _ _ _ xs hn hnc HX.out HK.out _ (hL0.out.below hb1)).mono ?_
    rintro e1 w2 ⟨rfl, hb2⟩
    rw [E2]
    obtain ⟨k0, k1, k2, k3, k4, k5⟩ := (HP.out.below hb1).below hb2
    go_wp2_with fail
    refine (folder_any _ _ _ _).mono ?_
    rintro e1 w3 ⟨rfl, hw3⟩
    have hB3 : Below w2.heap.size w2 w3 := by rw [hw3]; exact below_alloc (Below.refl _ _) _
    have hG3 : Box3 w3 w2.heap.size (.int .i64 v) (.int .i64 s) (.string l) := by rw [hw3]; exact Box3.new w2 _ _ _ _
    have hP3 := ((HP.out.below hb1).below hb2).below hB3
    have hQ3 := Lib.hid (((HQ.out.below hb1).below hb2).below hB3)
    have hL3 := Lib.hid (((hL0.out.below hb1).below hb2).below hB3)
    have hBw : Below w.heap.size w w3 := below_step hB3 (below_step hb2 (below_step hb1 B0))
    have hgw : w.heap.size < w2.heap.size := by have := HP.out.lt; have := hb1.size; have := hb2.size; omega
    have hgw1 : w.heap.size + 1 < w2.heap.size := by have := HQ.out.lt; have := hb1.size; have := hb2.size; omega
    have hAlt : Hid (0 < n → ∀ b o, A = some ⟨b, o, none⟩ → b < w.heap.size) := Lib.hid (fun h0 b o e => HLw.out.arg_lt h0 e)
    clear k0 k1 k2 k3 k4 k5 hw3 hB3
    go_wp2
    go_loopw [22] (fun i wr => ∃ (k : Nat) (a b : Int) (d : ByteArray), k ≤ n ∧ i = .int .i64 k ∧ Hid (foldOver (v, s, l) (xs.take k) = (a, b, d)) ∧ Hid (Box3 wr w.heap.size (.int .i64 a) (.int .i64 b) (.string d)) ∧ Hid (Box3 wr w2.heap.size (.int .i64 a) (.int .i64 b) (.string d)) ∧ Hid (Box3 wr (w.heap.size + 1) (.int .i64 0) (.int .i64 0) (.string ⟨#[]⟩)) ∧ Hid (Lies wr 3 A n (xs.flatMap eventCells)) ∧ Below w.heap.size w wr) (fun i _ => n - (intOf i).toNat)
    case atStart => exact ⟨0, v, s, l, Nat.zero_le _, rfl, Lib.hid rfl, Lib.hid hP3, Lib.hid hG3, hQ3, hL3, hBw⟩
    case round =>
      obtain ⟨k, a, b, d, hk, rfl, hT, hb3, hb4, hb5, hLr, hB⟩ := hrel
      have hr := fold_range (f := (v, s, l)) HFB.out (by rw [HX.out]; exact h24') HA.out k
      rw [hT.out] at hr
      obtain ⟨hr1, hr2, hr3⟩ := hr
      by_cases hlt : k < n
      · obtain ⟨bb, o, rfl, hbb, hc⟩ := hLr.out.row (fun _ => rfl) (by omega)
        obtain ⟨⟨x0, x1, x2⟩, hxk⟩ := get_lt HX.out hlt
        have c0 : wr.cell? ⟨bb, o + k * 3, none⟩ = some (.int .i64 x0) := hc k _ hxk 0 _ rfl
        have c1 : wr.cell? ⟨bb, o + k * 3 + 1, none⟩ = some (.string x1) := hc k _ hxk 1 _ rfl
        have c2 : wr.cell? ⟨bb, o + k * 3 + 2, none⟩ = some (.int .i64 x2) := hc k _ hxk 2 _ rfl
        have hd := HA.out _ (List.mem_of_getElem? hxk)
        have HT := Lib.hid (show foldOver (v, s, l) (xs.take (k + 1)) = (a + 1, b + x2, x1) by rw [foldOver_succ hxk, hT.out]; rfl)
        have HLr := Lib.hid hLr.out
        clear hxk hc hT hLr
        obtain ⟨wb, hwb⟩ : ∃ wb, wb = wr.alloc (.cells #[.int .i64 x0, .string x1, .int .i64 x2] 70) := ⟨_, rfl⟩
        have hBb : Below wr.heap.size wr wb := by rw [hwb]; exact below_alloc (Below.refl _ _) _
        have HWB := Lib.hid hwb
        clear hwb
        obtain ⟨g0, g1, g2, f0, f1, f2⟩ := hb4.out.below hBb
        go_wp2_with fail
        rw [← HWB.out]
        refine (fstep_any w2.heap.size a b d x0 x1 x2 _ g0 g1 g2 f0 f1 f2 (by simpa using hr1) (by simpa using ⟨hr2, hr3⟩) (by simpa using hd)).mono ?_
        rintro e1 w5 ⟨rfl, ⟨n0, n1, n2⟩, ⟨n3, n4, n5⟩, hgr⟩
        have hN := Lib.hid (show Box3 w5 w2.heap.size (.int .i64 (a + 1)) (.int .i64 (b + x2)) (.string x1) from ⟨n0, n1, n2, n3, n4, n5⟩)
        have hM := (hb3.out.below hBb).only hgr (by omega)
        have hO := Lib.hid ((hb5.out.below hBb).only hgr (by omega))
        have hgb : w2.heap.size < wb.heap.size := (hb4.out.below hBb).lt
        have hB5 : Below w2.heap.size wb w5 := only_below hgr (by omega) (Nat.le_refl _)
        have hBw5 : Below w.heap.size w w5 := (below_step hBb hB).trans (hB5.mono (by omega))
        have hL5 := Lib.hid (lies_only (HLr.out.below hBb) hgr (fun h0 b' o' e => by have := hAlt.out h0 b' o' e; omega))
        obtain ⟨m0, m1, m2, m3, m4, m5⟩ := hM
        clear n0 n1 n2 n3 n4 n5 g0 g1 g2 f0 f1 f2
        go_wp2
        go_roundw
        case rel =>
          refine ⟨k + 1, a + 1, b + x2, x1, by omega, by go_num, HT, Lib.hid ⟨by go_cell, by go_cell, by go_cell, by simp [go_sem, *], by simp [go_sem, *], by simp [go_sem, *]⟩, Lib.hid ?_, Lib.hid ?_, Lib.hid ?_, ?_⟩
          · exact (((hN.out).setOther (by simp; omega) _).setOther (by simp; omega) _).setOther (by simp; omega) _
          · exact (((hO.out).setOther (by simp) _).setOther (by simp) _).setOther (by simp) _
          · refine ((hL5.out.setOther ?_ _).setOther ?_ _).setOther ?_ _ <;> (intro h0 b' o' e; have := hAlt.out h0 b' o' e; simp; omega)
          · exact ((hBw5.setCell (by simp) _).setCell (by simp) _).setCell (by simp) _
        case measure => simp [intOf]; omega
      · obtain ⟨g0, g1, g2, f0, f1, f2⟩ := hb3.out
        have hfin : (a, b, d) = (v', s', l') := by
          have h := hT.out
          rw [List.take_of_length_le (by rw [HX.out]; omega), ← HG.out] at h
          exact h.symm
        obtain ⟨rfl, rfl, rfl⟩ : a = v' ∧ b = s' ∧ d = l' := by simpa using hfin
        have HB5 := hb5
        have HB := Lib.hid hB
        clear hfin hr1 hr2 hr3
        go_wp2_with fail
        refine (implFold_any _ _ _ HV'.out hl' _).mono ?_
        rintro e1 w6 ⟨rfl, hb6⟩
        rw [E3]
        obtain ⟨a0, a1, a2, f6, f7, f8⟩ := HB5.out.below hb6
        obtain ⟨m0, m1, m2, -, -, -⟩ := hb3.out.below hb6
        have hBy : Below w.heap.size w w6 := below_step hb6 HB.out
        go_wp2
        refine bodyPost_ret (v := fdV (foldOn (v, s, l) xs)) (by rw [HE.out]; simp [results, Tryd.results54, go_sem, fdV, fdZero, *]; try rfl) rfl ⟨rfl, ?_⟩
        exact (by repeat' (first | (with_reducible exact Below.refl _ _) | (with_reducible assumption) | (with_reducible refine below_step (by assumption) ?_) | (with_reducible refine below_alloc ?_ _) | (with_reducible refine Below.drew ?_) | (with_reducible refine below_drewN ?_ _) | (with_reducible refine Below.setCell ?_ ?_ _) | go_size))
end Go.Proofs.YtcccidlfigfibaaDoor
