/-
  Whether a checkpoint has a position: what the reference's and the program's functions return. No condition.
-/
import Derived.Test.YtfbnpnajpkhkdaaCheck
import Derived.Test.YtfbnpnajpkhkdaaChain
namespace Go.Proofs.Ytfbnpnajpkhkdaa
open Go.ChangeShapes Go.WideShapes Go.ChangeAt Go.RowKit

/-- A position that is handled. -/
def hasB (done : Int) (zs : List Int) (at' : Int) : Bool := decide (at' ∈ zs) || decide (at' < done)

set_option maxHeartbeats 1600000 in
theorem l15Has_any (done : Int) (A : Option Addr) (n c : Nat) (zs : List Int) (at' : Int) (hn : n ≤ 1048576) (hx : zs.length = n) (w : World) (hL : Lies w 1 A n (zs.flatMap intCells)) :
    Calls Try.prog 95 #[.agg #[.int .i64 done, .slice A n c], .int .i64 at'] w fun e w' => e = .returned (.bool (hasB done zs at')) ∧ Below w.heap.size w w' := by
  obtain ⟨w0, hw0⟩ : ∃ w0, w0 = w.alloc (.cells #[.int .i64 done, .slice A n c] 67) := ⟨_, rfl⟩
  have B0 : Below w.heap.size w w0 := by rw [hw0]; exact below_alloc (Below.refl _ _) _
  have p0 : w0.cell? ⟨w.heap.size, 0, none⟩ = some (.int .i64 done) := by rw [hw0]; go_cell
  have p1 : w0.cell? ⟨w.heap.size, 1, none⟩ = some (.slice A n c) := by rw [hw0]; go_cell
  have HW0 := Lib.hid hw0
  have hL0 := hL.below B0
  clear hw0
  have HX := Lib.hid hx
  clear hx
  go_enter Try.func95, Try.ntmps95
  go_wp2
  rw [← HW0.out]
  go_loopw [5] (fun i wr => ∃ k : Nat, k ≤ n ∧ i = .int .i64 k ∧ Hid (at' ∉ zs.take k) ∧ Below w0.heap.size w0 wr) (fun i _ => n - (intOf i).toNat)
  case atStart => exact ⟨0, Nat.zero_le _, rfl, Lib.hid (by simp), Below.refl _ _⟩
  case round =>
    obtain ⟨k, hk, rfl, hT, hB⟩ := hrel
    have r0 := box_cell hB p0
    have r1 := box_cell hB p1
    have hBw : Below w.heap.size w wr := below_step hB B0
    by_cases hlt : k < n
    · obtain ⟨b, o, rfl, hb, hc⟩ := (hL0.below hB).row (fun _ => rfl) (by omega)
      obtain ⟨x0, hxk⟩ := get_lt HX.out hlt
      have c0 : wr.cell? ⟨b, o + k, none⟩ = some (.int .i64 x0) := by simpa using hc k _ hxk 0 _ rfl
      by_cases he : x0 = at'
      · have HE : Hid (hasB done zs at' = true) := Lib.hid (by
          have : at' ∈ zs := by rw [← he]; exact List.mem_of_getElem? hxk
          unfold hasB; simp [this])
        have E : (x0 == at') = true := by simp [he]
        clear he hxk hc
        go_wp2
        go_ret
        exact ⟨ret_bool HE.out.symm, (by repeat' (first | (with_reducible exact Below.refl _ _) | (with_reducible assumption) | (with_reducible refine below_step (by assumption) ?_) | (with_reducible refine below_alloc ?_ _) | (with_reducible refine Below.drew ?_) | (with_reducible refine below_drewN ?_ _) | (with_reducible refine Below.setCell ?_ ?_ _) | go_size))⟩
      · have HE : Hid (at' ∉ zs.take (k + 1)) := Lib.hid (by
          rw [take_succ_of hxk, List.mem_append]
          have := hT.out
          simp only [List.mem_singleton]
          rintro (h | h)
          · exact this h
          · exact he h.symm)
        have E : (x0 == at') = false := by simp [he]
        clear he hxk hc
        go_wp2
        go_roundw
        case rel => exact ⟨k + 1, by omega, by go_num, HE, (by repeat' (first | (with_reducible exact Below.refl _ _) | (with_reducible assumption) | (with_reducible refine below_step (by assumption) ?_) | (with_reducible refine below_alloc ?_ _) | (with_reducible refine Below.drew ?_) | (with_reducible refine below_drewN ?_ _) | (with_reducible refine Below.setCell ?_ ?_ _) | go_size))⟩
        case measure => simp [intOf]; omega
    · have HE : Hid (hasB done zs at' = decide (at' < done)) := Lib.hid (by
        have h := hT.out
        have := HX.out
        rw [List.take_of_length_le (by omega)] at h
        unfold hasB; simp [h])
      go_wp2
      go_ret
      exact ⟨ret_bool HE.out.symm, (by repeat' (first | (with_reducible exact Below.refl _ _) | (with_reducible assumption) | (with_reducible refine below_step (by assumption) ?_) | (with_reducible refine below_alloc ?_ _) | (with_reducible refine Below.drew ?_) | (with_reducible refine below_drewN ?_ _) | (with_reducible refine Below.setCell ?_ ?_ _) | go_size))⟩

theorem placeValid_any (x : Int) (w : World) : Calls Try.prog 99 #[.int .i64 x] w fun e w' => e = .returned (.bool (inB x 0 99)) ∧ w = w' := by
  rcases (show x < 0 ∨ 99 < x ∨ (0 ≤ x ∧ x ≤ 99) from by omega) with h | h | ⟨h, h'⟩
  · have e := Lib.hid (show inB x 0 99 = false from inB_f (by omega))
    go_enter Try.func99, Try.ntmps99
    go_wp2
    go_ret
    exact ⟨ret_bool (by first | exact e.out.symm | (rw [e.out]; simp; omega)), rfl⟩
  · have e := Lib.hid (show inB x 0 99 = false from inB_f (by omega))
    go_enter Try.func99, Try.ntmps99
    go_wp2
    go_ret
    exact ⟨ret_bool (by first | exact e.out.symm | (rw [e.out]; simp; omega)), rfl⟩
  · have e := Lib.hid (show inB x 0 99 = true from inB_t (by omega))
    go_enter Try.func99, Try.ntmps99
    go_wp2
    go_ret
    exact ⟨ret_bool (by first | exact e.out.symm | (rw [e.out]; simp; omega)), rfl⟩

set_option maxHeartbeats 1600000 in
theorem implHas_any (done : Int) (A : Option Addr) (n c : Nat) (zs : List Int) (at' : Int) (hn : n ≤ 1048576) (hx : zs.length = n) (w : World) (hL : Lies w 1 A n (zs.flatMap intCells)) :
    Calls Try.prog 100 #[.agg #[.int .i64 done, .slice A n c], .int .i64 at'] w fun e w' => e = .returned (.bool (checkB done zs && inB at' 0 99 && hasB done zs at')) ∧ Below w.heap.size w w' := by
  have HX := Lib.hid hx
  have HL := Lib.hid hL
  clear hx hL
  cases E1 : checkB done zs
  · go_enter Try.func100, Try.ntmps100
    go_wp2_with fail
    refine (implCheck_any _ _ _ _ zs hn HX.out _ (HL.out.below (below_alloc (Below.refl _ _) _))).mono ?_
    rintro e1 w1 ⟨rfl, hb1⟩
    rw [E1]
    go_wp2
    go_ret
    exact ⟨ret_bool (by simp), (by repeat' (first | (with_reducible exact Below.refl _ _) | (with_reducible assumption) | (with_reducible refine below_step (by assumption) ?_) | (with_reducible refine below_alloc ?_ _) | (with_reducible refine Below.drew ?_) | (with_reducible refine below_drewN ?_ _) | (with_reducible refine Below.setCell ?_ ?_ _) | go_size))⟩
  cases E2 : inB at' 0 99
  · go_enter Try.func100, Try.ntmps100
    go_wp2_with fail
    refine (implCheck_any _ _ _ _ zs hn HX.out _ (HL.out.below (below_alloc (Below.refl _ _) _))).mono ?_
    rintro e1 w1 ⟨rfl, hb1⟩
    rw [E1]
    go_wp2_with (go_at_call 99; refine (placeValid_any _ _).mono ?_; rintro e2 w2 ⟨rfl, rfl⟩; rw [E2])
    go_ret
    exact ⟨ret_bool (by simp), (by repeat' (first | (with_reducible exact Below.refl _ _) | (with_reducible assumption) | (with_reducible refine below_step (by assumption) ?_) | (with_reducible refine below_alloc ?_ _) | (with_reducible refine Below.drew ?_) | (with_reducible refine below_drewN ?_ _) | (with_reducible refine Below.setCell ?_ ?_ _) | go_size))⟩
  go_enter Try.func100, Try.ntmps100
  go_wp2_with fail
  refine (implCheck_any _ _ _ _ zs hn HX.out _ (HL.out.below (below_alloc (Below.refl _ _) _))).mono ?_
  rintro e1 w1 ⟨rfl, hb1⟩
  rw [E1]
  have c0 := box_cell hb1 (b := w.heap.size) (o := 0) (u := .int .i64 done) (by go_cell)
  have c1 := box_cell hb1 (b := w.heap.size) (o := 1) (u := .slice A n c) (by go_cell)
  have B1 : Below w.heap.size w w1 := (by repeat' (first | (with_reducible exact Below.refl _ _) | (with_reducible assumption) | (with_reducible refine below_step (by assumption) ?_) | (with_reducible refine below_alloc ?_ _) | (with_reducible refine Below.drew ?_) | (with_reducible refine below_drewN ?_ _) | (with_reducible refine Below.setCell ?_ ?_ _) | go_size))
  go_wp2_with fail
  refine (placeValid_any _ _).mono ?_
  rintro e2 w2 ⟨rfl, rfl⟩
  rw [E2]
  go_wp2_with fail
  refine (placesOf_any A n c zs hn HX.out _ (HL.out.below B1)).mono ?_
  rintro e2 w2 ⟨u, rfl, hP⟩
  obtain ⟨l, h1, h2, _, _, hb2⟩ := hP
  have d0 := box_cell hb2 c0
  have d1 := box_cell hb2 c1
  have B2 : Below w.heap.size w w2 := below_step hb2 B1
  have H1 := Lib.hid h1
  have H2 := Lib.hid h2
  clear h1 h2 c0 c1
  go_wp2_with fail
  go_loopg [5] l.length (fun k p wr => ∃ (pre suf : List (Nat × Int)) (u : Option Addr), l = pre ++ suf ∧ k = suf.length ∧ p = .pointer u ∧ Chain w2 suf (.pointer u) ∧ Hid (at' ∉ pre.map (·.2)) ∧ wr = w2)
  case atStart => exact ⟨[], l, u, rfl, rfl, rfl, H2.out, Lib.hid (by simp), rfl⟩
  case round =>
    obtain ⟨pre, suf, u', hl, hk, rfl, hC, hN, rfl⟩ := hrel
    have HL := Lib.hid hl
    have HK := Lib.hid hk
    clear hl hk
    cases suf with
    | nil =>
      obtain rfl : u' = none := by simpa [Chain] using hC
      have HE : Hid ((true && true && hasB done zs at') = decide (at' < done)) := Lib.hid (by
        have h := hN.out
        have e1 := HL.out
        rw [List.append_nil] at e1
        rw [← e1, H1.out] at h
        unfold hasB; simp [h])
      clear hC
      go_wp2
      go_ret
      exact ⟨ret_bool HE.out.symm, (by repeat' (first | (with_reducible exact Below.refl _ _) | (with_reducible assumption) | (with_reducible refine below_step (by assumption) ?_) | (with_reducible refine below_alloc ?_ _) | (with_reducible refine Below.drew ?_) | (with_reducible refine below_drewN ?_ _) | (with_reducible refine Below.setCell ?_ ?_ _) | go_size))⟩
    | cons y suf =>
      obtain ⟨g, z⟩ := y
      obtain ⟨hp, q, hq, hC'⟩ := hC
      obtain rfl : u' = some ⟨g, 0, none⟩ := by injection hp
      obtain ⟨u2, rfl⟩ := hC'.pointer
      have e0 := cell_of_row wr g 0 _ _ (0, 0) hq
      have e1 := cell_of_row wr g 1 _ _ (0, 0) hq
      simp at e0 e1
      have HC := Lib.hid hC'
      clear hC' hq hp
      by_cases he : z = at'
      · have HE : Hid ((true && true && hasB done zs at') = true) := Lib.hid (by
          have : at' ∈ zs := by rw [← H1.out, HL.out, ← he]; simp
          unfold hasB; simp [this])
        have E : (z == at') = true := by simp [he]
        clear he
        go_wp2
        go_ret
        exact ⟨ret_bool HE.out.symm, (by repeat' (first | (with_reducible exact Below.refl _ _) | (with_reducible assumption) | (with_reducible refine below_step (by assumption) ?_) | (with_reducible refine below_alloc ?_ _) | (with_reducible refine Below.drew ?_) | (with_reducible refine below_drewN ?_ _) | (with_reducible refine Below.setCell ?_ ?_ _) | go_size))⟩
      · have HE : Hid (at' ∉ (pre ++ [(g, z)]).map (·.2)) := Lib.hid (by
          have := hN.out
          simp only [List.map_append, List.map_cons, List.map_nil, List.mem_append, List.mem_singleton]
          rintro (h | h)
          · exact this h
          · exact he h.symm)
        have E : (z == at') = false := by simp [he]
        clear he
        go_wp2
        go_roundg suf.length
        case measure => have := HK.out; simp at this; omega
        case rel => exact ⟨pre ++ [(g, z)], suf, u2, by rw [HL.out]; simp, rfl, rfl, HC.out, HE, rfl⟩
end Go.Proofs.Ytfbnpnajpkhkdaa
