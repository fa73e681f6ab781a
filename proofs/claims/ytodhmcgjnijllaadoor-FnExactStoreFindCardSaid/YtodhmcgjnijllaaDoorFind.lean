/-
  StoreFind of the reference and of the program. No condition beyond what the rows list.
-/
import Derived.Test.YtodhmcgjnijllaaDoorIds
namespace Go.Proofs.YtodhmcgjnijllaaDoor
open Go.ChangeShapes Go.WideShapes Go.ChangeAt Go.RowKit Go.Maps

theorem ent_parts' {x : EnT} (h : entB x = true) : evOk x.2 = true := by
  unfold entB at h
  rw [Bool.and_eq_true] at h
  exact h.2
def hasIds (ids : List Nat) (z : Int) : Bool := inB z 1 9999 && decide (z.toNat ∈ ids)

set_option maxHeartbeats 3200000 in
theorem idsHas_any (g : Nat) (ids : List Nat) (z : Int) (w : World) (h : RowIs w g 68 (idsV ids)) :
    Calls Tryd.prog 38 #[.pointer (some ⟨g, 0, none⟩), .int .i64 z] w fun e w' => e = .returned (.bool (hasIds ids z)) ∧ Below w.heap.size w w' := by
  by_cases h1 : z < 1
  · have HE := Lib.hid (show hasIds ids z = false by unfold hasIds; rw [inB_f (by omega)]; rfl)
    have e1 : decide ((1 : Int) ≤ z) = false := by simp; omega
    have e2 : ¬ (1 : Int) ≤ z := by omega
    clear h
    go_enter Tryd.func38, Tryd.ntmps38
    go_wp2_with fail
    go_quiet (fail)
    go_wp2
    go_ret
    exact ⟨ret_bool HE.out.symm, (by repeat' (first | (with_reducible exact Below.refl _ _) | (with_reducible assumption) | (with_reducible refine below_step (by assumption) ?_) | (with_reducible refine below_alloc ?_ _) | (with_reducible refine Below.drew ?_) | (with_reducible refine below_drewN ?_ _) | (with_reducible refine Below.setCell ?_ ?_ _) | go_size))⟩
  by_cases h2 : 9999 < z
  · have HE := Lib.hid (show hasIds ids z = false by unfold hasIds; rw [inB_f (by omega)]; rfl)
    have e1 : decide ((1 : Int) ≤ z) = true := by simp; omega
    have e2 : (1 : Int) ≤ z := by omega
    have e3 : decide (z ≤ (9999 : Int)) = false := by simp; omega
    have e4 : ¬ z ≤ (9999 : Int) := by omega
    clear h
    go_enter Tryd.func38, Tryd.ntmps38
    go_wp2_with fail
    go_quiet (fail)
    go_wp2
    go_ret
    exact ⟨ret_bool HE.out.symm, (by repeat' (first | (with_reducible exact Below.refl _ _) | (with_reducible assumption) | (with_reducible refine below_step (by assumption) ?_) | (with_reducible refine below_alloc ?_ _) | (with_reducible refine Below.drew ?_) | (with_reducible refine below_drewN ?_ _) | (with_reducible refine Below.setCell ?_ ?_ _) | go_size))⟩
  obtain ⟨n, rfl⟩ := Int.eq_ofNat_of_zero_le (show (0 : Int) ≤ z by omega)
  have e1 : decide ((1 : Int) ≤ (n : Int)) = true := by simp; omega
  have e2 : (1 : Int) ≤ (n : Int) := by omega
  have e3 : decide ((n : Int) ≤ (9999 : Int)) = true := by simp; omega
  have e4 : (n : Int) ≤ (9999 : Int) := by omega
  have e5 : 1 ≤ n := by omega
  have e6 : n ≤ 9999 := by omega
  have hb := bit_has ids n
  have HV := Lib.hid (show hasIds ids (n : Int) = decide (n ∈ ids) by unfold hasIds; rw [inB_t ⟨by omega, by omega⟩]; simp)
  obtain ⟨q, hq⟩ : ∃ q, q = n / 64 := ⟨_, rfl⟩
  obtain ⟨r, hr⟩ : ∃ r, r = n % 64 := ⟨_, rfl⟩
  obtain ⟨p, hp⟩ : ∃ p, p = 2 ^ r := ⟨_, rfl⟩
  obtain ⟨u, hu⟩ : ∃ u, u = bitW ids q := ⟨_, rfl⟩
  obtain ⟨x, hx⟩ : ∃ x, x = u &&& p := ⟨_, rfl⟩
  rw [← hq, ← hr, ← hp, ← hu, ← hx] at hb
  have hp64 : p < 18446744073709551616 := by rw [hp, hr]; exact two_lt n
  have hu64 : u < 18446744073709551616 := by rw [hu]; exact bitW_lt ids q
  have b1 : bits .and .u64 (u : Int) (p : Int) = (x : Int) := by rw [bits_and_u64_nat u p hu64 hp64, hx]
  have s1 : IntKind.u64.wrap ((2 : Int) ^ r) = (p : Int) := by
    have e : ((2 : Int) ^ r) = ((p : Nat) : Int) := by rw [hp]; push_cast; rfl
    rw [e]
    exact IntWalk.u64_in _ ⟨by omega, by omega⟩
  have d1 : ((n : Nat) : Int).tdiv 64 = (q : Int) := by rw [Int.tdiv_eq_ediv_of_nonneg (by omega)]; omega
  have d2 : ((n : Nat) : Int).tmod 64 = (r : Int) := by rw [Int.tmod_eq_emod_of_nonneg (by omega)]; omega
  have d3 : IntKind.i64.wrap (q : Int) = (q : Int) := IntWalk.i64_in _ ⟨by omega, by omega⟩
  have d4 : IntKind.i64.wrap (r : Int) = (r : Int) := IntWalk.i64_in _ ⟨by omega, by omega⟩
  have q1 : q < 157 := by omega
  have q2 : (q : Int) < 157 := by omega
  have q3 : (0 : Int) ≤ (q : Int) := by omega
  have r1 : (0 : Int) ≤ (r : Int) := by omega
  have r2 : (r : Int) ≤ 64 := by omega
  have r3 : r < 64 := by omega
  have u0 : w.cell? ⟨g, q, none⟩ = some (.int .u64 (u : Int)) := h.cell (by rw [idsV_get _ q1, hu])
  clear hq hr hp hu hx h
  by_cases hxz : x = 0
  · have HE := Lib.hid (show hasIds ids (n : Int) = false by rw [HV.out]; simp [hb.1 hxz])
    have f1 : ((x : Int) == 0) = true := by simp [hxz]
    have f2 : ((x : Int) != 0) = false := by simp [hxz]
    clear hxz hb
    go_enter Tryd.func38, Tryd.ntmps38
    go_wp2_with fail
    go_quiet (fail)
    go_wp2
    go_ret
    exact ⟨ret_bool (by rw [HE.out]), (by repeat' (first | (with_reducible exact Below.refl _ _) | (with_reducible assumption) | (with_reducible refine below_step (by assumption) ?_) | (with_reducible refine below_alloc ?_ _) | (with_reducible refine Below.drew ?_) | (with_reducible refine below_drewN ?_ _) | (with_reducible refine Below.setCell ?_ ?_ _) | go_size))⟩
  · have HE := Lib.hid (show hasIds ids (n : Int) = true by rw [HV.out]; simpa using fun h' => hxz (hb.2 h'))
    have f1 : ((x : Int) == 0) = false := by simp [hxz]
    have f2 : ((x : Int) != 0) = true := by simp [hxz]
    clear hxz hb
    go_enter Tryd.func38, Tryd.ntmps38
    go_wp2_with fail
    go_quiet (fail)
    go_wp2
    go_ret
    exact ⟨ret_bool (by rw [HE.out]), (by repeat' (first | (with_reducible exact Below.refl _ _) | (with_reducible assumption) | (with_reducible refine below_step (by assumption) ?_) | (with_reducible refine below_alloc ?_ _) | (with_reducible refine Below.drew ?_) | (with_reducible refine below_drewN ?_ _) | (with_reducible refine Below.setCell ?_ ?_ _) | go_size))⟩

theorem find1_any (y0 : Int) (y1 : ByteArray) (y2 : Int) (bz : Nat) (z : Int) (w : World) (hz : w.cell? ⟨bz, 0, none⟩ = some (.int .i64 z)) :
    Calls Tryd.prog 40 #[.agg #[.int .i64 y0, .string y1, .int .i64 y2], .pointer (some ⟨bz, 0, none⟩)] w fun e w' => e = .returned (.bool (y0 == z)) ∧ Below w.heap.size w w' := by
  have hz1 := box_cell (below_alloc (Below.refl w.heap.size w) (.cells #[.int .i64 y0, .string y1, .int .i64 y2] 52)) hz
  go_enter Tryd.func40, Tryd.ntmps40
  go_wp2
  go_ret
  exact ⟨rfl, (by repeat' (first | (with_reducible exact Below.refl _ _) | (with_reducible assumption) | (with_reducible refine below_step (by assumption) ?_) | (with_reducible refine below_alloc ?_ _) | (with_reducible refine Below.drew ?_) | (with_reducible refine below_drewN ?_ _) | (with_reducible refine Below.setCell ?_ ?_ _) | go_size))⟩

set_option maxHeartbeats 3200000 in
theorem indexFunc_any (A : Option Addr) (n c : Nat) (ys : List EvT) (hn : n ≤ 1048576) (hy : ys.length = n) (bz : Nat) (z : Int) (w : World) (hz : w.cell? ⟨bz, 0, none⟩ = some (.int .i64 z)) (hL : Lies w 3 A n (ys.flatMap eventCells)) :
    Calls Tryd.prog 39 #[.slice A n c, .func (.func 40) #[] #[.pointer (some ⟨bz, 0, none⟩)]] w fun e w' => e = .returned (.int .i64 (idxE 0 ys z)) ∧ Below w.heap.size w w' := by
  have HY := Lib.hid hy
  have HL := Lib.hid hL
  clear hy hL
  go_enter Tryd.func39, Tryd.ntmps39
  go_wp2
  go_loopw [8] (fun i wr => ∃ k : Nat, k ≤ n ∧ i = .int .i64 k ∧ Hid (idxE 0 ys z = idxE k (ys.drop k) z) ∧ Below w.heap.size w wr) (fun i _ => n - (intOf i).toNat)
  case atStart => exact ⟨0, Nat.zero_le _, rfl, Lib.hid rfl, Below.refl _ _⟩
  case round =>
    obtain ⟨k, hk, rfl, hI, hB⟩ := hrel
    by_cases hlt : k < n
    · obtain ⟨b, o, rfl, hb, hc⟩ := (HL.out.below hB).row (fun _ => rfl) (by omega)
      obtain ⟨⟨y0, y1, y2⟩, hyk⟩ := get_lt HY.out hlt
      have c0 : wr.cell? ⟨b, o + k * 3, none⟩ = some (.int .i64 y0) := hc k _ hyk 0 _ rfl
      have c1 : wr.cell? ⟨b, o + k * 3 + 1, none⟩ = some (.string y1) := hc k _ hyk 1 _ rfl
      have c2 : wr.cell? ⟨b, o + k * 3 + 2, none⟩ = some (.int .i64 y2) := hc k _ hyk 2 _ rfl
      have HST := Lib.hid (idx_step z hyk)
      have hzr := box_cell hB hz
      clear hyk hc
      by_cases he : y0 = z
      · have E : (y0 == z) = true := by simp [he]
        have HE := Lib.hid (show idxE 0 ys z = (k : Int) by rw [hI.out, HST.out, if_pos he])
        clear he
        go_wp2_with (go_at_call 40; refine (find1_any y0 y1 y2 bz z _ hzr).mono ?_; rintro e1 w1 ⟨rfl, hb1⟩; rw [E])
        go_ret
        exact ⟨by rw [HE.out]; rfl, (by repeat' (first | (with_reducible exact Below.refl _ _) | (with_reducible assumption) | (with_reducible refine below_step (by assumption) ?_) | (with_reducible refine below_alloc ?_ _) | (with_reducible refine Below.drew ?_) | (with_reducible refine below_drewN ?_ _) | (with_reducible refine Below.setCell ?_ ?_ _) | go_size))⟩
      · have E : (y0 == z) = false := by simp [he]
        have HE := Lib.hid (show idxE 0 ys z = idxE (k + 1) (ys.drop (k + 1)) z by rw [hI.out, HST.out, if_neg he])
        clear he
        go_wp2_with (go_at_call 40; refine (find1_any y0 y1 y2 bz z _ hzr).mono ?_; rintro e1 w1 ⟨rfl, hb1⟩; rw [E])
        go_roundw
        case rel => exact ⟨k + 1, by omega, by go_num, HE, (by repeat' (first | (with_reducible exact Below.refl _ _) | (with_reducible assumption) | (with_reducible refine below_step (by assumption) ?_) | (with_reducible refine below_alloc ?_ _) | (with_reducible refine Below.drew ?_) | (with_reducible refine below_drewN ?_ _) | (with_reducible refine Below.setCell ?_ ?_ _) | go_size))⟩
        case measure => simp [intOf]; omega
    · have HE := Lib.hid (show idxE 0 ys z = -1 by rw [hI.out, idx_end z (by have := HY.out; omega)])
      go_wp2
      go_ret
      exact ⟨by rw [HE.out]; rfl, (by repeat' (first | (with_reducible exact Below.refl _ _) | (with_reducible assumption) | (with_reducible refine below_step (by assumption) ?_) | (with_reducible refine below_alloc ?_ _) | (with_reducible refine Below.drew ?_) | (with_reducible refine below_drewN ?_ _) | (with_reducible refine Below.setCell ?_ ?_ _) | go_size))⟩

set_option maxHeartbeats 3200000 in
theorem specFind_any (A : Option Addr) (n c : Nat) (xs : List EnT) (s : ByteArray) (z : Int) (hn : n ≤ 1048576) (hx : xs.length = n) (hok : StOk xs) (w : World) (hL : Lies w 4 A n (xs.flatMap entryCells)) :
    Calls Tryd.prog 8 #[.slice A n c, .string s, .int .i64 z] w fun e w' => e = .returned (.int .i64 (storeFind xs s z)) ∧ Below w.heap.size w w' := by
  have HX := Lib.hid hx
  have HL := Lib.hid hL
  clear hx hL
  cases E1 : storeB xs
  · have HE := Lib.hid (find_no (s := s) (z := z) E1)
    go_enter Tryd.func8, Tryd.ntmps8
    go_wp2_with fail
    refine (specStore_any A n c xs hn HX.out hok.small _ HL.out).mono ?_
    rintro e1 w1 ⟨rfl, hb1⟩
    rw [E1]
    go_wp2
    go_ret
    exact ⟨by rw [HE.out]; rfl, (by repeat' (first | (with_reducible exact Below.refl _ _) | (with_reducible assumption) | (with_reducible refine below_step (by assumption) ?_) | (with_reducible refine below_alloc ?_ _) | (with_reducible refine Below.drew ?_) | (with_reducible refine below_drewN ?_ _) | (with_reducible refine Below.setCell ?_ ?_ _) | go_size))⟩
  have HF := Lib.hid (find_yes (s := s) (z := z) E1)
  go_enter Tryd.func8, Tryd.ntmps8
  go_wp2_with fail
  refine (specStore_any A n c xs hn HX.out hok.small _ HL.out).mono ?_
  rintro e1 w1 ⟨rfl, hb1⟩
  rw [E1]
  have HL1 := Lib.hid (HL.out.below hb1)
  go_wp2_with fail
  refine (l4Events_any A n c xs s hn HX.out _ HL1.out).mono ?_
  rintro e2 w2 ⟨ga, m, c2, rfl, hm, hEv, hb2⟩
  have HM := Lib.hid hm
  have HEv := Lib.hid hEv
  have hm2 : m ≤ 1048576 := by have := evOf_length s xs; have := HM.out; have := HX.out; omega
  have B2 : Below w.heap.size w w2 := below_step hb2 hb1
  clear hm hEv
  go_wp2
  go_loopw [8] (fun i wr => ∃ k : Nat, k ≤ m ∧ i = .int .i64 k ∧ Hid (idxE 0 (evOf s xs) z = idxE k ((evOf s xs).drop k) z) ∧ Below w2.heap.size w2 wr) (fun i _ => m - (intOf i).toNat)
  case atStart => exact ⟨0, Nat.zero_le _, rfl, Lib.hid rfl, Below.refl _ _⟩
  case round =>
    obtain ⟨k, hk, rfl, hI, hB⟩ := hrel
    have BW : Below w.heap.size w wr := below_step hB B2
    by_cases hlt : k < m
    · obtain ⟨b, o, e, hb, hc⟩ := ((lies_of_own HEv.out).below hB).row (fun _ => rfl) (by omega)
      cases e
      obtain ⟨⟨y0, y1, y2⟩, hyk⟩ := get_lt HM.out hlt
      have c0 : wr.cell? ⟨ga, k * 3, none⟩ = some (.int .i64 y0) := by simpa using hc k _ hyk 0 _ rfl
      have c1 : wr.cell? ⟨ga, k * 3 + 1, none⟩ = some (.string y1) := by simpa using hc k _ hyk 1 _ rfl
      have c2 : wr.cell? ⟨ga, k * 3 + 2, none⟩ = some (.int .i64 y2) := by simpa using hc k _ hyk 2 _ rfl
      have HST := Lib.hid (idx_step z hyk)
      clear hyk hc
      by_cases he : y0 = z
      · have E : (y0 == z) = true := by simp [he]
        have HE := Lib.hid (show storeFind xs s z = (k : Int) by rw [HF.out, hI.out, HST.out, if_pos he])
        clear he
        go_wp2
        go_ret
        exact ⟨by rw [HE.out]; rfl, (by repeat' (first | (with_reducible exact Below.refl _ _) | (with_reducible assumption) | (with_reducible refine below_step (by assumption) ?_) | (with_reducible refine below_alloc ?_ _) | (with_reducible refine Below.drew ?_) | (with_reducible refine below_drewN ?_ _) | (with_reducible refine Below.setCell ?_ ?_ _) | go_size))⟩
      · have E : (y0 == z) = false := by simp [he]
        have HE := Lib.hid (show idxE 0 (evOf s xs) z = idxE (k + 1) ((evOf s xs).drop (k + 1)) z by rw [hI.out, HST.out, if_neg he])
        clear he
        go_wp2
        go_roundw
        case rel => exact ⟨k + 1, by omega, by go_num, HE, (by repeat' (first | (with_reducible exact Below.refl _ _) | (with_reducible assumption) | (with_reducible refine below_step (by assumption) ?_) | (with_reducible refine below_alloc ?_ _) | (with_reducible refine Below.drew ?_) | (with_reducible refine below_drewN ?_ _) | (with_reducible refine Below.setCell ?_ ?_ _) | go_size))⟩
        case measure => simp [intOf]; omega
    · have HE := Lib.hid (show storeFind xs s z = -1 by rw [HF.out, hI.out, idx_end z (by have := HM.out; omega)])
      go_wp2
      go_ret
      exact ⟨by rw [HE.out]; rfl, (by repeat' (first | (with_reducible exact Below.refl _ _) | (with_reducible assumption) | (with_reducible refine below_step (by assumption) ?_) | (with_reducible refine below_alloc ?_ _) | (with_reducible refine Below.drew ?_) | (with_reducible refine below_drewN ?_ _) | (with_reducible refine Below.setCell ?_ ?_ _) | go_size))⟩

set_option maxRecDepth 8000 in
set_option maxHeartbeats 6400000 in
theorem implFind_any (A : Option Addr) (n c : Nat) (xs : List EnT) (s : ByteArray) (z : Int) (hn : n ≤ 1048576) (hx : xs.length = n) (hok : StOk xs) (hs : s.size ≤ 1048576) (w : World) (a : Addr) (hS : Sent a w) (hM : MaxL w) (hL : Lies w 4 A n (xs.flatMap entryCells)) :
    Calls Tryd.prog 10 #[.slice A n c, .string s, .int .i64 z] w fun e w' => e = .returned (.int .i64 (storeFind xs s z)) ∧ Below w.heap.size w w' := by
  have HX := Lib.hid hx
  have HL := Lib.hid hL
  clear hx hL
  have BZ : Below w.heap.size w (w.alloc (.cells #[.int .i64 z] 3)) := below_alloc (Below.refl _ _) _
  have HSZ := Lib.hid (hS.below BZ (Nat.le_refl _))
  have HMZ := Lib.hid (hM.below BZ)
  have HLZ := Lib.hid (HL.out.below BZ)
  cases E1 : storeB xs
  · have HE := Lib.hid (find_no (s := s) (z := z) E1)
    go_enter Tryd.func10, Tryd.ntmps10
    go_wp2_with fail
    refine (implStore_any A n c xs hn HX.out hok.small hok.ints _ a HSZ.out HMZ.out HLZ.out).mono ?_
    rintro e1 w1 ⟨rfl, hb1⟩
    rw [E1]
    go_wp2
    go_ret
    exact ⟨by rw [HE.out]; rfl, (by repeat' (first | (with_reducible exact Below.refl _ _) | (with_reducible assumption) | (with_reducible refine below_step (by assumption) ?_) | (with_reducible refine below_alloc ?_ _) | (with_reducible refine Below.drew ?_) | (with_reducible refine below_drewN ?_ _) | (with_reducible refine Below.setCell ?_ ?_ _) | go_size))⟩
  have HF := Lib.hid (find_yes (s := s) (z := z) E1)
  have HEV := Lib.hid (show ∀ y ∈ evOf s xs, evOk y = true from fun y hy => (ent_parts' (((store_iff xs).1 E1).2.1 _ (evOf_mem hy))))
  cases E2 : hasIds (idsN (evOf s xs)) z
  · have HE := Lib.hid (show storeFind xs s z = -1 by
      rw [HF.out]
      refine idx_none _ 0 z (ids_not HEV.out ?_)
      unfold hasIds at E2
      by_cases hr : 1 ≤ z ∧ z ≤ 9999
      · right
        rw [inB_t hr] at E2
        simpa using E2
      · exact .inl hr)
    go_enter Tryd.func10, Tryd.ntmps10
    go_wp2_with fail
    refine (implStore_any A n c xs hn HX.out hok.small hok.ints _ a HSZ.out HMZ.out HLZ.out).mono ?_
    rintro e1 w1 ⟨rfl, hb1⟩
    rw [E1]
    have z1 := box_cell hb1 (b := w.heap.size) (o := 0) (u := .int .i64 z) (by go_cell)
    have B1 : Below w.heap.size w w1 := below_step hb1 BZ
    have HL1 := Lib.hid (HL.out.below B1)
    go_wp2_with fail
    refine (streamsOf_any A n c xs hn HX.out hok.names _ HL1.out).mono ?_
    rintro e3 w3 ⟨b, D, V, rfl, hSt, _, hb3⟩
    obtain ⟨A4, c4, hV, _, _, hrow⟩ := hSt.form s
    have hlk := hSt.look (s := s) (by unfold maxLen; omega)
    rw [hV] at hlk
    obtain ⟨m, hmE⟩ : ∃ m, m = (evOf s xs).length := ⟨_, rfl⟩
    rw [← hmE] at hlk hrow
    have HRow := Lib.hid hrow
    have hm9 : m ≤ 1048576 := by have := evOf_length s xs; have := HX.out; omega
    have z3 := box_cell hb3 z1
    have B3 : Below w.heap.size w w3 := below_step hb3 B1
    have HME := Lib.hid hmE
    clear hV hSt hrow hmE
    go_wp2_with fail
    refine (idsOf_any A4 m c4 (evOf s xs) hm9 HME.out.symm HEV.out _ (lies_of_own HRow.out)).mono ?_
    rintro e4 w4 ⟨rfl, hb4⟩
    have z4 := box_cell hb4 z3
    have B4 : Below w.heap.size w w4 := below_step hb4 B3
    obtain ⟨L, hLL⟩ : ∃ L, L = idsV (idsN (evOf s xs)) := ⟨_, rfl⟩
    rw [← hLL]
    have hl1 : L.length = 157 := by rw [hLL]; exact idsV_length _
    have hone := Lib.hid (all_oneCell_toArray (by rw [hLL]; exact idsV_one _ : ∀ v ∈ L, v.oneCell' = true))
    have HI2 := Lib.hid (show (Tryd.prog.info? 68).map (·.size) = some L.toArray.size by simpa [hl1] using infoIds)
    obtain ⟨wz, hwz⟩ : ∃ wz, wz = w4.alloc (.cells Tryd.zeroCells68 68) := ⟨_, rfl⟩
    have HWZ := Lib.hid hwz
    have HRZ := Lib.hid (show RowIs wz w4.heap.size 68 (idsV []) by rw [hwz]; exact RowIs.new _ _ _)
    have BWZ : Below w4.heap.size w4 wz := by rw [hwz]; exact below_alloc (Below.refl _ _) _
    have hth := Lib.hid (ids_there (n := L.toArray.size) HRZ.out (by simp [idsV_length, hl1]))
    obtain ⟨w5, hw5⟩ : ∃ w5, w5 = wz.setCells w4.heap.size 0 L.toArray.toList := ⟨_, rfl⟩
    have HW5 := Lib.hid hw5
    have HRS := Lib.hid (show RowIs w5 w4.heap.size 68 L by rw [hw5]; simpa using row_over L [] (idsV []) HRZ.out (by rw [hl1, idsV_length]))
    have BS : Below w4.heap.size w4 w5 := by rw [hw5]; exact below_cells (b := w4.heap.size) L.toArray.toList 0 (Nat.le_refl _) BWZ
    have z5 := box_cell BS z4
    have B5 : Below w.heap.size w w5 := below_step BS B4
    rw [hLL] at HRS
    clear hwz hw5 hl1 hLL z1 z3 z4
    go_wp2_with (first | (rw [← HWZ.out]; refine wpList_store_mid rfl 68 _ _ rfl w4.heap.size 0 L.toArray rfl rfl hth.out HI2.out hone.out ?_; rw [← HW5.out]) | (go_at_call 38; refine (idsHas_any w4.heap.size (idsN (evOf s xs)) z _ HRS.out).mono ?_; rintro e6 w6 ⟨rfl, hb6⟩; rw [E2]))
    go_wp2
    go_ret
    exact ⟨by rw [HE.out]; rfl, below_step hb6 B5⟩
  · go_enter Tryd.func10, Tryd.ntmps10
    go_wp2_with fail
    refine (implStore_any A n c xs hn HX.out hok.small hok.ints _ a HSZ.out HMZ.out HLZ.out).mono ?_
    rintro e1 w1 ⟨rfl, hb1⟩
    rw [E1]
    have z1 := box_cell hb1 (b := w.heap.size) (o := 0) (u := .int .i64 z) (by go_cell)
    have B1 : Below w.heap.size w w1 := below_step hb1 BZ
    have HL1 := Lib.hid (HL.out.below B1)
    go_wp2_with fail
    refine (streamsOf_any A n c xs hn HX.out hok.names _ HL1.out).mono ?_
    rintro e3 w3 ⟨b, D, V, rfl, hSt, _, hb3⟩
    obtain ⟨A4, c4, hV, _, _, hrow⟩ := hSt.form s
    have hlk := hSt.look (s := s) (by unfold maxLen; omega)
    rw [hV] at hlk
    obtain ⟨m, hmE⟩ : ∃ m, m = (evOf s xs).length := ⟨_, rfl⟩
    rw [← hmE] at hlk hrow
    have HRow := Lib.hid hrow
    have hm9 : m ≤ 1048576 := by have := evOf_length s xs; have := HX.out; omega
    have z3 := box_cell hb3 z1
    have B3 : Below w.heap.size w w3 := below_step hb3 B1
    have HME := Lib.hid hmE
    clear hV hSt hrow hmE
    go_wp2_with fail
    refine (idsOf_any A4 m c4 (evOf s xs) hm9 HME.out.symm HEV.out _ (lies_of_own HRow.out)).mono ?_
    rintro e4 w4 ⟨rfl, hb4⟩
    have z4 := box_cell hb4 z3
    have B4 : Below w.heap.size w w4 := below_step hb4 B3
    obtain ⟨L, hLL⟩ : ∃ L, L = idsV (idsN (evOf s xs)) := ⟨_, rfl⟩
    rw [← hLL]
    have hl1 : L.length = 157 := by rw [hLL]; exact idsV_length _
    have hone := Lib.hid (all_oneCell_toArray (by rw [hLL]; exact idsV_one _ : ∀ v ∈ L, v.oneCell' = true))
    have HI2 := Lib.hid (show (Tryd.prog.info? 68).map (·.size) = some L.toArray.size by simpa [hl1] using infoIds)
    obtain ⟨wz, hwz⟩ : ∃ wz, wz = w4.alloc (.cells Tryd.zeroCells68 68) := ⟨_, rfl⟩
    have HWZ := Lib.hid hwz
    have HRZ := Lib.hid (show RowIs wz w4.heap.size 68 (idsV []) by rw [hwz]; exact RowIs.new _ _ _)
    have BWZ : Below w4.heap.size w4 wz := by rw [hwz]; exact below_alloc (Below.refl _ _) _
    have hth := Lib.hid (ids_there (n := L.toArray.size) HRZ.out (by simp [idsV_length, hl1]))
    obtain ⟨w5, hw5⟩ : ∃ w5, w5 = wz.setCells w4.heap.size 0 L.toArray.toList := ⟨_, rfl⟩
    have HW5 := Lib.hid hw5
    have HRS := Lib.hid (show RowIs w5 w4.heap.size 68 L by rw [hw5]; simpa using row_over L [] (idsV []) HRZ.out (by rw [hl1, idsV_length]))
    have BS : Below w4.heap.size w4 w5 := by rw [hw5]; exact below_cells (b := w4.heap.size) L.toArray.toList 0 (Nat.le_refl _) BWZ
    have z5 := box_cell BS z4
    have B5 : Below w.heap.size w w5 := below_step BS B4
    rw [hLL] at HRS
    clear hwz hw5 hl1 hLL z1 z3 z4
    go_wp2_with (first | (rw [← HWZ.out]; refine wpList_store_mid rfl 68 _ _ rfl w4.heap.size 0 L.toArray rfl rfl hth.out HI2.out hone.out ?_; rw [← HW5.out]) | (go_at_call 38; refine (idsHas_any w4.heap.size (idsN (evOf s xs)) z _ HRS.out).mono ?_; rintro e6 w6 ⟨rfl, hb6⟩; rw [E2]))
    have z6 := box_cell hb6 z5
    have HR6 := Lib.hid ((((lies_of_own HRow.out).below hb4).below BS).below hb6)
    go_wp2_with fail
    refine (indexFunc_any A4 m c4 (evOf s xs) hm9 HME.out.symm w.heap.size z _ z6 HR6.out).mono ?_
    rintro e7 w7 ⟨rfl, hb7⟩
    go_wp2
    go_ret
    exact ⟨by rw [HF.out]; rfl, below_step hb7 (below_step hb6 B5)⟩

theorem specFind_at (lo hi : Nat) (v : Value) (xs : List EnT) (s : ByteArray) (z : Int) (hok : StOk xs) (_hs : s.size ≤ 1048576) (w : World) (h : entrySAt w lo hi v xs) :
    Calls Tryd.prog 8 #[v, .string s, .int .i64 z] w fun e w' => e = .returned (.int .i64 (storeFind xs s z)) ∧ Below w.heap.size w w' := by
  obtain ⟨g, m, c, rfl, hx, hb, _, _, ho⟩ := h.open
  exact specFind_any _ _ _ xs s z hb hx hok w (lies_of_own ho)
theorem implFind_at (lo hi : Nat) (v : Value) (xs : List EnT) (s : ByteArray) (z : Int) (hok : StOk xs) (hs : s.size ≤ 1048576) (w : World) (a : Addr) (hS : Sent a w) (hM : MaxL w) (h : entrySAt w lo hi v xs) :
    Calls Tryd.prog 10 #[v, .string s, .int .i64 z] w fun e w' => e = .returned (.int .i64 (storeFind xs s z)) ∧ Below w.heap.size w w' := by
  obtain ⟨g, m, c, rfl, hx, hb, _, _, ho⟩ := h.open
  exact implFind_any _ _ _ xs s z hb hx hok hs w a hS hM (lies_of_own ho)
end Go.Proofs.YtodhmcgjnijllaaDoor
