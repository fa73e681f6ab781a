/-
  IndexFind and IndexAdd of the reference: what each returns, for every slice of rows. No condition.
-/
import Derived.Test.YtkianldpmlbgcaaIdxQ
import Derived.Test.YtkianldpmlbgcaaAddS
namespace Go.Proofs.Ytkianldpmlbgcaa
open Go.ChangeShapes Go.WideShapes Go.ChangeAt Go.RowKit

theorem max_int (a b : Int) : (if a < b then b else a) = max a b := by
  by_cases h : a < b
  · rw [if_pos h]; omega
  · rw [if_neg h]; omega

set_option maxHeartbeats 3200000 in
theorem l22Most_any (A : Option Addr) (n c : Nat) (xs : List RowX) (hn : n ≤ 2097152) (hx : xs.length = n) (w : World) (ox : ∀ x ∈ xs, 0 < x.n ∧ RowZ w x) (hL : Lies w 2 A n (xs.flatMap rowCells)) :
    Calls Try.prog 52 #[.slice A n c] w fun e w' => e = .returned (.int .i64 (mostV (xs.map rowVal))) ∧ Below w.heap.size w w' := by
  have OX := Lib.hid ox
  clear ox
  go_enter Try.func52, Try.ntmps52
  go_wp2
  go_loopw [3, 4] (fun m i wr => ∃ (k : Nat) (v : Int), k ≤ n ∧ i = .int .i64 k ∧ m = .int .i64 v ∧ Hid (mostV ((xs.take k).map rowVal) = v) ∧ Below w.heap.size w wr) (fun _ i _ => n - (intOf i).toNat)
  case atStart => exact ⟨0, -1, Nat.zero_le _, rfl, rfl, Lib.hid rfl, Below.refl _ _⟩
  case round =>
    obtain ⟨k, v, hk, rfl, rfl, hM, hB⟩ := hrel
    by_cases hlt : k < n
    · obtain ⟨b, o, rfl, hb, hc⟩ := (hL.below hB).row (fun _ => rfl) (by omega)
      obtain ⟨x, hxk⟩ := get_lt hx hlt
      have c1 : wr.cell? ⟨b, o + k * 2 + 1, none⟩ = some (.slice x.A x.n x.c) := hc k _ hxk 1 _ rfl
      obtain ⟨h0, KX⟩ := OX.out _ (List.mem_of_getElem? hxk)
      have hxn : x.n ≤ 1048576 := KX.1
      have HS := Lib.hid (most_succ (vals := xs.map rowVal) (y := rowVal x) (by rw [List.getElem?_map, hxk]; rfl))
      obtain ⟨b2, o2, hA2, hb2, hc2⟩ := ((KX.2.2).below hB).2 (by omega)
      have hz : x.zs[x.n - 1]? = some (lastV (rowVal x)) := by
        have := last_get (y := rowVal x) (by show 0 < x.zs.length; rw [KX.2.1]; exact h0)
        rw [← KX.2.1]; exact this
      have d0 : wr.cell? ⟨b2, o2 + (x.n - 1), none⟩ = some (.int .i64 (lastV (rowVal x))) := hc2 _ _ (by rw [← int_map]; simp [hz])
      rw [hA2] at c1
      obtain ⟨L, hL2⟩ : ∃ L, lastV (rowVal x) = L := ⟨_, rfl⟩
      rw [hL2] at d0 HS
      obtain ⟨nn, hnn⟩ : ∃ nn, x.n = nn + 1 := ⟨x.n - 1, by omega⟩
      rw [hnn] at c1 hxn d0
      rw [Nat.add_sub_cancel] at d0
      have HM2 := Lib.hid (show mostV ((xs.take (k + 1)).map rowVal) = max v L by rw [List.map_take, HS.out, ← List.map_take, hM.out])
      clear hz hc2 hA2 KX hxk hc hL2 hnn HS
      have RA_c1 := After.cell c1
      have RA_d0 := After.cell d0
      go_wp2_with fail
      refine wp_region_after (by kernel_rfl) (by kernel_rfl) ?_
      repeat (go_big_quiet_step ((fail)))
      refine wpQuiet_nil ?_
      intro wn hw'
      have hwn := after_below hw'
      clear hw'
      have c1 := box_cell hwn c1
      have d0 := box_cell hwn d0
      have hB := below_step hwn hB
      clear RA_c1
      clear RA_d0
      go_wp2
      go_roundw
      case rel => exact ⟨k + 1, max v L, by omega, by go_num, by go_num, HM2, hB⟩
      case measure => simp [intOf]; omega
    · have HT := Lib.hid (show mostV (xs.map rowVal) = v by
        have h := hM.out
        rw [List.take_of_length_le (by omega)] at h
        exact h)
      go_wp2
      go_ret
      exact ⟨by rw [HT.out]; rfl, hB⟩

theorem find_take {vals : List RowV} {key : ByteArray} {k : Nat} (h : (vals.take k).find? (keyV key) = none) {y : RowV} (hy : vals[k]? = some y) : (keyV key y = false → (vals.take (k + 1)).find? (keyV key) = none) ∧ (keyV key y = true → vals.find? (keyV key) = some y) := by
  refine ⟨fun e => ?_, fun e => ?_⟩
  · rw [take_succ_of hy, List.find?_append, h]
    simp [e]
  · have hv : vals = vals.take k ++ y :: vals.drop (k + 1) := by
      rw [← drop_of hy, List.take_append_drop]
    rw [hv, List.find?_append, h]
    simp [e]

set_option maxHeartbeats 3200000 in
theorem specFindI_any (key : ByteArray) (A : Option Addr) (n c : Nat) (xs : List RowX) (hn : n ≤ 1048576) (hx : xs.length = n) (w : World) (ox : ∀ x ∈ xs, RowOk w x ∧ RowFit x) (hL : Lies w 2 A n (xs.flatMap rowCells)) :
    Calls Try.prog 22 #[.slice A n c, .string key] w fun e w' => ∃ v, e = .returned v ∧ intSAt w' w.heap.size w'.heap.size v (findV (xs.map rowVal) key) ∧ Below w.heap.size w w' := by
  have OX := Lib.hid ox
  have HX := Lib.hid hx
  have HL := Lib.hid hL
  have HV := Lib.hid (rowsV_of (fun x hx => (ox x hx).1.len))
  clear ox hx hL
  cases E1 : rowsB xs
  · have HE := Lib.hid (show findV (xs.map rowVal) key = [] by unfold findV; rw [← HV.out, E1]; rfl)
    clear HV
    go_enter Try.func22, Try.ntmps22
    go_wp2
    go_loopw [5] (fun i wr => i = .int .i64 0 ∧ Below w.heap.size w wr) (fun i _ => n - (intOf i).toNat)
    case atStart => exact ⟨rfl, Below.refl _ _⟩
    case round =>
      obtain ⟨rfl, hB⟩ := hrel
      by_cases hlt : 0 < n
      · have HB := Lib.hid hB
        go_wp2_with fail
        refine (specRows_any A n c xs hn HX.out _ (fun x hx => ⟨(OX.out x hx).1.below HB.out, (OX.out x hx).2⟩) (HL.out.below HB.out)).mono ?_
        rintro e1 w1 ⟨rfl, hb1⟩
        rw [E1]
        have hB1 := below_step hb1 hB
        go_wp2
        go_ret
        exact ⟨_, rfl, by rw [HE.out]; exact intSAt.made rfl (by omega) (owns_nil' _ _ rfl hB1.size), below_alloc hB1 _⟩
      · obtain rfl : n = 0 := by omega
        go_wp2
        go_ret
        exact ⟨_, rfl, by rw [HE.out]; exact intSAt.made rfl (by omega) (owns_nil' _ _ rfl hB.size), below_alloc hB _⟩
  · have HR := Lib.hid (show rowsV (xs.map rowVal) = true by rw [← HV.out, E1])
    clear HV
    go_enter Try.func22, Try.ntmps22
    go_wp2
    go_loopw [5] (fun i wr => ∃ k : Nat, k ≤ n ∧ i = .int .i64 k ∧ Hid (((xs.map rowVal).take k).find? (keyV key) = none) ∧ Below w.heap.size w wr) (fun i _ => n - (intOf i).toNat)
    case atStart => exact ⟨0, Nat.zero_le _, rfl, Lib.hid rfl, Below.refl _ _⟩
    case round =>
      obtain ⟨k, hk, rfl, hN, hB⟩ := hrel
      by_cases hlt : k < n
      · have HB := Lib.hid hB
        obtain ⟨x, hxk⟩ := get_lt HX.out hlt
        have hyk : (xs.map rowVal)[k]? = some (rowVal x) := by rw [List.getElem?_map, hxk]; rfl
        obtain ⟨t1, t2⟩ := find_take hN.out hyk
        obtain ⟨b, o, rfl, hbl, hc⟩ := (HL.out.below hB).row (fun _ => rfl) (by omega)
        have c0 : wr.cell? ⟨b, o + k * 2, none⟩ = some (.string x.key) := hc k _ hxk 0 _ rfl
        have c1 : wr.cell? ⟨b, o + k * 2 + 1, none⟩ = some (.slice x.A x.n x.c) := hc k _ hxk 1 _ rfl
        have OKX := OX.out _ (List.mem_of_getElem? hxk)
        have hxn : x.n ≤ 1048576 := OKX.2.2
        have HZ := Lib.hid OKX.1.len
        have HLX := Lib.hid (show Lies wr 1 x.A x.n (x.zs.flatMap intCells) by rw [← int_map]; exact (OKX.1.below hB).lies)
        clear hc hxk OKX
        by_cases he : x.key = key
        · have HF := Lib.hid (show findV (xs.map rowVal) key = x.zs by
            unfold findV
            rw [HR.out, t2 (by unfold keyV; exact decide_eq_true he)]; rfl)
          have E2 := beq_toList he
          have HH := Lib.hid (show ∀ u ∈ x.zs.flatMap intCells, u.oneCell' = true by rw [← int_map]; exact ints_oneCell _ _)
          have hpos : 0 < x.n := by
            have h := (rowsV_asc HR.out).2 (rowVal x) (List.mem_of_getElem? hyk)
            rw [← HZ.out]; exact h
          obtain ⟨b2, o2, hA2, _, _⟩ := HLX.out.2 hpos
          rw [hA2] at c1 HLX
          clear t1 t2 he hA2
          go_wp2_with fail
          refine (specRows_any _ n c xs hn HX.out _ (fun x hx => ⟨(OX.out x hx).1.below HB.out, (OX.out x hx).2⟩) (HL.out.below HB.out)).mono ?_
          rintro e1 w1 ⟨rfl, hb1⟩
          rw [E1]
          have hB1 := below_step hb1 hB
          have d0 := box_cell hb1 c0
          have d1 := box_cell hb1 c1
          have HL1 := Lib.hid (HLX.out.below hb1)
          have hbl1 : b < w1.heap.size := Nat.lt_of_lt_of_le hbl hb1.size
          go_wp2_with (at_builtin; refine wpList_appS rfl _ _ 29 3 1 8 rowInt rfl w.heap.size w1.heap.size 0 0 [] (owns_nil' _ _ rfl hB1.size) rfl b2 o2 x.n x.c _ rfl (HL1.out.below (below_alloc (Below.refl _ _) _)) HH.out (by unfold maxLen; omega) (by omega) (by have := hB1.size; simp; omega) ?_; intro g3 c3 w3 ho3 hg3; have HO := Lib.hid ho3; have HW := Lib.hid (Within.of_grown hg3 (Nat.le_refl w1.heap.size) (Nat.lt_succ_self _)); clear ho3 hg3)
          go_ret
          have ho := HO.out
          rw [List.nil_append, Nat.zero_add] at ho
          exact ⟨_, rfl, by rw [HF.out]; exact intSAt.made HZ.out hxn ho, Within.below (below_alloc hB1 _) HW.out hB1.size (by have := hB1.size; simp; omega)⟩
        · have HF := Lib.hid (t1 (by unfold keyV; exact decide_eq_false he))
          have E2 : (x.key.toList == key.toList) = false := str_ne he
          clear t1 t2 he
          go_wp2_with fail
          refine (specRows_any _ n c xs hn HX.out _ (fun x hx => ⟨(OX.out x hx).1.below HB.out, (OX.out x hx).2⟩) (HL.out.below HB.out)).mono ?_
          rintro e1 w1 ⟨rfl, hb1⟩
          rw [E1]
          have hB1 := below_step hb1 hB
          have d0 := box_cell hb1 c0
          go_wp2
          go_roundw
          case rel => exact ⟨k + 1, by omega, by go_num, HF, hB1⟩
          case measure => simp [intOf]; omega
      · obtain rfl : k = n := by omega
        have HF := Lib.hid (show findV (xs.map rowVal) key = [] by
          have h := hN.out
          rw [List.take_of_length_le (by rw [List.length_map]; have := HX.out; omega)] at h
          unfold findV
          rw [HR.out, h]; rfl)
        go_wp2
        go_ret
        exact ⟨_, rfl, by rw [HF.out]; exact intSAt.made rfl (by omega) (owns_nil' _ _ rfl hB.size), below_alloc hB _⟩

theorem rowNil {w0 w : World} (hz : w0.heap.size ≤ w.heap.size) : rowSAt (w.alloc (.cells #[] 55)) w0.heap.size (w.alloc (.cells #[] 55)).heap.size (.slice (some ⟨w.heap.size, 0, none⟩) 0 0) [] :=
  rowSAt.made (S := []) rfl ⟨by simp [rowLen], by simp⟩ (Fresh.nil w _ hz)
theorem rowNil' {w0 w : World} (hz : w0.heap.size ≤ w.heap.size) {g : Nat} (hg : g = w.heap.size) : rowSAt (w.alloc (.cells #[] 55)) w0.heap.size (w.alloc (.cells #[] 55)).heap.size (.slice (some ⟨g, 0, none⟩) 0 0) [] := by
  subst hg; exact rowNil hz
set_option maxHeartbeats 6400000 in
theorem specAddI_any (key : ByteArray) (hkey : key.size ≤ maxLen) (p : Int) (g0 n c : Nat) (xs : List RowX) (hn : n ≤ 1048576) (hx : xs.length = n) (w : World) (ox : ∀ x ∈ xs, RowOk w x ∧ RowFit x) (oz : ∀ x ∈ xs, (∃ b, x.A = some ⟨b, 0, none⟩) ∧ x.n ≤ 1048576 ∧ x.zs.length = x.n ∧ Lies w 1 x.A x.n (x.zs.flatMap intCells)) (hL : Lies w 2 (some ⟨g0, 0, none⟩) n (xs.flatMap rowCells)) (hsz : rowLen (xs.map rowVal) ≤ 1048576) :
    Calls Try.prog 28 #[.slice (some ⟨g0, 0, none⟩) n c, .string key, .int .i64 p] w fun e w' => ∃ v, e = .returned (.tuple #[v, .bool (addB (xs.map rowVal) key p)]) ∧ rowSAt w' w.heap.size w'.heap.size v (addL (xs.map rowVal) key p) ∧ Below w.heap.size w w' := by
  have OX := Lib.hid ox
  have OZ := Lib.hid oz
  have HX := Lib.hid hx
  have HL := Lib.hid hL
  have HV := Lib.hid (rowsV_of (fun x hx => (ox x hx).1.len))
  have HSM := Lib.hid (addL_small key p hsz)
  clear ox hx hL oz hsz
  cases E1 : rowsB xs
  · have HB := Lib.hid (show addB (xs.map rowVal) key p = false by unfold addB; rw [← HV.out, E1]; rfl)
    have HA := Lib.hid (show addL (xs.map rowVal) key p = [] by unfold addL; rw [HB.out]; rfl)
    clear HV HSM
    go_enter Try.func28, Try.ntmps28
    go_wp2_with (go_at_call 9; refine (specRows_any _ n c xs hn HX.out _ OX.out HL.out).mono ?_; rintro e1 w1 ⟨rfl, hb1⟩; rw [E1])
    go_ret2
    exact ⟨_, by rw [HB.out]; rfl, by rw [HA.out]; exact rowNil hb1.size, below_alloc hb1 _⟩
  cases E2 : wordB key
  · have HB := Lib.hid (show addB (xs.map rowVal) key p = false by unfold addB; rw [E2]; simp)
    have HA := Lib.hid (show addL (xs.map rowVal) key p = [] by unfold addL; rw [HB.out]; rfl)
    clear HV HSM
    go_enter Try.func28, Try.ntmps28
    go_wp2_with (first | (go_at_call 9; refine (specRows_any _ n c xs hn HX.out _ OX.out HL.out).mono ?_; rintro e1 w1 ⟨rfl, hb1⟩; rw [E1]) | (go_at_call 51; refine (l1Word_any key hkey _).mono ?_; rintro e2 w2 ⟨rfl, rfl⟩; rw [E2]))
    go_ret2
    exact ⟨_, by rw [HB.out]; rfl, by rw [HA.out]; exact rowNil hb1.size, below_alloc hb1 _⟩
  cases E3 : inB p 0 99
  · have HB := Lib.hid (show addB (xs.map rowVal) key p = false by unfold addB; rw [E3]; simp)
    have HA := Lib.hid (show addL (xs.map rowVal) key p = [] by unfold addL; rw [HB.out]; rfl)
    clear HV HSM
    go_enter Try.func28, Try.ntmps28
    go_wp2_with (first | (go_at_call 9; refine (specRows_any _ n c xs hn HX.out _ OX.out HL.out).mono ?_; rintro e1 w1 ⟨rfl, hb1⟩; rw [E1]) | (go_at_call 51; refine (l1Word_any key hkey _).mono ?_; rintro e2 w2 ⟨rfl, rfl⟩; rw [E2]) | (go_at_call 39; refine (l6In_any _ _ _ _).mono ?_; rintro e3 w3 ⟨rfl, rfl⟩; rw [E3]))
    go_ret2
    exact ⟨_, by rw [HB.out]; rfl, by rw [HA.out]; exact rowNil hb1.size, below_alloc hb1 _⟩
  have HR : rowsV (xs.map rowVal) = true := by rw [← HV.out, E1]
  have HPOS := Lib.hid (show ∀ x ∈ xs, 0 < x.n from fun x hx => by
    have h := (rowsV_asc HR).2 (rowVal x) (List.mem_map_of_mem hx)
    rw [← (OZ.out x hx).2.2.1]; exact h)
  have hn2 : n ≤ 2097152 := by omega
  by_cases E4 : p ≤ mostV (xs.map rowVal)
  · have HB := Lib.hid (show addB (xs.map rowVal) key p = false by unfold addB; rw [decide_eq_true E4]; simp)
    have HA := Lib.hid (show addL (xs.map rowVal) key p = [] by unfold addL; rw [HB.out]; rfl)
    obtain ⟨M, hM⟩ : ∃ M, mostV (xs.map rowVal) = M := ⟨_, rfl⟩
    rw [hM] at E4
    have HM := Lib.hid hM
    clear HV HSM HR hM
    go_enter Try.func28, Try.ntmps28
    go_wp2_with (first | (go_at_call 9; refine (specRows_any _ n c xs hn HX.out _ OX.out HL.out).mono ?_; rintro e1 w1 ⟨rfl, hb1⟩; rw [E1]) | (go_at_call 51; refine (l1Word_any key hkey _).mono ?_; rintro e2 w2 ⟨rfl, rfl⟩; rw [E2]) | (go_at_call 39; refine (l6In_any _ _ _ _).mono ?_; rintro e3 w3 ⟨rfl, rfl⟩; rw [E3]) | (go_at_call 52; refine (l22Most_any _ n c xs hn2 HX.out _ (fun x hx => ⟨HPOS.out x hx, (OZ.out x hx).2.1, (OZ.out x hx).2.2.1, (OZ.out x hx).2.2.2.below hb1⟩) (HL.out.below hb1)).mono ?_; rintro e4 w4 ⟨rfl, hb4⟩; rw [HM.out]; have hb1 := below_step hb4 hb1))
    go_ret2
    exact ⟨_, by rw [HB.out]; rfl, by rw [HA.out]; exact rowNil hb1.size, below_alloc hb1 _⟩
  · have HB := Lib.hid (show addB (xs.map rowVal) key p = true by unfold addB; rw [HR, E2, E3, decide_eq_false E4]; rfl)
    have HA := Lib.hid (show addL (xs.map rowVal) key p = addR key p (xs.map rowVal) by unfold addL; rw [HB.out]; rfl)
    obtain ⟨M, hM⟩ : ∃ M, mostV (xs.map rowVal) = M := ⟨_, rfl⟩
    rw [hM] at E4
    have HM := Lib.hid hM
    clear HV HR hM
    go_enter Try.func28, Try.ntmps28
    go_wp2_with (first | (go_at_call 9; refine (specRows_any _ n c xs hn HX.out _ OX.out HL.out).mono ?_; rintro e1 w1 ⟨rfl, hb1⟩; rw [E1]) | (go_at_call 51; refine (l1Word_any key hkey _).mono ?_; rintro e2 w2 ⟨rfl, rfl⟩; rw [E2]) | (go_at_call 39; refine (l6In_any _ _ _ _).mono ?_; rintro e3 w3 ⟨rfl, rfl⟩; rw [E3]) | (go_at_call 52; refine (l22Most_any _ n c xs hn2 HX.out _ (fun x hx => ⟨HPOS.out x hx, (OZ.out x hx).2.1, (OZ.out x hx).2.2.1, (OZ.out x hx).2.2.2.below hb1⟩) (HL.out.below hb1)).mono ?_; rintro e4 w4 ⟨rfl, hb4⟩; rw [HM.out]; have hb1 := below_step hb4 hb1) | (go_at_call 53; refine (l22Add_any key p g0 n c xs hn HX.out _ (fun x hx => ⟨(OZ.out x hx).1, (OZ.out x hx).2.1, (OZ.out x hx).2.2.1, (OZ.out x hx).2.2.2.below hb1⟩) (HL.out.below hb1)).mono ?_; rintro e5 w5 ⟨hs5, S5, g5, m5, c5, rfl, hv5, hf5, _, hb5⟩; have HF5 := Lib.hid hf5; have HV5 := Lib.hid hv5; clear hf5 hv5))
    go_ret2
    exact ⟨_, by rw [HB.out]; rfl, rowSAt.made (HV5.out.trans HA.out.symm) HSM.out (HF5.out.base hb1.size), below_step hb5 hb1⟩

theorem specFindI_at (lo hi : Nat) (v : Value) (vals : List RowV) (key : ByteArray) (_hkey : key.size ≤ 1048576) (hok : OkV vals) (hl : rowLen vals ≤ 1048576) (w : World) (h : rowSAt w lo hi v vals) :
    Calls Try.prog 22 #[v, .string key] w fun e w' => ∃ v', e = .returned v' ∧ intSAt w' w.heap.size w'.heap.size v' (findV vals key) ∧ Below w.heap.size w w' := by
  obtain ⟨g, m, c, hs, rfl, rfl, hm, ho, hL, _, _⟩ := RowsAt.open h hok
  exact specFindI_any key _ m c hs (by have := rowLen_len (hs.map rowVal); rw [List.length_map] at this; omega) hm w ho hL
theorem specAddI_at (lo hi : Nat) (v : Value) (vals : List RowV) (key : ByteArray) (p : Int) (hkey : key.size ≤ 1048576) (hok : OkV vals) (hl : rowLen vals ≤ 1048576) (w : World) (h : rowSAt w lo hi v vals) :
    Calls Try.prog 28 #[v, .string key, .int .i64 p] w fun e w' => ∃ v', e = .returned (.tuple #[v', .bool (addB vals key p)]) ∧ rowSAt w' w.heap.size w'.heap.size v' (addL vals key p) ∧ Below w.heap.size w w' := by
  obtain ⟨g, m, c, hs, rfl, rfl, hm, ho, hL, hz, _⟩ := RowsAt.open h hok
  exact specAddI_any key (by unfold maxLen; omega) p g m c hs (by have := rowLen_len (hs.map rowVal); rw [List.length_map] at this; omega) hm w ho hz hL hl
end Go.Proofs.Ytkianldpmlbgcaa
