/-
  CheckMark of the program, and both told for the law. No condition.
-/
import Derived.Test.YtfbnpnajpkhkdaaMarkS
namespace Go.Proofs.Ytfbnpnajpkhkdaa
open Go.ChangeShapes Go.WideShapes Go.ChangeAt Go.RowKit

set_option maxHeartbeats 12800000 in
theorem implMark_no (done : Int) (A : Option Addr) (n c : Nat) (zs : List Int) (hn : n ≤ 1048576) (hx : zs.length = n) (p : Int) (w : World) (hL : Lies w 1 A n (zs.flatMap intCells)) (hno : checkB done zs = false ∨ inB p 0 99 = false ∨ hasB done zs p = true) :
    Calls Try.prog 56 #[.agg #[.int .i64 done, .slice A n c], .int .i64 p] w fun e w' => e = .returned (.tuple #[.agg #[.int .i64 0, .slice none 0 0], .bool false]) ∧ Below w.heap.size w w' := by
  have HX := Lib.hid hx
  have HL := Lib.hid hL
  have HN := Lib.hid hno
  clear hx hL hno
  cases E1 : checkB done zs
  · clear HN
    go_enter Try.func56, Try.ntmps56
    go_wp2_with fail
    refine (implCheck_any _ _ _ _ zs hn HX.out _ (HL.out.below (by repeat' (first | (with_reducible exact Below.refl _ _) | (with_reducible assumption) | (with_reducible refine below_step (by assumption) ?_) | (with_reducible refine below_alloc ?_ _) | (with_reducible refine Below.drew ?_) | (with_reducible refine below_drewN ?_ _) | (with_reducible refine Below.setCell ?_ ?_ _) | go_size)))).mono ?_
    rintro e1 w1 ⟨rfl, hb⟩
    rw [E1]
    have r0 := box_cell hb (b := w.heap.size + 1) (o := 0) (u := .int .i64 0) (by go_cell)
    have r1 := box_cell hb (b := w.heap.size + 1) (o := 1) (u := .slice none 0 0) (by go_cell)
    have f0 : w1.frozen? ⟨w.heap.size + 1, 0, none⟩ = false := (hb.frozen (p := ⟨w.heap.size + 1, 0, none⟩) (by simp)).trans (by simp [go_sem])
    have f1 : w1.frozen? ⟨w.heap.size + 1, 1, none⟩ = false := (hb.frozen (p := ⟨w.heap.size + 1, 1, none⟩) (by simp)).trans (by simp [go_sem])
    have hs := hb.size
    simp only [World.size_alloc] at hs
    go_wp2
    refine bodyPost_ret (v := .tuple #[.agg #[.int .i64 0, .slice none 0 0], .bool false]) (by simp [results, Try.results56, go_sem, r0, r1]) rfl ⟨rfl, (by repeat' (first | (with_reducible exact Below.refl _ _) | (with_reducible assumption) | (with_reducible refine below_step (by assumption) ?_) | (with_reducible refine below_alloc ?_ _) | (with_reducible refine Below.drew ?_) | (with_reducible refine below_drewN ?_ _) | (with_reducible refine Below.setCell ?_ ?_ _) | go_size))⟩
  cases E2 : inB p 0 99
  · clear HN
    go_enter Try.func56, Try.ntmps56
    go_wp2_with fail
    refine (implCheck_any _ _ _ _ zs hn HX.out _ (HL.out.below (by repeat' (first | (with_reducible exact Below.refl _ _) | (with_reducible assumption) | (with_reducible refine below_step (by assumption) ?_) | (with_reducible refine below_alloc ?_ _) | (with_reducible refine Below.drew ?_) | (with_reducible refine below_drewN ?_ _) | (with_reducible refine Below.setCell ?_ ?_ _) | go_size)))).mono ?_
    rintro e1 w1 ⟨rfl, hb⟩
    rw [E1]
    have r0 := box_cell hb (b := w.heap.size + 1) (o := 0) (u := .int .i64 0) (by go_cell)
    have r1 := box_cell hb (b := w.heap.size + 1) (o := 1) (u := .slice none 0 0) (by go_cell)
    have f0 : w1.frozen? ⟨w.heap.size + 1, 0, none⟩ = false := (hb.frozen (p := ⟨w.heap.size + 1, 0, none⟩) (by simp)).trans (by simp [go_sem])
    have f1 : w1.frozen? ⟨w.heap.size + 1, 1, none⟩ = false := (hb.frozen (p := ⟨w.heap.size + 1, 1, none⟩) (by simp)).trans (by simp [go_sem])
    have hs := hb.size
    simp only [World.size_alloc] at hs
    go_wp2_with (go_at_call 99; refine (placeValid_any _ _).mono ?_; rintro e2 w2 ⟨rfl, rfl⟩; rw [E2])
    refine bodyPost_ret (v := .tuple #[.agg #[.int .i64 0, .slice none 0 0], .bool false]) (by simp [results, Try.results56, go_sem, r0, r1]) rfl ⟨rfl, (by repeat' (first | (with_reducible exact Below.refl _ _) | (with_reducible assumption) | (with_reducible refine below_step (by assumption) ?_) | (with_reducible refine below_alloc ?_ _) | (with_reducible refine Below.drew ?_) | (with_reducible refine below_drewN ?_ _) | (with_reducible refine Below.setCell ?_ ?_ _) | go_size))⟩
  · have E3 : (checkB done zs && inB p 0 99 && hasB done zs p) = true := by
      rcases HN.out with h | h | h
      · rw [E1] at h; cases h
      · rw [E2] at h; cases h
      · rw [E1, E2, h]; rfl
    clear HN
    go_enter Try.func56, Try.ntmps56
    go_wp2_with fail
    refine (implCheck_any _ _ _ _ zs hn HX.out _ (HL.out.below (by repeat' (first | (with_reducible exact Below.refl _ _) | (with_reducible assumption) | (with_reducible refine below_step (by assumption) ?_) | (with_reducible refine below_alloc ?_ _) | (with_reducible refine Below.drew ?_) | (with_reducible refine below_drewN ?_ _) | (with_reducible refine Below.setCell ?_ ?_ _) | go_size)))).mono ?_
    rintro e1 w1 ⟨rfl, hb⟩
    rw [E1]
    have c0 := box_cell hb (b := w.heap.size) (o := 0) (u := .int .i64 done) (by go_cell)
    have c1 := box_cell hb (b := w.heap.size) (o := 1) (u := .slice A n c) (by go_cell)
    have HR := Lib.hid (((RowIs.new (w.alloc (.cells #[.int .i64 done, .slice A n c] 67)) #[.int .i64 0, .slice none 0 0] 67)).below hb)
    simp only [World.size_alloc] at HR
    have B1 : Below w.heap.size w w1 := (by repeat' (first | (with_reducible exact Below.refl _ _) | (with_reducible assumption) | (with_reducible refine below_step (by assumption) ?_) | (with_reducible refine below_alloc ?_ _) | (with_reducible refine Below.drew ?_) | (with_reducible refine below_drewN ?_ _) | (with_reducible refine Below.setCell ?_ ?_ _) | go_size))
    go_wp2_with fail
    refine (placeValid_any _ _).mono ?_
    rintro e2 w2 ⟨rfl, rfl⟩
    rw [E2]
    go_wp2_with fail
    refine (implHas_any _ _ _ _ zs _ hn HX.out _ (HL.out.below B1)).mono ?_
    rintro e2 w2 ⟨rfl, hb2⟩
    rw [E3]
    have HR2 := HR.out.below hb2
    have r0 := HR2.cell (j := 0) rfl
    have r1 := HR2.cell (j := 1) rfl
    have f0 := HR2.frozen 0
    have f1 := HR2.frozen 1
    have hlt := HR2.lt
    clear HR HR2
    go_wp2
    refine bodyPost_ret (v := .tuple #[.agg #[.int .i64 0, .slice none 0 0], .bool false]) (by simp [results, Try.results56, go_sem, r0, r1]) rfl ⟨rfl, (by repeat' (first | (with_reducible exact Below.refl _ _) | (with_reducible assumption) | (with_reducible refine below_step (by assumption) ?_) | (with_reducible refine below_alloc ?_ _) | (with_reducible refine Below.drew ?_) | (with_reducible refine below_drewN ?_ _) | (with_reducible refine Below.setCell ?_ ?_ _) | go_size))⟩

theorem res_nil {w : World} {lo hi : Nat} (h : hi ≤ w.heap.size) : intSRes w lo hi (.slice none 0 0) [] := .inr ⟨rfl, rfl, h⟩

set_option maxHeartbeats 12800000 in
theorem implMark_yes (done : Int) (A : Option Addr) (n c : Nat) (zs : List Int) (hn : n ≤ 1048576) (hx : zs.length = n) (p : Int) (w : World) (hL : Lies w 1 A n (zs.flatMap intCells)) (E1 : checkB done zs = true) (E2 : inB p 0 99 = true) (E3 : hasB done zs p = false) :
    Calls Try.prog 56 #[.agg #[.int .i64 done, .slice A n c], .int .i64 p] w fun e w' => ∃ A' m' c', e = .returned (.tuple #[.agg #[.int .i64 (markD done zs p), .slice A' m' c'], .bool (markB done zs p)]) ∧ intSRes w' w.heap.size w'.heap.size (.slice A' m' c') (markL done zs p) ∧ Below w.heap.size w w' := by
  have HX := Lib.hid hx
  have HL := Lib.hid hL
  have h8 := (check_parts E1).2.1
  have hd0 := (check_parts E1).1.1
  have hd1 := (check_parts E1).1.2
  have H4 := Lib.hid (show checkB (adv done (putI p zs)).1 (adv done (putI p zs)).2 = true → markB done zs p = true from fun h => mark_t E1 E2 E3 h)
  have hplen := putI_length p zs
  have HPL := Lib.hid hplen
  have E4 : (checkB done zs && inB p 0 99 && hasB done zs p) = false := by rw [E1, E2, E3]; rfl
  clear hx hL hplen
  go_enter Try.func56, Try.ntmps56
  go_wp2_with fail
  refine (implCheck_any _ _ _ _ zs hn HX.out _ (HL.out.below (by repeat' (first | (with_reducible exact Below.refl _ _) | (with_reducible assumption) | (with_reducible refine below_step (by assumption) ?_) | (with_reducible refine below_alloc ?_ _) | (with_reducible refine Below.drew ?_) | (with_reducible refine below_drewN ?_ _) | (with_reducible refine Below.setCell ?_ ?_ _) | go_size)))).mono ?_
  rintro e1 w1 ⟨rfl, hb⟩
  rw [E1]
  have c0 := box_cell hb (b := w.heap.size) (o := 0) (u := .int .i64 done) (by go_cell)
  have c1 := box_cell hb (b := w.heap.size) (o := 1) (u := .slice A n c) (by go_cell)
  have HR := Lib.hid (((RowIs.new (w.alloc (.cells #[.int .i64 done, .slice A n c] 67)) #[.int .i64 0, .slice none 0 0] 67)).below hb)
  simp only [World.size_alloc] at HR
  have B1 : Below w.heap.size w w1 := (by repeat' (first | (with_reducible exact Below.refl _ _) | (with_reducible assumption) | (with_reducible refine below_step (by assumption) ?_) | (with_reducible refine below_alloc ?_ _) | (with_reducible refine Below.drew ?_) | (with_reducible refine below_drewN ?_ _) | (with_reducible refine Below.setCell ?_ ?_ _) | go_size))
  go_wp2_with fail
  refine (placeValid_any _ _).mono ?_
  rintro e2 w2 ⟨rfl, rfl⟩
  rw [E2]
  go_wp2_with fail
  refine (implHas_any _ _ _ _ zs _ hn HX.out _ (HL.out.below B1)).mono ?_
  rintro e2 w2 ⟨rfl, hb2⟩
  rw [E4]
  have c0 := box_cell hb2 c0
  have c1 := box_cell hb2 c1
  replace HR := Lib.hid (HR.out.below hb2)
  have B2 := below_step hb2 B1
  go_wp2_with fail
  refine (placesOf_any A n c zs hn HX.out _ (HL.out.below B2)).mono ?_
  rintro e2 w3 ⟨u, rfl, hP⟩
  obtain ⟨l, h1, h2, h3, h4, hb3⟩ := hP
  have B3 : Below w.heap.size w w3 := below_step hb3 B2
  have c0 := box_cell hb3 c0
  replace HR := Lib.hid (HR.out.below hb3)
  have hlt2 : w.heap.size + 1 < w2.heap.size := by have := (HR.out).lt; have h5 := hb3.size; have h6 := hb2.size; have h7 := hb.size; simp only [World.size_alloc] at h7; omega
  have H1 := Lib.hid h1
  have H2 := Lib.hid h2
  have H3 := Lib.hid h3
  have H5 := Lib.hid h4
  clear h1 h2 h3 h4 c1
  go_wp2_with fail
  refine (placeWith_any l u p _ H2.out H5.out).mono ?_
  rintro e2 w4 ⟨u4, rfl, hN⟩
  obtain ⟨l', n1, n2, n3, n4, n5, n6, n7, n8, n9⟩ := hN
  rw [H1.out] at n1
  have B4 : Below w.heap.size w w4 := B3.trans ⟨n5, n6, n7, n8, fun k hk => n9 k (by have := B3.size; omega) (fun hm => by obtain ⟨x, hx, e⟩ := List.mem_map.1 hm; have := H3.out x hx; omega)⟩
  have hnot : ∀ b, b < w2.heap.size → b ∉ l.map (·.1) := fun b hb hm => by obtain ⟨x, hx, e⟩ := List.mem_map.1 hm; have := H3.out x hx; omega
  have c0 : w4.cell? ⟨w.heap.size, 0, none⟩ = some (.int .i64 done) := (World.cell?_of_block (a := ⟨w.heap.size, 0, none⟩) (n9 w.heap.size (by have := hb3.size; omega) (hnot _ (by omega)))).trans c0
  replace HR : Hid (RowIs w4 (w.heap.size + 1) 67 [.int .i64 0, .slice none 0 0]) := Lib.hid ((n9 (w.heap.size + 1) (by have := hb3.size; omega) (hnot _ (by omega))).trans HR.out)
  have hm9 : l'.length ≤ 9 := by have h1 := congrArg List.length n1; rw [List.length_map, HPL.out] at h1; omega
  have N1 := Lib.hid n1
  have N2 := Lib.hid n2
  have hs4 : w.heap.size + 2 ≤ w4.heap.size := by have := HR.out.lt; omega
  clear n1 n2 n3 n4 n5 n6 n7 n8 n9 hnot H2 H3 H5 H1 hb hb2 hb3
  go_wp2_with fail
  go_loopg [6, 7] l'.length (fun k q i wr => ∃ (suf : List (Nat × Int)) (u : Option Addr) (d : Int), k = suf.length ∧ q = .pointer u ∧ i = .int .i64 d ∧ Hid (adv d (suf.map (·.2)) = adv done (putI p zs)) ∧ 0 ≤ d ∧ d + suf.length ≤ 109 ∧ Chain w4 suf (.pointer u) ∧ wr = w4)
  case atStart => exact ⟨l', u4, done, rfl, rfl, rfl, Lib.hid (by rw [N1.out]), hd0, by omega, N2.out, rfl⟩
  case round =>
    obtain ⟨suf, u', d, hk, rfl, rfl, hadv, hq0, hq1, hC, rfl⟩ := hrel
    have HK := Lib.hid hk
    clear hk
    cases suf with
    | nil =>
      obtain rfl : u' = none := by simpa [Chain] using hC
      have HC := Lib.hid hC
      have HK2 : Hid (([] : List (Nat × Int)).length ≤ 109) := Lib.hid (by simp)
      have HV := Lib.hid (show adv done (putI p zs) = (d, []) from hadv.out.symm)
      clear hC
      cases E5 : checkB d ([] : List Int)
      all_goals
        go_wp2_with fail
        refine (placeList_any ([]) none _ HC.out (by have := HK2.out; omega)).mono ?_
        rintro e5 w5 ⟨g5, m5, c5, rfl, hl5, ho5, hb5⟩
        have HO5 := Lib.hid ho5
        have HL5 := Lib.hid (show (List.map (fun x : Nat × Int => x.2) ([])).length = m5 by rw [List.length_map]; exact hl5)
        clear ho5 hl5
        have hm5 : m5 ≤ 109 := by have h1 := HL5.out; rw [List.length_map] at h1; have h2 := HK2.out; omega
        go_wp2_with fail
        refine (implCheck_any d _ _ _ ([] : List Int) (by omega) HL5.out _ ((lies_of_own HO5.out).below (below_alloc (Below.refl _ _) _))).mono ?_
        rintro e6 w6 ⟨rfl, hb6⟩
        rw [E5]
        have HRx := ((HR.out.below hb5).alloc (.cells #[.int .i64 d, .slice (some ⟨g5, 0, none⟩) m5 c5] 67)).below hb6
        have s0 := box_cell hb6 (b := w5.heap.size) (o := 0) (u := .int .i64 d) (by go_cell)
        have s1 := box_cell hb6 (b := w5.heap.size) (o := 1) (u := .slice (some ⟨g5, 0, none⟩) m5 c5) (by go_cell)
        have r0 := HRx.cell (j := 0) rfl
        have r1 := HRx.cell (j := 1) rfl
        have f0 := HRx.frozen 0
        have f1 := HRx.frozen 1
        have hltx := HRx.lt
        have HRX := Lib.hid HRx
        have hz5 := hb5.size
        have hne5 : w5.heap.size ≠ w.heap.size + 1 := by omega
        clear HRx
        go_wp2
      · have HMB := mark_f4 (show checkB (adv done (putI p zs)).1 (adv done (putI p zs)).2 = false by rw [HV.out]; exact E5)
        have HM := mark_no HMB
        refine bodyPost_ret (v := .tuple #[.agg #[.int .i64 0, .slice none 0 0], .bool false]) (by simp [results, Try.results56, go_sem, r0, r1]) rfl ?_
        refine ⟨none, 0, 0, by rw [HM.1, HMB], ?_, ?_⟩
        · rw [HM.2]; exact res_nil (Nat.le_refl _)
        · exact (by repeat' (first | (with_reducible exact Below.refl _ _) | (with_reducible assumption) | (with_reducible refine below_step (by assumption) ?_) | (with_reducible refine below_alloc ?_ _) | (with_reducible refine Below.drew ?_) | (with_reducible refine below_drewN ?_ _) | (with_reducible refine Below.setCell ?_ ?_ _) | go_size))
      · have HMB := H4.out (show checkB (adv done (putI p zs)).1 (adv done (putI p zs)).2 = true by rw [HV.out]; exact E5)
        have HM := mark_yes HMB
        refine bodyPost_ret (v := .tuple #[.agg #[.int .i64 d, .slice (some ⟨g5, 0, none⟩) m5 c5], .bool true]) (by simp [results, Try.results56, go_sem, r0, r1]) rfl ?_
        refine ⟨_, m5, c5, by rw [HM.1, HMB, HV.out], ?_, ?_⟩
        · rw [HM.2, HV.out]
          have hg5 := (owns_lt HO5.out).1
          have hO6 := owns_below (World.ownsRow.alloc HO5.out (.cells #[.int .i64 d, .slice (some ⟨g5, 0, none⟩) m5 c5] 67)) hb6
          refine .inl (intSAt.made HL5.out (by omega) (ownsRow_base (ownsRow_other (ownsRow_other hO6 ?_ _) ?_ _) (by omega)))
          · show w.heap.size + 1 ≠ g5; omega
          · show w.heap.size + 1 ≠ g5; omega
        · exact (by repeat' (first | (with_reducible exact Below.refl _ _) | (with_reducible assumption) | (with_reducible refine below_step (by assumption) ?_) | (with_reducible refine below_alloc ?_ _) | (with_reducible refine Below.drew ?_) | (with_reducible refine below_drewN ?_ _) | (with_reducible refine Below.setCell ?_ ?_ _) | go_size))
    | cons y suf =>
      obtain ⟨gy, z⟩ := y
      have HC := Lib.hid hC
      obtain ⟨hp, q, hq, hC'⟩ := hC
      obtain rfl : u' = some ⟨gy, 0, none⟩ := by injection hp
      obtain ⟨u2, rfl⟩ := hC'.pointer
      have e0 := cell_of_row wr gy 0 _ _ (0, 0) hq
      have e1 := cell_of_row wr gy 1 _ _ (0, 0) hq
      simp at e0 e1
      have HC' := Lib.hid hC'
      have hq2 : d + (suf.length + 1) ≤ 109 := by simpa using hq1
      clear hC' hq hp hq1
      by_cases hz : z = d
      · have E : (z == d) = true := by simp [hz]
        have HV := Lib.hid (show adv (d + 1) (suf.map (·.2)) = adv done (putI p zs) by rw [← hadv.out]; show _ = adv d (z :: suf.map (·.2)); rw [adv, if_pos hz])
        clear hz
        go_wp2
        go_roundg suf.length
        case measure => have := HK.out; simp at this; omega
        case rel => exact ⟨suf, u2, d + 1, rfl, rfl, rfl, HV, by omega, by omega, HC'.out, rfl⟩
      · have E : (z == d) = false := by simp [hz]
        have HK2 : Hid (((gy, z) :: suf).length ≤ 109) := Lib.hid (by simp; omega)
        have HV := Lib.hid (show adv done (putI p zs) = (d, ((gy, z) :: suf).map (·.2)) by rw [← hadv.out]; show adv d (z :: suf.map (·.2)) = _; rw [adv, if_neg hz]; rfl)
        clear hz
        cases E5 : checkB d (((gy, z) :: suf).map (·.2))
        all_goals
          go_wp2_with fail
          refine (placeList_any ((gy, z) :: suf) (some ⟨gy, 0, none⟩) _ HC.out (by have := HK2.out; omega)).mono ?_
          rintro e5 w5 ⟨g5, m5, c5, rfl, hl5, ho5, hb5⟩
          have HO5 := Lib.hid ho5
          have HL5 := Lib.hid (show (List.map (fun x : Nat × Int => x.2) ((gy, z) :: suf)).length = m5 by rw [List.length_map]; exact hl5)
          clear ho5 hl5
          have hm5 : m5 ≤ 109 := by have h1 := HL5.out; rw [List.length_map] at h1; have h2 := HK2.out; omega
          go_wp2_with fail
          refine (implCheck_any d _ _ _ (((gy, z) :: suf).map (·.2)) (by omega) HL5.out _ ((lies_of_own HO5.out).below (below_alloc (Below.refl _ _) _))).mono ?_
          rintro e6 w6 ⟨rfl, hb6⟩
          rw [E5]
          have HRx := ((HR.out.below hb5).alloc (.cells #[.int .i64 d, .slice (some ⟨g5, 0, none⟩) m5 c5] 67)).below hb6
          have s0 := box_cell hb6 (b := w5.heap.size) (o := 0) (u := .int .i64 d) (by go_cell)
          have s1 := box_cell hb6 (b := w5.heap.size) (o := 1) (u := .slice (some ⟨g5, 0, none⟩) m5 c5) (by go_cell)
          have r0 := HRx.cell (j := 0) rfl
          have r1 := HRx.cell (j := 1) rfl
          have f0 := HRx.frozen 0
          have f1 := HRx.frozen 1
          have hltx := HRx.lt
          have HRX := Lib.hid HRx
          have hz5 := hb5.size
          have hne5 : w5.heap.size ≠ w.heap.size + 1 := by omega
          clear HRx
          go_wp2
        · have HMB := mark_f4 (show checkB (adv done (putI p zs)).1 (adv done (putI p zs)).2 = false by rw [HV.out]; exact E5)
          have HM := mark_no HMB
          refine bodyPost_ret (v := .tuple #[.agg #[.int .i64 0, .slice none 0 0], .bool false]) (by simp [results, Try.results56, go_sem, r0, r1]) rfl ?_
          refine ⟨none, 0, 0, by rw [HM.1, HMB], ?_, ?_⟩
          · rw [HM.2]; exact res_nil (Nat.le_refl _)
          · exact (by repeat' (first | (with_reducible exact Below.refl _ _) | (with_reducible assumption) | (with_reducible refine below_step (by assumption) ?_) | (with_reducible refine below_alloc ?_ _) | (with_reducible refine Below.drew ?_) | (with_reducible refine below_drewN ?_ _) | (with_reducible refine Below.setCell ?_ ?_ _) | go_size))
        · have HMB := H4.out (show checkB (adv done (putI p zs)).1 (adv done (putI p zs)).2 = true by rw [HV.out]; exact E5)
          have HM := mark_yes HMB
          refine bodyPost_ret (v := .tuple #[.agg #[.int .i64 d, .slice (some ⟨g5, 0, none⟩) m5 c5], .bool true]) (by simp [results, Try.results56, go_sem, r0, r1]) rfl ?_
          refine ⟨_, m5, c5, by rw [HM.1, HMB, HV.out], ?_, ?_⟩
          · rw [HM.2, HV.out]
            have hg5 := (owns_lt HO5.out).1
            have hO6 := owns_below (World.ownsRow.alloc HO5.out (.cells #[.int .i64 d, .slice (some ⟨g5, 0, none⟩) m5 c5] 67)) hb6
            refine .inl (intSAt.made HL5.out (by omega) (ownsRow_base (ownsRow_other (ownsRow_other hO6 ?_ _) ?_ _) (by omega)))
            · show w.heap.size + 1 ≠ g5; omega
            · show w.heap.size + 1 ≠ g5; omega
          · exact (by repeat' (first | (with_reducible exact Below.refl _ _) | (with_reducible assumption) | (with_reducible refine below_step (by assumption) ?_) | (with_reducible refine below_alloc ?_ _) | (with_reducible refine Below.drew ?_) | (with_reducible refine below_drewN ?_ _) | (with_reducible refine Below.setCell ?_ ?_ _) | go_size))

theorem specMark_at (done : Int) (lo hi g m c : Nat) (zs : List Int) (p : Int) (w : World) (h : intSAt w lo hi (.slice (some ⟨g, 0, none⟩) m c) zs) :
    Calls Try.prog 55 #[.agg #[.int .i64 done, .slice (some ⟨g, 0, none⟩) m c], .int .i64 p] w fun e w' => ∃ A' m' c', e = .returned (.tuple #[.agg #[.int .i64 (markD done zs p), .slice A' m' c'], .bool (markB done zs p)]) ∧ intSSee w' w.heap.size w'.heap.size (.slice A' m' c') (markL done zs p) ∧ Below w.heap.size w w' := by
  obtain ⟨_, _, _, e1, hx, hb, _, _, ho⟩ := h.open
  cases e1
  by_cases hc : checkB done zs = true ∧ inB p 0 99 = true ∧ hasB done zs p = false
  · exact specMark_yes done _ _ _ zs hb hx p w (lies_of_own ho) hc.1 hc.2.1 hc.2.2
  · have hno : checkB done zs = false ∨ inB p 0 99 = false ∨ hasB done zs p = true := by
      cases h1 : checkB done zs
      · exact .inl rfl
      cases h2 : inB p 0 99
      · exact .inr (.inl rfl)
      cases h3 : hasB done zs p
      · exact absurd ⟨h1, h2, h3⟩ hc
      · exact .inr (.inr rfl)
    have hm : markB done zs p = false := by
      rcases hno with h | h | h
      · exact mark_f1 h
      · exact mark_f2 h
      · exact mark_f3 h
    exact (specMark_no done _ _ _ zs hb hx p w (lies_of_own ho) hno).mono fun _ _ ⟨he, hB⟩ => ⟨none, 0, 0, by rw [he, (mark_no hm).1, hm], by rw [(mark_no hm).2]; exact see_nil (Nat.le_refl _), hB⟩
theorem implMark_at (done : Int) (lo hi g m c : Nat) (zs : List Int) (p : Int) (w : World) (h : intSAt w lo hi (.slice (some ⟨g, 0, none⟩) m c) zs) :
    Calls Try.prog 56 #[.agg #[.int .i64 done, .slice (some ⟨g, 0, none⟩) m c], .int .i64 p] w fun e w' => ∃ A' m' c', e = .returned (.tuple #[.agg #[.int .i64 (markD done zs p), .slice A' m' c'], .bool (markB done zs p)]) ∧ intSRes w' w.heap.size w'.heap.size (.slice A' m' c') (markL done zs p) ∧ Below w.heap.size w w' := by
  obtain ⟨_, _, _, e1, hx, hb, _, _, ho⟩ := h.open
  cases e1
  by_cases hc : checkB done zs = true ∧ inB p 0 99 = true ∧ hasB done zs p = false
  · exact implMark_yes done _ _ _ zs hb hx p w (lies_of_own ho) hc.1 hc.2.1 hc.2.2
  · have hno : checkB done zs = false ∨ inB p 0 99 = false ∨ hasB done zs p = true := by
      cases h1 : checkB done zs
      · exact .inl rfl
      cases h2 : inB p 0 99
      · exact .inr (.inl rfl)
      cases h3 : hasB done zs p
      · exact absurd ⟨h1, h2, h3⟩ hc
      · exact .inr (.inr rfl)
    have hm : markB done zs p = false := by
      rcases hno with h | h | h
      · exact mark_f1 h
      · exact mark_f2 h
      · exact mark_f3 h
    exact (implMark_no done _ _ _ zs hb hx p w (lies_of_own ho) hno).mono fun _ _ ⟨he, hB⟩ => ⟨none, 0, 0, by rw [he, (mark_no hm).1, hm], by rw [(mark_no hm).2]; exact res_nil (Nat.le_refl _), hB⟩
end Go.Proofs.Ytfbnpnajpkhkdaa
