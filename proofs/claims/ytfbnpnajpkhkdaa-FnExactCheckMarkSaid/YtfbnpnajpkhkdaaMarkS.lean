/-
  CheckMark of the reference. No condition.
-/
import Derived.Test.YtfbnpnajpkhkdaaMarkP
import Derived.Deep.Cut
namespace Go.Proofs.Ytfbnpnajpkhkdaa
open Go.ChangeShapes Go.WideShapes Go.ChangeAt Go.RowKit

theorem see_nil {w : World} {lo hi : Nat} (h : hi ≤ w.heap.size) : intSSee w lo hi (.slice none 0 0) [] := ⟨Nat.zero_le _, h, none, 0, 0, rfl, rfl, ⟨rfl, fun h => absurd h (by omega)⟩, fun h => absurd h (by omega)⟩
theorem mark_f1 {done : Int} {zs : List Int} {p : Int} (h : checkB done zs = false) : markB done zs p = false := by unfold markB; rw [h]; rfl
theorem mark_f2 {done : Int} {zs : List Int} {p : Int} (h : inB p 0 99 = false) : markB done zs p = false := by unfold markB; rw [h]; simp
theorem mark_f3 {done : Int} {zs : List Int} {p : Int} (h : hasB done zs p = true) : markB done zs p = false := by unfold markB; rw [h]; simp
theorem mark_f4 {done : Int} {zs : List Int} {p : Int} (h : checkB (adv done (putI p zs)).1 (adv done (putI p zs)).2 = false) : markB done zs p = false := by unfold markB; rw [h]; simp
theorem mark_t {done : Int} {zs : List Int} {p : Int} (h1 : checkB done zs = true) (h2 : inB p 0 99 = true) (h3 : hasB done zs p = false) (h4 : checkB (adv done (putI p zs)).1 (adv done (putI p zs)).2 = true) : markB done zs p = true := by unfold markB; rw [h1, h2, h3, h4]; rfl
theorem has_not {done : Int} {zs : List Int} {p : Int} (h : hasB done zs p = false) : p ∉ zs ∧ done ≤ p := by
  unfold hasB at h
  simp only [Bool.or_eq_false_iff, decide_eq_false_iff_not] at h
  exact ⟨h.1, by omega⟩
/-- The one pass leaves the list with the number put in. -/
theorem pass_putI {done : Int} {zs : List Int} {p : Int} (h1 : checkB done zs = true) (h3 : hasB done zs p = false) : insEnd p (insRun (inGe p) (inEq p) p (false, []) zs) = putI p zs := by
  rw [insRun_end _ _ _ _ _ (insOk_asc p (check_parts h1).2.2), List.nil_append, insL_putI p (has_not h3).1]

theorem szInt (w : World) : (Go.sizeOf 3).run Try.prog w = .ok 1 w := by kernel_rfl


set_option maxHeartbeats 6400000 in
theorem specMark_no (done : Int) (A : Option Addr) (n c : Nat) (zs : List Int) (hn : n ≤ 1048576) (hx : zs.length = n) (p : Int) (w : World) (hL : Lies w 1 A n (zs.flatMap intCells)) (hno : checkB done zs = false ∨ inB p 0 99 = false ∨ hasB done zs p = true) :
    Calls Try.prog 55 #[.agg #[.int .i64 done, .slice A n c], .int .i64 p] w fun e w' => e = .returned (.tuple #[.agg #[.int .i64 0, .slice none 0 0], .bool false]) ∧ Below w.heap.size w w' := by
  have HX := Lib.hid hx
  have HL := Lib.hid hL
  have HN := Lib.hid hno
  clear hx hL hno
  cases E1 : checkB done zs
  · clear HN
    go_enter Try.func55, Try.ntmps55
    go_wp2_with fail
    refine (specCheck_any _ _ _ _ zs hn HX.out _ (HL.out.below (by repeat' (first | (with_reducible exact Below.refl _ _) | (with_reducible assumption) | (with_reducible refine below_step (by assumption) ?_) | (with_reducible refine below_alloc ?_ _) | (with_reducible refine Below.drew ?_) | (with_reducible refine below_drewN ?_ _) | (with_reducible refine Below.setCell ?_ ?_ _) | go_size)))).mono ?_
    rintro e1 w1 ⟨rfl, hb⟩
    rw [E1]
    have r0 := box_cell hb (b := w.heap.size + 1) (o := 0) (u := .int .i64 0) (by go_cell)
    have r1 := box_cell hb (b := w.heap.size + 1) (o := 1) (u := .slice none 0 0) (by go_cell)
    have f0 : w1.frozen? ⟨w.heap.size + 1, 0, none⟩ = false := (hb.frozen (p := ⟨w.heap.size + 1, 0, none⟩) (by simp)).trans (by simp [go_sem])
    have f1 : w1.frozen? ⟨w.heap.size + 1, 1, none⟩ = false := (hb.frozen (p := ⟨w.heap.size + 1, 1, none⟩) (by simp)).trans (by simp [go_sem])
    have hs := hb.size
    simp only [World.size_alloc] at hs
    go_wp2
    refine bodyPost_ret (v := .tuple #[.agg #[.int .i64 0, .slice none 0 0], .bool false]) (by simp [results, Try.results55, go_sem, r0, r1]) rfl ⟨rfl, (by repeat' (first | (with_reducible exact Below.refl _ _) | (with_reducible assumption) | (with_reducible refine below_step (by assumption) ?_) | (with_reducible refine below_alloc ?_ _) | (with_reducible refine Below.drew ?_) | (with_reducible refine below_drewN ?_ _) | (with_reducible refine Below.setCell ?_ ?_ _) | go_size))⟩
  cases E2 : inB p 0 99
  · clear HN
    go_enter Try.func55, Try.ntmps55
    go_wp2_with fail
    refine (specCheck_any _ _ _ _ zs hn HX.out _ (HL.out.below (by repeat' (first | (with_reducible exact Below.refl _ _) | (with_reducible assumption) | (with_reducible refine below_step (by assumption) ?_) | (with_reducible refine below_alloc ?_ _) | (with_reducible refine Below.drew ?_) | (with_reducible refine below_drewN ?_ _) | (with_reducible refine Below.setCell ?_ ?_ _) | go_size)))).mono ?_
    rintro e1 w1 ⟨rfl, hb⟩
    rw [E1]
    have r0 := box_cell hb (b := w.heap.size + 1) (o := 0) (u := .int .i64 0) (by go_cell)
    have r1 := box_cell hb (b := w.heap.size + 1) (o := 1) (u := .slice none 0 0) (by go_cell)
    have f0 : w1.frozen? ⟨w.heap.size + 1, 0, none⟩ = false := (hb.frozen (p := ⟨w.heap.size + 1, 0, none⟩) (by simp)).trans (by simp [go_sem])
    have f1 : w1.frozen? ⟨w.heap.size + 1, 1, none⟩ = false := (hb.frozen (p := ⟨w.heap.size + 1, 1, none⟩) (by simp)).trans (by simp [go_sem])
    have hs := hb.size
    simp only [World.size_alloc] at hs
    go_wp2_with (go_at_call 83; refine (l6In_any _ _ _ _).mono ?_; rintro e2 w2 ⟨rfl, rfl⟩; rw [E2])
    refine bodyPost_ret (v := .tuple #[.agg #[.int .i64 0, .slice none 0 0], .bool false]) (by simp [results, Try.results55, go_sem, r0, r1]) rfl ⟨rfl, (by repeat' (first | (with_reducible exact Below.refl _ _) | (with_reducible assumption) | (with_reducible refine below_step (by assumption) ?_) | (with_reducible refine below_alloc ?_ _) | (with_reducible refine Below.drew ?_) | (with_reducible refine below_drewN ?_ _) | (with_reducible refine Below.setCell ?_ ?_ _) | go_size))⟩
  · have E3 : hasB done zs p = true := by
      rcases HN.out with h | h | h
      · rw [E1] at h; cases h
      · rw [E2] at h; cases h
      · exact h
    clear HN
    go_enter Try.func55, Try.ntmps55
    go_wp2_with fail
    refine (specCheck_any _ _ _ _ zs hn HX.out _ (HL.out.below (by repeat' (first | (with_reducible exact Below.refl _ _) | (with_reducible assumption) | (with_reducible refine below_step (by assumption) ?_) | (with_reducible refine below_alloc ?_ _) | (with_reducible refine Below.drew ?_) | (with_reducible refine below_drewN ?_ _) | (with_reducible refine Below.setCell ?_ ?_ _) | go_size)))).mono ?_
    rintro e1 w1 ⟨rfl, hb⟩
    rw [E1]
    have c0 := box_cell hb (b := w.heap.size) (o := 0) (u := .int .i64 done) (by go_cell)
    have c1 := box_cell hb (b := w.heap.size) (o := 1) (u := .slice A n c) (by go_cell)
    have HR := Lib.hid (((RowIs.new (w.alloc (.cells #[.int .i64 done, .slice A n c] 67)) #[.int .i64 0, .slice none 0 0] 67)).below hb)
    simp only [World.size_alloc] at HR
    have B1 : Below w.heap.size w w1 := (by repeat' (first | (with_reducible exact Below.refl _ _) | (with_reducible assumption) | (with_reducible refine below_step (by assumption) ?_) | (with_reducible refine below_alloc ?_ _) | (with_reducible refine Below.drew ?_) | (with_reducible refine below_drewN ?_ _) | (with_reducible refine Below.setCell ?_ ?_ _) | go_size))
    go_wp2_with fail
    refine (l6In_any _ _ _ _).mono ?_
    rintro e2 w2 ⟨rfl, rfl⟩
    rw [E2]
    go_wp2_with fail
    refine (l15Has_any _ _ _ _ zs _ hn HX.out _ (HL.out.below B1)).mono ?_
    rintro e2 w2 ⟨rfl, hb2⟩
    rw [E3]
    have HR2 := HR.out.below hb2
    have r0 := HR2.cell (j := 0) rfl
    have r1 := HR2.cell (j := 1) rfl
    have f0 := HR2.frozen 0
    have f1 := HR2.frozen 1
    have hlt := HR2.lt
    clear HR HR2
    go_wp2
    refine bodyPost_ret (v := .tuple #[.agg #[.int .i64 0, .slice none 0 0], .bool false]) (by simp [results, Try.results55, go_sem, r0, r1]) rfl ⟨rfl, (by repeat' (first | (with_reducible exact Below.refl _ _) | (with_reducible assumption) | (with_reducible refine below_step (by assumption) ?_) | (with_reducible refine below_alloc ?_ _) | (with_reducible refine Below.drew ?_) | (with_reducible refine below_drewN ?_ _) | (with_reducible refine Below.setCell ?_ ?_ _) | go_size))⟩

set_option maxHeartbeats 12800000 in
theorem specMark_yes (done : Int) (A : Option Addr) (n c : Nat) (zs : List Int) (hn : n ≤ 1048576) (hx : zs.length = n) (p : Int) (w : World) (hL : Lies w 1 A n (zs.flatMap intCells)) (E1 : checkB done zs = true) (E2 : inB p 0 99 = true) (E3 : hasB done zs p = false) :
    Calls Try.prog 55 #[.agg #[.int .i64 done, .slice A n c], .int .i64 p] w fun e w' => ∃ A' m' c', e = .returned (.tuple #[.agg #[.int .i64 (markD done zs p), .slice A' m' c'], .bool (markB done zs p)]) ∧ intSSee w' w.heap.size w'.heap.size (.slice A' m' c') (markL done zs p) ∧ Below w.heap.size w w' := by
  have HX := Lib.hid hx
  have HL := Lib.hid hL
  have HP := Lib.hid (pass_putI E1 E3)
  have h8 := (check_parts E1).2.1
  have hd0 := (check_parts E1).1.1
  have hd1 := (check_parts E1).1.2
  have H4 := Lib.hid (show checkB (adv done (putI p zs)).1 (adv done (putI p zs)).2 = true → markB done zs p = true from fun h => mark_t E1 E2 E3 h)
  have hplen := putI_length p zs
  have HPL := Lib.hid hplen
  clear hx hL hplen
  go_enter Try.func55, Try.ntmps55
  go_wp2_with fail
  refine (specCheck_any _ _ _ _ zs hn HX.out _ (HL.out.below (by repeat' (first | (with_reducible exact Below.refl _ _) | (with_reducible assumption) | (with_reducible refine below_step (by assumption) ?_) | (with_reducible refine below_alloc ?_ _) | (with_reducible refine Below.drew ?_) | (with_reducible refine below_drewN ?_ _) | (with_reducible refine Below.setCell ?_ ?_ _) | go_size)))).mono ?_
  rintro e1 w1 ⟨rfl, hb⟩
  rw [E1]
  have c0 := box_cell hb (b := w.heap.size) (o := 0) (u := .int .i64 done) (by go_cell)
  have c1 := box_cell hb (b := w.heap.size) (o := 1) (u := .slice A n c) (by go_cell)
  have HR := Lib.hid (((RowIs.new (w.alloc (.cells #[.int .i64 done, .slice A n c] 67)) #[.int .i64 0, .slice none 0 0] 67)).below hb)
  simp only [World.size_alloc] at HR
  have B1 : Below w.heap.size w w1 := (by repeat' (first | (with_reducible exact Below.refl _ _) | (with_reducible assumption) | (with_reducible refine below_step (by assumption) ?_) | (with_reducible refine below_alloc ?_ _) | (with_reducible refine Below.drew ?_) | (with_reducible refine below_drewN ?_ _) | (with_reducible refine Below.setCell ?_ ?_ _) | go_size))
  go_wp2_with fail
  refine (l6In_any _ _ _ _).mono ?_
  rintro e2 w2 ⟨rfl, rfl⟩
  rw [E2]
  go_wp2_with fail
  refine (l15Has_any _ _ _ _ zs _ hn HX.out _ (HL.out.below B1)).mono ?_
  rintro e2 w2 ⟨rfl, hb2⟩
  rw [E3]
  have c0 := box_cell hb2 c0
  have c1 := box_cell hb2 c1
  replace HR := Lib.hid (HR.out.below hb2)
  have B2 := below_step hb2 B1
  have h3s : w.heap.size + 1 < w2.heap.size := HR.out.lt
  go_upto_region 3 with (fail)
  go_cut [6] from 7 (fun s wr => ∃ b6 g3 m3 c3 : Nat, s = .pointer (some ⟨b6, 0, none⟩) ∧ RowIs wr b6 67 [.int .i64 done, .slice (some ⟨g3, 0, none⟩) m3 c3] ∧ Hid ((putI p zs).length = m3) ∧ wr.ownsRow (w.heap.size + 2) 3 1 (.slice (some ⟨g3, 0, none⟩) m3 c3) m3 ((putI p zs).flatMap intCells) ∧ RowIs wr (w.heap.size + 1) 67 [.int .i64 0, .slice none 0 0] ∧ w.heap.size + 2 ≤ b6 ∧ Below w.heap.size w wr)
  case first =>
    have BR := Below.refl w2.heap.size w2
    have C0 := c0
    have C1 := c1
    go_region_held3 (fun wx => wx.cell? ⟨w.heap.size, 0, none⟩ = some (.int .i64 done) ∧ wx.cell? ⟨w.heap.size, 1, none⟩ = some (.slice A n c) ∧ Below w2.heap.size w2 wx) ((go_split_ands; refine ⟨?_, ?_, ?_⟩ <;> first | assumption | (refine box_cell (by assumption) ?_; assumption) | (refine below_step (by assumption) ?_; assumption) | exact Below.drew (by assumption) | ((repeat' (first | (with_reducible exact Below.refl _ _) | (with_reducible assumption) | (with_reducible refine below_step (by assumption) ?_) | (with_reducible refine below_alloc ?_ _) | (with_reducible refine Below.drew ?_) | (with_reducible refine below_drewN ?_ _) | (with_reducible refine Below.setCell ?_ ?_ _) | go_size)); done) | (refine box_cell (W := w2) ?_ C0; (repeat' (first | (with_reducible exact Below.refl _ _) | (with_reducible assumption) | (with_reducible refine below_step (by assumption) ?_) | (with_reducible refine below_alloc ?_ _) | (with_reducible refine Below.drew ?_) | (with_reducible refine below_drewN ?_ _) | (with_reducible refine Below.setCell ?_ ?_ _) | go_size)); done) | (refine box_cell (W := w2) ?_ C1; (repeat' (first | (with_reducible exact Below.refl _ _) | (with_reducible assumption) | (with_reducible refine below_step (by assumption) ?_) | (with_reducible refine below_alloc ?_ _) | (with_reducible refine Below.drew ?_) | (with_reducible refine below_drewN ?_ _) | (with_reducible refine Below.setCell ?_ ?_ _) | go_size)); done)))
      (first | (go_at_call 98; go_split_ands; refine (l11Put_any _ _ _ zs hn HX.out p _ (HL.out.below (below_step (by assumption) B2))).mono ?_; rintro e3 w3 ⟨g3, m3, c3, rfl, hl3, ho3, hb3⟩; have hBx : Below w2.heap.size w2 _ := (by assumption); have hzx := hBx.size; have hS3 : Below w2.heap.size w2 w3 := below_step hb3 hBx; have HO := Lib.hid (ownsRow_base (base' := w.heap.size + 2) ho3 (by omega)); have HLn := Lib.hid hl3; rw [HP.out] at HO HLn; have HR3 := Lib.hid ((HR.out.below hBx).below hb3); have HB3 := below_step hb3 (below_step hBx B2); have hz3 := hb3.size; clear ho3 hl3; obtain ⟨q1, q2, q3⟩ := bcell hb3))
    · go_wp2
      go_meet
      case rel => exact ⟨_, g3, m3, c3, rfl, RowIs.new _ _ _, HLn, World.ownsRow.alloc HO.out _, HR3.out.alloc _, by omega, below_alloc HB3 _⟩
    · go_wp2
      go_meet
      case rel =>
        have hR6 : RowIs w3 w2.heap.size 67 [.int .i64 0, .slice none 0 0] := RowIs.below (by exact RowIs.new w2 #[.int .i64 0, .slice none 0 0] 67) hb3
        have hne : w2.heap.size ≠ w.heap.size + 1 := by omega
        have hng := own_ne_row HO.out hR6 (by decide)
        exact ⟨_, g3, m3, c3, rfl, (hR6.set 0 _).set 1 _, HLn, ownsRow_other (ownsRow_other HO.out hng _) hng _, (HR3.out.other (fun e => hne e.symm) _).other (fun e => hne e.symm) _, by omega, (HB3.setCell (by show w.heap.size ≤ w2.heap.size; omega) _).setCell (by show w.heap.size ≤ w2.heap.size; omega) _⟩
  case rest =>
    obtain ⟨b6, g3, m3, c3, rfl, hR6, hL3, hO3, hRr, hb6, hB3⟩ := hcut
    have HO3 := Lib.hid hO3
    have HR6 := Lib.hid hR6
    have HRr := Lib.hid hRr
    have hcap := (owns_cap hO3).2
    have hm9 : m3 ≤ 9 := by have h1 := hL3.out; have h2 := HPL.out; omega
    clear hO3 hR6 hRr HL HX HP c0 c1 HR hb hb2
    go_wp2_with fail
    go_loopg [] m3 (fun k wr => ∃ (d : Int) (A : Option Addr) (n c : Nat) (rest : List Int), k = n ∧ RowIs wr b6 67 [.int .i64 d, .slice A n c] ∧ Hid (rest.length = n) ∧ n ≤ c ∧ n ≤ m3 ∧ Lies wr 1 A n (rest.flatMap intCells) ∧ Hid (0 < n → ∃ o, A = some ⟨g3, o, none⟩) ∧ Hid (adv d rest = adv done (putI p zs)) ∧ 0 ≤ d ∧ d + n ≤ 109 ∧ RowIs wr (w.heap.size + 1) 67 [.int .i64 0, .slice none 0 0] ∧ b6 ≠ g3 ∧ g3 < wr.heap.size ∧ w.heap.size + 2 ≤ g3 ∧ Below w.heap.size w wr)
    case atStart => exact ⟨done, _, m3, c3, putI p zs, rfl, HR6.out, hL3, hcap, Nat.le_refl _, lies_of_own HO3.out, Lib.hid (fun _ => ⟨0, rfl⟩), Lib.hid rfl, hd0, by omega, HRr.out, own_ne_row HO3.out HR6.out (by decide), (owns_lt HO3.out).2, (owns_lt HO3.out).1, hB3⟩
    case round =>
      obtain ⟨d, A, n, c, rest, hk, hR6, hlen, hnc, hnm, hL, hA, hadv, hd2, hd3, hRr, hne, hg3, hg3', hB⟩ := hrel
      have HL := Lib.hid hL
      have HK := Lib.hid hk
      have x0 := hR6.cell (j := 0) rfl
      have x1 := hR6.cell (j := 1) rfl
      have y0 := hR6.frozen 0
      have y1 := hR6.frozen 1
      have HR6 := Lib.hid hR6
      have HRr := Lib.hid hRr
      clear hL hR6 hRr hk
      cases rest with
      | nil =>
        obtain rfl : n = 0 := by have := hlen.out; simpa using this.symm
        have HV := Lib.hid (show adv done (putI p zs) = (d, []) from hadv.out.symm)
        have RA_x0 := After.cell x0
        have RA_x1 := After.cell x1
        go_wp2_with fail
        refine wp_region_after (by kernel_rfl) (by kernel_rfl) ?_
        repeat (go_big_quiet_step ((fail)))
        refine wpQuiet_nil ?_
        intro wn hw'
        have hwn := after_below hw'
        clear hw'
        have x0 := box_cell hwn x0
        have x1 := box_cell hwn x1
        replace HR6 := Lib.hid (HR6.out.below hwn)
        replace HRr := Lib.hid (HRr.out.below hwn)
        replace HL := Lib.hid (HL.out.below hwn)
        have hB := below_step hwn hB
        clear RA_x0
        clear RA_x1
        have x0 := HR6.out.cell (j := 0) rfl
        have x1 := HR6.out.cell (j := 1) rfl
        cases E4 : checkB d ([])
        all_goals
          go_wp2_with fail
          refine (specCheck_any d _ _ _ ([]) (by omega) hlen.out _ HL.out).mono ?_
          rintro e5 w5 ⟨rfl, hb5⟩
          rw [E4]
          have HRx := HRr.out.below hb5
          have r0 := HRx.cell (j := 0) rfl
          have r1 := HRx.cell (j := 1) rfl
          have f0 := HRx.frozen 0
          have f1 := HRx.frozen 1
          have hltx := HRx.lt
          have HR6x := HR6.out.below hb5
          have s0 := HR6x.cell (j := 0) rfl
          have s1 := HR6x.cell (j := 1) rfl
          have HRX := Lib.hid HRx
          clear HRx HR6x
          go_wp2
        · have HM := mark_no (mark_f4 (show checkB (adv done (putI p zs)).1 (adv done (putI p zs)).2 = false by rw [HV.out]; exact E4))
          have HMB := mark_f4 (show checkB (adv done (putI p zs)).1 (adv done (putI p zs)).2 = false by rw [HV.out]; exact E4)
          refine bodyPost_ret (v := .tuple #[.agg #[.int .i64 0, .slice none 0 0], .bool false]) (by simp [results, Try.results55, go_sem, r0, r1]) rfl ?_
          refine ⟨none, 0, 0, by rw [HM.1, HMB], ?_, ?_⟩
          · rw [HM.2]; exact see_nil (Nat.le_refl _)
          · exact (by repeat' (first | (with_reducible exact Below.refl _ _) | (with_reducible assumption) | (with_reducible refine below_step (by assumption) ?_) | (with_reducible refine below_alloc ?_ _) | (with_reducible refine Below.drew ?_) | (with_reducible refine below_drewN ?_ _) | (with_reducible refine Below.setCell ?_ ?_ _) | go_size))
        · have HMB := H4.out (show checkB (adv done (putI p zs)).1 (adv done (putI p zs)).2 = true by rw [HV.out]; exact E4)
          have HM := mark_yes HMB
          refine bodyPost_ret (v := .tuple #[.agg #[.int .i64 d, .slice A 0 c], .bool true]) (by simp [results, Try.results55, go_sem, r0, r1]) rfl ?_
          refine ⟨A, 0, c, by rw [HM.1, HMB, HV.out], ?_, ?_⟩
          · rw [HM.2, HV.out]
            have hz5 := hb5.size
            refine ⟨by show ([]).length ≤ _; have := hlen.out; omega, Nat.le_refl _, A, 0, c, rfl, hlen.out, ((HL.out.below hb5).setOther ?_ _).setOther ?_ _, fun hn0 b o e => ?_⟩
            · intro hn0 b o e; obtain ⟨o', e'⟩ := hA.out hn0; rw [e'] at e; cases e; show g3 ≠ w.heap.size + 1; omega
            · intro hn0 b o e; obtain ⟨o', e'⟩ := hA.out hn0; rw [e'] at e; cases e; show g3 ≠ w.heap.size + 1; omega
            · obtain ⟨o', e'⟩ := hA.out hn0; rw [e'] at e; cases e; simp [World.setCell]; have := hwn.size; omega
          · exact (by repeat' (first | (with_reducible exact Below.refl _ _) | (with_reducible assumption) | (with_reducible refine below_step (by assumption) ?_) | (with_reducible refine below_alloc ?_ _) | (with_reducible refine Below.drew ?_) | (with_reducible refine below_drewN ?_ _) | (with_reducible refine Below.setCell ?_ ?_ _) | go_size))
      | cons z rs =>
        have hpos : 0 < n := by have := hlen.out; simp at this; omega
        have z0 : decide ((0 : Int) < (n : Int)) = true := by simp; omega
        have z1 : decide (0 < n) = true := by simp; omega
        obtain ⟨o0, e0⟩ := hA.out hpos
        subst e0
        obtain ⟨b, o, e, _, hc⟩ := HL.out.row (fun _ => rfl) hpos
        cases e
        have l0 : wr.cell? ⟨g3, o0, none⟩ = some (.int .i64 z) := by simpa using hc 0 z rfl 0 _ rfl
        clear hc
        by_cases hz : z = d
        · have E : (z == d) = true := by simp [hz]
          have HV := Lib.hid (show adv (d + 1) rs = adv done (putI p zs) by rw [← hadv.out, adv, if_pos hz])
          clear hz
          have RA_x0 := After.cell x0
          have RA_x1 := After.cell x1
          have RA_l0 := After.cell l0
          go_wp2_with fail
          refine wp_region_after (by kernel_rfl) (by kernel_rfl) ?_
          repeat (go_big_quiet_step ((fail)))
          refine wpQuiet_nil ?_
          intro wn hw'
          have hwn := after_below hw'
          clear hw'
          have x0 := box_cell hwn x0
          have x1 := box_cell hwn x1
          have l0 := box_cell hwn l0
          replace HR6 := Lib.hid (HR6.out.below hwn)
          replace HRr := Lib.hid (HRr.out.below hwn)
          replace HL := Lib.hid (HL.out.below hwn)
          have hB := below_step hwn hB
          clear RA_x0
          clear RA_x1
          clear RA_l0
          obtain ⟨A', hsl, htl, hA'⟩ := slice_tail (P := Try.prog) (t := 47) (e := 3) (size := 1) Try.underlying47 szInt g3 o0 n c (by omega) hnc
          have HT := Lib.hid (htl wn (intCells z) (rs.flatMap intCells) rfl HL.out)
          have HA' := Lib.hid hA'
          have y0 := HR6.out.frozen 0
          have y1 := HR6.out.frozen 1
          have hgn := Nat.lt_of_lt_of_le hg3 hwn.size
          clear htl hA'
          go_wp2
          go_roundg (n - 1)
          case measure => have := HK.out; omega
          case rel =>
            exact ⟨d + 1, A', n - 1, c - 1, rs, rfl, (HR6.out.set 0 _).set 1 _, Lib.hid (by have := hlen.out; simp at this; omega), by omega, by omega, (HT.out.setOther (fun hn0 b o e => by obtain ⟨o', e'⟩ := HA'.out hn0; rw [e'] at e; cases e; exact fun h => hne h.symm) _).setOther (fun hn0 b o e => by obtain ⟨o', e'⟩ := HA'.out hn0; rw [e'] at e; cases e; exact fun h => hne h.symm) _, Lib.hid (fun hn0 => HA'.out hn0), HV, by omega, by omega, (HRr.out.other (by show w.heap.size + 1 ≠ b6; omega) _).other (by show w.heap.size + 1 ≠ b6; omega) _, hne, by simpa [World.setCell] using hgn, hg3', (hB.setCell (by show w.heap.size ≤ b6; omega) _).setCell (by show w.heap.size ≤ b6; omega) _⟩
        · have E : (z == d) = false := by simp [hz]
          have HV := Lib.hid (show adv done (putI p zs) = (d, z :: rs) by rw [← hadv.out, adv, if_neg hz])
          clear hz
          have RA_x0 := After.cell x0
          have RA_x1 := After.cell x1
          have RA_l0 := After.cell l0
          go_wp2_with fail
          refine wp_region_after (by kernel_rfl) (by kernel_rfl) ?_
          repeat (go_big_quiet_step ((fail)))
          refine wpQuiet_nil ?_
          intro wn hw'
          have hwn := after_below hw'
          clear hw'
          have x0 := box_cell hwn x0
          have x1 := box_cell hwn x1
          have l0 := box_cell hwn l0
          replace HR6 := Lib.hid (HR6.out.below hwn)
          replace HRr := Lib.hid (HRr.out.below hwn)
          replace HL := Lib.hid (HL.out.below hwn)
          have hB := below_step hwn hB
          clear RA_x0
          clear RA_x1
          clear RA_l0
          have x0 := HR6.out.cell (j := 0) rfl
          have x1 := HR6.out.cell (j := 1) rfl
          cases E4 : checkB d (z :: rs)
          all_goals
            go_wp2_with fail
            refine (specCheck_any d _ _ _ (z :: rs) (by omega) hlen.out _ HL.out).mono ?_
            rintro e5 w5 ⟨rfl, hb5⟩
            rw [E4]
            have HRx := HRr.out.below hb5
            have r0 := HRx.cell (j := 0) rfl
            have r1 := HRx.cell (j := 1) rfl
            have f0 := HRx.frozen 0
            have f1 := HRx.frozen 1
            have hltx := HRx.lt
            have HR6x := HR6.out.below hb5
            have s0 := HR6x.cell (j := 0) rfl
            have s1 := HR6x.cell (j := 1) rfl
            have HRX := Lib.hid HRx
            clear HRx HR6x
            go_wp2
          · have HM := mark_no (mark_f4 (show checkB (adv done (putI p zs)).1 (adv done (putI p zs)).2 = false by rw [HV.out]; exact E4))
            have HMB := mark_f4 (show checkB (adv done (putI p zs)).1 (adv done (putI p zs)).2 = false by rw [HV.out]; exact E4)
            refine bodyPost_ret (v := .tuple #[.agg #[.int .i64 0, .slice none 0 0], .bool false]) (by simp [results, Try.results55, go_sem, r0, r1]) rfl ?_
            refine ⟨none, 0, 0, by rw [HM.1, HMB], ?_, ?_⟩
            · rw [HM.2]; exact see_nil (Nat.le_refl _)
            · exact (by repeat' (first | (with_reducible exact Below.refl _ _) | (with_reducible assumption) | (with_reducible refine below_step (by assumption) ?_) | (with_reducible refine below_alloc ?_ _) | (with_reducible refine Below.drew ?_) | (with_reducible refine below_drewN ?_ _) | (with_reducible refine Below.setCell ?_ ?_ _) | go_size))
          · have HMB := H4.out (show checkB (adv done (putI p zs)).1 (adv done (putI p zs)).2 = true by rw [HV.out]; exact E4)
            have HM := mark_yes HMB
            refine bodyPost_ret (v := .tuple #[.agg #[.int .i64 d, .slice (some ⟨g3, o0, none⟩) n c], .bool true]) (by simp [results, Try.results55, go_sem, r0, r1]) rfl ?_
            refine ⟨_, n, c, by rw [HM.1, HMB, HV.out], ?_, ?_⟩
            · rw [HM.2, HV.out]
              have hz5 := hb5.size
              refine ⟨by show (z :: rs).length ≤ _; have := hlen.out; omega, Nat.le_refl _, _, n, c, rfl, hlen.out, ((HL.out.below hb5).setOther ?_ _).setOther ?_ _, fun hn0 b o e => ?_⟩
              · intro hn0 b o e; obtain ⟨o', e'⟩ := hA.out hn0; rw [e'] at e; cases e; show g3 ≠ w.heap.size + 1; omega
              · intro hn0 b o e; obtain ⟨o', e'⟩ := hA.out hn0; rw [e'] at e; cases e; show g3 ≠ w.heap.size + 1; omega
              · obtain ⟨o', e'⟩ := hA.out hn0; rw [e'] at e; cases e; simp [World.setCell]; have := hwn.size; omega
            · exact (by repeat' (first | (with_reducible exact Below.refl _ _) | (with_reducible assumption) | (with_reducible refine below_step (by assumption) ?_) | (with_reducible refine below_alloc ?_ _) | (with_reducible refine Below.drew ?_) | (with_reducible refine below_drewN ?_ _) | (with_reducible refine Below.setCell ?_ ?_ _) | go_size))
end Go.Proofs.Ytfbnpnajpkhkdaa
