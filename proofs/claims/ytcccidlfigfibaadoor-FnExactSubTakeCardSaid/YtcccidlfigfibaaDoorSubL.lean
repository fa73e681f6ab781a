/-
  SubLeft: what the reference and the program return. No condition beyond the sentinel and the library's int.
-/
import Derived.Test.YtcccidlfigfibaaDoorSubP
import Derived.Test.YtcccidlfigfibaaDoorSubIt
import Derived.Test.YtcccidlfigfibaaDoorTotAdd
namespace Go.Proofs.YtcccidlfigfibaaDoor
open Go.RowKit Go.Shelf Go.ChangeShapes Go.WideShapes Go.ChangeAt

theorem hyp_of {s : ByteArray} (h : nameB s = true) : 0 ≤ hyp s := by
  by_cases hh : 0 ≤ hyp s
  · exact hh
  · rw [name_f1 hh] at h; cases h

set_option maxHeartbeats 1600000 in
theorem l14Fits_any (c x0 : ByteArray) (x1 : Int) (x2 : ByteArray) (x3 : Int) (hs : x0.size ≤ 1048576) (hn : nameB x0 = true) (w : World) :
    Calls Tryd.prog 36 #[.string c, .agg #[.string x0, .int .i64 x1, .string x2, .int .i64 x3]] w fun e w' => e = .returned (.bool (fitsB c (x0, x1, x2, x3))) ∧ Below w.heap.size w w' := by
  have hh := hyp_of hn
  have HF : Hid (fitsB c (x0, x1, x2, x3) = (c.toList.isEmpty || decide (catS x0 = c))) := Lib.hid rfl
  obtain ⟨d, hd⟩ : ∃ d, catS x0 = d := ⟨_, rfl⟩
  rw [hd] at HF
  have HD := Lib.hid hd
  clear hd
  cases c1 : c.toList.isEmpty
  · by_cases hc : d = c
    · have E : (d.toList == c.toList) = true := by simp [hc]
      have HE := Lib.hid (show fitsB c (x0, x1, x2, x3) = true by rw [HF.out, c1, hc]; simp)
      clear hc HF
      go_enter Tryd.func36, Tryd.ntmps36
      go_wp2_with fail
      refine (l2Category_any x0 hs hh _).mono ?_
      rintro e1 w1 ⟨rfl, rfl⟩
      rw [HD.out]
      go_wp2
      go_ret
      exact ⟨ret_bool HE.out.symm, (by repeat' (first | (with_reducible exact Below.refl _ _) | (with_reducible assumption) | (with_reducible refine below_step (by assumption) ?_) | (with_reducible refine below_alloc ?_ _) | (with_reducible refine Below.drew ?_) | (with_reducible refine below_drewN ?_ _) | (with_reducible refine Below.setCell ?_ ?_ _) | go_size))⟩
    · have E : (d.toList == c.toList) = false := str_ne hc
      have HE := Lib.hid (show fitsB c (x0, x1, x2, x3) = false by rw [HF.out, c1]; simp [hc])
      clear hc HF
      go_enter Tryd.func36, Tryd.ntmps36
      go_wp2_with fail
      refine (l2Category_any x0 hs hh _).mono ?_
      rintro e1 w1 ⟨rfl, rfl⟩
      rw [HD.out]
      go_wp2
      go_ret
      exact ⟨ret_bool HE.out.symm, (by repeat' (first | (with_reducible exact Below.refl _ _) | (with_reducible assumption) | (with_reducible refine below_step (by assumption) ?_) | (with_reducible refine below_alloc ?_ _) | (with_reducible refine Below.drew ?_) | (with_reducible refine below_drewN ?_ _) | (with_reducible refine Below.setCell ?_ ?_ _) | go_size))⟩
  · have HE := Lib.hid (show fitsB c (x0, x1, x2, x3) = true by rw [HF.out, c1]; rfl)
    clear HF
    go_enter Tryd.func36, Tryd.ntmps36
    go_wp2
    go_ret
    exact ⟨ret_bool HE.out.symm, (by repeat' (first | (with_reducible exact Below.refl _ _) | (with_reducible assumption) | (with_reducible refine below_step (by assumption) ?_) | (with_reducible refine below_alloc ?_ _) | (with_reducible refine Below.drew ?_) | (with_reducible refine below_drewN ?_ _) | (with_reducible refine Below.setCell ?_ ?_ _) | go_size))⟩

set_option maxHeartbeats 1600000 in
theorem wants_any (c : ByteArray) (p : Int) (x0 : ByteArray) (x1 : Int) (x2 : ByteArray) (x3 : Int) (hs : x0.size ≤ 1048576) (hn : nameB x0 = true) (w : World) (a : Addr) (hS : Sent a w) (hM : MaxL w) :
    Calls Tryd.prog 41 #[.agg #[.string c, .int .i64 p], .agg #[.string x0, .int .i64 x1, .string x2, .int .i64 x3]] w fun e w' => e = .returned (.bool (fitsB c (x0, x1, x2, x3))) ∧ Below w.heap.size w w' := by
  have HF : Hid (fitsB c (x0, x1, x2, x3) = (c.toList.isEmpty || decide (catS x0 = c))) := Lib.hid rfl
  have HV := Lib.hid (partsV_t hn)
  obtain ⟨d, hd⟩ : ∃ d, catS x0 = d := ⟨_, rfl⟩
  obtain ⟨m, hm⟩ : ∃ m, nthS x0 = m := ⟨_, rfl⟩
  rw [hd] at HF
  rw [hd, hm] at HV
  clear hd hm
  cases c1 : c.toList.isEmpty
  · by_cases hc : d = c
    · have E : (c.toList == d.toList) = true := by simp [hc]
      have HE := Lib.hid (show fitsB c (x0, x1, x2, x3) = true by rw [HF.out, c1, hc]; simp)
      clear hc HF
      go_enter Tryd.func41, Tryd.ntmps41
      go_wp2_with fail
      refine (implParts_any x0 hs a _ (hS.below (below_alloc (below_alloc (Below.refl _ _) _) _) (Nat.le_refl _)) (hM.below (below_alloc (below_alloc (Below.refl _ _) _) _))).mono ?_
      rintro e1 w1 ⟨rfl, hb1⟩
      rw [HV.out]
      have y0 := box_cell hb1 (b := w.heap.size) (o := 0) (u := .string c) (by go_cell)
      have hb := below_step hb1 (below_alloc (below_alloc (Below.refl _ _) _) _)
      go_wp2
      go_ret
      exact ⟨ret_bool HE.out.symm, (by repeat' (first | (with_reducible exact Below.refl _ _) | (with_reducible assumption) | (with_reducible refine below_step (by assumption) ?_) | (with_reducible refine below_alloc ?_ _) | (with_reducible refine Below.drew ?_) | (with_reducible refine below_drewN ?_ _) | (with_reducible refine Below.setCell ?_ ?_ _) | go_size))⟩
    · have E : (c.toList == d.toList) = false := str_ne (fun e => hc e.symm)
      have HE := Lib.hid (show fitsB c (x0, x1, x2, x3) = false by rw [HF.out, c1]; simp [hc])
      clear hc HF
      go_enter Tryd.func41, Tryd.ntmps41
      go_wp2_with fail
      refine (implParts_any x0 hs a _ (hS.below (below_alloc (below_alloc (Below.refl _ _) _) _) (Nat.le_refl _)) (hM.below (below_alloc (below_alloc (Below.refl _ _) _) _))).mono ?_
      rintro e1 w1 ⟨rfl, hb1⟩
      rw [HV.out]
      have y0 := box_cell hb1 (b := w.heap.size) (o := 0) (u := .string c) (by go_cell)
      have hb := below_step hb1 (below_alloc (below_alloc (Below.refl _ _) _) _)
      go_wp2
      go_ret
      exact ⟨ret_bool HE.out.symm, (by repeat' (first | (with_reducible exact Below.refl _ _) | (with_reducible assumption) | (with_reducible refine below_step (by assumption) ?_) | (with_reducible refine below_alloc ?_ _) | (with_reducible refine Below.drew ?_) | (with_reducible refine below_drewN ?_ _) | (with_reducible refine Below.setCell ?_ ?_ _) | go_size))⟩
  · have HE := Lib.hid (show fitsB c (x0, x1, x2, x3) = true by rw [HF.out, c1]; rfl)
    clear HF
    go_enter Tryd.func41, Tryd.ntmps41
    go_wp2_with fail
    refine (implParts_any x0 hs a _ (hS.below (below_alloc (below_alloc (Below.refl _ _) _) _) (Nat.le_refl _)) (hM.below (below_alloc (below_alloc (Below.refl _ _) _) _))).mono ?_
    rintro e1 w1 ⟨rfl, hb1⟩
    rw [HV.out]
    have y0 := box_cell hb1 (b := w.heap.size) (o := 0) (u := .string c) (by go_cell)
    have hb := below_step hb1 (below_alloc (below_alloc (Below.refl _ _) _) _)
    go_wp2
    go_ret
    exact ⟨ret_bool HE.out.symm, (by repeat' (first | (with_reducible exact Below.refl _ _) | (with_reducible assumption) | (with_reducible refine below_step (by assumption) ?_) | (with_reducible refine below_alloc ?_ _) | (with_reducible refine Below.drew ?_) | (with_reducible refine below_drewN ?_ _) | (with_reducible refine Below.setCell ?_ ?_ _) | go_size))⟩
end Go.Proofs.YtcccidlfigfibaaDoor
