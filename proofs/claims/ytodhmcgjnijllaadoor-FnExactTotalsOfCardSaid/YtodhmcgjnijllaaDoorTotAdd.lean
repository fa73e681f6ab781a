/-
  An entry added to totals: what the reference's and the program's functions return. No condition beyond what the rows list.
-/
import Derived.Test.YtodhmcgjnijllaaDoorTotP
import Derived.Test.YtodhmcgjnijllaaDoorBunN
namespace Go.Proofs.YtodhmcgjnijllaaDoor
open Go.ChangeShapes Go.WideShapes Go.ChangeAt Go.RowKit

theorem lies_one (w : World) (cs : Array Value) (t : TypeId) (size : Nat) (h : cs.size = size) : Lies (w.alloc (.cells cs t)) size (some ⟨w.heap.size, 0, none⟩) 1 cs.toList := by
  refine ⟨by simp [h], fun _ => ⟨w.heap.size, 0, rfl, by simp, fun j u hj => ?_⟩⟩
  rw [Nat.zero_add, cell_of_row _ _ j cs t (0, 0) (heap_alloc_new _ _)]
  simpa using hj

theorem l2Category_any (s : ByteArray) (hs : s.size ≤ 1048576) (hn : 0 ≤ hyp s) (w : World) :
    Calls Tryd.prog 72 #[.string s] w fun e w' => e = .returned (.string (catS s)) ∧ w = w' := by
  have hs' : s.size ≤ maxLen := by unfold maxLen; omega
  have hroom := hyp_room hn
  have HI : hyp s = ((hyp s).toNat : Int) := by omega
  have HC : catS s = s.extract 0 (hyp s).toNat := rfl
  generalize hi : (hyp s).toNat = i at *
  generalize hc : catS s = c at *
  replace HI := Lib.hid HI
  replace HC := Lib.hid HC
  clear hi hc hn
  go_enter Tryd.func72, Tryd.ntmps72
  go_wp2_with fail
  refine (l2At_any s hs' _).mono ?_
  rintro e1 w1 ⟨rfl, rfl⟩
  rw [HI.out]
  go_wp2
  go_ret
  exact ⟨by rw [HC.out]; try rfl, rfl⟩

set_option maxHeartbeats 1600000 in
theorem l16Of_any (x0 : ByteArray) (x1 : Int) (x2 : ByteArray) (x3 : Int) (hs : x0.size ≤ 1048576) (hn : 0 ≤ hyp x0) (w : World) :
    Calls Tryd.prog 56 #[.agg #[.string x0, .int .i64 x1, .string x2, .int .i64 x3]] w fun e w' => e = .returned (.agg #[.string (catS x0), .int .i64 1, .int .i64 x3]) ∧ Below w.heap.size w w' := by
  go_enter Tryd.func56, Tryd.ntmps56
  go_wp2_with fail
  go_region_held3 (fun wx => wx.cell? ⟨w.heap.size, 0, none⟩ = some (.string x0) ∧ wx.cell? ⟨w.heap.size, 3, none⟩ = some (.int .i64 x3)) ((go_split_ands; refine ⟨?_, ?_⟩ <;> first | assumption | (simp [go_sem]; done) | (simp [go_sem]; assumption)))
    (first | (go_at_call 72; refine (l2Category_any x0 hs hn _).mono ?_; rintro e3 w3 ⟨rfl, rfl⟩))
  go_wp2
  go_returns
  exact ⟨rfl, (by repeat' (first | (with_reducible exact Below.refl _ _) | (with_reducible assumption) | (with_reducible refine below_step (by assumption) ?_) | (with_reducible refine below_alloc ?_ _) | (with_reducible refine Below.drew ?_) | (with_reducible refine below_drewN ?_ _) | (with_reducible refine Below.setCell ?_ ?_ _) | go_size))⟩

set_option maxHeartbeats 1600000 in
theorem totalOf_any (x0 : ByteArray) (x1 : Int) (x2 : ByteArray) (x3 : Int) (hs : x0.size ≤ 1048576) (hn : nameB x0 = true) (w : World) (a : Addr) (hS : Sent a w) (hM : MaxL w) :
    Calls Tryd.prog 62 #[.agg #[.string x0, .int .i64 x1, .string x2, .int .i64 x3]] w fun e w' => e = .returned (.agg #[.string (catS x0), .int .i64 1, .int .i64 x3]) ∧ Below w.heap.size w w' := by
  have BA : Below w.heap.size w ((w.alloc (.cells #[.string x0, .int .i64 x1, .string x2, .int .i64 x3] 54)).alloc (.cells #[.string ⟨#[]⟩, .int .i64 0, .int .i64 0] 91)) := below_alloc (below_alloc (Below.refl _ _) _) _
  have hS1 := hS.below BA (Nat.le_refl _)
  have hM1 := hM.below BA
  go_enter Tryd.func62, Tryd.ntmps62
  go_wp2_with fail
  refine (implParts_any x0 hs a _ hS1 hM1).mono ?_
  rintro e1 w1 ⟨rfl, hb1⟩
  rw [partsV_t hn]
  have R1 : RowIs w1 (w.heap.size + 1) 91 [.string ⟨#[]⟩, .int .i64 0, .int .i64 0] := by
    have h := (RowIs.new (w.alloc (.cells #[.string x0, .int .i64 x1, .string x2, .int .i64 x3] 54)) #[.string ⟨#[]⟩, .int .i64 0, .int .i64 0] 91).below hb1
    rwa [show (w.alloc (.cells #[.string x0, .int .i64 x1, .string x2, .int .i64 x3] 54)).heap.size = w.heap.size + 1 by simp] at h
  have z0 := (R1.set 0 (.string (catS x0))).cell (j := 0) rfl
  have z1 := ((R1.set 0 (.string (catS x0))).set 1 (.int .i64 1)).cell (j := 1) rfl
  have z2 := (((R1.set 0 (.string (catS x0))).set 1 (.int .i64 1)).set 2 (.int .i64 x3)).cell (j := 2) rfl
  have q4 : w.heap.size + 1 < w1.heap.size := by have := hb1.size; simp at this; omega
  obtain ⟨q1, q2, q3⟩ := bcell hb1
  go_wp2
  refine bodyPost_ret (v := .agg #[.string (catS x0), .int .i64 1, .int .i64 x3]) (by simp [results, Tryd.results62, go_sem, z0, z1, z2]) rfl ⟨rfl, ?_⟩
  exact (by repeat' (first | (with_reducible exact Below.refl _ _) | (with_reducible assumption) | (with_reducible refine below_step (by assumption) ?_) | (with_reducible refine below_alloc ?_ _) | (with_reducible refine Below.drew ?_) | (with_reducible refine below_drewN ?_ _) | (with_reducible refine Below.setCell ?_ ?_ _) | go_size))

set_option maxHeartbeats 6400000 in
theorem specAdd_any (gA n c : Nat) (xs : List Tot) (hn : n ≤ 1048576) (hx : xs.length = n) (hox : ∀ x ∈ xs, totalOk x) (x0 : ByteArray) (x1 : Int) (x2 : ByteArray) (x3 : Int) (hs : enS (x0, x1, x2, x3)) (w : World)
    (hL : Lies w 3 (some ⟨gA, 0, none⟩) n (xs.flatMap totalCells)) :
    Calls Tryd.prog 24 #[.slice (some ⟨gA, 0, none⟩) n c, .agg #[.string x0, .int .i64 x1, .string x2, .int .i64 x3]] w fun e w' => ∃ g k cap, e = .returned (.tuple #[.slice (some ⟨g, 0, none⟩) k cap, .bool (addB xs (x0, x1, x2, x3))]) ∧ (addT xs (x0, x1, x2, x3)).length = k ∧ k ≤ 24 ∧ w'.ownsRow w.heap.size 91 3 (.slice (some ⟨g, 0, none⟩) k cap) k ((addT xs (x0, x1, x2, x3)).flatMap totalCells) ∧ Below w.heap.size w w' := by
  obtain ⟨x, hxx⟩ : ∃ x : EnT, x = (x0, x1, x2, x3) := ⟨_, rfl⟩
  have HX := Lib.hid hx
  have HL := Lib.hid hL
  have HOX := Lib.hid hox
  have HXX := Lib.hid hxx
  have hs0 : x0.size ≤ 1048576 := hs.1
  have hs2 : StrOk x2 := by have h : x2.size ≤ 1048576 := hs.2; unfold StrOk maxLen; omega
  have BA : Below w.heap.size w (w.alloc (.cells #[.string x0, .int .i64 x1, .string x2, .int .i64 x3] 54)) := below_alloc (Below.refl _ _) _
  rw [← hxx]
  clear hx hL hox hxx
  cases E1 : totalsB xs
  · have HE := Lib.hid (show addB xs x = false by unfold addB; rw [E1]; rfl)
    go_enter Tryd.func24, Tryd.ntmps24
    go_wp2_with fail
    refine (specTotals_any _ _ _ xs hn HX.out HOX.out _ (HL.out.below BA)).mono ?_
    rintro e1 w1 ⟨rfl, hb1⟩
    rw [E1]
    have m0 := box_cell hb1 (b := w.heap.size) (o := 0) (u := .string x0) (by go_cell)
    go_wp2
    go_ret2
    exact ⟨_, 0, 0, by rw [HE.out]; rfl, by rw [addT_f HE.out]; rfl, by omega, by rw [addT_f HE.out]; exact owns_nil' _ _ rfl (by have := hb1.size; simp at this; omega), (by repeat' (first | (with_reducible exact Below.refl _ _) | (with_reducible assumption) | (with_reducible refine below_step (by assumption) ?_) | (with_reducible refine below_alloc ?_ _) | (with_reducible refine Below.drew ?_) | (with_reducible refine below_drewN ?_ _) | (with_reducible refine Below.setCell ?_ ?_ _) | go_size))⟩
  cases E2 : nameB x0
  · have HE := Lib.hid (show addB xs x = false by unfold addB entB; rw [HXX.out]; simp only [E1, E2]; rfl)
    go_enter Tryd.func24, Tryd.ntmps24
    go_wp2_with fail
    refine (specTotals_any _ _ _ xs hn HX.out HOX.out _ (HL.out.below BA)).mono ?_
    rintro e1 w1 ⟨rfl, hb1⟩
    rw [E1]
    have m0 := box_cell hb1 (b := w.heap.size) (o := 0) (u := .string x0) (by go_cell)
    have m1 := box_cell hb1 (b := w.heap.size) (o := 1) (u := .int .i64 x1) (by go_cell)
    have m2 := box_cell hb1 (b := w.heap.size) (o := 2) (u := .string x2) (by go_cell)
    have m3 := box_cell hb1 (b := w.heap.size) (o := 3) (u := .int .i64 x3) (by go_cell)
    go_wp2_with fail
    refine (specNameValid_any x0 hs0 _).mono ?_
    rintro e2 w2 ⟨rfl, hb2⟩
    rw [E2]
    have m1 := box_cell hb2 m1
    have m2 := box_cell hb2 m2
    have m3 := box_cell hb2 m3
    go_wp2
    go_ret2
    exact ⟨_, 0, 0, by rw [HE.out]; rfl, by rw [addT_f HE.out]; rfl, by omega, by rw [addT_f HE.out]; exact owns_nil' _ _ rfl (by have := hb1.size; have := hb2.size; simp at *; omega), (by repeat' (first | (with_reducible exact Below.refl _ _) | (with_reducible assumption) | (with_reducible refine below_step (by assumption) ?_) | (with_reducible refine below_alloc ?_ _) | (with_reducible refine Below.drew ?_) | (with_reducible refine below_drewN ?_ _) | (with_reducible refine Below.setCell ?_ ?_ _) | go_size))⟩
  cases E3 : eventB x1 x2 x3
  · have HE := Lib.hid (show addB xs x = false by unfold addB entB evOk; rw [HXX.out]; simp only [E1, E2, E3]; rfl)
    go_enter Tryd.func24, Tryd.ntmps24
    go_wp2_with fail
    refine (specTotals_any _ _ _ xs hn HX.out HOX.out _ (HL.out.below BA)).mono ?_
    rintro e1 w1 ⟨rfl, hb1⟩
    rw [E1]
    have m0 := box_cell hb1 (b := w.heap.size) (o := 0) (u := .string x0) (by go_cell)
    have m1 := box_cell hb1 (b := w.heap.size) (o := 1) (u := .int .i64 x1) (by go_cell)
    have m2 := box_cell hb1 (b := w.heap.size) (o := 2) (u := .string x2) (by go_cell)
    have m3 := box_cell hb1 (b := w.heap.size) (o := 3) (u := .int .i64 x3) (by go_cell)
    go_wp2_with fail
    refine (specNameValid_any x0 hs0 _).mono ?_
    rintro e2 w2 ⟨rfl, hb2⟩
    rw [E2]
    have m1 := box_cell hb2 m1
    have m2 := box_cell hb2 m2
    have m3 := box_cell hb2 m3
    go_wp2_with fail
    refine (specEvent_any x1 x2 x3 hs2 _).mono ?_
    rintro e3 w3 ⟨rfl, hb3⟩
    rw [E3]
    go_wp2
    go_ret2
    exact ⟨_, 0, 0, by rw [HE.out]; rfl, by rw [addT_f HE.out]; rfl, by omega, by rw [addT_f HE.out]; exact owns_nil' _ _ rfl (by have := hb1.size; have := hb2.size; have := hb3.size; simp at *; omega), (by repeat' (first | (with_reducible exact Below.refl _ _) | (with_reducible assumption) | (with_reducible refine below_step (by assumption) ?_) | (with_reducible refine below_alloc ?_ _) | (with_reducible refine Below.drew ?_) | (with_reducible refine below_drewN ?_ _) | (with_reducible refine Below.setCell ?_ ?_ _) | go_size))⟩
  have HEN := Lib.hid (show entB x = true by rw [HXX.out]; exact ent_of E2 E3)
  have HTE := Lib.hid (show totE x = (catS x0, 1, x3) by rw [HXX.out]; rfl)
  have HV := Lib.hid (show addB xs x = totalsB (putT (totE x) xs) by unfold addB; rw [E1, HEN.out]; rfl)
  have HPE := Lib.hid (putT_end (totE x) (totals_parts E1).2.2)
  have HPM := Lib.hid (putT_merge (totE x) (totals_parts E1).2.2)
  have hn24 : n ≤ 24 := by have := (totals_parts E1).1; have := HX.out; omega
  have HOE := Lib.hid (show totalOk (totE x) by
    have := totE_bounds HEN.out
    refine ⟨?_, ?_, ?_⟩
    · have h := catS_size x0
      rw [HTE.out]; show (catS x0).size ≤ maxLen; unfold maxLen; omega
    · unfold IntOk; omega
    · unfold IntOk; omega)
  have HMO := Lib.hid (join_ok HOX.out (ys := [totE x]) (fun y hy => by rw [List.mem_singleton.1 hy]; exact HOE.out) E1 (totE_one HEN.out))
  have HML := Lib.hid (mergeT_length _ xs [totE x] (Nat.le_refl _))
  rw [← HPM.out] at HMO HML
  have HSE := Lib.hid (totE_small HEN.out)
  rw [HTE.out] at HSE
  have hhy : 0 ≤ hyp x0 := name_hyp E2
  cases E4 : totalsB (putT (totE x) xs)
  all_goals
    go_enter Tryd.func24, Tryd.ntmps24
    go_wp2_with fail
    refine (specTotals_any _ _ _ xs hn HX.out HOX.out _ (HL.out.below BA)).mono ?_
    rintro e1 w1 ⟨rfl, hb1⟩
    rw [E1]
    have m0 := box_cell hb1 (b := w.heap.size) (o := 0) (u := .string x0) (by go_cell)
    have m1 := box_cell hb1 (b := w.heap.size) (o := 1) (u := .int .i64 x1) (by go_cell)
    have m2 := box_cell hb1 (b := w.heap.size) (o := 2) (u := .string x2) (by go_cell)
    have m3 := box_cell hb1 (b := w.heap.size) (o := 3) (u := .int .i64 x3) (by go_cell)
    go_wp2_with fail
    refine (specNameValid_any x0 hs0 _).mono ?_
    rintro e2 w2 ⟨rfl, hb2⟩
    rw [E2]
    have m0 := box_cell hb2 m0
    have m1 := box_cell hb2 m1
    have m2 := box_cell hb2 m2
    have m3 := box_cell hb2 m3
    go_wp2_with fail
    refine (specEvent_any x1 x2 x3 hs2 _).mono ?_
    rintro e3 w3 ⟨rfl, hb3⟩
    rw [E3]
    have m0 := box_cell hb3 m0
    have m1 := box_cell hb3 m1
    have m2 := box_cell hb3 m2
    have m3 := box_cell hb3 m3
    have B3 : Below w.heap.size w w3 := (by repeat' (first | (with_reducible exact Below.refl _ _) | (with_reducible assumption) | (with_reducible refine below_step (by assumption) ?_) | (with_reducible refine below_alloc ?_ _) | (with_reducible refine Below.drew ?_) | (with_reducible refine below_drewN ?_ _) | (with_reducible refine Below.setCell ?_ ?_ _) | go_size))
    go_wp2_with fail
    refine (l16Of_any x0 x1 x2 x3 hs0 hhy _).mono ?_
    rintro e4 w4 ⟨rfl, hb4⟩
    have B4 : Below w.heap.size w w4 := below_step hb4 B3
    go_wp2_with fail
    refine (l16Put_any gA 0 n c xs (by omega) HX.out (catS x0) 1 x3 (totals_small E1) HSE.out _ (HL.out.below B4)).mono ?_
    rintro e5 w5 ⟨g, k, cap, rfl, hk, ho, hb5⟩
    rw [← HTE.out, HPE.out] at hk ho
    have HO := Lib.hid ho
    have HK := Lib.hid hk
    have hk24 : k ≤ 1048576 := by have h1 := HK.out; have h2 := HML.out; simp at h2; have := HX.out; omega
    clear ho hk
    have B5 : Below w.heap.size w w5 := below_step hb5 B4
    go_wp2_with fail
    refine (specTotals_any _ _ _ (putT (totE x) xs) hk24 HK.out HMO.out _ (lies_of_own HO.out)).mono ?_
    rintro e6 w6 ⟨rfl, hb6⟩
    rw [E4]
    have HO6 := Lib.hid (ownsRow_base (owns_below HO.out hb6) B4.size)
    have B6 : Below w.heap.size w w6 := below_step hb6 B5
    go_wp2
    go_ret2
  · have HE := HV.out.trans E4
    exact ⟨_, 0, 0, by rw [HE]; rfl, by rw [addT_f HE]; rfl, by omega, by rw [addT_f HE]; exact owns_nil' _ _ rfl B6.size, (by repeat' (first | (with_reducible exact Below.refl _ _) | (with_reducible assumption) | (with_reducible refine below_step (by assumption) ?_) | (with_reducible refine below_alloc ?_ _) | (with_reducible refine Below.drew ?_) | (with_reducible refine below_drewN ?_ _) | (with_reducible refine Below.setCell ?_ ?_ _) | go_size))⟩
  · have HE := HV.out.trans E4
    exact ⟨g, k, cap, by rw [HE]; rfl, by rw [addT_t HE]; exact HK.out, by have := (totals_parts E4).1; have h1 := HK.out; omega, by rw [addT_t HE]; exact HO6.out, B6⟩

set_option maxHeartbeats 6400000 in
theorem implAdd_any (gA n c : Nat) (xs : List Tot) (hn : n ≤ 1048576) (hx : xs.length = n) (hnc : n ≤ c) (hox : ∀ x ∈ xs, totalOk x) (x0 : ByteArray) (x1 : Int) (x2 : ByteArray) (x3 : Int) (hs : enS (x0, x1, x2, x3)) (w : World) (a : Addr) (hS : Sent a w) (hM : MaxL w)
    (hL : Lies w 3 (some ⟨gA, 0, none⟩) n (xs.flatMap totalCells)) :
    Calls Tryd.prog 27 #[.slice (some ⟨gA, 0, none⟩) n c, .agg #[.string x0, .int .i64 x1, .string x2, .int .i64 x3]] w fun e w' => ∃ g k cap, e = .returned (.tuple #[.slice (some ⟨g, 0, none⟩) k cap, .bool (addB xs (x0, x1, x2, x3))]) ∧ (addT xs (x0, x1, x2, x3)).length = k ∧ k ≤ 24 ∧ w'.ownsRow w.heap.size 91 3 (.slice (some ⟨g, 0, none⟩) k cap) k ((addT xs (x0, x1, x2, x3)).flatMap totalCells) ∧ Below w.heap.size w w' := by
  obtain ⟨x, hxx⟩ : ∃ x : EnT, x = (x0, x1, x2, x3) := ⟨_, rfl⟩
  have HX := Lib.hid hx
  have HL := Lib.hid hL
  have HOX := Lib.hid hox
  have HXX := Lib.hid hxx
  have hs0 : x0.size ≤ 1048576 := hs.1
  have hs2 : x2.size ≤ 1048576 := hs.2
  have BA : Below w.heap.size w (w.alloc (.cells #[.string x0, .int .i64 x1, .string x2, .int .i64 x3] 54)) := below_alloc (Below.refl _ _) _
  rw [← hxx]
  clear hx hL hox
  cases E1 : totalsB xs
  · have HE := Lib.hid (show addB xs x = false by unfold addB; rw [E1]; rfl)
    clear hxx
    go_enter Tryd.func27, Tryd.ntmps27
    go_wp2_with fail
    refine (implTotals_any _ _ _ xs hn HX.out HOX.out _ (HL.out.below BA)).mono ?_
    rintro e1 w1 ⟨rfl, hb1⟩
    rw [E1]
    go_wp2
    go_ret2
    exact ⟨_, 0, 0, by rw [HE.out]; rfl, by rw [addT_f HE.out]; rfl, by omega, by rw [addT_f HE.out]; exact owns_nil' _ _ rfl (by have := hb1.size; simp at this; omega), (by repeat' (first | (with_reducible exact Below.refl _ _) | (with_reducible assumption) | (with_reducible refine below_step (by assumption) ?_) | (with_reducible refine below_alloc ?_ _) | (with_reducible refine Below.drew ?_) | (with_reducible refine below_drewN ?_ _) | (with_reducible refine Below.setCell ?_ ?_ _) | go_size))⟩
  cases E2 : entB (x0, x1, x2, x3)
  · have HE := Lib.hid (show addB xs x = false by unfold addB; rw [hxx, E1, E2]; rfl)
    clear hxx
    go_enter Tryd.func27, Tryd.ntmps27
    go_wp2_with fail
    refine (implTotals_any _ _ _ xs hn HX.out HOX.out _ (HL.out.below BA)).mono ?_
    rintro e1 w1 ⟨rfl, hb1⟩
    rw [E1]
    have m0 := box_cell hb1 (b := w.heap.size) (o := 0) (u := .string x0) (by go_cell)
    have m1 := box_cell hb1 (b := w.heap.size) (o := 1) (u := .int .i64 x1) (by go_cell)
    have m2 := box_cell hb1 (b := w.heap.size) (o := 2) (u := .string x2) (by go_cell)
    have m3 := box_cell hb1 (b := w.heap.size) (o := 3) (u := .int .i64 x3) (by go_cell)
    have B1 : Below w.heap.size w w1 := (by repeat' (first | (with_reducible exact Below.refl _ _) | (with_reducible assumption) | (with_reducible refine below_step (by assumption) ?_) | (with_reducible refine below_alloc ?_ _) | (with_reducible refine Below.drew ?_) | (with_reducible refine below_drewN ?_ _) | (with_reducible refine Below.setCell ?_ ?_ _) | go_size))
    go_wp2_with fail
    refine (entryValid_any x0 x1 x2 x3 hs0 hs2 a _ (hS.below B1 (Nat.le_refl _)) (hM.below B1)).mono ?_
    rintro e2 w2 ⟨rfl, hb2⟩
    rw [E2]
    go_wp2
    go_ret2
    exact ⟨_, 0, 0, by rw [HE.out]; rfl, by rw [addT_f HE.out]; rfl, by omega, by rw [addT_f HE.out]; exact owns_nil' _ _ rfl (by have := B1.size; have := hb2.size; omega), (by repeat' (first | (with_reducible exact Below.refl _ _) | (with_reducible assumption) | (with_reducible refine below_step (by assumption) ?_) | (with_reducible refine below_alloc ?_ _) | (with_reducible refine Below.drew ?_) | (with_reducible refine below_drewN ?_ _) | (with_reducible refine Below.setCell ?_ ?_ _) | go_size))⟩
  have HEN := Lib.hid (show entB x = true by rw [hxx]; exact E2)
  have HTE := Lib.hid (show totE x = (catS x0, 1, x3) by rw [hxx]; rfl)
  obtain ⟨hj1, hj2⟩ := add_join E1 HEN.out
  have HJ1 := Lib.hid hj1
  have HJ2 := Lib.hid hj2
  have HOE := Lib.hid (show totalOk (totE x) by
    have := totE_bounds HEN.out
    refine ⟨?_, ?_, ?_⟩
    · have h := catS_size x0
      rw [HTE.out]; show (catS x0).size ≤ maxLen; unfold maxLen; omega
    · unfold IntOk; omega
    · unfold IntOk; omega)
  have hnm : nameB x0 = true := (ent_parts E2).1
  clear hj1 hj2 hxx
  go_enter Tryd.func27, Tryd.ntmps27
  go_wp2_with fail
  refine (implTotals_any _ _ _ xs hn HX.out HOX.out _ (HL.out.below BA)).mono ?_
  rintro e1 w1 ⟨rfl, hb1⟩
  rw [E1]
  have m0 := box_cell hb1 (b := w.heap.size) (o := 0) (u := .string x0) (by go_cell)
  have m1 := box_cell hb1 (b := w.heap.size) (o := 1) (u := .int .i64 x1) (by go_cell)
  have m2 := box_cell hb1 (b := w.heap.size) (o := 2) (u := .string x2) (by go_cell)
  have m3 := box_cell hb1 (b := w.heap.size) (o := 3) (u := .int .i64 x3) (by go_cell)
  have B1 : Below w.heap.size w w1 := (by repeat' (first | (with_reducible exact Below.refl _ _) | (with_reducible assumption) | (with_reducible refine below_step (by assumption) ?_) | (with_reducible refine below_alloc ?_ _) | (with_reducible refine Below.drew ?_) | (with_reducible refine below_drewN ?_ _) | (with_reducible refine Below.setCell ?_ ?_ _) | go_size))
  go_wp2_with fail
  refine (entryValid_any x0 x1 x2 x3 hs0 hs2 a _ (hS.below B1 (Nat.le_refl _)) (hM.below B1)).mono ?_
  rintro e2 w2 ⟨rfl, hb2⟩
  rw [E2]
  have m0 := box_cell hb2 m0
  have m1 := box_cell hb2 m1
  have m2 := box_cell hb2 m2
  have m3 := box_cell hb2 m3
  have B2 : Below w.heap.size w w2 := below_step hb2 B1
  go_wp2_with fail
  refine (totalOf_any x0 x1 x2 x3 hs0 hnm _ a (hS.below B2 (Nat.le_refl _)) (hM.below B2)).mono ?_
  rintro e3 w3 ⟨rfl, hb3⟩
  have B3 : Below w.heap.size w w3 := below_step hb3 B2
  have B4 : Below w.heap.size w (w3.alloc (.cells #[.string (catS x0), .int .i64 1, .int .i64 x3] 91)) := below_alloc B3 _
  have HL4 := Lib.hid (HL.out.below B4)
  go_wp2_with fail
  have HLT := Lib.hid (show Lies (w3.alloc (.cells #[.string (catS x0), .int .i64 1, .int .i64 x3] 91)) 3 (some ⟨w3.heap.size, 0, none⟩) 1 ([totE x].flatMap totalCells) by
    rw [HTE.out]
    exact lies_one w3 #[.string (catS x0), .int .i64 1, .int .i64 x3] _ 3 rfl)
  refine (implJoin_any gA 0 n c xs hn HX.out hnc w3.heap.size 0 1 1 [totE x] (by omega) rfl (by omega) HOX.out (fun y hy => by rw [List.mem_singleton.1 hy]; exact HOE.out) _ HL4.out HLT.out).mono ?_
  rintro e4 w4 ⟨g, k, cap, rfl, hk, hk24, ho, hb4⟩
  have HK := Lib.hid hk
  have HO := Lib.hid ho
  rw [HJ2.out] at HK HO
  clear hk ho
  have HO6 := Lib.hid (ownsRow_base HO.out B4.size)
  go_wp2
  go_ret2
  exact ⟨g, k, cap, by rw [HJ1.out]; rfl, HK.out, hk24, HO6.out, below_step hb4 B4⟩

theorem specAdd_at (lo hi : Nat) (v : Value) (xs : List Tot) (x : EnT) (hox : ∀ x ∈ xs, totalOk x) (hs : enS x) (w : World) (h : totalSAt w lo hi v xs) :
    Calls Tryd.prog 24 #[v, .agg #[.string x.1, .int .i64 x.2.1, .string x.2.2.1, .int .i64 x.2.2.2]] w fun e w' => ∃ v', e = .returned (.tuple #[v', .bool (addB xs x)]) ∧ totalSAt w' w.heap.size w'.heap.size v' (addT xs x) ∧ Below w.heap.size w w' := by
  obtain ⟨g, m, c, rfl, hx, hb, _, _, ho⟩ := h.open
  exact (specAdd_any _ _ _ xs hb hx hox x.1 x.2.1 x.2.2.1 x.2.2.2 hs w (lies_of_own ho)).mono fun _ _ ⟨_, _, _, he, hl, h8, hw, hB⟩ => ⟨_, he, totalSAt.made hl (by omega) hw, hB⟩
theorem implAdd_at (lo hi : Nat) (v : Value) (xs : List Tot) (x : EnT) (hox : ∀ x ∈ xs, totalOk x) (hs : enS x) (w : World) (a : Addr) (hS : Sent a w) (hM : MaxL w) (h : totalSAt w lo hi v xs) :
    Calls Tryd.prog 27 #[v, .agg #[.string x.1, .int .i64 x.2.1, .string x.2.2.1, .int .i64 x.2.2.2]] w fun e w' => ∃ v', e = .returned (.tuple #[v', .bool (addB xs x)]) ∧ totalSAt w' w.heap.size w'.heap.size v' (addT xs x) ∧ Below w.heap.size w w' := by
  obtain ⟨g, m, c, rfl, hx, hb, _, _, ho⟩ := h.open
  exact (implAdd_any _ _ _ xs hb hx (owns_cap ho).2 hox x.1 x.2.1 x.2.2.1 x.2.2.2 hs w a hS hM (lies_of_own ho)).mono fun _ _ ⟨_, _, _, he, hl, h8, hw, hB⟩ => ⟨_, he, totalSAt.made hl (by omega) hw, hB⟩
end Go.Proofs.YtodhmcgjnijllaaDoor
