/-
  TotalsJoin of the program and of the reference. No condition.
-/
import Derived.Test.YtodhmcgjnijllaaDoorPut16
namespace Go.Proofs.YtodhmcgjnijllaaDoor
open Go.ChangeShapes Go.WideShapes Go.ChangeAt Go.RowKit

theorem totals_parts {xs : List Tot} (h : totalsB xs = true) : xs.length ≤ 24 ∧ (∀ x ∈ xs, (1 ≤ x.2.1 ∧ x.2.1 ≤ 99) ∧ 0 ≤ x.2.2 ∧ x.2.2 ≤ 98901) ∧ AscT none xs := by
  unfold totalsB at h
  simp only [Bool.and_eq_true, decide_eq_true_eq] at h
  refine ⟨h.1, ?_, ascT_of h.2⟩
  have key : ∀ (ys : List Tot) (p : Option ByteArray), sortedBy totalB (fun x => x.1) p ys = true → ∀ x ∈ ys, totalB x = true := by
    intro ys
    induction ys with
    | nil => intro _ _ x hx; simp at hx
    | cons y ys ih =>
      intro p hs x hx
      rw [sortedBy] at hs
      simp only [Bool.and_eq_true] at hs
      rcases List.mem_cons.1 hx with rfl | hx
      · exact hs.1.1
      · exact ih _ hs.2 x hx
  intro x hx
  have hb := key xs none h.2 x hx
  unfold totalB at hb
  simp only [Bool.and_eq_true] at hb
  have h1 := inB_iff.1 hb.1.2
  have h2 := inB_iff.1 hb.2
  omega
theorem totals_small {xs : List Tot} (h : totalsB xs = true) : ∀ x ∈ xs, Small x := fun x hx => by
  have := (totals_parts h).2.1 x hx
  unfold Small; omega
theorem mergeT_asc : ∀ (n : Nat) (xs ys : List Tot) (p : Option ByteArray), xs.length + ys.length ≤ n → AscT p xs → AscT p ys → AscT p (mergeT xs ys) := by
  intro n
  induction n with
  | zero =>
    intro xs ys p h hx hy
    cases xs with
    | nil => rw [mergeT_nil_l]; exact hy
    | cons x xs => simp at h
  | succ n ih =>
    intro xs ys p h hx hy
    cases xs with
    | nil => rw [mergeT_nil_l]; exact hy
    | cons x xs =>
      cases ys with
      | nil => rw [mergeT_nil_r]; exact hx
      | cons y ys =>
        simp only [List.length_cons] at h
        obtain ⟨hx1, hx2⟩ := hx
        obtain ⟨hy1, hy2⟩ := hy
        cases h1 : ltS x.1 y.1
        · cases h2 : ltS y.1 x.1
          · have e := ltS_tri h1 h2
            rw [mergeT_eq _ _ h1 h2]
            exact ⟨hx1, ih xs ys (some x.1) (by omega) hx2 (by rw [e]; exact hy2)⟩
          · rw [mergeT_gt _ _ h1 h2]
            exact ⟨hy1, ih (x :: xs) ys (some y.1) (by simp only [List.length_cons]; omega) ⟨h2, hx2⟩ hy2⟩
        · rw [mergeT_lt _ _ h1]
          exact ⟨hx1, ih xs (y :: ys) (some x.1) (by simp only [List.length_cons]; omega) hx2 ⟨h1, hy2⟩⟩
theorem ascT_take : ∀ (ys : List Tot) (k : Nat) (p : Option ByteArray), AscT p ys → AscT p (ys.take k)
  | [], _, _, _ => by rw [List.take_nil]; trivial
  | y :: ys, 0, _, _ => trivial
  | y :: ys, k + 1, _, ⟨h1, h2⟩ => ⟨h1, ascT_take ys k _ h2⟩
def joinB (xs ys : List Tot) : Bool := totalsB xs && totalsB ys && totalsB (mergeT xs ys)
def joinT (xs ys : List Tot) : List Tot := if joinB xs ys then mergeT xs ys else []
theorem joinT_t {xs ys : List Tot} (h : joinB xs ys = true) : joinT xs ys = mergeT xs ys := by unfold joinT; rw [if_pos h]
theorem joinT_f {xs ys : List Tot} (h : joinB xs ys = false) : joinT xs ys = [] := by unfold joinT; rw [if_neg (by simp [h])]
theorem join_ok {xs ys : List Tot} (hx : ∀ x ∈ xs, totalOk x) (hy : ∀ y ∈ ys, totalOk y) (h1 : totalsB xs = true) (h2 : totalsB ys = true) : ∀ z ∈ mergeT xs ys, totalOk z :=
  mergeT_all _ xs ys (Nat.le_refl _) hx hy (fun x hx' y hy' => by
    have a := (totals_parts h1).2.1 x hx'
    have b := (totals_parts h2).2.1 y hy'
    exact ⟨(hx x hx').1, ⟨by show _ ≤ x.2.1 + y.2.1; omega, by show x.2.1 + y.2.1 ≤ _; omega⟩, ⟨by show _ ≤ x.2.2 + y.2.2; omega, by show x.2.2 + y.2.2 ≤ _; omega⟩⟩)
theorem join_small {xs ys : List Tot} (h1 : totalsB xs = true) (h2 : totalsB ys = true) (k : Nat) : ∀ z ∈ mergeT xs (ys.take k), Small z :=
  mergeT_all _ xs (ys.take k) (Nat.le_refl _) (totals_small h1) (fun y hy => totals_small h2 y (List.mem_of_mem_take hy)) (fun x hx y hy => by
    have a := (totals_parts h1).2.1 x hx
    have b := (totals_parts h2).2.1 y (List.mem_of_mem_take hy)
    exact ⟨⟨by show 0 ≤ x.2.1 + y.2.1; omega, by show x.2.1 + y.2.1 ≤ _; omega⟩, ⟨by show 0 ≤ x.2.2 + y.2.2; omega, by show x.2.2 + y.2.2 ≤ _; omega⟩⟩)
theorem merge_step {xs ys : List Tot} (h1 : totalsB xs = true) (h2 : totalsB ys = true) {k : Nat} {y : Tot} (hy : ys[k]? = some y) :
    putEnd y (putRun y (false, []) (mergeT xs (ys.take k))) = mergeT xs (ys.take (k + 1)) := by
  have ha := (totals_parts h1).2.2
  have hb := (totals_parts h2).2.2
  rw [putRun_end y _ [] none (mergeT_asc _ xs (ys.take k) none (Nat.le_refl _) ha (ascT_take ys k none hb)), List.nil_append]
  rw [← putAll_merge _ xs (ys.take k) none none (Nat.le_refl _) ha (ascT_take ys k none hb), ← putAll_merge _ xs (ys.take (k + 1)) none none (Nat.le_refl _) ha (ascT_take ys (k + 1) none hb)]
  rw [take_succ_of hy]
  unfold putAll
  rw [List.foldl_append]; rfl

theorem totalsJoined_any (gA oA n c : Nat) (xs : List Tot) (hn : n ≤ 24) (hx : xs.length = n) (hnc : n ≤ c) (gB oB m d : Nat) (ys : List Tot) (hm : m ≤ 24) (hy : ys.length = m) (hmd : m ≤ d) (hbx : ∀ x ∈ xs, Small x) (hby : ∀ y ∈ ys, Small y) (w : World)
    (hL : Lies w 3 (some ⟨gA, oA, none⟩) n (xs.flatMap totalCells)) (hM : Lies w 3 (some ⟨gB, oB, none⟩) m (ys.flatMap totalCells)) :
    Calls Tryd.prog 64 #[.slice (some ⟨gA, oA, none⟩) n c, .slice (some ⟨gB, oB, none⟩) m d] w fun e w' => ∃ g k cap, e = .returned (.slice (some ⟨g, 0, none⟩) k cap) ∧ (mergeT xs ys).length = k ∧ w'.ownsRow w.heap.size 91 3 (.slice (some ⟨g, 0, none⟩) k cap) k ((mergeT xs ys).flatMap totalCells) ∧ Below w.heap.size w w' := by
  have HX := Lib.hid hx
  have HY := Lib.hid hy
  have HL := Lib.hid hL
  have HM := Lib.hid hM
  have HBX := Lib.hid hbx
  have HBY := Lib.hid hby
  clear hx hy hL hM hbx hby
  go_enter Tryd.func64, Tryd.ntmps64
  go_wp2_with fail
  refine (joined_any gA oA n c xs hn HX.out hnc gB oB m d ys hm HY.out hmd HBX.out HBY.out _ HL.out HM.out).mono ?_
  rintro e1 w1 ⟨g, k, cap, rfl, hk, ho, hb⟩
  have HO := Lib.hid ho
  have HK := Lib.hid hk
  clear ho hk
  go_wp2
  go_ret
  exact ⟨g, k, cap, rfl, HK.out, HO.out, hb⟩

set_option maxHeartbeats 6400000 in
theorem implJoin_any (gA oA n c : Nat) (xs : List Tot) (hn : n ≤ 1048576) (hx : xs.length = n) (hnc : n ≤ c) (gB oB m d : Nat) (ys : List Tot) (hm : m ≤ 1048576) (hy : ys.length = m) (hmd : m ≤ d) (hox : ∀ x ∈ xs, totalOk x) (hoy : ∀ y ∈ ys, totalOk y) (w : World)
    (hL : Lies w 3 (some ⟨gA, oA, none⟩) n (xs.flatMap totalCells)) (hM : Lies w 3 (some ⟨gB, oB, none⟩) m (ys.flatMap totalCells)) :
    Calls Tryd.prog 61 #[.slice (some ⟨gA, oA, none⟩) n c, .slice (some ⟨gB, oB, none⟩) m d] w fun e w' => ∃ g k cap, e = .returned (.tuple #[.slice (some ⟨g, 0, none⟩) k cap, .bool (joinB xs ys)]) ∧ (joinT xs ys).length = k ∧ k ≤ 24 ∧ w'.ownsRow w.heap.size 91 3 (.slice (some ⟨g, 0, none⟩) k cap) k ((joinT xs ys).flatMap totalCells) ∧ Below w.heap.size w w' := by
  have HX := Lib.hid hx
  have HY := Lib.hid hy
  have HL := Lib.hid hL
  have HM := Lib.hid hM
  have HOX := Lib.hid hox
  have HOY := Lib.hid hoy
  clear hx hy hL hM hox hoy
  cases E1 : totalsB xs
  · have HE := Lib.hid (show joinB xs ys = false by unfold joinB; rw [E1]; rfl)
    go_enter Tryd.func61, Tryd.ntmps61
    go_wp2_with fail
    refine (implTotals_any _ _ _ xs hn HX.out HOX.out _ HL.out).mono ?_
    rintro e1 w1 ⟨rfl, hb1⟩
    rw [E1]
    go_wp2
    go_ret2
    exact ⟨_, 0, 0, by rw [HE.out]; rfl, by rw [joinT_f HE.out]; rfl, by omega, by rw [joinT_f HE.out]; exact owns_nil' _ _ rfl hb1.size, (by repeat' (first | (with_reducible exact Below.refl _ _) | (with_reducible assumption) | (with_reducible refine below_step (by assumption) ?_) | (with_reducible refine below_alloc ?_ _) | (with_reducible refine Below.drew ?_) | (with_reducible refine below_drewN ?_ _) | (with_reducible refine Below.setCell ?_ ?_ _) | go_size))⟩
  cases E2 : totalsB ys
  · have HE := Lib.hid (show joinB xs ys = false by unfold joinB; rw [E1, E2]; rfl)
    go_enter Tryd.func61, Tryd.ntmps61
    go_wp2_with fail
    refine (implTotals_any _ _ _ xs hn HX.out HOX.out _ HL.out).mono ?_
    rintro e1 w1 ⟨rfl, hb1⟩
    rw [E1]
    go_wp2_with fail
    refine (implTotals_any _ _ _ ys hm HY.out HOY.out _ (HM.out.below hb1)).mono ?_
    rintro e1 w2 ⟨rfl, hb2⟩
    rw [E2]
    have hB2 := below_step hb2 hb1
    go_wp2
    go_ret2
    exact ⟨_, 0, 0, by rw [HE.out]; rfl, by rw [joinT_f HE.out]; rfl, by omega, by rw [joinT_f HE.out]; exact owns_nil' _ _ rfl hB2.size, (by repeat' (first | (with_reducible exact Below.refl _ _) | (with_reducible assumption) | (with_reducible refine below_step (by assumption) ?_) | (with_reducible refine below_alloc ?_ _) | (with_reducible refine Below.drew ?_) | (with_reducible refine below_drewN ?_ _) | (with_reducible refine Below.setCell ?_ ?_ _) | go_size))⟩
  have HV := Lib.hid (show joinB xs ys = totalsB (mergeT xs ys) by unfold joinB; rw [E1, E2]; rfl)
  have p1 := (totals_parts E1).1
  have p2 := (totals_parts E2).1
  have q1 : n ≤ 24 := by have := HX.out; omega
  have q2 : m ≤ 24 := by have := HY.out; omega
  have HMO := Lib.hid (join_ok HOX.out HOY.out E1 E2)
  have HML := Lib.hid (mergeT_length _ xs ys (Nat.le_refl _))
  cases E3 : totalsB (mergeT xs ys)
  all_goals
    go_enter Tryd.func61, Tryd.ntmps61
    go_wp2_with fail
    refine (implTotals_any _ _ _ xs hn HX.out HOX.out _ HL.out).mono ?_
    rintro e1 w1 ⟨rfl, hb1⟩
    rw [E1]
    go_wp2_with fail
    refine (implTotals_any _ _ _ ys hm HY.out HOY.out _ (HM.out.below hb1)).mono ?_
    rintro e1 w2 ⟨rfl, hb2⟩
    rw [E2]
    have hB2 := below_step hb2 hb1
    go_wp2_with fail
    refine (totalsJoined_any gA oA n c xs q1 HX.out hnc gB oB m d ys q2 HY.out hmd (totals_small E1) (totals_small E2) _ (HL.out.below hB2) (HM.out.below hB2)).mono ?_
    rintro e1 w3 ⟨g, k, cap, rfl, hk, ho, hb3⟩
    have HO := Lib.hid ho
    have HK := Lib.hid hk
    have hk48 : k ≤ 1048576 := by have h1 := HK.out; have h2 := HML.out; omega
    clear ho hk
    go_wp2_with fail
    refine (implTotals_any _ _ _ (mergeT xs ys) hk48 HK.out HMO.out _ (lies_of_own HO.out)).mono ?_
    rintro e1 w4 ⟨rfl, hb4⟩
    rw [E3]
    have HO4 := Lib.hid (ownsRow_base (owns_below HO.out hb4) hB2.size)
    have hB4 : Below w.heap.size w w4 := below_step hb4 (below_step hb3 hB2)
    go_wp2
    go_ret2
  · have HE := HV.out.trans E3
    exact ⟨_, 0, 0, by rw [HE]; rfl, by rw [joinT_f HE]; rfl, by omega, by rw [joinT_f HE]; exact owns_nil' _ _ rfl hB4.size, (by repeat' (first | (with_reducible exact Below.refl _ _) | (with_reducible assumption) | (with_reducible refine below_step (by assumption) ?_) | (with_reducible refine below_alloc ?_ _) | (with_reducible refine Below.drew ?_) | (with_reducible refine below_drewN ?_ _) | (with_reducible refine Below.setCell ?_ ?_ _) | go_size))⟩
  · have HE := HV.out.trans E3
    exact ⟨g, k, cap, by rw [HE]; rfl, by rw [joinT_t HE]; exact HK.out, by have := (totals_parts E3).1; have h1 := HK.out; omega, by rw [joinT_t HE]; exact HO4.out, hB4⟩

theorem implJoin_at (lo hi lo' hi' : Nat) (v u : Value) (xs ys : List Tot) (w : World) (hox : ∀ x ∈ xs, totalOk x) (hoy : ∀ y ∈ ys, totalOk y) (h : totalSAt w lo hi v xs) (k : totalSAt w lo' hi' u ys) :
    Calls Tryd.prog 61 #[v, u] w fun e w' => ∃ v', e = .returned (.tuple #[v', .bool (joinB xs ys)]) ∧ totalSAt w' w.heap.size w'.heap.size v' (joinT xs ys) ∧ Below w.heap.size w w' := by
  obtain ⟨g, m, c, rfl, hx, hb, _, _, ho⟩ := h.open
  obtain ⟨g', m', c', rfl, hx', hb', _, _, ho'⟩ := k.open
  exact (implJoin_any _ _ _ _ xs hb hx (owns_cap ho).2 _ _ _ _ ys hb' hx' (owns_cap ho').2 hox hoy w (lies_of_own ho) (lies_of_own ho')).mono fun _ _ ⟨_, _, _, he, hl, h8, hw, hB⟩ => ⟨_, he, totalSAt.made hl (by omega) hw, hB⟩
end Go.Proofs.YtodhmcgjnijllaaDoor
