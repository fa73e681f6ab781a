/-
  CutsRead of the reference and of the program. No condition beyond what the rows list.
-/
import Derived.Test.YtmkdmafffblmaaaDoorRead
import Derived.Test.YtmkdmafffblmaaaDoorCutFrom
import Derived.Test.YtmkdmafffblmaaaDoorKCut
namespace Go.Proofs.YtmkdmafffblmaaaDoor
open Go.ChangeShapes Go.WideShapes Go.ChangeAt Go.RowKit

def cutRead (xs : List EnT) (cs : List (ByteArray × Int)) (s : ByteArray) : List (Int × ByteArray × Int) := if storeB xs && cutsB cs && nameB s then (evOf s xs).drop (fromI cs s).toNat else []
theorem cutRead_le (xs : List EnT) (cs : List (ByteArray × Int)) (s : ByteArray) : (cutRead xs cs s).length ≤ xs.length := by
  unfold cutRead
  split
  · have := evOf_length s xs; simp; omega
  · simp
theorem cutRead_yes {xs : List EnT} {cs : List (ByteArray × Int)} {s : ByteArray} (h1 : storeB xs = true) (h2 : cutsB cs = true) (h3 : nameB s = true) : cutRead xs cs s = (evOf s xs).drop (fromI cs s).toNat := by unfold cutRead; rw [h1, h2, h3]; rfl
theorem cuts_from {cs : List (ByteArray × Int)} (h : cutsB cs = true) : cutsFrom none cs = true := by unfold cutsB at h; rw [Bool.and_eq_true] at h; exact h.2
theorem cutS_okL {left : Int} {n : Nat} {xs : List (ByteArray × Int)} (hl : left ≤ 1048576) (h : 0 ≤ szR left n (xs.flatMap cutTexts)) (hok : ∀ x ∈ xs, cutOk x) : ∀ x ∈ xs, cutSOk x := fun x hx => by
  refine ⟨(hok x hx).2, ?_⟩
  unfold szR at h
  split at h
  · omega
  · have := szT_mem _ _ (by omega) h x.1 (List.mem_flatMap.2 ⟨x, hx, by simp [cutTexts]⟩)
    omega
/-- The program reads a piece long enough. -/
theorem cutRead_read {xs : List EnT} {cs : List (ByteArray × Int)} {s : ByteArray} (h1 : storeB xs = true) (h2 : cutsB cs = true) (h3 : nameB s = true) : readL xs s (fromI cs s) 99 = cutRead xs cs s := by
  obtain ⟨b1, b2⟩ := from_small cs none s (cuts_from h2)
  rw [cutRead_yes h1 h2 h3, read_yes h1 h3 (inB_iff.2 ⟨b1, by omega⟩) (by decide)]
  have hl : xs.length ≤ 24 := by unfold storeB at h1; rw [Bool.and_eq_true] at h1; exact of_decide_eq_true h1.1
  have := evOf_length s xs
  show ((evOf s xs).drop _).take 99 = _
  exact List.take_of_length_le (by simp; omega)

set_option maxHeartbeats 6400000 in
theorem specCutRead_any (A B : Option Addr) (n c m d : Nat) (xs : List EnT) (cs : List (ByteArray × Int)) (s : ByteArray) (hn : n ≤ 1048576) (hx : xs.length = n) (hok : StOk xs) (hm : m ≤ 1048576) (hy : cs.length = m) (hkc : ∀ x ∈ cs, cutSOk x) (hs : s.size ≤ 1048576) (w : World) (hL : Lies w 4 A n (xs.flatMap entryCells)) (hC : Lies w 2 B m (cs.flatMap cutCells)) :
    Calls Tryd.prog 19 #[.slice A n c, .slice B m d, .string s] w fun e w' => ∃ g m c', e = .returned (.slice (some ⟨g, 0, none⟩) m c') ∧ (cutRead xs cs s).length = m ∧ w'.ownsRow w.heap.size 50 3 (.slice (some ⟨g, 0, none⟩) m c') m ((cutRead xs cs s).flatMap eventCells) ∧ Below w.heap.size w w' := by
  have HX := Lib.hid hx
  have HL := Lib.hid hL
  have HY := Lib.hid hy
  have HC := Lib.hid hC
  have HK := Lib.hid hkc
  clear hx hL hy hC hkc
  cases E1 : storeB xs
  · have HE := Lib.hid (show cutRead xs cs s = [] by unfold cutRead; rw [E1]; rfl)
    go_enter Tryd.func19, Tryd.ntmps19
    go_wp2_with fail
    refine (specStore_any A n c xs hn HX.out hok.small _ HL.out).mono ?_
    rintro e1 w1 ⟨rfl, hb1⟩
    rw [E1]
    go_wp2
    go_ret
    exact ⟨_, 0, 0, rfl, by rw [HE.out]; rfl, by rw [HE.out]; exact owns_nil' _ _ rfl (by have := hb1.size; omega), (by repeat' (first | (with_reducible exact Below.refl _ _) | (with_reducible assumption) | (with_reducible refine below_step (by assumption) ?_) | (with_reducible refine below_alloc ?_ _) | (with_reducible refine Below.drew ?_) | (with_reducible refine below_drewN ?_ _) | (with_reducible refine Below.setCell ?_ ?_ _) | go_size))⟩
  cases E2 : cutsB cs
  · have HE := Lib.hid (show cutRead xs cs s = [] by unfold cutRead; rw [E1, E2]; rfl)
    go_enter Tryd.func19, Tryd.ntmps19
    go_wp2_with fail
    refine (specStore_any A n c xs hn HX.out hok.small _ HL.out).mono ?_
    rintro e1 w1 ⟨rfl, hb1⟩
    rw [E1]
    go_wp2_with fail
    refine (specCuts_any B m d cs hm HY.out HK.out _ (HC.out.below hb1)).mono ?_
    rintro e2 w2 ⟨rfl, hb2⟩
    rw [E2]
    go_wp2
    go_ret
    exact ⟨_, 0, 0, rfl, by rw [HE.out]; rfl, by rw [HE.out]; exact owns_nil' _ _ rfl (by have := hb1.size; have := hb2.size; omega), (by repeat' (first | (with_reducible exact Below.refl _ _) | (with_reducible assumption) | (with_reducible refine below_step (by assumption) ?_) | (with_reducible refine below_alloc ?_ _) | (with_reducible refine Below.drew ?_) | (with_reducible refine below_drewN ?_ _) | (with_reducible refine Below.setCell ?_ ?_ _) | go_size))⟩
  cases E3 : nameB s
  · have HE := Lib.hid (show cutRead xs cs s = [] by unfold cutRead; rw [E1, E2, E3]; rfl)
    go_enter Tryd.func19, Tryd.ntmps19
    go_wp2_with fail
    refine (specStore_any A n c xs hn HX.out hok.small _ HL.out).mono ?_
    rintro e1 w1 ⟨rfl, hb1⟩
    rw [E1]
    go_wp2_with fail
    refine (specCuts_any B m d cs hm HY.out HK.out _ (HC.out.below hb1)).mono ?_
    rintro e2 w2 ⟨rfl, hb2⟩
    rw [E2]
    go_wp2_with fail
    refine (specNameValid_any s hs _).mono ?_
    rintro e3 w3 ⟨rfl, hb3⟩
    rw [E3]
    go_wp2
    go_ret
    exact ⟨_, 0, 0, rfl, by rw [HE.out]; rfl, by rw [HE.out]; exact owns_nil' _ _ rfl (by have := hb1.size; have := hb2.size; have := hb3.size; omega), (by repeat' (first | (with_reducible exact Below.refl _ _) | (with_reducible assumption) | (with_reducible refine below_step (by assumption) ?_) | (with_reducible refine below_alloc ?_ _) | (with_reducible refine Below.drew ?_) | (with_reducible refine below_drewN ?_ _) | (with_reducible refine Below.setCell ?_ ?_ _) | go_size))⟩
  have HE0 := Lib.hid (cutRead_yes E1 E2 E3)
  have hfs := from_small cs none s (cuts_from E2)
  go_enter Tryd.func19, Tryd.ntmps19
  go_wp2_with fail
  refine (specStore_any A n c xs hn HX.out hok.small _ HL.out).mono ?_
  rintro e1 w1 ⟨rfl, hb1⟩
  rw [E1]
  go_wp2_with fail
  refine (specCuts_any B m d cs hm HY.out HK.out _ (HC.out.below hb1)).mono ?_
  rintro e2 w2 ⟨rfl, hb2⟩
  rw [E2]
  go_wp2_with fail
  refine (specNameValid_any s hs _).mono ?_
  rintro e3 w3 ⟨rfl, hb3⟩
  rw [E3]
  have B3 : Below w.heap.size w w3 := (by repeat' (first | (with_reducible exact Below.refl _ _) | (with_reducible assumption) | (with_reducible refine below_step (by assumption) ?_) | (with_reducible refine below_alloc ?_ _) | (with_reducible refine Below.drew ?_) | (with_reducible refine below_drewN ?_ _) | (with_reducible refine Below.setCell ?_ ?_ _) | go_size))
  have HL3 := Lib.hid (HL.out.below B3)
  have HC3 := Lib.hid (HC.out.below B3)
  go_wp2_with fail
  refine (l4Events_any A n c xs s hn HX.out _ HL3.out).mono ?_
  rintro e4 w4 ⟨ga, n2, c2, rfl, hn2, hEv, hb4⟩
  have B4 : Below w.heap.size w w4 := below_step hb4 B3
  have HM := Lib.hid hn2
  have hnb : n2 ≤ 1048576 := by have := evOf_length s xs; have := HX.out; omega
  have hcap : n2 ≤ c2 := by
    rcases hEv.2 with ⟨q, _⟩ | ⟨g', c', cur, q, _, _, hc, _⟩
    · cases q
    · cases q; exact hc
  have HEv := Lib.hid hEv
  have HC4 := Lib.hid (HC.out.below B4)
  obtain ⟨f, hf⟩ := Int.eq_ofNat_of_zero_le hfs.1
  have HF := Lib.hid hf
  have hf24 : f ≤ 24 := by have := hfs.2; omega
  obtain ⟨t, ht⟩ : ∃ t, t = min f n2 := ⟨_, rfl⟩
  have m1 : (if (n2 : Int) < (f : Int) then (n2 : Int) else (f : Int)) = (t : Int) := by rw [ht]; split <;> omega
  have m3 : min (f : Int) (n2 : Int) = (t : Int) := by rw [ht]; omega
  have htn : t ≤ n2 := by omega
  have htc : t ≤ c2 := by omega
  have HE := Lib.hid (show cutRead xs cs s = ((evOf s xs).drop t).take (n2 - t) by
    rw [HE0.out, HF.out]
    show (evOf s xs).drop f = _
    have := HM.out
    rw [List.take_of_length_le (by simp; omega)]
    by_cases hh : f ≤ n2
    · rw [ht, Nat.min_eq_left hh]
    · rw [ht, Nat.min_eq_right (by omega), List.drop_of_length_le (by omega), List.drop_of_length_le (by omega)])
  have HLN := Lib.hid (show (cutRead xs cs s).length = n2 - t by rw [HE.out]; have := HM.out; simp; omega)
  obtain ⟨o', mA, HLP⟩ : ∃ o', (if c2 = t then (some ⟨ga, 0, none⟩ : Option Addr) else some ⟨ga, t * 3, none⟩) = some ⟨ga, o', none⟩ ∧ Hid (Lies w4 3 (some ⟨ga, o', none⟩) (n2 - t) (((evOf s xs).drop t).take (n2 - t) |>.flatMap eventCells)) := by
    have h := lies_piece (f := eventCells) (K := 3) (fun x => rfl) HM.out (lies_of_own HEv.out) t (n2 - t) (by omega)
    by_cases hc : c2 = t
    · refine ⟨0, by rw [if_pos hc], Lib.hid ⟨h.1, fun h0 => ?_⟩⟩
      omega
    · exact ⟨_, by rw [if_neg hc], Lib.hid (by simpa using h)⟩
  have H1 := Lib.hid (show ∀ u ∈ ((((evOf s xs).drop t).take (n2 - t)).flatMap eventCells), u.oneCell' = true by
    intro u hu
    obtain ⟨x, _, hx⟩ := List.mem_flatMap.1 hu
    simp only [eventCells, List.mem_cons, List.not_mem_nil, or_false] at hx
    rcases hx with rfl | rfl | rfl <;> rfl)
  clear hEv hn2 hf ht hfs
  have hB4s := B4.size
  go_wp2_with fail
  have HA := Lib.hid (HC4.out.below (below_alloc (Below.refl w4.heap.size w4) (.cells #[] 50)))
  refine (specFrom_any B m d cs s hm HY.out _ HA.out).mono ?_
  rintro e5 w5 ⟨rfl, hb5⟩
  rw [HF.out]
  have HNil := Lib.hid (owns_below (owns_nil w4 50 3) hb5)
  have B45 : Below w4.heap.size w4 w5 := below_step hb5 (below_alloc (Below.refl w4.heap.size w4) _)
  have HLQ := Lib.hid (HLP.out.below B45)
  have hz5 := B45.size
  clear HC3 HC4 HA HL3
  go_wp2_with (at_builtin; refine wpList_appS rfl _ _ 30 50 3 32 rowEvent rfl w4.heap.size w4.heap.size 0 0 [] HNil.out rfl ga o' (n2 - t) (c2 - t) _ rfl HLQ.out H1.out (by unfold maxLen; omega) (by omega) hz5 ?_; intro g cap w6 ho1 hg1; have ho2 : w6.ownsRow w4.heap.size 50 3 (.slice (some ⟨g, 0, none⟩) (n2 - t) cap) (n2 - t) (((evOf s xs).drop t).take (n2 - t) |>.flatMap eventCells) := (by simpa using ho1); have HO := Lib.hid ho2; have HG := Lib.hid hg1; clear ho1 ho2 hg1)
  go_ret
  exact ⟨g, n2 - t, cap, rfl, HLN.out, by rw [HE.out]; exact ownsRow_base HO.out hB4s, (below_step B45 B4).trans (only_below (B := w.heap.size) HG.out (by omega) hB4s)⟩

set_option maxHeartbeats 6400000 in
theorem implCutRead_any (A B : Option Addr) (n c m d : Nat) (xs : List EnT) (cs : List (ByteArray × Int)) (s : ByteArray) (hn : n ≤ 1048576) (hx : xs.length = n) (hok : StOk xs) (hm : m ≤ 1048576) (hy : cs.length = m) (hkc : ∀ x ∈ cs, cutSOk x) (hs : s.size ≤ 1048576) (w : World) (a : Addr) (hS : Sent a w) (hM : MaxL w) (hL : Lies w 4 A n (xs.flatMap entryCells)) (hC : Lies w 2 B m (cs.flatMap cutCells)) :
    Calls Tryd.prog 21 #[.slice A n c, .slice B m d, .string s] w fun e w' => ∃ g m c', e = .returned (.slice (some ⟨g, 0, none⟩) m c') ∧ (cutRead xs cs s).length = m ∧ w'.ownsRow w.heap.size 50 3 (.slice (some ⟨g, 0, none⟩) m c') m ((cutRead xs cs s).flatMap eventCells) ∧ Below w.heap.size w w' := by
  have HX := Lib.hid hx
  have HL := Lib.hid hL
  have HY := Lib.hid hy
  have HC := Lib.hid hC
  have HK := Lib.hid hkc
  clear hx hL hy hC hkc
  cases E1 : storeB xs
  · have HE := Lib.hid (show cutRead xs cs s = [] by unfold cutRead; rw [E1]; rfl)
    go_enter Tryd.func21, Tryd.ntmps21
    go_wp2_with fail
    refine (implStore_any A n c xs hn HX.out hok.small hok.ints _ a hS hM HL.out).mono ?_
    rintro e1 w1 ⟨rfl, hb1⟩
    rw [E1]
    go_wp2
    go_ret
    exact ⟨_, 0, 0, rfl, by rw [HE.out]; rfl, by rw [HE.out]; exact owns_nil' _ _ rfl (by have := hb1.size; omega), (by repeat' (first | (with_reducible exact Below.refl _ _) | (with_reducible assumption) | (with_reducible refine below_step (by assumption) ?_) | (with_reducible refine below_alloc ?_ _) | (with_reducible refine Below.drew ?_) | (with_reducible refine below_drewN ?_ _) | (with_reducible refine Below.setCell ?_ ?_ _) | go_size))⟩
  cases E2 : cutsB cs
  · have HE := Lib.hid (show cutRead xs cs s = [] by unfold cutRead; rw [E1, E2]; rfl)
    go_enter Tryd.func21, Tryd.ntmps21
    go_wp2_with fail
    refine (implStore_any A n c xs hn HX.out hok.small hok.ints _ a hS hM HL.out).mono ?_
    rintro e1 w1 ⟨rfl, hb1⟩
    rw [E1]
    go_wp2_with fail
    refine (implCuts_any B m d cs hm HY.out HK.out _ a (hS.below hb1 (Nat.le_refl _)) (hM.below hb1) (HC.out.below hb1)).mono ?_
    rintro e2 w2 ⟨rfl, hb2⟩
    rw [E2]
    go_wp2
    go_ret
    exact ⟨_, 0, 0, rfl, by rw [HE.out]; rfl, by rw [HE.out]; exact owns_nil' _ _ rfl (by have := hb1.size; have := hb2.size; omega), (by repeat' (first | (with_reducible exact Below.refl _ _) | (with_reducible assumption) | (with_reducible refine below_step (by assumption) ?_) | (with_reducible refine below_alloc ?_ _) | (with_reducible refine Below.drew ?_) | (with_reducible refine below_drewN ?_ _) | (with_reducible refine Below.setCell ?_ ?_ _) | go_size))⟩
  cases E3 : nameB s
  · have HE := Lib.hid (show cutRead xs cs s = [] by unfold cutRead; rw [E1, E2, E3]; rfl)
    go_enter Tryd.func21, Tryd.ntmps21
    go_wp2_with fail
    refine (implStore_any A n c xs hn HX.out hok.small hok.ints _ a hS hM HL.out).mono ?_
    rintro e1 w1 ⟨rfl, hb1⟩
    rw [E1]
    go_wp2_with fail
    refine (implCuts_any B m d cs hm HY.out HK.out _ a (hS.below hb1 (Nat.le_refl _)) (hM.below hb1) (HC.out.below hb1)).mono ?_
    rintro e2 w2 ⟨rfl, hb2⟩
    rw [E2]
    go_wp2_with fail
    have hB2 : Below w.heap.size w w2 := (by repeat' (first | (with_reducible exact Below.refl _ _) | (with_reducible assumption) | (with_reducible refine below_step (by assumption) ?_) | (with_reducible refine below_alloc ?_ _) | (with_reducible refine Below.drew ?_) | (with_reducible refine below_drewN ?_ _) | (with_reducible refine Below.setCell ?_ ?_ _) | go_size))
    refine (implNameValid_any s hs a _ (hS.below hB2 (Nat.le_refl _)) (hM.below hB2)).mono ?_
    rintro e3 w3 ⟨rfl, hb3⟩
    rw [E3]
    go_wp2
    go_ret
    exact ⟨_, 0, 0, rfl, by rw [HE.out]; rfl, by rw [HE.out]; exact owns_nil' _ _ rfl (by have := hb1.size; have := hb2.size; have := hb3.size; omega), (by repeat' (first | (with_reducible exact Below.refl _ _) | (with_reducible assumption) | (with_reducible refine below_step (by assumption) ?_) | (with_reducible refine below_alloc ?_ _) | (with_reducible refine Below.drew ?_) | (with_reducible refine below_drewN ?_ _) | (with_reducible refine Below.setCell ?_ ?_ _) | go_size))⟩
  have HE := Lib.hid (cutRead_read E1 E2 E3)
  go_enter Tryd.func21, Tryd.ntmps21
  go_wp2_with fail
  refine (implStore_any A n c xs hn HX.out hok.small hok.ints _ a hS hM HL.out).mono ?_
  rintro e1 w1 ⟨rfl, hb1⟩
  rw [E1]
  go_wp2_with fail
  refine (implCuts_any B m d cs hm HY.out HK.out _ a (hS.below hb1 (Nat.le_refl _)) (hM.below hb1) (HC.out.below hb1)).mono ?_
  rintro e2 w2 ⟨rfl, hb2⟩
  rw [E2]
  go_wp2_with fail
  have hB2 : Below w.heap.size w w2 := (by repeat' (first | (with_reducible exact Below.refl _ _) | (with_reducible assumption) | (with_reducible refine below_step (by assumption) ?_) | (with_reducible refine below_alloc ?_ _) | (with_reducible refine Below.drew ?_) | (with_reducible refine below_drewN ?_ _) | (with_reducible refine Below.setCell ?_ ?_ _) | go_size))
  refine (implNameValid_any s hs a _ (hS.below hB2 (Nat.le_refl _)) (hM.below hB2)).mono ?_
  rintro e3 w3 ⟨rfl, hb3⟩
  rw [E3]
  have B3 : Below w.heap.size w w3 := (by repeat' (first | (with_reducible exact Below.refl _ _) | (with_reducible assumption) | (with_reducible refine below_step (by assumption) ?_) | (with_reducible refine below_alloc ?_ _) | (with_reducible refine Below.drew ?_) | (with_reducible refine below_drewN ?_ _) | (with_reducible refine Below.setCell ?_ ?_ _) | go_size))
  have HC3 := Lib.hid (HC.out.below B3)
  go_wp2_with fail
  refine (keptFrom_any B m d cs s hm HY.out _ HC3.out).mono ?_
  rintro e4 w4 ⟨rfl, hb4⟩
  have B4 : Below w.heap.size w w4 := below_step hb4 B3
  have HL4 := Lib.hid (HL.out.below B4)
  go_wp2_with fail
  refine (implRead_any A n c xs s (fromI cs s) 99 hn HX.out hok hs _ a (hS.below B4 (Nat.le_refl _)) (hM.below B4) HL4.out).mono ?_
  rintro e5 w5 ⟨g, k, c', rfl, hl5, ho5, hb5⟩
  have HLn := Lib.hid hl5
  have HO := Lib.hid ho5
  clear hl5 ho5
  go_wp2
  go_ret
  exact ⟨g, k, c', rfl, by rw [← HE.out]; exact HLn.out, by rw [← HE.out]; exact ownsRow_base HO.out B4.size, below_step hb5 B4⟩

theorem specCutRead_at (lo hi : Nat) (v : Value) (lo' hi' : Nat) (v' : Value) (xs : List EnT) (cs : List (ByteArray × Int)) (s : ByteArray) (hok : StOk xs) (hkc : ∀ x ∈ cs, cutSOk x) (hs : s.size ≤ 1048576) (w : World) (h : entrySAt w lo hi v xs) (h' : cutSAt w lo' hi' v' cs) :
    Calls Tryd.prog 19 #[v, v', .string s] w fun e w' => ∃ u, e = .returned u ∧ eventSAt w' w.heap.size w'.heap.size u (cutRead xs cs s) ∧ Below w.heap.size w w' := by
  obtain ⟨g, m, c, rfl, hx, hb, _, _, ho⟩ := h.open
  obtain ⟨g', m', c', rfl, hx', hb', _, _, ho'⟩ := h'.open
  exact (specCutRead_any _ _ _ _ _ _ xs cs s hb hx hok hb' hx' hkc hs w (lies_of_own ho) (lies_of_own ho')).mono fun _ _ ⟨_, _, _, he, hl, ho', hb'⟩ => ⟨_, he, eventSAt.made hl (by have := cutRead_le xs cs s; omega) ho', hb'⟩
theorem implCutRead_at (lo hi : Nat) (v : Value) (lo' hi' : Nat) (v' : Value) (xs : List EnT) (cs : List (ByteArray × Int)) (s : ByteArray) (hok : StOk xs) (hkc : ∀ x ∈ cs, cutSOk x) (hs : s.size ≤ 1048576) (w : World) (a : Addr) (hS : Sent a w) (hM : MaxL w) (h : entrySAt w lo hi v xs) (h' : cutSAt w lo' hi' v' cs) :
    Calls Tryd.prog 21 #[v, v', .string s] w fun e w' => ∃ u, e = .returned u ∧ eventSAt w' w.heap.size w'.heap.size u (cutRead xs cs s) ∧ Below w.heap.size w w' := by
  obtain ⟨g, m, c, rfl, hx, hb, _, _, ho⟩ := h.open
  obtain ⟨g', m', c', rfl, hx', hb', _, _, ho'⟩ := h'.open
  exact (implCutRead_any _ _ _ _ _ _ xs cs s hb hx hok hb' hx' hkc hs w a hS hM (lies_of_own ho) (lies_of_own ho')).mono fun _ _ ⟨_, _, _, he, hl, ho', hb'⟩ => ⟨_, he, eventSAt.made hl (by have := cutRead_le xs cs s; omega) ho', hb'⟩
end Go.Proofs.YtmkdmafffblmaaaDoor
