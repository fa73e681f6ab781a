/-
  SubLeft of the reference. No condition.
-/
import Derived.Test.YtcccidlfigfibaaDoorSubL
namespace Go.Proofs.YtcccidlfigfibaaDoor
open Go.ChangeShapes Go.WideShapes Go.ChangeAt Go.RowKit

theorem store_names {xs : List EnT} (h : storeB xs = true) : ∀ {k : Nat} {x : EnT}, xs[k]? = some x → nameB x.1 = true := fun hx => by
  have := ((store_iff xs).1 h).2.1 _ (List.mem_of_getElem? hx)
  unfold entB at this
  rw [Bool.and_eq_true] at this
  exact this.1
theorem countP_drop {xs : List EnT} {p k : Nat} {x : EnT} {f : EnT → Bool} (hk : p ≤ k) (hx : xs[k]? = some x) : ((xs.take (k + 1)).drop p).countP f = ((xs.take k).drop p).countP f + (if f x then 1 else 0) := by
  have hl : k < xs.length := (List.getElem?_eq_some_iff.1 hx).1
  rw [take_succ_of hx, List.drop_append_of_le_length (by rw [List.length_take]; omega), List.countP_append]
  simp [List.countP_cons]

set_option maxHeartbeats 6400000 in
theorem specLeft_any0 (A : Option Addr) (n c : Nat) (xs : List EnT) (s : ByteArray) (p : Int) (hn : n ≤ 1048576) (hx : xs.length = n) (hok : StOk xs) (hs : StrOk s) (w : World) (hL : Lies w 4 A n (xs.flatMap entryCells)) :
    Calls Tryd.prog 9 #[.slice A n c, .agg #[.string s, .int .i64 p]] w fun e w' => e = .returned (.int .i64 (subLeft xs s p)) ∧ Below w.heap.size w w' := by
  have HX := Lib.hid hx
  have HL := Lib.hid hL
  clear hx hL
  cases E1 : storeB xs
  · have HE := Lib.hid (left_no (xs := xs) (c := s) (p := p) (by rw [E1]; rfl))
    go_enter Tryd.func9, Tryd.ntmps9
    go_wp2_with fail
    refine (specStore_any A n c xs hn HX.out hok.small _ (HL.out.below (by repeat' (first | (with_reducible exact Below.refl _ _) | (with_reducible assumption) | (with_reducible refine below_step (by assumption) ?_) | (with_reducible refine below_alloc ?_ _) | (with_reducible refine Below.drew ?_) | (with_reducible refine below_drewN ?_ _) | (with_reducible refine Below.setCell ?_ ?_ _) | go_size)))).mono ?_
    rintro e1 w1 ⟨rfl, hb1⟩
    rw [E1]
    have hb := below_step hb1 (below_alloc (Below.refl _ _) _)
    go_wp2
    go_ret
    exact ⟨ret_int HE.out.symm, (by repeat' (first | (with_reducible exact Below.refl _ _) | (with_reducible assumption) | (with_reducible refine below_step (by assumption) ?_) | (with_reducible refine below_alloc ?_ _) | (with_reducible refine Below.drew ?_) | (with_reducible refine below_drewN ?_ _) | (with_reducible refine Below.setCell ?_ ?_ _) | go_size))⟩
  cases E2 : subB s p
  · have HE := Lib.hid (left_no (xs := xs) (c := s) (p := p) (by rw [E1, E2]; rfl))
    go_enter Tryd.func9, Tryd.ntmps9
    go_wp2_with fail
    refine (specStore_any A n c xs hn HX.out hok.small _ (HL.out.below (by repeat' (first | (with_reducible exact Below.refl _ _) | (with_reducible assumption) | (with_reducible refine below_step (by assumption) ?_) | (with_reducible refine below_alloc ?_ _) | (with_reducible refine Below.drew ?_) | (with_reducible refine below_drewN ?_ _) | (with_reducible refine Below.setCell ?_ ?_ _) | go_size)))).mono ?_
    rintro e1 w1 ⟨rfl, hb1⟩
    rw [E1]
    have y0 := box_cell hb1 (b := w.heap.size) (o := 0) (u := .string s) (by go_cell)
    have y1 := box_cell hb1 (b := w.heap.size) (o := 1) (u := .int .i64 p) (by go_cell)
    have hb := below_step hb1 (below_alloc (Below.refl _ _) _)
    go_wp2_with fail
    refine (specSub_any s p hs _).mono ?_
    rintro e1 w2 ⟨rfl, hb2⟩
    rw [E2]
    have hbb := below_step hb2 hb
    go_wp2
    go_ret
    exact ⟨ret_int HE.out.symm, (by repeat' (first | (with_reducible exact Below.refl _ _) | (with_reducible assumption) | (with_reducible refine below_step (by assumption) ?_) | (with_reducible refine below_alloc ?_ _) | (with_reducible refine Below.drew ?_) | (with_reducible refine below_drewN ?_ _) | (with_reducible refine Below.setCell ?_ ?_ _) | go_size))⟩
  have HE := Lib.hid (left_yes (c := s) (p := p) E1 E2)
  have HN := Lib.hid (fun (k : Nat) (x : EnT) (h : xs[k]? = some x) => store_names E1 h)
  have hp : 0 ≤ p ∧ p ≤ 100 := by unfold subB at E2; rw [Bool.and_eq_true] at E2; exact inB_iff.1 E2.2
  obtain ⟨q, rfl⟩ : ∃ q : Nat, p = (q : Int) := ⟨p.toNat, by omega⟩
  have hq : q ≤ 100 := by omega
  have HE2 : Hid (subLeft xs s (q : Int) = ((xs.drop q).countP (fitsB s) : Nat)) := Lib.hid (by rw [HE.out]; simp)
  clear HE hp
  go_enter Tryd.func9, Tryd.ntmps9
  go_wp2_with fail
  refine (specStore_any A n c xs hn HX.out hok.small _ (HL.out.below (by repeat' (first | (with_reducible exact Below.refl _ _) | (with_reducible assumption) | (with_reducible refine below_step (by assumption) ?_) | (with_reducible refine below_alloc ?_ _) | (with_reducible refine Below.drew ?_) | (with_reducible refine below_drewN ?_ _) | (with_reducible refine Below.setCell ?_ ?_ _) | go_size)))).mono ?_
  rintro e1 w1 ⟨rfl, hb1⟩
  rw [E1]
  have y0 := box_cell hb1 (b := w.heap.size) (o := 0) (u := .string s) (by go_cell)
  have y1 := box_cell hb1 (b := w.heap.size) (o := 1) (u := .int .i64 q) (by go_cell)
  have hb := below_step hb1 (below_alloc (Below.refl _ _) _)
  go_wp2_with fail
  refine (specSub_any s q hs _).mono ?_
  rintro e1 w2 ⟨rfl, hb2⟩
  rw [E2]
  have z0 := box_cell hb2 y0
  have z1 := box_cell hb2 y1
  have hbb := below_step hb2 hb
  clear y0 y1 hb1 hb2 hb
  go_wp2
  go_loopw [5, 6] (fun m i wr => ∃ (k : Nat) (M : Nat), (k ≤ n ∨ k = q) ∧ q ≤ k ∧ M ≤ k ∧ i = .int .i64 k ∧ m = .int .i64 M ∧ Hid (((xs.take k).drop q).countP (fitsB s) = M) ∧ Below w2.heap.size w2 wr) (fun _ i _ => n - (intOf i).toNat)
  case atStart => exact ⟨q, 0, .inr rfl, Nat.le_refl _, Nat.zero_le _, rfl, rfl, Lib.hid (by rw [List.drop_eq_nil_of_le (by rw [List.length_take]; omega)]; rfl), (by repeat' (first | (with_reducible exact Below.refl _ _) | (with_reducible assumption) | (with_reducible refine below_step (by assumption) ?_) | (with_reducible refine below_alloc ?_ _) | (with_reducible refine Below.drew ?_) | (with_reducible refine below_drewN ?_ _) | (with_reducible refine Below.setCell ?_ ?_ _) | go_size))⟩
  case round =>
    obtain ⟨k, M, hk, hqk, hMk, rfl, rfl, hC, hB⟩ := hrel
    by_cases hlt : k < n
    · obtain ⟨b, o, rfl, hbl, hc⟩ := (HL.out.below (below_step hB hbb)).row (fun _ => rfl) (by omega)
      obtain ⟨⟨x0, x1, x2, x3⟩, hxk⟩ := get_lt HX.out hlt
      have hnm := HN.out _ _ hxk
      have hsm := (hok.small _ (List.mem_of_getElem? hxk)).1
      have c0 : wr.cell? ⟨b, o + k * 4, none⟩ = some (.string x0) := hc k _ hxk 0 _ rfl
      have c1 : wr.cell? ⟨b, o + k * 4 + 1, none⟩ = some (.int .i64 x1) := hc k _ hxk 1 _ rfl
      have c2 : wr.cell? ⟨b, o + k * 4 + 2, none⟩ = some (.string x2) := hc k _ hxk 2 _ rfl
      have c3 : wr.cell? ⟨b, o + k * 4 + 3, none⟩ = some (.int .i64 x3) := hc k _ hxk 3 _ rfl
      have s0 := box_cell hB z0
      have s1 := box_cell hB z1
      have HC := Lib.hid (countP_drop (f := fitsB s) hqk hxk)
      clear hc hxk
      have hM : M ≤ 1048576 := by omega
      cases EF : fitsB s (x0, x1, x2, x3)
      · have HC2 : Hid (((xs.take (k + 1)).drop q).countP (fitsB s) = M) := Lib.hid (by rw [HC.out, hC.out, EF]; rfl)
        clear HC hC
        have BR := Below.refl wr.heap.size wr
        go_wp2_with fail
        go_region_held3 (fun wx => wx.cell? ⟨w.heap.size, 0, none⟩ = some (.string s) ∧ wx.cell? ⟨b, o + k * 4, none⟩ = some (.string x0) ∧ wx.cell? ⟨b, o + k * 4 + 1, none⟩ = some (.int .i64 x1) ∧ wx.cell? ⟨b, o + k * 4 + 2, none⟩ = some (.string x2) ∧ wx.cell? ⟨b, o + k * 4 + 3, none⟩ = some (.int .i64 x3) ∧ Below wr.heap.size wr wx) ((go_split_ands; refine ⟨?_, ?_, ?_, ?_, ?_, ?_⟩ <;> first | assumption | (refine box_cell (by assumption) ?_; assumption) | (refine below_step (by assumption) ?_; assumption) | exact Below.drew (by assumption)))
          (first | (go_at_call 36; refine (l14Fits_any s x0 x1 x2 x3 hsm hnm _).mono ?_; rintro e1 w3 ⟨rfl, hb3⟩; rw [EF]))
        have hB3 : Below w2.heap.size w2 w3 := below_step (show Below wr.heap.size wr w3 from (by repeat' (first | (with_reducible exact Below.refl _ _) | (with_reducible assumption) | (with_reducible refine below_step (by assumption) ?_) | (with_reducible refine below_alloc ?_ _) | (with_reducible refine Below.drew ?_) | (with_reducible refine below_drewN ?_ _) | (with_reducible refine Below.setCell ?_ ?_ _) | go_size))) hB
        go_wp2
        go_roundw
        case rel => exact ⟨k + 1, M, .inl (by omega), by omega, by omega, by go_num, rfl, HC2, hB3⟩
        case measure => simp [intOf]; omega
      · have HC2 : Hid (((xs.take (k + 1)).drop q).countP (fitsB s) = M + 1) := Lib.hid (by rw [HC.out, hC.out, EF]; rfl)
        clear HC hC
        have BR := Below.refl wr.heap.size wr
        go_wp2_with fail
        go_region_held3 (fun wx => wx.cell? ⟨w.heap.size, 0, none⟩ = some (.string s) ∧ wx.cell? ⟨b, o + k * 4, none⟩ = some (.string x0) ∧ wx.cell? ⟨b, o + k * 4 + 1, none⟩ = some (.int .i64 x1) ∧ wx.cell? ⟨b, o + k * 4 + 2, none⟩ = some (.string x2) ∧ wx.cell? ⟨b, o + k * 4 + 3, none⟩ = some (.int .i64 x3) ∧ Below wr.heap.size wr wx) ((go_split_ands; refine ⟨?_, ?_, ?_, ?_, ?_, ?_⟩ <;> first | assumption | (refine box_cell (by assumption) ?_; assumption) | (refine below_step (by assumption) ?_; assumption) | exact Below.drew (by assumption)))
          (first | (go_at_call 36; refine (l14Fits_any s x0 x1 x2 x3 hsm hnm _).mono ?_; rintro e1 w3 ⟨rfl, hb3⟩; rw [EF]))
        have hB3 : Below w2.heap.size w2 w3 := below_step (show Below wr.heap.size wr w3 from (by repeat' (first | (with_reducible exact Below.refl _ _) | (with_reducible assumption) | (with_reducible refine below_step (by assumption) ?_) | (with_reducible refine below_alloc ?_ _) | (with_reducible refine Below.drew ?_) | (with_reducible refine below_drewN ?_ _) | (with_reducible refine Below.setCell ?_ ?_ _) | go_size))) hB
        go_wp2
        go_roundw
        case rel => exact ⟨k + 1, M + 1, .inl (by omega), by omega, by omega, by go_num, by go_num, HC2, hB3⟩
        case measure => simp [intOf]; omega
    · have HF : Hid (subLeft xs s (q : Int) = (M : Int)) := Lib.hid (by
        rw [HE2.out, ← hC.out]
        rcases hk with hk | hk
        · rw [List.take_of_length_le (by rw [HX.out]; omega)]
        · rw [List.take_of_length_le (by rw [HX.out]; omega)])
      clear hC
      go_wp2
      go_ret
      exact ⟨ret_int HF.out.symm, below_step hB hbb⟩

theorem specLeft_at0 (lo hi : Nat) (v : Value) (xs : List EnT) (s : ByteArray) (p : Int) (hok : StOk xs) (hs : StrOk s) (w : World) (h : entrySAt w lo hi v xs) :
    Calls Tryd.prog 9 #[v, .agg #[.string s, .int .i64 p]] w fun e w' => e = .returned (.int .i64 (subLeft xs s p)) ∧ Below w.heap.size w w' := by
  obtain ⟨g, m, c, rfl, hx, hb, _, _, ho⟩ := h.open
  exact specLeft_any0 _ _ _ xs s p hb hx hok hs w (lies_of_own ho)
end Go.Proofs.YtcccidlfigfibaaDoor
