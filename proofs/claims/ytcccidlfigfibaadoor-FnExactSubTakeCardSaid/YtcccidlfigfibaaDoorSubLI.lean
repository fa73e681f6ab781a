/-
  SubLeft of the program. No condition beyond the sentinel and the library's int.
-/
import Derived.Test.YtcccidlfigfibaaDoorSubLS
namespace Go.Proofs.YtcccidlfigfibaaDoor
open Go.RowKit Go.Shelf Go.ChangeShapes Go.WideShapes Go.ChangeAt

attribute [local go_sem] Oper.semAt_some

def cntJ (xs : List EnT) (s : ByteArray) (js : List (EntIx xs)) : Nat := (js.map (fun j => xs[j.1]'j.2)).countP (fitsB s)
theorem cntJ_snoc (xs : List EnT) (s : ByteArray) (js : List (EntIx xs)) (j : EntIx xs) : cntJ xs s (js ++ [j]) = cntJ xs s js + (if fitsB s (xs[j.1]'j.2) then 1 else 0) := by
  unfold cntJ; rw [List.map_append, List.countP_append]; simp [List.countP_cons]
theorem cntJ_len (xs : List EnT) (s : ByteArray) (js : List (EntIx xs)) : cntJ xs s js ≤ js.length := by
  unfold cntJ; have := List.countP_le_length (p := fitsB s) (l := js.map (fun j => xs[j.1]'j.2)); rwa [List.length_map] at this
theorem map_ix {xs : List EnT} : ∀ {js : List (EntIx xs)} {p m : Nat}, js.map (·.1) = List.range' p m → js.map (fun j => xs[j.1]'j.2) = (xs.drop p).take m
  | [], p, m, h => by
    have : m = 0 := by have := congrArg List.length h; simpa using this.symm
    subst this; simp
  | j :: js, p, 0, h => by simp at h
  | j :: js, p, m + 1, h => by
    rw [List.range'_succ] at h
    obtain ⟨h1, h2⟩ := List.cons.inj h
    have hj : j.1 = p := h1
    have hp : p < xs.length := hj ▸ j.2
    rw [List.map_cons, map_ix h2, List.drop_eq_getElem_cons hp, List.take_succ_cons]
    simp only [hj]
theorem cntJ_all {xs : List EnT} {s : ByteArray} {js : List (EntIx xs)} {q n : Nat} (hx : xs.length = n) (h : js.map (·.1) = List.range' q (n - q)) : cntJ xs s js = (xs.drop q).countP (fitsB s) := by
  unfold cntJ; rw [map_ix h, List.take_of_length_le (by rw [List.length_drop]; omega)]

set_option maxRecDepth 100000 in
set_option maxHeartbeats 6400000 in
theorem implLeft_any0 (A : Option Addr) (n c : Nat) (xs : List EnT) (s : ByteArray) (p : Int) (hn : n ≤ 1048576) (hx : xs.length = n) (hok : StOk xs) (hs : StrOk s) (w : World) (a : Addr) (hS : Sent a w) (hM : MaxL w) (hL : Lies w 4 A n (xs.flatMap entryCells)) :
    Calls Tryd.prog 12 #[.slice A n c, .agg #[.string s, .int .i64 p]] w fun e w' => e = .returned (.int .i64 (subLeft xs s p)) ∧ Below w.heap.size w w' := by
  have HX := Lib.hid hx
  have HL := Lib.hid hL
  have HA := Lib.hid (fun (h0 : 0 < n) b o (e : A = some ⟨b, o, none⟩) => hL.arg_lt h0 e)
  clear hx hL
  cases E1 : storeB xs
  · have HE := Lib.hid (left_no (xs := xs) (c := s) (p := p) (by rw [E1]; rfl))
    go_enter Tryd.func12, Tryd.ntmps12
    go_wp2_with fail
    refine (implStore_any A n c xs hn HX.out hok.small hok.ints _ a (hS.below (below_alloc (Below.refl _ _) _) (Nat.le_refl _)) (hM.below (below_alloc (Below.refl _ _) _)) (HL.out.below (by repeat' (first | (with_reducible exact Below.refl _ _) | (with_reducible assumption) | (with_reducible refine below_step (by assumption) ?_) | (with_reducible refine below_alloc ?_ _) | (with_reducible refine Below.drew ?_) | (with_reducible refine below_drewN ?_ _) | (with_reducible refine Below.setCell ?_ ?_ _) | go_size)))).mono ?_
    rintro e1 w1 ⟨rfl, hb1⟩
    rw [E1]
    have hb := below_step hb1 (below_alloc (Below.refl _ _) _)
    go_wp2
    go_ret
    exact ⟨ret_int HE.out.symm, (by repeat' (first | (with_reducible exact Below.refl _ _) | (with_reducible assumption) | (with_reducible refine below_step (by assumption) ?_) | (with_reducible refine below_alloc ?_ _) | (with_reducible refine Below.drew ?_) | (with_reducible refine below_drewN ?_ _) | (with_reducible refine Below.setCell ?_ ?_ _) | go_size))⟩
  cases E2 : subB s p
  · have HE := Lib.hid (left_no (xs := xs) (c := s) (p := p) (by rw [E1, E2]; rfl))
    go_enter Tryd.func12, Tryd.ntmps12
    go_wp2_with fail
    refine (implStore_any A n c xs hn HX.out hok.small hok.ints _ a (hS.below (below_alloc (Below.refl _ _) _) (Nat.le_refl _)) (hM.below (below_alloc (Below.refl _ _) _)) (HL.out.below (by repeat' (first | (with_reducible exact Below.refl _ _) | (with_reducible assumption) | (with_reducible refine below_step (by assumption) ?_) | (with_reducible refine below_alloc ?_ _) | (with_reducible refine Below.drew ?_) | (with_reducible refine below_drewN ?_ _) | (with_reducible refine Below.setCell ?_ ?_ _) | go_size)))).mono ?_
    rintro e1 w1 ⟨rfl, hb1⟩
    rw [E1]
    have y0 := box_cell hb1 (b := w.heap.size) (o := 0) (u := .string s) (by go_cell)
    have y1 := box_cell hb1 (b := w.heap.size) (o := 1) (u := .int .i64 p) (by go_cell)
    have hb := below_step hb1 (below_alloc (Below.refl _ _) _)
    go_wp2_with fail
    refine (implSub_any s p hs _).mono ?_
    rintro e1 w2 ⟨rfl, hb2⟩
    rw [E2]
    have hbb := below_step hb2 hb
    go_wp2
    go_ret
    exact ⟨ret_int HE.out.symm, (by repeat' (first | (with_reducible exact Below.refl _ _) | (with_reducible assumption) | (with_reducible refine below_step (by assumption) ?_) | (with_reducible refine below_alloc ?_ _) | (with_reducible refine Below.drew ?_) | (with_reducible refine below_drewN ?_ _) | (with_reducible refine Below.setCell ?_ ?_ _) | go_size))⟩
  have HE := Lib.hid (left_yes (c := s) (p := p) E1 E2)
  have HN := Lib.hid (fun (k : Nat) (x : EnT) (h : xs[k]? = some x) => store_names E1 h)
  have hp : 0 ≤ p ∧ p ≤ 100 := by unfold subB at E2; rw [Bool.and_eq_true] at E2; exact inB_iff.1 E2.2
  obtain ⟨q, rfl⟩ : ∃ q : Nat, p = (q : Int) := ⟨p.toNat, by omega⟩
  have hq : q ≤ 1048576 := by omega
  have HE2 : Hid (subLeft xs s (q : Int) = ((xs.drop q).countP (fitsB s) : Nat)) := Lib.hid (by rw [HE.out]; simp)
  clear HE hp
  refine (callsIn_wide (n := 6)).1 ?_
  refine callsIn_of_wp_marks Tryd.func12 rfl trivial ?_ rfl
  simp only [Tryd.ntmps12, List.size_toArray, List.length_cons, List.length_nil, Nat.reduceAdd, Nat.reduceSub, Array.replicate_succ, Array.replicate_zero, List.push_toArray, List.append_toArray, List.nil_append, List.cons_append]
  gi_wp2_with (first
    | (refine ⟨trivial, ?_⟩; gi_at_call 38; refine (callsIn_wide.2 (implStore_any A n c xs hn HX.out hok.small hok.ints _ a (hS.below (below_alloc (Below.refl _ _) _) (Nat.le_refl _)) (hM.below (below_alloc (Below.refl _ _) _)) (HL.out.below (below_alloc (Below.refl _ _) _)))).mono ?_; rintro e1 w1 ⟨rfl, hb1⟩; rw [E1]; have y0 := box_cell hb1 (b := w.heap.size) (o := 0) (u := .string s) (by go_cell); have y1 := box_cell hb1 (b := w.heap.size) (o := 1) (u := .int .i64 q) (by go_cell); have hb := below_step hb1 (below_alloc (Below.refl _ _) _))
    | (refine ⟨trivial, ?_⟩; gi_at_call 39; refine (callsIn_wide.2 (implSub_any s q hs _)).mono ?_; rintro e1 w2 ⟨rfl, hb2⟩; rw [E2]; have z0 := box_cell hb2 y0; have z1 := box_cell hb2 y1; have hbb := below_step hb2 hb; have hlt2 : w.heap.size < w2.heap.size := World.block_lt_of_cell? w2 _ z0)
    | (refine ⟨trivial, ?_⟩; gi_at_call 40; refine (from_in Fence.wide _ trivial rfl A n c q _).mono ?_; rintro e1 w3 ⟨rfl, hw3⟩))
  have bF := Boxed.new ((w2.alloc (.cells #[.int .i64 0] 3)).alloc (.cells #[.slice A n c] 28)) 3 (.int .i64 (q : Int))
  have bL := (Boxed.new (w2.alloc (.cells #[.int .i64 0] 3)) 28 (.slice A n c)).alloc (.cells #[.int .i64 (q : Int)] 3)
  have bM := ((Boxed.new w2 3 (.int .i64 0)).alloc (.cells #[.slice A n c] 28)).alloc (.cells #[.int .i64 (q : Int)] 3)
  simp only [World.size_alloc] at bF bL
  have hsz : (((w2.alloc (.cells #[.int .i64 0] 3)).alloc (.cells #[.slice A n c] 28)).alloc (.cells #[.int .i64 (q : Int)] 3)).heap.size = w2.heap.size + 3 := by simp
  have q0 := box_cell (below_alloc (below_alloc (below_alloc (Below.refl _ _) (.cells #[.int .i64 0] 3)) (.cells #[.slice A n c] 28)) (.cells #[.int .i64 (q : Int)] 3)) z0
  have q1 := box_cell (below_alloc (below_alloc (below_alloc (Below.refl _ _) (.cells #[.int .i64 0] 3)) (.cells #[.slice A n c] 28)) (.cells #[.int .i64 (q : Int)] 3)) z1
  have hBw := below_step (below_alloc (below_alloc (below_alloc (Below.refl _ _) (.cells #[.int .i64 0] 3)) (.cells #[.slice A n c] 28)) (.cells #[.int .i64 (q : Int)] 3)) hbb
  obtain ⟨W0, hW0⟩ : ∃ W0, ((w2.alloc (.cells #[.int .i64 0] 3)).alloc (.cells #[.slice A n c] 28)).alloc (.cells #[.int .i64 (q : Int)] 3) = W0 := ⟨_, rfl⟩
  rw [hW0] at bF bL bM hsz q0 q1 hBw ⊢
  clear hW0
  refine wpIn_rangeFunc_ownH rfl (by omega) (gf := 71) (lb := #[.pointer (some ⟨w2.heap.size + 1 + 1, 0, none⟩), .pointer (some ⟨w2.heap.size + 1, 0, none⟩)]) rfl trivial (enters_of Tryd.func71 (by kernel_rfl) rfl)
    (from_stops Fence.wide _ trivial rfl (by omega) (w2.heap.size + 1) (w2.heap.size + 1 + 1) w.heap.size n c q A xs HX.out hn hq W0 bL bF (HL.out.below hBw) HA.out) KpL.t (KpL.b (by omega)) (Below.refl _ _) (fun _ => rfl)
    (fun pre W => (Boxed W w2.heap.size 3 (.int .i64 (cntJ xs s pre : Int)) ∧ (W.cell? ⟨w.heap.size, 0, none⟩ = some (.string s) ∧ W.cell? ⟨w.heap.size, 1, none⟩ = some (.int .i64 (q : Int)))) ∧ Below w.heap.size w W)
    (fun _ _ _ => False)
    (OwnFrom.and (OwnFrom.and (Own.from (boxed_own _ _ _) _) (Own.from (fun s A B row hs hg hr => ⟨cell_kept hs.1 hg hr, cell_kept hs.2 hg hr⟩) _)) (ownFrom_below (Nat.le_refl _) (by omega)))
    (fun _ _ _ _ _ hs _ _ => hs)
    ⟨⟨bM, q0, q1⟩, hBw⟩
    (fun x a' W => ∃ Bx, w2.heap.size < Bx ∧ (W.cell? ⟨Bx, 0, none⟩ = some (.string (xs[x.1]'x.2).1) ∧ W.cell? ⟨Bx, 1, none⟩ = some (.int .i64 (xs[x.1]'x.2).2.1) ∧ W.cell? ⟨Bx, 2, none⟩ = some (.string (xs[x.1]'x.2).2.2.1) ∧ W.cell? ⟨Bx, 3, none⟩ = some (.int .i64 (xs[x.1]'x.2).2.2.2)) ∧ a' = { tmps := #[.slice A n c, .agg #[.string s, .int .i64 (q : Int)], undef, .pointer (some ⟨w.heap.size, 0, none⟩), .int .i64 0, .pointer (some ⟨w2.heap.size, 0, none⟩), undef, .pointer (some ⟨Bx, 0, none⟩), .slice A n c, .bool true, .bool false, .bool false, .agg #[.string s, .int .i64 (q : Int)], .bool true, .bool false, .bool false, .slice A n c, .pointer (some ⟨w.heap.size, 1, none⟩), .int .i64 (q : Int), .func (.func 71) #[] #[.pointer (some ⟨w2.heap.size + 1 + 1, 0, none⟩), .pointer (some ⟨w2.heap.size + 1, 0, none⟩)], .int .i64 (x.1 : Int), entV (xs[x.1]'x.2), undef, undef, undef, undef, undef, undef], defers := [] })
    (fun x a' _ X Y row hs hg hr => by obtain ⟨Bx, h1, ⟨h2, h3, h4, h5⟩, h6⟩ := hs; exact ⟨Bx, h1, ⟨cell_kept h2 hg (fun r e => (hr r e).2), cell_kept h3 hg (fun r e => (hr r e).2), cell_kept h4 hg (fun r e => (hr r e).2), cell_kept h5 hg (fun r e => (hr r e).2)⟩, h6⟩)
    ?assign ?body ?done ?stop
  case assign =>
    rintro l pre ⟨j, hj⟩ W K ⟨⟨bM1, s0, s1⟩, hB1⟩ hK
    obtain ⟨⟨x0, x1, x2, x3⟩, hy⟩ : ∃ y, xs[j] = y := ⟨_, rfl⟩
    simp only [ixV, entV, hy] at hK ⊢
    gi_wp2
    exact hK _ _ ((KeepsOthers.alloc _ _).from _) ⟨(Below.refl _ W).alloc hB1.size _, fun _ b => b.alloc _⟩ ⟨⟨bM1.alloc _, box_cell (below_alloc (Below.refl _ _) _) s0, box_cell (below_alloc (Below.refl _ _) _) s1⟩, hB1.alloc hB1.size _⟩ ⟨W.heap.size, bM1.lt, ⟨by go_cell, by go_cell, by go_cell, by go_cell⟩, rfl⟩
  case body =>
    rintro l pre ⟨j, hj⟩ a' W hl ⟨r, hr⟩ ⟨⟨bM1, s0, s1⟩, hB1⟩ ⟨Bx, hBx, ⟨c0, c1, c2, c3⟩, rfl⟩ hlt
    have hxk : xs[j]? = some (xs[j]'hj) := List.getElem?_eq_getElem hj
    have hnm := HN.out _ _ hxk
    have hsm := (hok.small _ (List.mem_of_getElem? hxk)).1
    have hct := cntJ_snoc xs s pre ⟨j, hj⟩
    have hcl := cntJ_len xs s pre
    obtain ⟨⟨x0, x1, x2, x3⟩, hy⟩ : ∃ y, xs[j] = y := ⟨_, rfl⟩
    simp only [entV, hy] at c0 c1 c2 c3 hct hnm hsm ⊢
    have HCT := Lib.hid hct
    clear hct hxk
    have cM := bM1.cell
    have fM := bM1.frozen
    have hBs := hB1.size
    cases EF : fitsB s (x0, x1, x2, x3)
    · rw [EF] at HCT
      gi_wp2_with (refine ⟨trivial, ?_⟩; gi_at_call 41; refine (CallsIn.inRound l (callsIn_wide.2 (wants_any s q x0 x1 x2 x3 hsm hnm _ a (hS.below hB1 (Nat.le_refl _)) (hM.below hB1)))).mono ?_; rintro e1 w3 ⟨rfl, hb3⟩; rw [EF])
      exact ⟨(keeps_below hb3).from _, KpL.below hBs hb3, ⟨⟨by rw [HCT.out]; exact boxed_below bM1 hb3, box_cell hb3 s0, box_cell hb3 s1⟩, below_step hb3 hB1⟩⟩
    · rw [EF] at HCT
      gi_wp2_with (refine ⟨trivial, ?_⟩; gi_at_call 41; refine (CallsIn.inRound l (callsIn_wide.2 (wants_any s q x0 x1 x2 x3 hsm hnm _ a (hS.below hB1 (Nat.le_refl _)) (hM.below hB1)))).mono ?_; rintro e1 w3 ⟨rfl, hb3⟩; rw [EF]; have bM3 := boxed_below bM1 hb3; have cM3 := bM3.cell; have fM3 := bM3.frozen)
      have HC2 : Hid (((cntJ xs s (pre ++ [⟨j, hj⟩]) : Nat) : Int) = (cntJ xs s pre : Int) + 1) := Lib.hid (by rw [HCT.out]; simp)
      have t0 := box_cell hb3 s0
      have t1 := box_cell hb3 s1
      have hB3 := below_step hb3 hB1
      have hlt3 := bM3.lt
      exact ⟨((keeps_below hb3).trans (KeepsOthers.setCell _ _ _)).from _, (KpL.below hBs hb3).t ⟨(Below.refl _ w3).setCell (p := ⟨w2.heap.size, 0, none⟩) (Nat.le_of_lt hlt2) _, fun _ b => b.other (by omega) _⟩, ⟨⟨by rw [HC2.out]; exact bM3.set _, by go_cell, by go_cell⟩, hB3.setCell (p := ⟨w2.heap.size, 0, none⟩) (Nat.le_of_lt hlt2) _⟩⟩
  case done =>
    rintro D js W hD hjs ⟨⟨bM1, s0, s1⟩, hB1⟩ hK
    have cM := bM1.cell
    have HR : Hid (subLeft xs s (q : Int) = (cntJ xs s js : Int)) := Lib.hid (by rw [HE2.out, cntJ_all HX.out hjs])
    gi_wp2
    refine ⟨by simp, .inl ⟨_, _, rfl, run_takeDeferred hK, ?_⟩⟩
    exact ⟨_, results_tmp rfl _ _ _, by rw [HR.out]; rfl, hB1.trans (belowK_b (w := w) (Nat.le_refl _) W D _ _ (by have := hBw.size; omega) hK rfl rfl)⟩
  case stop =>
    rintro D cc pre W _ _ h _
    exact h.elim

theorem implLeft_at0 (lo hi : Nat) (v : Value) (xs : List EnT) (s : ByteArray) (p : Int) (hok : StOk xs) (hs : StrOk s) (w : World) (a : Addr) (hS : Sent a w) (hM : MaxL w) (h : entrySAt w lo hi v xs) :
    Calls Tryd.prog 12 #[v, .agg #[.string s, .int .i64 p]] w fun e w' => e = .returned (.int .i64 (subLeft xs s p)) ∧ Below w.heap.size w w' := by
  obtain ⟨g, m, c, rfl, hx, hb, _, _, ho⟩ := h.open
  exact implLeft_any0 _ _ _ xs s p hb hx hok hs w a hS hM (lies_of_own ho)
end Go.Proofs.YtcccidlfigfibaaDoor
