/-
  SubTake of the program. No condition beyond the sentinel and the library's int.
-/
import Derived.Test.YtcccidlfigfibaaDoorSubTS
import Derived.Test.YtcccidlfigfibaaDoorPieceI
namespace Go.Proofs.YtcccidlfigfibaaDoor
open Go.RowKit Go.Shelf Go.ChangeShapes Go.WideShapes Go.ChangeAt

attribute [local go_sem] Oper.semAt_some

theorem rowIs_own {β : Type} (B : Nat) (t : TypeId) (f : β → List Value) : Own (fun s W => RowIs W B t (f s)) := fun s X Y row hs hg hrow =>
  hs.grown hg (fun e' => by obtain ⟨o, ho, hc⟩ := hrow B e'.symm; rw [show X.heap[B]? = _ from hs] at ho; cases ho; cases hc)
theorem keeps_grown {W W' : World} {B : Nat} {e : TypeId} {size k n g c : Nat} {xs : List Value} (hr : W.ownsRow B e size (.slice (some ⟨g, 0, none⟩) n c) k xs) (hg : W.grownBy W' (some g)) : KeepsOthers W W' := KeepsOthers.of_grownBy hg fun j o ej hj => by
  obtain ⟨_, ⟨h, _⟩ | ⟨g', cap, cur, h, _, hh, _⟩⟩ := hr
  · cases h
  · have e : g = g' := by simp only [Value.slice.injEq, Option.some.injEq, Addr.mk.injEq] at h; exact h.1.1
    have ej' : g = j := Option.some.inj ej
    rw [← ej', e, hh] at hj; cases hj; rfl
/-- append of one element, in a fence. -/
theorem wpListIn_app1 {F : Fence} {nF : Nat} {P : Program} {ops : Array Oper} {rest : List Oper} {o : Oper} {a : Act} {Q : Exit → Act → World → Prop} (hgd : o.guard = none) (s x : Operand) (t e : TypeId) (size bytes : Nat) (R : RowTy P t e size bytes) (ho : o.op = .call { callee := .builtin .append, args := #[s, x], argTypes := #[t, t] })
    {wr : World} {us : Array Value} (B g n c : Nat) (xs : List Value) (hown : wr.ownsRow B e size (.slice (some ⟨g, 0, none⟩) n c) n xs)
    (hs : a.eval s = .slice (some ⟨g, 0, none⟩) n c) (hx : a.eval x = .slice (some ⟨wr.heap.size, 0, none⟩) 1 1)
    (hu : us.size = size) (h1 : us.toList.all Value.oneCell' = true) (hn : n + 1 ≤ maxLen) (hby : (n + 1) * bytes ≤ 140737488355328) (hB : B ≤ wr.heap.size)
    (h : ∀ g' c' w', w'.ownsRow B e size (.slice (some ⟨g', 0, none⟩) (n + 1) c') (n + 1) (xs ++ us.toList) → wr.grownBy w' (some g) → wr.heap.size < w'.heap.size → wpListIn F nF P ops Q rest (a.put o.dst (.slice (some ⟨g', 0, none⟩) (n + 1) c')) w') :
    wpListIn F nF P ops Q (o :: rest) a (wr.alloc (.cells us e)) := by
  obtain ⟨ht, i, z, k1, k2, k3, k4, k5, k6⟩ := R
  refine wpListIn_append_own _ hgd s x t ho B e i z size bytes ht k1 k2 k3 k4 k5 k6 _ n xs hs (hown.alloc _) ⟨wr.heap.size, 0, none⟩ 1 1 us.toList hx (by simp [hu]) ?_ (fun u hu' => List.all_eq_true.1 h1 u hu') hn hby (by simp; omega) ?_
  · intro j u hj
    rw [add_plain, Nat.zero_add, cell_of_row _ _ j us e (0, 0) (heap_alloc_new _ _)]
    simpa using hj
  · intro v' w' o1 g1 n1
    obtain ⟨q1, q2⟩ := o1
    rcases q2 with ⟨q, _⟩ | ⟨g', cap, cur, rfl, r⟩
    · have := (n1.1 q).1; cases this
    · refine h g' cap w' ⟨q1, .inr ⟨g', cap, cur, rfl, r⟩⟩ ?_ ?_
      · have g2 : (wr.alloc (.cells us e)).grownBy w' (some g) := g1
        exact ⟨g2.os, g2.tape, g2.output, Nat.le_trans (by simp) g2.size, fun k hk hne => (g2.block k (by simp; omega) hne).trans (heap_alloc_old _ _ hk)⟩
      · have := g1.size; simp at this; omega
def stJ (xs : List EnT) (s : ByteArray) (N q : Nat) (js : List (EntIx xs)) : List EnT × Int := subRun xs s (N : Int) ([], (q : Int)) (js.map (·.1))
theorem stJ_snoc (xs : List EnT) (s : ByteArray) (N q : Nat) (js : List (EntIx xs)) (j : EntIx xs) : stJ xs s N q (js ++ [j]) = subStep xs s (N : Int) (stJ xs s N q js) j.1 := by
  unfold stJ; rw [List.map_append]; exact subRun_snoc _ _ _ _ _ _
theorem stJ_to {xs : List EnT} {s : ByteArray} {N q k : Nat} {js : List (EntIx xs)} (h : js.map (·.1) = List.range' q (k - q)) : stJ xs s N q js = subTo xs s (N : Int) q k := by unfold stJ subTo; rw [h]
theorem stJ_len (xs : List EnT) (s : ByteArray) (N q : Nat) (js : List (EntIx xs)) : (stJ xs s N q js).1.length ≤ js.length := by
  have := subRun_len xs s (N : Int) (js.map (·.1)) ([], (q : Int))
  simpa [stJ] using this

set_option maxRecDepth 100000 in
set_option maxHeartbeats 12800000 in
theorem implTake0_any (A : Option Addr) (n c : Nat) (xs : List EnT) (s : ByteArray) (p many : Int) (hn : n ≤ 1048576) (hx : xs.length = n) (hok : StOk xs) (hs : StrOk s) (w : World) (a : Addr) (hS : Sent a w) (hM : MaxL w) (hL : Lies w 4 A n (xs.flatMap entryCells)) :
    Calls Tryd.prog 15 #[.slice A n c, .agg #[.string s, .int .i64 p], .int .i64 many] w fun e w' => ∃ g k cap, e = .returned (takeV (.slice (some ⟨g, 0, none⟩) k cap) xs s p many) ∧ (subTook xs s p many).length = k ∧ w'.ownsRow w.heap.size 72 4 (.slice (some ⟨g, 0, none⟩) k cap) k ((subTook xs s p many).flatMap entryCells) ∧ Below w.heap.size w w' := by
  have HX := Lib.hid hx
  have HL := Lib.hid hL
  have HA := Lib.hid (fun (h0 : 0 < n) b o (e : A = some ⟨b, o, none⟩) => hL.arg_lt h0 e)
  clear hx hL
  have BB : Below w.heap.size w (((w.alloc (.cells #[.string s, .int .i64 p] 30)).alloc (.cells #[.int .i64 many] 3)).alloc (.cells #[.string ⟨#[]⟩, .int .i64 0] 30)) := below_alloc (below_alloc (below_alloc (Below.refl _ _) _) _) _
  have R0 : RowIs (((w.alloc (.cells #[.string s, .int .i64 p] 30)).alloc (.cells #[.int .i64 many] 3)).alloc (.cells #[.string ⟨#[]⟩, .int .i64 0] 30)) w.heap.size 30 [.string s, .int .i64 p] := ((RowIs.new w #[.string s, .int .i64 p] _).alloc _).alloc _
  have R2 : RowIs (((w.alloc (.cells #[.string s, .int .i64 p] 30)).alloc (.cells #[.int .i64 many] 3)).alloc (.cells #[.string ⟨#[]⟩, .int .i64 0] 30)) (w.heap.size + 1) 3 [.int .i64 many] := by
    have h := (RowIs.new (w.alloc (.cells #[.string s, .int .i64 p] 30)) #[.int .i64 many] 3).alloc (.cells #[.string ⟨#[]⟩, .int .i64 0] 30)
    rwa [show (w.alloc (.cells #[.string s, .int .i64 p] 30)).heap.size = w.heap.size + 1 by simp] at h
  have R1 : RowIs (((w.alloc (.cells #[.string s, .int .i64 p] 30)).alloc (.cells #[.int .i64 many] 3)).alloc (.cells #[.string ⟨#[]⟩, .int .i64 0] 30)) (w.heap.size + 1 + 1) 30 [.string ⟨#[]⟩, .int .i64 0] := by
    have h := RowIs.new ((w.alloc (.cells #[.string s, .int .i64 p] 30)).alloc (.cells #[.int .i64 many] 3)) #[.string ⟨#[]⟩, .int .i64 0] 30
    rwa [show ((w.alloc (.cells #[.string s, .int .i64 p] 30)).alloc (.cells #[.int .i64 many] 3)).heap.size = w.heap.size + 1 + 1 by simp] at h
  have HLB := Lib.hid (HL.out.below BB)
  obtain ⟨W0, hW0⟩ : ∃ W0, (((w.alloc (.cells #[.string s, .int .i64 p] 30)).alloc (.cells #[.int .i64 many] 3)).alloc (.cells #[.string ⟨#[]⟩, .int .i64 0] 30)) = W0 := ⟨_, rfl⟩
  have HW0 := Lib.hid hW0
  rw [hW0] at BB R0 R1 R2 HLB
  clear hW0
  have HR0 := Lib.hid R0
  have HR1 := Lib.hid R1
  have HR2 := Lib.hid R2
  clear R0 R1 R2
  have K0 := HR0.out.cell (j := 0) rfl
  have K1 := HR0.out.cell (j := 1) rfl
  have K2 := HR2.out.cell (j := 0) rfl
  cases E1 : storeB xs
  · skip
    obtain ⟨he, hv⟩ := take_no (xs := xs) (c := s) (p := p) (many := many) (by unfold subTakeB; simp [*])
    have HE := Lib.hid he
    have HV := Lib.hid hv
    clear he hv
    go_enter Tryd.func15, Tryd.ntmps15
    go_wp2_with fail
    rw [HW0.out]
    have hwz := HR1.out.lt
    go_wp2_with (first | (go_at_call 38; refine (implStore_any A n c xs hn HX.out hok.small hok.ints _ a (hS.below BB (Nat.le_refl _)) (hM.below BB) HLB.out).mono ?_; rintro e1 w1 ⟨rfl, hb1⟩; rw [E1]; have y0 := box_cell hb1 K0; have y1 := box_cell hb1 K1; have y2 := box_cell hb1 K2; have Q1 := HR1.out.below hb1; have f0 := Q1.frozen 0; have f1 := Q1.frozen 1; have u0 := Q1.cell (j := 0) rfl; have u1 := Q1.cell (j := 1) rfl; have hzz := hb1.size; have hl2 : w.heap.size + 1 + 1 < w1.heap.size := Q1.lt; have hl0 : w.heap.size < w1.heap.size := World.block_lt_of_cell? w1 _ y0; have hl1 : w.heap.size + 1 < w1.heap.size := World.block_lt_of_cell? w1 _ y2; clear Q1))
    have hb := below_step hb1 BB
    refine bodyPost_ret (v := takeV (.slice (some ⟨w1.heap.size, 0, none⟩) 0 0) xs s p many) (by rw [HV.out]; simp [results, Tryd.results15, go_sem, *]; try rfl) rfl ?_
    have hbs := hb.size
    exact ⟨_, 0, 0, rfl, by rw [HE.out]; rfl, by rw [HE.out]; exact owns_nil' _ _ (by simp) (by omega), (by repeat' (first | (with_reducible exact Below.refl _ _) | (with_reducible assumption) | (with_reducible refine below_step (by assumption) ?_) | (with_reducible refine below_alloc ?_ _) | (with_reducible refine Below.drew ?_) | (with_reducible refine below_drewN ?_ _) | (with_reducible refine Below.setCell ?_ ?_ _) | go_size))⟩
  cases E2 : subB s p
  · skip
    obtain ⟨he, hv⟩ := take_no (xs := xs) (c := s) (p := p) (many := many) (by unfold subTakeB; simp [*])
    have HE := Lib.hid he
    have HV := Lib.hid hv
    clear he hv
    go_enter Tryd.func15, Tryd.ntmps15
    go_wp2_with fail
    rw [HW0.out]
    have hwz := HR1.out.lt
    go_wp2_with (first | (go_at_call 38; refine (implStore_any A n c xs hn HX.out hok.small hok.ints _ a (hS.below BB (Nat.le_refl _)) (hM.below BB) HLB.out).mono ?_; rintro e1 w1 ⟨rfl, hb1⟩; rw [E1]; have y0 := box_cell hb1 K0; have y1 := box_cell hb1 K1; have y2 := box_cell hb1 K2; have Q1 := HR1.out.below hb1; have f0 := Q1.frozen 0; have f1 := Q1.frozen 1; have u0 := Q1.cell (j := 0) rfl; have u1 := Q1.cell (j := 1) rfl; have hzz := hb1.size; have hl2 : w.heap.size + 1 + 1 < w1.heap.size := Q1.lt; have hl0 : w.heap.size < w1.heap.size := World.block_lt_of_cell? w1 _ y0; have hl1 : w.heap.size + 1 < w1.heap.size := World.block_lt_of_cell? w1 _ y2; clear Q1) | (go_at_call 39; refine (implSub_any s p hs _).mono ?_; rintro e1 w2 ⟨rfl, hb2⟩; rw [E2]; have z0 := box_cell hb2 y0; have z1 := box_cell hb2 y1; have z2 := box_cell hb2 y2; have hb12 := below_step hb2 hb1; have Q1 := HR1.out.below hb12; have g0 := Q1.frozen 0; have g1 := Q1.frozen 1; have t0 := Q1.cell (j := 0) rfl; have t1 := Q1.cell (j := 1) rfl; have hzy := hb12.size; have hm2 : w.heap.size + 1 + 1 < w2.heap.size := Q1.lt; have hm0 : w.heap.size < w2.heap.size := World.block_lt_of_cell? w2 _ z0; have hm1 : w.heap.size + 1 < w2.heap.size := World.block_lt_of_cell? w2 _ z2; clear Q1))
    have hb := below_step hb12 BB
    refine bodyPost_ret (v := takeV (.slice (some ⟨w2.heap.size, 0, none⟩) 0 0) xs s p many) (by rw [HV.out]; simp [results, Tryd.results15, go_sem, *]; try rfl) rfl ?_
    have hbs := hb.size
    exact ⟨_, 0, 0, rfl, by rw [HE.out]; rfl, by rw [HE.out]; exact owns_nil' _ _ (by simp) (by omega), (by repeat' (first | (with_reducible exact Below.refl _ _) | (with_reducible assumption) | (with_reducible refine below_step (by assumption) ?_) | (with_reducible refine below_alloc ?_ _) | (with_reducible refine Below.drew ?_) | (with_reducible refine below_drewN ?_ _) | (with_reducible refine Below.setCell ?_ ?_ _) | go_size))⟩
  cases E3 : inB many 0 99
  · have E5 : (inB 0 0 99 && inB many 0 99) = false := by rw [E3]; rfl
    obtain ⟨he, hv⟩ := take_no (xs := xs) (c := s) (p := p) (many := many) (by unfold subTakeB; simp [*])
    have HE := Lib.hid he
    have HV := Lib.hid hv
    clear he hv
    go_enter Tryd.func15, Tryd.ntmps15
    go_wp2_with fail
    rw [HW0.out]
    have hwz := HR1.out.lt
    go_wp2_with (first | (go_at_call 38; refine (implStore_any A n c xs hn HX.out hok.small hok.ints _ a (hS.below BB (Nat.le_refl _)) (hM.below BB) HLB.out).mono ?_; rintro e1 w1 ⟨rfl, hb1⟩; rw [E1]; have y0 := box_cell hb1 K0; have y1 := box_cell hb1 K1; have y2 := box_cell hb1 K2; have Q1 := HR1.out.below hb1; have f0 := Q1.frozen 0; have f1 := Q1.frozen 1; have u0 := Q1.cell (j := 0) rfl; have u1 := Q1.cell (j := 1) rfl; have hzz := hb1.size; have hl2 : w.heap.size + 1 + 1 < w1.heap.size := Q1.lt; have hl0 : w.heap.size < w1.heap.size := World.block_lt_of_cell? w1 _ y0; have hl1 : w.heap.size + 1 < w1.heap.size := World.block_lt_of_cell? w1 _ y2; clear Q1) | (go_at_call 39; refine (implSub_any s p hs _).mono ?_; rintro e1 w2 ⟨rfl, hb2⟩; rw [E2]; have z0 := box_cell hb2 y0; have z1 := box_cell hb2 y1; have z2 := box_cell hb2 y2; have hb12 := below_step hb2 hb1; have Q1 := HR1.out.below hb12; have g0 := Q1.frozen 0; have g1 := Q1.frozen 1; have t0 := Q1.cell (j := 0) rfl; have t1 := Q1.cell (j := 1) rfl; have hzy := hb12.size; have hm2 : w.heap.size + 1 + 1 < w2.heap.size := Q1.lt; have hm0 : w.heap.size < w2.heap.size := World.block_lt_of_cell? w2 _ z0; have hm1 : w.heap.size + 1 < w2.heap.size := World.block_lt_of_cell? w2 _ z2; clear Q1) | (go_at_call 44; refine (implReadable_any _ _ _).mono ?_; rintro e1 w2 ⟨rfl, rfl⟩; rw [E5]))
    have hb := below_step hb12 BB
    refine bodyPost_ret (v := takeV (.slice (some ⟨w2.heap.size, 0, none⟩) 0 0) xs s p many) (by rw [HV.out]; simp [results, Tryd.results15, go_sem, *]; try rfl) rfl ?_
    have hbs := hb.size
    exact ⟨_, 0, 0, rfl, by rw [HE.out]; rfl, by rw [HE.out]; exact owns_nil' _ _ (by simp) (by omega), (by repeat' (first | (with_reducible exact Below.refl _ _) | (with_reducible assumption) | (with_reducible refine below_step (by assumption) ?_) | (with_reducible refine below_alloc ?_ _) | (with_reducible refine Below.drew ?_) | (with_reducible refine below_drewN ?_ _) | (with_reducible refine Below.setCell ?_ ?_ _) | go_size))⟩
  have hp : 0 ≤ p ∧ p ≤ 100 := by unfold subB at E2; rw [Bool.and_eq_true] at E2; exact inB_iff.1 E2.2
  have E5 : (inB 0 0 99 && inB many 0 99) = true := by rw [E3]; rfl
  obtain ⟨hm0, hm9⟩ := inB_iff.1 E3
  obtain ⟨q, rfl⟩ : ∃ q : Nat, p = (q : Int) := ⟨p.toNat, by omega⟩
  obtain ⟨N, rfl⟩ : ∃ N : Nat, many = (N : Int) := ⟨many.toNat, by omega⟩
  have hN9 : N ≤ 99 := by omega
  have HY := Lib.hid (fun (out : List EnT) (at' : Int) (hr : subTo xs s (N : Int) q n = (out, at')) => take_yes HX.out (by unfold subTakeB; simp [*]) hr)
  have HN := Lib.hid (fun (k : Nat) (x : EnT) (h : xs[k]? = some x) => store_names E1 h)
  have hq : q ≤ 1048576 := by omega
  clear hp hm0 hm9
  refine (callsIn_wide (n := 6)).1 ?_
  refine callsIn_of_wp_marks Tryd.func15 rfl trivial ?_ rfl
  simp only [Tryd.ntmps15, List.size_toArray, List.length_cons, List.length_nil, Nat.reduceAdd, Nat.reduceSub, Array.replicate_succ, Array.replicate_zero, List.push_toArray, List.append_toArray, List.nil_append, List.cons_append]
  gi_wp2_with fail
  rw [HW0.out]
  have hwz := HR1.out.lt
  gi_wp2_with (first
    | (refine ⟨trivial, ?_⟩; gi_at_call 38; refine (callsIn_wide.2 (implStore_any A n c xs hn HX.out hok.small hok.ints _ a (hS.below BB (Nat.le_refl _)) (hM.below BB) HLB.out)).mono ?_; rintro e1 w1 ⟨rfl, hb1⟩; rw [E1]; have y0 := box_cell hb1 K0; have y1 := box_cell hb1 K1; have y2 := box_cell hb1 K2; have Q1 := HR1.out.below hb1; have f0 := Q1.frozen 0; have f1 := Q1.frozen 1; have u0 := Q1.cell (j := 0) rfl; have u1 := Q1.cell (j := 1) rfl; have hzz := hb1.size; have hl2 : w.heap.size + 1 + 1 < w1.heap.size := Q1.lt; have hl0 : w.heap.size < w1.heap.size := World.block_lt_of_cell? w1 _ y0; have hl1 : w.heap.size + 1 < w1.heap.size := World.block_lt_of_cell? w1 _ y2; clear Q1)
    | (refine ⟨trivial, ?_⟩; gi_at_call 39; refine (callsIn_wide.2 (implSub_any s q hs _)).mono ?_; rintro e1 w2 ⟨rfl, hb2⟩; rw [E2]; have z0 := box_cell hb2 y0; have z1 := box_cell hb2 y1; have z2 := box_cell hb2 y2; have hb12 := below_step hb2 hb1; have Q1 := HR1.out.below hb12; have g0 := Q1.frozen 0; have g1 := Q1.frozen 1; have t0 := Q1.cell (j := 0) rfl; have t1 := Q1.cell (j := 1) rfl; have hzy := hb12.size; have hm2 : w.heap.size + 1 + 1 < w2.heap.size := Q1.lt; have hm0 : w.heap.size < w2.heap.size := World.block_lt_of_cell? w2 _ z0; have hm1 : w.heap.size + 1 < w2.heap.size := World.block_lt_of_cell? w2 _ z2; clear Q1)
    | (refine ⟨trivial, ?_⟩; gi_at_call 44; refine (callsIn_wide.2 (implReadable_any _ _ _)).mono ?_; rintro e1 w2 ⟨rfl, rfl⟩; rw [E5])
    | (refine ⟨trivial, ?_⟩; gi_at_call 40; refine (from_in Fence.wide _ trivial rfl A n c q _).mono ?_; rintro e1 w4 ⟨rfl, rfl⟩))
  have T0 := HR0.out.below hb12
  have T1 := HR1.out.below hb12
  have T2 := HR2.out.below hb12
  have hB2 := below_step hb12 BB
  have HT0 := Lib.hid T0
  have HT1 := Lib.hid T1
  have HT2 := Lib.hid T2
  clear T0 T1 T2 y0 y1 y2 z0 z1 z2 K0 K1 K2 HR0 HR1 HR2 HLB hb1 hb2 hb12 BB f0 f1 u0 u1 g0 g1 t0 t1 HW0 hzz hzy
  have al : Below w2.heap.size w2 ((((w2.alloc (.cells #[] 72)).alloc (.cells #[.slice (some ⟨w2.heap.size, 0, none⟩) 0 0] 28)).alloc (.cells #[.slice A n c] 28)).alloc (.cells #[.int .i64 (q : Int)] 3)) := below_alloc (below_alloc (below_alloc (below_alloc (Below.refl _ _) _) _) _) _
  have bF := Boxed.new (((w2.alloc (.cells #[] 72)).alloc (.cells #[.slice (some ⟨w2.heap.size, 0, none⟩) 0 0] 28)).alloc (.cells #[.slice A n c] 28)) 3 (.int .i64 (q : Int))
  have bL := (Boxed.new ((w2.alloc (.cells #[] 72)).alloc (.cells #[.slice (some ⟨w2.heap.size, 0, none⟩) 0 0] 28)) 28 (.slice A n c)).alloc (.cells #[.int .i64 (q : Int)] 3)
  have bT := ((Boxed.new (w2.alloc (.cells #[] 72)) 28 (.slice (some ⟨w2.heap.size, 0, none⟩) 0 0)).alloc (.cells #[.slice A n c] 28)).alloc (.cells #[.int .i64 (q : Int)] 3)
  have oT : ((((w2.alloc (.cells #[] 72)).alloc (.cells #[.slice (some ⟨w2.heap.size, 0, none⟩) 0 0] 28)).alloc (.cells #[.slice A n c] 28)).alloc (.cells #[.int .i64 (q : Int)] 3)).ownsRow w2.heap.size 72 4 (.slice (some ⟨w2.heap.size, 0, none⟩) 0 0) 0 [] := (((owns_nil w2 72 4).alloc _).alloc _).alloc _
  simp only [World.size_alloc] at bF bL bT
  have hsz : ((((w2.alloc (.cells #[] 72)).alloc (.cells #[.slice (some ⟨w2.heap.size, 0, none⟩) 0 0] 28)).alloc (.cells #[.slice A n c] 28)).alloc (.cells #[.int .i64 (q : Int)] 3)).heap.size = w2.heap.size + 4 := by simp
  have R0 := HT0.out.below al
  have R1 := HT1.out.below al
  have R2 := HT2.out.below al
  have hBw := below_step al hB2
  obtain ⟨W0', hW0'⟩ : ∃ W0', (((w2.alloc (.cells #[] 72)).alloc (.cells #[.slice (some ⟨w2.heap.size, 0, none⟩) 0 0] 28)).alloc (.cells #[.slice A n c] 28)).alloc (.cells #[.int .i64 (q : Int)] 3) = W0' := ⟨_, rfl⟩
  rw [hW0'] at bF bL bT oT hsz R0 R1 R2 hBw ⊢
  clear hW0' al
  refine wpIn_rangeFunc_ownH rfl (by omega) (gf := 71) (lb := #[.pointer (some ⟨w2.heap.size + 1 + 1 + 1, 0, none⟩), .pointer (some ⟨w2.heap.size + 1 + 1, 0, none⟩)]) rfl trivial (enters_of Tryd.func71 (by kernel_rfl) rfl)
    (from_stops Fence.wide _ trivial rfl (by omega) (w2.heap.size + 1 + 1) (w2.heap.size + 1 + 1 + 1) w.heap.size n c q A xs HX.out hn hq W0' bL bF (HL.out.below hBw) HA.out) KpL.t (KpL.b (by omega)) (Below.refl _ _) (fun _ => rfl)
    (fun pre W => ((∃ v, Boxed W (w2.heap.size + 1) 28 v ∧ W.ownsRow w2.heap.size 72 4 v (stJ xs s N q pre).1.length ((stJ xs s N q pre).1.flatMap entryCells) ∧ v ≠ .slice none 0 0) ∧ RowIs W w.heap.size 30 [.string s, .int .i64 (stJ xs s N q pre).2] ∧ RowIs W (w.heap.size + 1) 3 [.int .i64 (N : Int)] ∧ RowIs W (w.heap.size + 1 + 1) 30 [.string ⟨#[]⟩, .int .i64 0]) ∧ Below w.heap.size w W)
    (fun cc pre W => ((∃ v, Boxed W (w2.heap.size + 1) 28 v ∧ W.ownsRow w2.heap.size 72 4 v (stJ xs s N q pre).1.length ((stJ xs s N q pre).1.flatMap entryCells) ∧ (v ≠ .slice none 0 0 ∧ cc = .exit 0 ∧ (stJ xs s N q pre).1.length = N)) ∧ RowIs W w.heap.size 30 [.string s, .int .i64 (stJ xs s N q pre).2] ∧ RowIs W (w.heap.size + 1) 3 [.int .i64 (N : Int)] ∧ RowIs W (w.heap.size + 1 + 1) 30 [.string ⟨#[]⟩, .int .i64 0]) ∧ Below w.heap.size w W)
    (OwnFrom.and (OwnFrom.and (Own.from (holdsRow_own _ _ _ _ _ (fun pre => (stJ xs s N q pre).1.length) (fun pre => (stJ xs s N q pre).1.flatMap entryCells) (fun _ v => v ≠ .slice none 0 0)) _) (OwnFrom.and (Own.from (rowIs_own _ _ (fun pre => [.string s, .int .i64 (stJ xs s N q pre).2])) _) (OwnFrom.and (Own.from (rowIs_own _ _ (fun _ => [.int .i64 (N : Int)])) _) (Own.from (rowIs_own _ _ (fun _ => [.string ⟨#[]⟩, .int .i64 0])) _)))) (ownFrom_below (Nat.le_refl _) (by omega)))
    (fun cc => OwnFrom.and (OwnFrom.and (Own.from (holdsRow_own _ _ _ _ _ (fun pre => (stJ xs s N q pre).1.length) (fun pre => (stJ xs s N q pre).1.flatMap entryCells) (fun pre v => v ≠ .slice none 0 0 ∧ cc = .exit 0 ∧ (stJ xs s N q pre).1.length = N)) _) (OwnFrom.and (Own.from (rowIs_own _ _ (fun pre => [.string s, .int .i64 (stJ xs s N q pre).2])) _) (OwnFrom.and (Own.from (rowIs_own _ _ (fun _ => [.int .i64 (N : Int)])) _) (Own.from (rowIs_own _ _ (fun _ => [.string ⟨#[]⟩, .int .i64 0])) _)))) (ownFrom_below (Nat.le_refl _) (by omega)))
    ⟨⟨⟨_, bT, oT, by simp⟩, R0, R2, R1⟩, hBw⟩
    (fun x a' W => ∃ Bx, w2.heap.size + 1 < Bx ∧ (W.cell? ⟨Bx, 0, none⟩ = some (.string (xs[x.1]'x.2).1) ∧ W.cell? ⟨Bx, 1, none⟩ = some (.int .i64 (xs[x.1]'x.2).2.1) ∧ W.cell? ⟨Bx, 2, none⟩ = some (.string (xs[x.1]'x.2).2.2.1) ∧ W.cell? ⟨Bx, 3, none⟩ = some (.int .i64 (xs[x.1]'x.2).2.2.2)) ∧ a' = { tmps := #[.slice A n c, .agg #[.string s, .int .i64 (q : Int)], .int .i64 (N : Int), undef, .pointer (some ⟨w.heap.size, 0, none⟩), .pointer (some ⟨w.heap.size + 1, 0, none⟩), .slice none 0 0, .pointer (some ⟨w.heap.size + 1 + 1, 0, none⟩), .bool false, .pointer (some ⟨w2.heap.size + 1, 0, none⟩), .int .i64 (x.1 : Int), .pointer (some ⟨Bx, 0, none⟩), .slice A n c, .bool true, .bool false, .bool false, .agg #[.string s, .int .i64 (q : Int)], .bool true, .bool false, .bool false, .bool false, .int .i64 (N : Int), .bool true, .bool false, .bool false, undef, undef, .slice (some ⟨w2.heap.size, 0, none⟩) 0 0, .slice A n c, .pointer (some ⟨w.heap.size, 1, none⟩), .int .i64 (q : Int), .func (.func 71) #[] #[.pointer (some ⟨w2.heap.size + 1 + 1 + 1, 0, none⟩), .pointer (some ⟨w2.heap.size + 1 + 1, 0, none⟩)], .int .i64 (x.1 : Int), entV (xs[x.1]'x.2), undef, undef, undef, undef, undef, undef, undef, undef, undef, undef, undef, undef, undef, undef, undef, undef], defers := [] })
    (fun x a' _ X Y row hs hg hr => by obtain ⟨Bx, h1, ⟨h2, h3, h4, h5⟩, h6⟩ := hs; exact ⟨Bx, h1, ⟨cell_kept h2 hg (fun r e => (hr r e).2), cell_kept h3 hg (fun r e => (hr r e).2), cell_kept h4 hg (fun r e => (hr r e).2), cell_kept h5 hg (fun r e => (hr r e).2)⟩, h6⟩)
    ?assign ?body ?done ?stop
  case assign =>
    rintro l pre ⟨j, hj⟩ W K ⟨⟨⟨v, bV, oV, hv⟩, rS, rN, rZ⟩, hB1⟩ hK
    obtain ⟨⟨x0, x1, x2, x3⟩, hy⟩ : ∃ y, xs[j] = y := ⟨_, rfl⟩
    simp only [ixV, entV, hy] at hK ⊢
    gi_wp2
    exact hK _ _ ((KeepsOthers.alloc _ _).from _) ⟨(Below.refl _ W).alloc hB1.size _, fun _ b => b.alloc _⟩ ⟨⟨⟨v, bV.alloc _, oV.alloc _, hv⟩, rS.alloc _, rN.alloc _, rZ.alloc _⟩, hB1.alloc hB1.size _⟩ ⟨W.heap.size, bV.lt, ⟨by go_cell, by go_cell, by go_cell, by go_cell⟩, rfl⟩
  case body =>
    rintro l pre ⟨j, hj⟩ a' W hl ⟨r, hr⟩ ⟨⟨⟨v, bV, oV, hv⟩, rS, rN, rZ⟩, hB1⟩ ⟨Bx, hBx, ⟨c0, c1, c2, c3⟩, rfl⟩ hlt
    obtain ⟨g, cp, hvv⟩ : ∃ g cp, v = .slice (some ⟨g, 0, none⟩) (stJ xs s N q pre).1.length cp := by
      obtain ⟨_, ⟨h, _⟩ | ⟨g, cap, cur, h, _⟩⟩ := oV
      · exact absurd h hv
      · exact ⟨g, cap, h⟩
    subst hvv
    have hsn := stJ_snoc xs s N q pre ⟨j, hj⟩
    have hln := stJ_len xs s N q pre
    obtain ⟨⟨out, at'⟩, hst⟩ : ∃ st, stJ xs s N q pre = st := ⟨_, rfl⟩
    simp only [hst] at bV oV rS hsn hln hv
    clear hst
    obtain ⟨m, hm⟩ : ∃ m, out.length = m := ⟨_, rfl⟩
    rw [hm] at bV oV hln hv
    have HSN := Lib.hid hsn
    have HM := Lib.hid hm
    clear hsn hm
    have hxk : xs[j]? = some (xs[j]'hj) := List.getElem?_eq_getElem hj
    have hnm := HN.out _ _ hxk
    have hsm := (hok.small _ (List.mem_of_getElem? hxk)).1
    obtain ⟨⟨x0, x1, x2, x3⟩, hy⟩ : ∃ y, xs[j] = y := ⟨_, rfl⟩
    simp only [entV, hy] at c0 c1 c2 c3 hnm hsm hxk ⊢
    have HXK := Lib.hid hxk
    clear hxk
    have cT := bV.cell
    have fT := bV.frozen
    have s0 := rS.cell (j := 0) rfl
    have s1 := rS.cell (j := 1) rfl
    have n0 := rN.cell (j := 0) rfl
    have hBs := hB1.size
    have hgl := (owns_lt oV).1
    have hm9 : m ≤ 1048576 := by omega
    have hw : wrap64 ((j : Int) + 1) = (j : Int) + 1 := by
      have := HX.out
      unfold wrap64; omega
    by_cases hmN : m = N
    · have E : ((m : Int) == (N : Int)) = true := by simp [hmN]
      have HS2 : Hid (stJ xs s N q (pre ++ [⟨j, hj⟩]) = (out, at')) := Lib.hid (by rw [HSN.out, subStep_full (by have := HM.out; simp only; omega)])
      clear HSN
      gi_wp2
      exact ⟨KeepsFrom.refl _ _, ⟨⟨⟨_, bV, by rw [HS2.out]; simp only; rw [HM.out]; exact oV, hv, rfl, by rw [HS2.out]; simp only; rw [HM.out]; exact hmN⟩, by rw [HS2.out]; exact rS, rN, rZ⟩, hB1⟩⟩
    · have E : ((m : Int) == (N : Int)) = false := by simp; omega
      have hne : ((out, at').1.length : Int) ≠ (N : Int) := by have := HM.out; simp only; omega
      cases EF : fitsB s (x0, x1, x2, x3)
      · have HS2 : Hid (stJ xs s N q (pre ++ [⟨j, hj⟩]) = (out, (j : Int) + 1)) := Lib.hid (by rw [HSN.out, subStep_miss hne HXK.out EF])
        clear HSN hne
        gi_wp2_with (refine ⟨trivial, ?_⟩; gi_at_call 41; refine (CallsIn.inRound l (callsIn_wide.2 (wants_any s at' x0 x1 x2 x3 hsm hnm _ a (hS.below hB1 (Nat.le_refl _)) (hM.below hB1)))).mono ?_; rintro e1 w3 ⟨rfl, hb3⟩; rw [EF]; have S3 := rS.below hb3; have s30 := S3.cell (j := 0) rfl; have s31 := S3.cell (j := 1) rfl; have s3f := S3.frozen 1; have T3 := boxed_below bV hb3; have t3c := T3.cell; have t3f := T3.frozen; have d0 := box_cell hb3 c0; have d1 := box_cell hb3 c1; have d2 := box_cell hb3 c2; have d3 := box_cell hb3 c3; have hsz3 := hb3.size; have O3 := Lib.hid (owns_below oV hb3); have lt1 := S3.lt; have lt2 := T3.lt; have lt3 : Bx < w3.heap.size := World.block_lt_of_cell? w3 _ d0)
        try rw [hw]
        exact ⟨((keeps_below hb3).trans (KeepsOthers.setCell _ _ _)).from _, (KpL.below hBs hb3).t ⟨(Below.refl _ w3).setCell (p := ⟨w.heap.size, 1, none⟩) (Nat.le_refl _) _, fun v0 b => RowIs.other (vs := [v0]) b (by show _ ≠ w.heap.size; omega) _⟩,
          ⟨⟨⟨_, RowIs.other (vs := [_]) T3 (by show _ ≠ w.heap.size; omega) _, by rw [HS2.out]; simp only; rw [HM.out]; exact owns_other O3.out (by show _ ≠ w.heap.size; omega) _, hv⟩, by rw [HS2.out]; exact S3.set 1 _, (rN.below hb3).other (by show _ ≠ w.heap.size; omega) _, (rZ.below hb3).other (by show _ ≠ w.heap.size; omega) _⟩, (below_step hb3 hB1).setCell (p := ⟨w.heap.size, 1, none⟩) (Nat.le_refl _) _⟩⟩
      · have HS2 : Hid (stJ xs s N q (pre ++ [⟨j, hj⟩]) = (out ++ [(x0, x1, x2, x3)], (j : Int) + 1)) := Lib.hid (by rw [HSN.out, subStep_hit hne HXK.out EF])
        clear HSN hne
        gi_wp2_with (first | (refine ⟨trivial, ?_⟩; gi_at_call 41; refine (CallsIn.inRound l (callsIn_wide.2 (wants_any s at' x0 x1 x2 x3 hsm hnm _ a (hS.below hB1 (Nat.le_refl _)) (hM.below hB1)))).mono ?_; rintro e1 w3 ⟨rfl, hb3⟩; rw [EF]; have S3 := rS.below hb3; have s30 := S3.cell (j := 0) rfl; have s31 := S3.cell (j := 1) rfl; have s3f := S3.frozen 1; have T3 := boxed_below bV hb3; have t3c := T3.cell; have t3f := T3.frozen; have d0 := box_cell hb3 c0; have d1 := box_cell hb3 c1; have d2 := box_cell hb3 c2; have d3 := box_cell hb3 c3; have hsz3 := hb3.size; have O3 := Lib.hid (owns_below oV hb3); have lt1 := S3.lt; have lt2 := T3.lt; have lt3 : Bx < w3.heap.size := World.block_lt_of_cell? w3 _ d0) | (gi_at_builtin; refine wpListIn_app1 rfl _ _ 28 72 4 48 rowEntry rfl w2.heap.size g m cp _ O3.out rfl rfl rfl rfl (by unfold maxLen; omega) (by omega) (by omega) ?_; intro g4 c4 w4 ho4 hg4 hz4; have HO4 := Lib.hid ho4; have HG4 := Lib.hid hg4; have T4 : Boxed w4 (w2.heap.size + 1) _ _ := T3.kept hg4 (T3.not_row (by decide) O3.out); have t4c := T4.cell; have t4f := T4.frozen; have S4 := S3.grown hg4 (by simp; omega); have s40 := S4.cell (j := 0) rfl; have s41 := S4.cell (j := 1) rfl; have s4f := S4.frozen 1; have N4 := (rN.below hb3).grown hg4 (by simp; omega); have Z4 := (rZ.below hb3).grown hg4 (by simp; omega); have lt4 := S4.lt; have lt5 := T4.lt; clear ho4 hg4))
        try rw [hw]
        have hng : g4 ≠ w2.heap.size + 1 := fun e => T4.not_row (by decide) HO4.out (by rw [← e]; rfl)
        have hgl4 := (owns_lt HO4.out).1
        have hbW : Below w.heap.size W w4 := below_grown (hb3.mono hBs) HG4.out (by omega) (by omega)
        exact ⟨((((keeps_below hb3).trans (keeps_grown O3.out HG4.out)).trans (KeepsOthers.setCell _ _ _)).trans (KeepsOthers.setCell _ _ _)).from _,
          ⟨(hbW.setCell (p := ⟨w2.heap.size + 1, 0, none⟩) (by show w.heap.size ≤ w2.heap.size + 1; omega) _).setCell (p := ⟨w.heap.size, 1, none⟩) (Nat.le_refl _) _, fun v0 b => by
            have b3 := boxed_below b hb3
            have b4 : Boxed w4 _ _ v0 := b3.kept HG4.out (b3.not_row (by decide) O3.out)
            exact RowIs.other (vs := [v0]) (RowIs.other (vs := [v0]) b4 (by show _ ≠ w2.heap.size + 1; omega) _) (by show _ ≠ w.heap.size; omega) _⟩,
          ⟨⟨⟨_, RowIs.other (vs := [_]) (T4.set _) (by show _ ≠ w.heap.size; omega) _, by
            rw [HS2.out]
            simp only [List.length_append, List.length_singleton, HM.out]
            have h := owns_other (owns_other HO4.out (p := ⟨w2.heap.size + 1, 0, none⟩) hng (.slice (some ⟨g4, 0, none⟩) (m + 1) c4)) (p := ⟨w.heap.size, 1, none⟩) (by show _ ≠ w.heap.size; omega) (.int .i64 ((j : Int) + 1))
            simpa [List.flatMap_append, entryCells] using h, by simp⟩,
            by rw [HS2.out]; exact (S4.other (p := ⟨w2.heap.size + 1, 0, none⟩) (by show _ ≠ w2.heap.size + 1; omega) _).set 1 _,
            ((N4.other (by show _ ≠ w2.heap.size + 1; omega) _).other (by show _ ≠ w.heap.size; omega) _), ((Z4.other (by show _ ≠ w2.heap.size + 1; omega) _).other (by show _ ≠ w.heap.size; omega) _)⟩,
            (((below_grown (below_step hb3 hB1) HG4.out (by omega) (by omega)).setCell (p := ⟨w2.heap.size + 1, 0, none⟩) (by show w.heap.size ≤ w2.heap.size + 1; omega) _).setCell (p := ⟨w.heap.size, 1, none⟩) (Nat.le_refl _) _)⟩⟩
  case done =>
    rintro D js W hD hjs ⟨⟨⟨v, bV, oV, hv⟩, rS, rN, rZ⟩, hB1⟩ hK
    obtain ⟨g, cp, hvv⟩ : ∃ g cp, v = .slice (some ⟨g, 0, none⟩) (stJ xs s N q js).1.length cp := by
      obtain ⟨_, ⟨h, _⟩ | ⟨g, cap, cur, h, _⟩⟩ := oV
      · exact absurd h hv
      · exact ⟨g, cap, h⟩
    subst hvv
    obtain ⟨⟨out, at'⟩, hst⟩ : ∃ st, stJ xs s N q js = st := ⟨_, rfl⟩
    obtain ⟨he, hvv⟩ := HY.out out at' (by rw [← hst, stJ_to hjs])
    simp only [hst] at bV oV rS
    have HE := Lib.hid he
    have HV := Lib.hid hvv
    clear hst he hvv hv
    have cT := bV.cell
    have s0 := rS.cell (j := 0) rfl
    have s1 := rS.cell (j := 1) rfl
    have f0 := rZ.frozen 0
    have f1 := rZ.frozen 1
    have u0 := rZ.cell (j := 0) rfl
    have u1 := rZ.cell (j := 1) rfl
    have hgl := (owns_lt oV).1
    gi_wp2
    gi_region
    all_goals gi_wp2
    have hKF : (((W.setCell ⟨w.heap.size + 1 + 1, 0, none⟩ (.string s)).setCell ⟨w.heap.size + 1 + 1, 1, none⟩ (.int .i64 at')).drew).heap[D]? = some (.deferred (some [])) := (((KeepsOthers.setCell W _ _).trans (KeepsOthers.setCell _ _ _)).trans (KeepsOthers.drew _)).same D _ hK rfl
    have RF : RowIs (((W.setCell ⟨w.heap.size + 1 + 1, 0, none⟩ (.string s)).setCell ⟨w.heap.size + 1 + 1, 1, none⟩ (.int .i64 at')).drew) (w.heap.size + 1 + 1) 30 [.string s, .int .i64 at'] := (rZ.set 0 (.string s)).set 1 (.int .i64 at')
    have OF : (((W.setCell ⟨w.heap.size + 1 + 1, 0, none⟩ (.string s)).setCell ⟨w.heap.size + 1 + 1, 1, none⟩ (.int .i64 at')).drew).ownsRow w2.heap.size 72 4 (.slice (some ⟨g, 0, none⟩) out.length cp) out.length (out.flatMap entryCells) := owns_other (owns_other oV (p := ⟨w.heap.size + 1 + 1, 0, none⟩) (by show _ ≠ w.heap.size + 1 + 1; omega) _) (p := ⟨w.heap.size + 1 + 1, 1, none⟩) (by show _ ≠ w.heap.size + 1 + 1; omega) _
    have BF : Below w.heap.size w (((W.setCell ⟨w.heap.size + 1 + 1, 0, none⟩ (.string s)).setCell ⟨w.heap.size + 1 + 1, 1, none⟩ (.int .i64 at')).drew) := Below.drew ((hB1.setCell (p := ⟨w.heap.size + 1 + 1, 0, none⟩) (by show w.heap.size ≤ w.heap.size + 1 + 1; omega) _).setCell (p := ⟨w.heap.size + 1 + 1, 1, none⟩) (by show w.heap.size ≤ w.heap.size + 1 + 1; omega) _)
    obtain ⟨WF, hWF⟩ : ∃ WF, (((W.setCell ⟨w.heap.size + 1 + 1, 0, none⟩ (.string s)).setCell ⟨w.heap.size + 1 + 1, 1, none⟩ (.int .i64 at')).drew) = WF := ⟨_, rfl⟩
    rw [hWF] at hKF RF OF BF ⊢
    clear hWF
    have RP : RowIs (WF.putObj D (.deferred none)) (w.heap.size + 1 + 1) 30 [.string s, .int .i64 at'] := RF.grown (grownBy_putObj' WF D (.deferred none)) (by simp; omega)
    have r0 := RP.cell (j := 0) rfl
    have r1 := RP.cell (j := 1) rfl
    have OP := ownsRow_putObj OF (.deferred none) hKF rfl
    have BP := BF.trans (belowK_b (w := w) (Nat.le_refl _) WF D _ (.deferred none) (by omega) hKF rfl rfl)
    refine ⟨by simp, .inl ⟨_, _, rfl, run_takeDeferred hKF, ?_⟩⟩
    refine ⟨takeV (.slice (some ⟨g, 0, none⟩) out.length cp) xs s (q : Int) (N : Int), ?_, g, out.length, cp, rfl, by rw [HE.out], by rw [HE.out]; exact ownsRow_base OP (by omega), BP⟩
    rw [HV.out]
    simp [results, Tryd.results15, go_sem, r0, r1]
  case stop =>
    rintro D cc pre W hD ⟨k, hqk, hkn, hpre⟩ ⟨⟨⟨v, bV, oV, hv, rfl, hN⟩, rS, rN, rZ⟩, hB1⟩ hK
    obtain ⟨g, cp, hvv⟩ : ∃ g cp, v = .slice (some ⟨g, 0, none⟩) (stJ xs s N q pre).1.length cp := by
      obtain ⟨_, ⟨h, _⟩ | ⟨g, cap, cur, h, _⟩⟩ := oV
      · exact absurd h hv
      · exact ⟨g, cap, h⟩
    subst hvv
    obtain ⟨⟨out, at'⟩, hst⟩ : ∃ st, stJ xs s N q pre = st := ⟨_, rfl⟩
    obtain ⟨he, hvv⟩ := HY.out out at' (by rw [subTo_full (k := k) (by rw [← stJ_to hpre, hN]) hqk hkn, ← hst, stJ_to hpre])
    simp only [hst] at bV oV rS
    have HE := Lib.hid he
    have HV := Lib.hid hvv
    clear hst he hvv hv
    have cT := bV.cell
    have s0 := rS.cell (j := 0) rfl
    have s1 := rS.cell (j := 1) rfl
    have f0 := rZ.frozen 0
    have f1 := rZ.frozen 1
    have u0 := rZ.cell (j := 0) rfl
    have u1 := rZ.cell (j := 1) rfl
    have hgl := (owns_lt oV).1
    gi_wp2
    gi_region
    all_goals gi_wp2
    have hKF : (((W.setCell ⟨w.heap.size + 1 + 1, 0, none⟩ (.string s)).setCell ⟨w.heap.size + 1 + 1, 1, none⟩ (.int .i64 at')).drew).heap[D]? = some (.deferred (some [])) := (((KeepsOthers.setCell W _ _).trans (KeepsOthers.setCell _ _ _)).trans (KeepsOthers.drew _)).same D _ hK rfl
    have RF : RowIs (((W.setCell ⟨w.heap.size + 1 + 1, 0, none⟩ (.string s)).setCell ⟨w.heap.size + 1 + 1, 1, none⟩ (.int .i64 at')).drew) (w.heap.size + 1 + 1) 30 [.string s, .int .i64 at'] := (rZ.set 0 (.string s)).set 1 (.int .i64 at')
    have OF : (((W.setCell ⟨w.heap.size + 1 + 1, 0, none⟩ (.string s)).setCell ⟨w.heap.size + 1 + 1, 1, none⟩ (.int .i64 at')).drew).ownsRow w2.heap.size 72 4 (.slice (some ⟨g, 0, none⟩) out.length cp) out.length (out.flatMap entryCells) := owns_other (owns_other oV (p := ⟨w.heap.size + 1 + 1, 0, none⟩) (by show _ ≠ w.heap.size + 1 + 1; omega) _) (p := ⟨w.heap.size + 1 + 1, 1, none⟩) (by show _ ≠ w.heap.size + 1 + 1; omega) _
    have BF : Below w.heap.size w (((W.setCell ⟨w.heap.size + 1 + 1, 0, none⟩ (.string s)).setCell ⟨w.heap.size + 1 + 1, 1, none⟩ (.int .i64 at')).drew) := Below.drew ((hB1.setCell (p := ⟨w.heap.size + 1 + 1, 0, none⟩) (by show w.heap.size ≤ w.heap.size + 1 + 1; omega) _).setCell (p := ⟨w.heap.size + 1 + 1, 1, none⟩) (by show w.heap.size ≤ w.heap.size + 1 + 1; omega) _)
    obtain ⟨WF, hWF⟩ : ∃ WF, (((W.setCell ⟨w.heap.size + 1 + 1, 0, none⟩ (.string s)).setCell ⟨w.heap.size + 1 + 1, 1, none⟩ (.int .i64 at')).drew) = WF := ⟨_, rfl⟩
    rw [hWF] at hKF RF OF BF ⊢
    clear hWF
    have RP : RowIs (WF.putObj D (.deferred none)) (w.heap.size + 1 + 1) 30 [.string s, .int .i64 at'] := RF.grown (grownBy_putObj' WF D (.deferred none)) (by simp; omega)
    have r0 := RP.cell (j := 0) rfl
    have r1 := RP.cell (j := 1) rfl
    have OP := ownsRow_putObj OF (.deferred none) hKF rfl
    have BP := BF.trans (belowK_b (w := w) (Nat.le_refl _) WF D _ (.deferred none) (by omega) hKF rfl rfl)
    refine ⟨by simp, .inl ⟨_, _, rfl, run_takeDeferred hKF, ?_⟩⟩
    refine ⟨takeV (.slice (some ⟨g, 0, none⟩) out.length cp) xs s (q : Int) (N : Int), ?_, g, out.length, cp, rfl, by rw [HE.out], by rw [HE.out]; exact ownsRow_base OP (by omega), BP⟩
    rw [HV.out]
    simp [results, Tryd.results15, go_sem, r0, r1]

theorem implTake0_at (lo hi : Nat) (v : Value) (xs : List EnT) (s : ByteArray) (p many : Int) (hok : StOk xs) (hs : StrOk s) (w : World) (a : Addr) (hS : Sent a w) (hM : MaxL w) (h : entrySAt w lo hi v xs) :
    Calls Tryd.prog 15 #[v, .agg #[.string s, .int .i64 p], .int .i64 many] w fun e w' => ∃ u, e = .returned (takeV u xs s p many) ∧ entrySAt w' w.heap.size w'.heap.size u (subTook xs s p many) ∧ Below w.heap.size w w' := by
  obtain ⟨g, m, c, rfl, hx, hb, _, _, ho⟩ := h.open
  exact (implTake0_any _ _ _ xs s p many hb hx hok hs w a hS hM (lies_of_own ho)).mono fun _ _ ⟨_, _, _, he, hl, hw, hB⟩ => ⟨_, he, entrySAt.made hl (by have := subTook_len xs s p many; omega) hw, hB⟩
theorem specTake0_at (lo hi : Nat) (v : Value) (xs : List EnT) (s : ByteArray) (p many : Int) (hok : StOk xs) (hs : StrOk s) (w : World) (h : entrySAt w lo hi v xs) :
    Calls Tryd.prog 14 #[v, .agg #[.string s, .int .i64 p], .int .i64 many] w fun e w' => ∃ u, e = .returned (takeV u xs s p many) ∧ entrySAt w' w.heap.size w'.heap.size u (subTook xs s p many) ∧ Below w.heap.size w w' := by
  obtain ⟨g, m, c, rfl, hx, hb, _, _, ho⟩ := h.open
  exact (specTake0_any _ _ _ xs s p many hb hx hok hs w (lies_of_own ho)).mono fun _ _ ⟨_, _, _, he, hl, hw, hB⟩ => ⟨_, he, entrySAt.made hl (by have := subTook_len xs s p many; omega) hw, hB⟩
end Go.Proofs.YtcccidlfigfibaaDoor
