/-
  SubTake of the reference. No condition.
-/
import Derived.Test.YtcccidlfigfibaaDoorSubLI
import Derived.Test.YtcccidlfigfibaaDoorKEntry
namespace Go.Proofs.YtcccidlfigfibaaDoor
open Go.ChangeShapes Go.WideShapes Go.ChangeAt Go.RowKit

def takeV (v : Value) (xs : List EnT) (c : ByteArray) (p many : Int) : Value := .tuple #[v, .agg #[.string (subCat xs c p many), .int .i64 (subAt xs c p many)], .bool (subTakeB xs c p many)]
theorem take_no {xs : List EnT} {c : ByteArray} {p many : Int} (h : subTakeB xs c p many = false) : subTook xs c p many = [] ∧ ∀ v, takeV v xs c p many = .tuple #[v, .agg #[.string ⟨#[]⟩, .int .i64 0], .bool false] := by
  refine ⟨by unfold subTook; rw [h]; rfl, fun v => ?_⟩
  unfold takeV subCat subAt; rw [h]; rfl
theorem take_yes {xs : List EnT} {c : ByteArray} {p : Nat} {many : Int} {n : Nat} (hx : xs.length = n) (h : subTakeB xs c (p : Int) many = true) {out : List EnT} {at' : Int} (hr : subTo xs c many p n = (out, at')) : subTook xs c (p : Int) many = out ∧ ∀ v, takeV v xs c (p : Int) many = .tuple #[v, .agg #[.string c, .int .i64 at'], .bool true] := by
  refine ⟨by unfold subTook; rw [h, hx, Int.toNat_natCast, hr]; rfl, fun v => ?_⟩
  unfold takeV subCat subAt; rw [h, hx, Int.toNat_natCast, hr]; rfl

theorem owns_other {w : World} {B : Nat} {e : TypeId} {size n m c g : Nat} {xs : List Value} (h : w.ownsRow B e size (.slice (some ⟨g, 0, none⟩) m c) n xs) {p : Addr} (hp : g ≠ p.block) (u : Value) : (w.setCell p u).ownsRow B e size (.slice (some ⟨g, 0, none⟩) m c) n xs := by
  refine ⟨h.1, ?_⟩
  rcases h.2 with q2 | ⟨g', cap, cur, hv, hg, hh, r⟩
  · exact .inl q2
  · have e : g = g' := by simp only [Value.slice.injEq, Option.some.injEq, Addr.mk.injEq] at hv; exact hv.1.1
    exact .inr ⟨g', cap, cur, hv, hg, (heap_setCell_other w p g' u (by omega)).trans hh, r⟩

set_option maxHeartbeats 12800000 in
theorem specTake0_any (A : Option Addr) (n c : Nat) (xs : List EnT) (s : ByteArray) (p many : Int) (hn : n ≤ 1048576) (hx : xs.length = n) (hok : StOk xs) (hs : StrOk s) (w : World) (hL : Lies w 4 A n (xs.flatMap entryCells)) :
    Calls Tryd.prog 14 #[.slice A n c, .agg #[.string s, .int .i64 p], .int .i64 many] w fun e w' => ∃ g k cap, e = .returned (takeV (.slice (some ⟨g, 0, none⟩) k cap) xs s p many) ∧ (subTook xs s p many).length = k ∧ w'.ownsRow w.heap.size 72 4 (.slice (some ⟨g, 0, none⟩) k cap) k ((subTook xs s p many).flatMap entryCells) ∧ Below w.heap.size w w' := by
  have HX := Lib.hid hx
  have HL := Lib.hid hL
  clear hx hL
  have BB : Below w.heap.size w (((w.alloc (.cells #[.string s, .int .i64 p] 30)).alloc (.cells #[.string ⟨#[]⟩, .int .i64 0] 30)).alloc (.cells #[] 72)) := below_alloc (below_alloc (below_alloc (Below.refl _ _) _) _) _
  have R0 : RowIs (((w.alloc (.cells #[.string s, .int .i64 p] 30)).alloc (.cells #[.string ⟨#[]⟩, .int .i64 0] 30)).alloc (.cells #[] 72)) w.heap.size 30 [.string s, .int .i64 p] := ((RowIs.new w #[.string s, .int .i64 p] _).alloc _).alloc _
  have R1 : RowIs (((w.alloc (.cells #[.string s, .int .i64 p] 30)).alloc (.cells #[.string ⟨#[]⟩, .int .i64 0] 30)).alloc (.cells #[] 72)) (w.heap.size + 1) 30 [.string ⟨#[]⟩, .int .i64 0] := by
    have h := (RowIs.new (w.alloc (.cells #[.string s, .int .i64 p] 30)) #[.string ⟨#[]⟩, .int .i64 0] 30).alloc (.cells #[] 72)
    rwa [show (w.alloc (.cells #[.string s, .int .i64 p] 30)).heap.size = w.heap.size + 1 by simp] at h
  have O2 : (((w.alloc (.cells #[.string s, .int .i64 p] 30)).alloc (.cells #[.string ⟨#[]⟩, .int .i64 0] 30)).alloc (.cells #[] 72)).ownsRow (w.heap.size + 2) 72 4 (.slice (some ⟨w.heap.size + 1 + 1, 0, none⟩) 0 0) 0 [] := owns_nil' _ _ (by simp) (by omega)
  have HLB := Lib.hid (HL.out.below BB)
  obtain ⟨W0, hW0⟩ : ∃ W0, (((w.alloc (.cells #[.string s, .int .i64 p] 30)).alloc (.cells #[.string ⟨#[]⟩, .int .i64 0] 30)).alloc (.cells #[] 72)) = W0 := ⟨_, rfl⟩
  have HW0 := Lib.hid hW0
  rw [hW0] at BB R0 R1 O2 HLB
  clear hW0
  have hz0 : w.heap.size + 2 < W0.heap.size := by have := (owns_lt O2).2; omega
  have HR0 := Lib.hid R0
  have HR1 := Lib.hid R1
  have HO2 := Lib.hid O2
  clear R0 R1 O2
  have K0 := HR0.out.cell (j := 0) rfl
  have K1 := HR0.out.cell (j := 1) rfl
  cases E1 : storeB xs
  · skip
    obtain ⟨he, hv⟩ := take_no (xs := xs) (c := s) (p := p) (many := many) (by unfold subTakeB; simp [*])
    have HE := Lib.hid he
    have HV := Lib.hid hv
    clear he hv
    go_enter Tryd.func14, Tryd.ntmps14
    go_wp2_with fail
    rw [HW0.out]
    have hwz := HR1.out.lt
    go_wp2_with (first | (go_at_call 34; refine (specStore_any A n c xs hn HX.out hok.small _ HLB.out).mono ?_; rintro e1 w1 ⟨rfl, hb1⟩; rw [E1]; have y0 := box_cell hb1 K0; have y1 := box_cell hb1 K1; have Q1 := HR1.out.below hb1; have f0 := Q1.frozen 0; have f1 := Q1.frozen 1; have u0 := Q1.cell (j := 0) rfl; have u1 := Q1.cell (j := 1) rfl; have hzz := hb1.size; clear Q1))
    have hb := below_step hb1 BB
    have hOO := owns_below HO2.out hb1
    refine bodyPost_ret (v := takeV (.slice (some ⟨w.heap.size + 1 + 1, 0, none⟩) 0 0) xs s p many) (by rw [HV.out]; simp [results, Tryd.results14, go_sem, *]; try rfl) rfl ?_
    exact ⟨_, 0, 0, rfl, by rw [HE.out]; rfl, by rw [HE.out]; exact ownsRow_base (owns_other (owns_other hOO (by show _ ≠ w.heap.size + 1; omega) _) (by show _ ≠ w.heap.size + 1; omega) _) (by omega), (by repeat' (first | (with_reducible exact Below.refl _ _) | (with_reducible assumption) | (with_reducible refine below_step (by assumption) ?_) | (with_reducible refine below_alloc ?_ _) | (with_reducible refine Below.drew ?_) | (with_reducible refine below_drewN ?_ _) | (with_reducible refine Below.setCell ?_ ?_ _) | go_size))⟩
  cases E2 : subB s p
  · skip
    obtain ⟨he, hv⟩ := take_no (xs := xs) (c := s) (p := p) (many := many) (by unfold subTakeB; simp [*])
    have HE := Lib.hid he
    have HV := Lib.hid hv
    clear he hv
    go_enter Tryd.func14, Tryd.ntmps14
    go_wp2_with fail
    rw [HW0.out]
    have hwz := HR1.out.lt
    go_wp2_with (first | (go_at_call 34; refine (specStore_any A n c xs hn HX.out hok.small _ HLB.out).mono ?_; rintro e1 w1 ⟨rfl, hb1⟩; rw [E1]; have y0 := box_cell hb1 K0; have y1 := box_cell hb1 K1; have Q1 := HR1.out.below hb1; have f0 := Q1.frozen 0; have f1 := Q1.frozen 1; have u0 := Q1.cell (j := 0) rfl; have u1 := Q1.cell (j := 1) rfl; have hzz := hb1.size; clear Q1) | (go_at_call 35; refine (specSub_any s p hs _).mono ?_; rintro e1 w2 ⟨rfl, hb2⟩; rw [E2]; have z0 := box_cell hb2 y0; have z1 := box_cell hb2 y1; have hb12 := below_step hb2 hb1; have Q1 := HR1.out.below hb12; have g0 := Q1.frozen 0; have g1 := Q1.frozen 1; have t0 := Q1.cell (j := 0) rfl; have t1 := Q1.cell (j := 1) rfl; have hzy := hb12.size; clear Q1))
    have hb := below_step hb12 BB
    have hOO := owns_below HO2.out hb12
    refine bodyPost_ret (v := takeV (.slice (some ⟨w.heap.size + 1 + 1, 0, none⟩) 0 0) xs s p many) (by rw [HV.out]; simp [results, Tryd.results14, go_sem, *]; try rfl) rfl ?_
    exact ⟨_, 0, 0, rfl, by rw [HE.out]; rfl, by rw [HE.out]; exact ownsRow_base (owns_other (owns_other hOO (by show _ ≠ w.heap.size + 1; omega) _) (by show _ ≠ w.heap.size + 1; omega) _) (by omega), (by repeat' (first | (with_reducible exact Below.refl _ _) | (with_reducible assumption) | (with_reducible refine below_step (by assumption) ?_) | (with_reducible refine below_alloc ?_ _) | (with_reducible refine Below.drew ?_) | (with_reducible refine below_drewN ?_ _) | (with_reducible refine Below.setCell ?_ ?_ _) | go_size))⟩
  cases E3 : inB many 0 99
  · skip
    obtain ⟨he, hv⟩ := take_no (xs := xs) (c := s) (p := p) (many := many) (by unfold subTakeB; simp [*])
    have HE := Lib.hid he
    have HV := Lib.hid hv
    clear he hv
    go_enter Tryd.func14, Tryd.ntmps14
    go_wp2_with fail
    rw [HW0.out]
    have hwz := HR1.out.lt
    go_wp2_with (first | (go_at_call 34; refine (specStore_any A n c xs hn HX.out hok.small _ HLB.out).mono ?_; rintro e1 w1 ⟨rfl, hb1⟩; rw [E1]; have y0 := box_cell hb1 K0; have y1 := box_cell hb1 K1; have Q1 := HR1.out.below hb1; have f0 := Q1.frozen 0; have f1 := Q1.frozen 1; have u0 := Q1.cell (j := 0) rfl; have u1 := Q1.cell (j := 1) rfl; have hzz := hb1.size; clear Q1) | (go_at_call 35; refine (specSub_any s p hs _).mono ?_; rintro e1 w2 ⟨rfl, hb2⟩; rw [E2]; have z0 := box_cell hb2 y0; have z1 := box_cell hb2 y1; have hb12 := below_step hb2 hb1; have Q1 := HR1.out.below hb12; have g0 := Q1.frozen 0; have g1 := Q1.frozen 1; have t0 := Q1.cell (j := 0) rfl; have t1 := Q1.cell (j := 1) rfl; have hzy := hb12.size; clear Q1) | (go_at_call 43; refine (l6In_any _ _ _ _).mono ?_; rintro e1 w3 ⟨rfl, rfl⟩; rw [E3]))
    have hb := below_step hb12 BB
    have hOO := owns_below HO2.out hb12
    refine bodyPost_ret (v := takeV (.slice (some ⟨w.heap.size + 1 + 1, 0, none⟩) 0 0) xs s p many) (by rw [HV.out]; simp [results, Tryd.results14, go_sem, *]; try rfl) rfl ?_
    exact ⟨_, 0, 0, rfl, by rw [HE.out]; rfl, by rw [HE.out]; exact ownsRow_base (owns_other (owns_other hOO (by show _ ≠ w.heap.size + 1; omega) _) (by show _ ≠ w.heap.size + 1; omega) _) (by omega), (by repeat' (first | (with_reducible exact Below.refl _ _) | (with_reducible assumption) | (with_reducible refine below_step (by assumption) ?_) | (with_reducible refine below_alloc ?_ _) | (with_reducible refine Below.drew ?_) | (with_reducible refine below_drewN ?_ _) | (with_reducible refine Below.setCell ?_ ?_ _) | go_size))⟩
  have hp : 0 ≤ p ∧ p ≤ 100 := by unfold subB at E2; rw [Bool.and_eq_true] at E2; exact inB_iff.1 E2.2
  obtain ⟨hm0, hm9⟩ := inB_iff.1 E3
  obtain ⟨q, rfl⟩ : ∃ q : Nat, p = (q : Int) := ⟨p.toNat, by omega⟩
  obtain ⟨N, rfl⟩ : ∃ N : Nat, many = (N : Int) := ⟨many.toNat, by omega⟩
  have hN9 : N ≤ 99 := by omega
  have HY := Lib.hid (fun (out : List EnT) (at' : Int) (hr : subTo xs s (N : Int) q n = (out, at')) => take_yes HX.out (by unfold subTakeB; simp [*]) hr)
  have HN := Lib.hid (fun (k : Nat) (x : EnT) (h : xs[k]? = some x) => store_names E1 h)
  have hq : q ≤ 100 := by omega
  clear hp hm0 hm9
  go_enter Tryd.func14, Tryd.ntmps14
  go_wp2_with fail
  rw [HW0.out]
  have hwz := HR1.out.lt
  go_wp2_with (first | (go_at_call 34; refine (specStore_any A n c xs hn HX.out hok.small _ HLB.out).mono ?_; rintro e1 w1 ⟨rfl, hb1⟩; rw [E1]; have y0 := box_cell hb1 K0; have y1 := box_cell hb1 K1; have Q1 := HR1.out.below hb1; have f0 := Q1.frozen 0; have f1 := Q1.frozen 1; have u0 := Q1.cell (j := 0) rfl; have u1 := Q1.cell (j := 1) rfl; have hzz := hb1.size; clear Q1) | (go_at_call 35; refine (specSub_any s q hs _).mono ?_; rintro e1 w2 ⟨rfl, hb2⟩; rw [E2]; have z0 := box_cell hb2 y0; have z1 := box_cell hb2 y1; have hb12 := below_step hb2 hb1; have Q1 := HR1.out.below hb12; have g0 := Q1.frozen 0; have g1 := Q1.frozen 1; have t0 := Q1.cell (j := 0) rfl; have t1 := Q1.cell (j := 1) rfl; have hzy := hb12.size; clear Q1) | (go_at_call 43; refine (l6In_any _ _ _ _).mono ?_; rintro e1 w3 ⟨rfl, rfl⟩; rw [E3]))
  clear f0 f1 u0 u1 g0 g1 t0 t1 hzz hzy
  have R0 := HR0.out.below hb12
  have R1 := HR1.out.below hb12
  have hB2 := below_step hb12 BB
  have O2 := owns_below HO2.out hb12
  clear y0 y1 z0 z1 K0 K1 HR0 HR1 HO2 HLB hb1 hb2 hb12 BB
  go_loopw [9, 10] (fun l i wr => ∃ (k g m cp : Nat) (out : List EnT), (k ≤ n ∨ k = q) ∧ q ≤ k ∧ i = .int .i64 k ∧ l = .slice (some ⟨g, 0, none⟩) m cp ∧ m ≤ N ∧ Hid (subTo xs s (N : Int) q k = (out, (k : Int))) ∧ Hid (out.length = m) ∧ wr.ownsRow (w.heap.size + 2) 72 4 (.slice (some ⟨g, 0, none⟩) m cp) m (out.flatMap entryCells) ∧ RowIs wr w.heap.size 30 [.string s, .int .i64 q] ∧ RowIs wr (w.heap.size + 1) 30 [.string ⟨#[]⟩, .int .i64 0] ∧ Below w.heap.size w wr) (fun _ i _ => n - (intOf i).toNat)
  case atStart => exact ⟨q, w.heap.size + 1 + 1, 0, 0, [], .inr rfl, Nat.le_refl _, rfl, rfl, Nat.zero_le _, Lib.hid (subTo_start _ _ _ _), Lib.hid rfl, O2, R0, R1, hB2⟩
  case round =>
    obtain ⟨k, g, m, cp, out, hk, hqk, rfl, rfl, hmN, hT, hl, ho, hR0, hR1, hB⟩ := hrel
    have HO := Lib.hid ho
    have HR0 := Lib.hid hR0
    have HR1 := Lib.hid hR1
    have hgl := (owns_lt ho).1
    have hz2 : w.heap.size + 2 < wr.heap.size := by have := (owns_lt ho).2; omega
    have s0 := hR0.cell (j := 0) rfl
    have s1 := hR0.cell (j := 1) rfl
    have f0 := hR1.frozen 0
    have f1 := hR1.frozen 1
    have u0 := hR1.cell (j := 0) rfl
    have u1 := hR1.cell (j := 1) rfl
    clear ho hR0 hR1 R0 R1 O2 hB2
    by_cases hlt : k < n
    · by_cases hmlt : m < N
      · obtain ⟨b, o, rfl, hbl, hc⟩ := (HL.out.below hB).row (fun _ => rfl) (by omega)
        obtain ⟨⟨x0, x1, x2, x3⟩, hxk⟩ := get_lt HX.out hlt
        have hnm := HN.out _ _ hxk
        have hsm := (hok.small _ (List.mem_of_getElem? hxk)).1
        have c0 : wr.cell? ⟨b, o + k * 4, none⟩ = some (.string x0) := hc k _ hxk 0 _ rfl
        have c1 : wr.cell? ⟨b, o + k * 4 + 1, none⟩ = some (.int .i64 x1) := hc k _ hxk 1 _ rfl
        have c2 : wr.cell? ⟨b, o + k * 4 + 2, none⟩ = some (.string x2) := hc k _ hxk 2 _ rfl
        have c3 : wr.cell? ⟨b, o + k * 4 + 3, none⟩ = some (.int .i64 x3) := hc k _ hxk 3 _ rfl
        have hne : ((subTo xs s (N : Int) q k).1.length : Int) ≠ (N : Int) := by have h1 := hl.out; rw [hT.out]; simp only; omega
        cases EF : fitsB s (x0, x1, x2, x3)
        · have HT2 : Hid (subTo xs s (N : Int) q (k + 1) = (out, ((k + 1 : Nat) : Int))) := Lib.hid (by rw [subTo_succ xs s _ hqk, subStep_miss hne hxk EF, hT.out]; simp)
          clear hc hxk hne hT f0 f1 u0 u1
          have BR := Below.refl wr.heap.size wr
          go_wp2_with fail
          go_region_held3 (fun wx => wx.cell? ⟨w.heap.size, 0, none⟩ = some (.string s) ∧ wx.cell? ⟨b, o + k * 4, none⟩ = some (.string x0) ∧ wx.cell? ⟨b, o + k * 4 + 1, none⟩ = some (.int .i64 x1) ∧ wx.cell? ⟨b, o + k * 4 + 2, none⟩ = some (.string x2) ∧ wx.cell? ⟨b, o + k * 4 + 3, none⟩ = some (.int .i64 x3) ∧ Below wr.heap.size wr wx) ((go_split_ands; refine ⟨?_, ?_, ?_, ?_, ?_, ?_⟩ <;> first | assumption | (refine box_cell (by assumption) ?_; assumption) | (refine below_step (by assumption) ?_; assumption) | exact Below.drew (by assumption)))
            (first | (go_at_call 36; refine (l14Fits_any s x0 x1 x2 x3 hsm hnm _).mono ?_; rintro e1 w3 ⟨rfl, hb3⟩; rw [EF]))
          have hW3 : Below wr.heap.size wr w3 := (by repeat' (first | (with_reducible exact Below.refl _ _) | (with_reducible assumption) | (with_reducible refine below_step (by assumption) ?_) | (with_reducible refine below_alloc ?_ _) | (with_reducible refine Below.drew ?_) | (with_reducible refine below_drewN ?_ _) | (with_reducible refine Below.setCell ?_ ?_ _) | go_size))
          have hB3 : Below w.heap.size w w3 := below_step hW3 hB
          have O3 := owns_below HO.out hW3
          have T0 := HR0.out.below hW3
          have T1 := HR1.out.below hW3
          go_wp2
          go_roundw
          case rel => exact ⟨k + 1, g, m, cp, out, .inl (by omega), by omega, by go_num, rfl, hmN, HT2, hl, O3, T0, T1, hB3⟩
          case measure => simp [intOf]; omega
        · have HT2 : Hid (subTo xs s (N : Int) q (k + 1) = (out ++ [(x0, x1, x2, x3)], ((k + 1 : Nat) : Int))) := Lib.hid (by rw [subTo_succ xs s _ hqk, subStep_hit hne hxk EF, hT.out]; simp)
          clear hc hxk hne hT f0 f1 u0 u1
          have BR := Below.refl wr.heap.size wr
          go_wp2_with fail
          go_region_held3 (fun wx => wx.cell? ⟨w.heap.size, 0, none⟩ = some (.string s) ∧ wx.cell? ⟨b, o + k * 4, none⟩ = some (.string x0) ∧ wx.cell? ⟨b, o + k * 4 + 1, none⟩ = some (.int .i64 x1) ∧ wx.cell? ⟨b, o + k * 4 + 2, none⟩ = some (.string x2) ∧ wx.cell? ⟨b, o + k * 4 + 3, none⟩ = some (.int .i64 x3) ∧ Below wr.heap.size wr wx) ((go_split_ands; refine ⟨?_, ?_, ?_, ?_, ?_, ?_⟩ <;> first | assumption | (refine box_cell (by assumption) ?_; assumption) | (refine below_step (by assumption) ?_; assumption) | exact Below.drew (by assumption)))
            (first | (go_at_call 36; refine (l14Fits_any s x0 x1 x2 x3 hsm hnm _).mono ?_; rintro e1 w3 ⟨rfl, hb3⟩; rw [EF]))
          have hW3 : Below wr.heap.size wr w3 := (by repeat' (first | (with_reducible exact Below.refl _ _) | (with_reducible assumption) | (with_reducible refine below_step (by assumption) ?_) | (with_reducible refine below_alloc ?_ _) | (with_reducible refine Below.drew ?_) | (with_reducible refine below_drewN ?_ _) | (with_reducible refine Below.setCell ?_ ?_ _) | go_size))
          have hB3 : Below w.heap.size w w3 := below_step hW3 hB
          have O3 := Lib.hid (owns_below HO.out hW3)
          have T0 := HR0.out.below hW3
          have T1 := HR1.out.below hW3
          have e0 := box_cell hW3 c0
          have e1 := box_cell hW3 c1
          have e2 := box_cell hW3 c2
          have e3 := box_cell hW3 c3
          have hz3 := hW3.size
          have hz4 : w.heap.size + 2 ≤ w3.heap.size := by omega
          go_wp2_with (at_builtin; refine wpList_app1 rfl _ _ 28 72 4 48 rowEntry rfl (w.heap.size + 2) g m cp _ O3.out rfl rfl rfl rfl (by unfold maxLen; omega) (by omega) hz4 ?_; intro g4 c4 w4 ho4 hg4 hz5; have HO4 := Lib.hid ho4; have HB4 := Lib.hid (below_grown hB3 hg4 (by omega) hB3.size); have HT0 := Lib.hid (T0.grown hg4 (by simp; omega)); have HT1 := Lib.hid (T1.grown hg4 (by simp; omega)); clear ho4 hg4)
          go_roundw
          case rel => exact ⟨k + 1, g4, m + 1, c4, _, .inl (by omega), by omega, by go_num, rfl, by omega, HT2, Lib.hid (by have := hl.out; simp [this]), by simpa [List.flatMap_append, entryCells] using HO4.out, HT0.out, HT1.out, HB4.out⟩
          case measure => simp [intOf]; omega
      · have hHY := HY.out out (k : Int) (by
          rw [subTo_full (by rw [hT.out]; have := hl.out; simp only; omega) hqk (by omega), hT.out])
        obtain ⟨he, hv⟩ := hHY
        have HE := Lib.hid he
        have HV := Lib.hid (hv (.slice (some ⟨g, 0, none⟩) m cp))
        clear he hv
        go_wp2_with fail
        go_region
        all_goals
          go_wp2
          refine bodyPost_ret (v := takeV (.slice (some ⟨g, 0, none⟩) m cp) xs s (q : Int) (N : Int)) (by rw [HV.out]; simp [results, Tryd.results14, go_sem, *]; try rfl) rfl ?_
          exact ⟨g, m, cp, rfl, by rw [HE.out]; exact hl.out, by rw [HE.out]; exact ownsRow_base (owns_other (owns_other HO.out (by show _ ≠ w.heap.size + 1; omega) _) (by show _ ≠ w.heap.size + 1; omega) _) (by omega), (by repeat' (first | (with_reducible exact Below.refl _ _) | (with_reducible assumption) | (with_reducible refine below_step (by assumption) ?_) | (with_reducible refine below_alloc ?_ _) | (with_reducible refine Below.drew ?_) | (with_reducible refine below_drewN ?_ _) | (with_reducible refine Below.setCell ?_ ?_ _) | go_size))⟩
    · have hHY := HY.out out (k : Int) (by
          rcases hk with hk | hk
          · rw [show n = k by omega, hT.out]
          · subst hk
            rw [← hT.out]
            unfold subTo
            rw [show n - k = 0 by omega, Nat.sub_self])
      obtain ⟨he, hv⟩ := hHY
      have HE := Lib.hid he
      have HV := Lib.hid (hv (.slice (some ⟨g, 0, none⟩) m cp))
      clear he hv
      go_wp2_with fail
      go_region
      all_goals
        go_wp2
        refine bodyPost_ret (v := takeV (.slice (some ⟨g, 0, none⟩) m cp) xs s (q : Int) (N : Int)) (by rw [HV.out]; simp [results, Tryd.results14, go_sem, *]; try rfl) rfl ?_
        exact ⟨g, m, cp, rfl, by rw [HE.out]; exact hl.out, by rw [HE.out]; exact ownsRow_base (owns_other (owns_other HO.out (by show _ ≠ w.heap.size + 1; omega) _) (by show _ ≠ w.heap.size + 1; omega) _) (by omega), (by repeat' (first | (with_reducible exact Below.refl _ _) | (with_reducible assumption) | (with_reducible refine below_step (by assumption) ?_) | (with_reducible refine below_alloc ?_ _) | (with_reducible refine Below.drew ?_) | (with_reducible refine below_drewN ?_ _) | (with_reducible refine Below.setCell ?_ ?_ _) | go_size))⟩
end Go.Proofs.YtcccidlfigfibaaDoor
