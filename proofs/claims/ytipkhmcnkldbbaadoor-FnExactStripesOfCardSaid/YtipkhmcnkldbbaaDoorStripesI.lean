/-
  StripesOf: what the reference's function and the program's return. No condition beyond the sentinel and the library's int.
-/
import Derived.Test.YtipkhmcnkldbbaaDoorStripesP
import Derived.Test.YtipkhmcnkldbbaaDoorTStringS
import Derived.Test.YtipkhmcnkldbbaaDoorBunF
namespace Go.Proofs.YtipkhmcnkldbbaaDoor
open Go.ChangeShapes Go.WideShapes Go.ChangeAt Go.RowKit

set_option maxHeartbeats 6400000 in
theorem specStripes_any (A : Option Addr) (n c : Nat) (xs : List ByteArray) (st : Int) (hn : n ≤ 1048576) (hx : xs.length = n) (hok : ∀ x ∈ xs, x.size ≤ 1048576) (w : World) (hL : Lies w 1 A n (xs.flatMap strCells)) :
    Calls Tryd.prog 8 #[.slice A n c, .int .i64 st] w fun e w' => ∃ g k cap, e = .returned (.slice (some ⟨g, 0, none⟩) k cap) ∧ (stripesL xs st).length = k ∧ w'.ownsRow w.heap.size 3 1 (.slice (some ⟨g, 0, none⟩) k cap) k ((stripesL xs st).flatMap intCells) ∧ Below w.heap.size w w' := by
  have HX := Lib.hid hx
  have HL := Lib.hid hL
  clear hx hL
  go_enter Tryd.func8, Tryd.ntmps8
  go_wp2
  go_loopw [5, 6] (fun l i wr => ∃ (k g m cp : Nat) (out : List Int), k ≤ n ∧ i = .int .i64 k ∧ l = .slice (some ⟨g, 0, none⟩) m cp ∧ Hid (marked (marksOf st (xs.take k)) = out) ∧ Hid (out.length = m) ∧ Hid (∀ s ∈ xs.take k, 0 ≤ stripeV s st) ∧ wr.ownsRow w.heap.size 3 1 (.slice (some ⟨g, 0, none⟩) m cp) m (out.flatMap intCells) ∧ Below w.heap.size w wr) (fun _ i _ => n - (intOf i).toNat)
  case atStart => exact ⟨0, w.heap.size, 0, 0, [], Nat.zero_le _, rfl, rfl, Lib.hid rfl, Lib.hid rfl, Lib.hid (by simp), owns_nil' _ _ rfl (Nat.le_refl _), below_alloc (Below.refl _ _) _⟩
  case round =>
    obtain ⟨k, g, m, cp, out, hk, rfl, rfl, hT, hl, hG, ho, hB⟩ := hrel
    have HO := Lib.hid ho
    have hz := hB.size
    have hgl := (owns_lt ho).1
    have hm8 : m ≤ 8 := by have h1 := markedTo_len (marksOf st (xs.take k)) 8; have h2 := hT.out; have h3 := hl.out; unfold marked at h2; rw [h2] at h1; omega
    clear ho
    by_cases hlt : k < n
    · obtain ⟨b, o, rfl, hb, hc⟩ := (HL.out.below hB).row (fun _ => rfl) (by omega)
      obtain ⟨s, hsk⟩ := get_lt HX.out hlt
      have hs := hok _ (List.mem_of_getElem? hsk)
      have c0 : wr.cell? ⟨b, o + k, none⟩ = some (.string s) := by simpa using hc k _ hsk 0 _ rfl
      clear hc
      have hv7 := stripe_bound s st
      obtain ⟨v, hv⟩ : ∃ v, stripeV s st = v := ⟨_, rfl⟩
      by_cases hneg : v < 0
      · have HE := Lib.hid (bad_at (st := st) hsk (by rw [hv]; omega))
        have HV := Lib.hid hv
        clear hv hsk hv7
        go_wp2_with fail
        refine (specStripe_any s hs st _).mono ?_
        rintro e1 w1 ⟨rfl, hb1⟩
        rw [HV.out]
        have hB1 := below_step hb1 hB
        go_wp2
        go_ret
        exact ⟨_, 0, 0, rfl, by rw [HE.out]; rfl, by rw [HE.out]; exact owns_nil' _ _ rfl hB1.size, below_alloc hB1 _⟩
      · obtain ⟨q, rfl⟩ : ∃ q : Nat, v = (q : Int) := ⟨v.toNat, by omega⟩
        rw [hv] at hv7
        have HT2 : Hid (insEnd (q : Int) (insRun (inGe q) (inEq q) (q : Int) (false, []) out) = marked (marksOf st (xs.take (k + 1)))) := Lib.hid (by
          rw [marksOf_succ hsk, hv, ← hT.out, put_marked (marksOf_length _ _) (by omega)]; simp)
        have HG2 : Hid (∀ s ∈ xs.take (k + 1), 0 ≤ stripeV s st) := Lib.hid (fun t ht => by
          rw [take_succ_of hsk] at ht
          rcases List.mem_append.1 ht with h | h
          · exact hG.out t h
          · rw [List.mem_singleton] at h; subst h; rw [hv]; omega)
        have HV := Lib.hid hv
        clear hv hsk hT hG
        go_wp2_with fail
        refine (specStripe_any s hs st _).mono ?_
        rintro e1 w1 ⟨rfl, hb1⟩
        rw [HV.out]
        have hB1 := below_step hb1 hB
        have O1 := owns_below HO.out hb1
        go_wp2_with fail
        refine (l11Put_any (some ⟨g, 0, none⟩) m cp out (by omega) hl.out (q : Int) _ (lies_of_own O1)).mono ?_
        rintro e2 w2 ⟨g2, m2, c2, rfl, hl2, ho2, hb2⟩
        have HL2 := Lib.hid hl2
        have HO2 := Lib.hid (ownsRow_base ho2 hB1.size)
        have hB2 := below_step hb2 hB1
        clear hl2 ho2
        go_wp2
        go_roundw
        case rel => exact ⟨k + 1, g2, m2, c2, _, by omega, by go_num, rfl, Lib.hid HT2.out.symm, HL2, HG2, HO2.out, hB2⟩
        case measure => simp [intOf]; omega
    · have ht : xs.take k = xs := List.take_of_length_le (by have := HX.out; omega)
      have HE : Hid (stripesL xs st = out) := Lib.hid (by
        rw [good_all (fun s hs => by have h := hG.out; rw [ht] at h; have := h s hs; omega)]
        have h := hT.out; rwa [ht] at h)
      clear ht hG hT
      go_wp2
      go_ret
      exact ⟨g, m, cp, rfl, by rw [HE.out]; exact hl.out, by rw [HE.out]; exact HO.out, hB⟩

def pos8 (cs : List Int) : List Bool := cs.map (fun c => decide (0 < c))
theorem vals8_get {hs : List Int} {k : Nat} {h : Int} (e : hs[k]? = some h) : (hs.map (Value.int .i64))[k]? = some (.int .i64 h) := by rw [List.getElem?_map, e]; rfl
theorem pos8_get {cs : List Int} {k : Nat} {c : Int} (e : cs[k]? = some c) : (pos8 cs)[k]? = some (decide (0 < c)) := by unfold pos8; rw [List.getElem?_map, e]; rfl

set_option maxHeartbeats 6400000 in
theorem implStripes_any (A : Option Addr) (n c : Nat) (xs : List ByteArray) (st : Int) (hn : n ≤ 1048576) (hx : xs.length = n) (hok : ∀ x ∈ xs, x.size ≤ 1048576) (w : World) (a : Addr) (hS : Sent a w) (hM : MaxL w) (hL : Lies w 1 A n (xs.flatMap strCells)) :
    Calls Tryd.prog 10 #[.slice A n c, .int .i64 st] w fun e w' => ∃ g k cap, e = .returned (.slice (some ⟨g, 0, none⟩) k cap) ∧ (stripesL xs st).length = k ∧ w'.ownsRow w.heap.size 3 1 (.slice (some ⟨g, 0, none⟩) k cap) k ((stripesL xs st).flatMap intCells) ∧ Below w.heap.size w w' := by
  have HX := Lib.hid hx
  have HL := Lib.hid hL
  clear hx hL
  cases E : inB st 1 8
  · have HE := Lib.hid (bad_stripes E xs)
    go_enter Tryd.func10, Tryd.ntmps10
    go_wp2_with fail
    refine (stripes_any _ _).mono ?_
    rintro e1 w2 ⟨rfl, rfl⟩
    rw [E]
    go_wp2
    go_ret
    exact ⟨_, 0, 0, rfl, by rw [HE.out]; rfl, by rw [HE.out]; exact owns_nil' _ _ rfl (Nat.le_refl _), below_alloc (Below.refl _ _) _⟩
  go_enter Tryd.func10, Tryd.ntmps10
  go_wp2_with fail
  refine (stripes_any _ _).mono ?_
  rintro e1 w2 ⟨rfl, rfl⟩
  rw [E]
  go_wp2
  have R0 : RowIs (w.alloc (.cells #[.int .i64 0, .int .i64 0, .int .i64 0, .int .i64 0, .int .i64 0, .int .i64 0, .int .i64 0, .int .i64 0] 57)) w.heap.size 57 (([0, 0, 0, 0, 0, 0, 0, 0] : List Int).map (.int .i64)) := RowIs.new w #[.int .i64 0, .int .i64 0, .int .i64 0, .int .i64 0, .int .i64 0, .int .i64 0, .int .i64 0, .int .i64 0] 57
  go_loopw [17] (fun i wr => ∃ (k : Nat) (cs : List Int), k ≤ n ∧ i = .int .i64 k ∧ Hid (cs.length = 8) ∧ Hid (∀ c ∈ cs, 0 ≤ c ∧ c ≤ (k : Int)) ∧ Hid (pos8 cs = marksOf st (xs.take k)) ∧ Hid (∀ s ∈ xs.take k, 0 ≤ stripeV s st) ∧ RowIs wr w.heap.size 57 (cs.map (.int .i64)) ∧ Below w.heap.size w wr) (fun i _ => n - (intOf i).toNat)
  case atStart => exact ⟨0, [0, 0, 0, 0, 0, 0, 0, 0], Nat.zero_le _, rfl, Lib.hid rfl, Lib.hid (by simp), Lib.hid rfl, Lib.hid (by simp), R0, below_alloc (Below.refl _ _) _⟩
  case round =>
    obtain ⟨k, cs, hk, rfl, hl, hc8, hP, hG, hR, hB⟩ := hrel
    clear R0
    have HR := Lib.hid hR
    have hwl := hR.lt
    clear hR
    by_cases hlt : k < n
    · obtain ⟨b, o, rfl, hb, hc⟩ := (HL.out.below hB).row (fun _ => rfl) (by omega)
      obtain ⟨s, hsk⟩ := get_lt HX.out hlt
      have hs := hok _ (List.mem_of_getElem? hsk)
      have c0 : wr.cell? ⟨b, o + k, none⟩ = some (.string s) := by simpa using hc k _ hsk 0 _ rfl
      clear hc
      have hv7 := stripe_bound s st
      obtain ⟨v, hv⟩ : ∃ v, stripeV s st = v := ⟨_, rfl⟩
      by_cases hneg : v < 0
      · have HE := Lib.hid (bad_at (st := st) hsk (by rw [hv]; exact hneg))
        have HV := Lib.hid hv
        clear hv hsk hv7
        go_wp2_with fail
        refine (implStripe_any s hs st a _ (hS.below hB (Nat.le_refl _)) (hM.below hB)).mono ?_
        rintro e1 w1 ⟨rfl, hb1⟩
        rw [HV.out]
        have hB1 := below_step hb1 hB
        go_wp2
        go_ret
        exact ⟨_, 0, 0, rfl, by rw [HE.out]; rfl, by rw [HE.out]; exact owns_nil' _ _ rfl hB1.size, below_alloc hB1 _⟩
      · obtain ⟨q, rfl⟩ : ∃ q : Nat, v = (q : Int) := ⟨v.toNat, by omega⟩
        rw [hv] at hv7
        have hq8 : q < 8 := by omega
        obtain ⟨u, hu⟩ := get_lt hl.out hq8
        obtain ⟨hu0, hu1⟩ := hc8.out u (List.mem_of_getElem? hu)
        have HC2 : Hid (∀ c ∈ cs.set q (u + 1), 0 ≤ c ∧ c ≤ ((k + 1 : Nat) : Int)) := Lib.hid (fun c hc => by
          rcases List.mem_or_eq_of_mem_set hc with h | h
          · have := hc8.out c h; omega
          · subst h; omega)
        have HP2 : Hid (pos8 (cs.set q (u + 1)) = marksOf st (xs.take (k + 1))) := Lib.hid (by
          rw [marksOf_succ hsk, hv, ← hP.out]
          unfold pos8
          rw [List.map_set, show decide (0 < u + 1) = true by simp; omega]
          simp)
        have HG2 : Hid (∀ s ∈ xs.take (k + 1), 0 ≤ stripeV s st) := Lib.hid (fun t ht => by
          rw [take_succ_of hsk] at ht
          rcases List.mem_append.1 ht with h | h
          · exact hG.out t h
          · rw [List.mem_singleton] at h; subst h; rw [hv]; omega)
        have HL2 : Hid ((cs.set q (u + 1)).length = 8) := Lib.hid (by rw [List.length_set]; exact hl.out)
        have HV := Lib.hid hv
        have HU := Lib.hid (vals8_get hu)
        clear hv hsk hP hG hu hc8 hv7
        go_wp2_with fail
        refine (implStripe_any s hs st a _ (hS.below hB (Nat.le_refl _)) (hM.below hB)).mono ?_
        rintro e1 w1 ⟨rfl, hb1⟩
        rw [HV.out]
        have hB1 := below_step hb1 hB
        have R1 := HR.out.below hb1
        have d0 := R1.cell HU.out
        have f0 := R1.frozen q
        have hwl1 := R1.lt
        have R2 : RowIs (w1.setCell ⟨w.heap.size, q, none⟩ (.int .i64 (u + 1))) w.heap.size 57 ((cs.set q (u + 1)).map (.int .i64)) := by
          have h := R1.set q (.int .i64 (u + 1))
          rwa [← List.map_set] at h
        have HR2 := Lib.hid R2
        clear R1 R2
        go_wp2
        go_roundw
        case rel => exact ⟨k + 1, _, by omega, by go_num, HL2, HC2, HP2, HG2, HR2.out, hB1.setCell (p := ⟨w.heap.size, q, none⟩) (Nat.le_refl _) _⟩
        case measure => simp [intOf]; omega
    · have ht : xs.take k = xs := List.take_of_length_le (by have := HX.out; omega)
      have HE : Hid (stripesL xs st = markedTo (pos8 cs) 8) := Lib.hid (by
        rw [good_all (fun s hs => by have h := hG.out; rw [ht] at h; have := h s hs; omega)]
        have h := hP.out; rw [ht] at h; rw [h]; rfl)
      clear ht hG hP
      go_wp2
      obtain ⟨wo, hwo⟩ : ∃ wo, wo = wr := ⟨_, rfl⟩
      subst hwo
      go_loopw [9, 34] (fun l i wz => ∃ (j g m cp : Nat) (out : List Int), j ≤ 8 ∧ i = .int .i64 j ∧ l = .slice (some ⟨g, 0, none⟩) m cp ∧ Hid (markedTo (pos8 cs) j = out) ∧ Hid (out.length = m) ∧ m ≤ j ∧ RowIs wz w.heap.size 57 (cs.map (.int .i64)) ∧ wz.ownsRow (w.heap.size + 1) 3 1 (.slice (some ⟨g, 0, none⟩) m cp) m (out.flatMap intCells) ∧ Below w.heap.size w wz) (fun _ i _ => 8 - (intOf i).toNat)
      case atStart => exact ⟨0, wo.heap.size, 0, 0, [], Nat.zero_le _, rfl, rfl, Lib.hid rfl, Lib.hid rfl, Nat.le_refl _, HR.out.alloc _, owns_nil' _ _ rfl hwl, below_alloc hB _⟩
      case round =>
        obtain ⟨j, g, m, cp, out, hj, rfl, rfl, hT, hlo, hmj, hRz, ho, hBz⟩ := hrel
        have HO := Lib.hid ho
        have HRz := Lib.hid hRz
        have hgl := (owns_lt ho).1
        have hwz := hRz.lt
        have hwz2 : w.heap.size + 1 ≤ wr.heap.size := hwz
        clear ho
        by_cases hj8 : j < 8
        · obtain ⟨u, hu⟩ := get_lt hl.out hj8
          have d0 := hRz.cell (vals8_get hu)
          have hpg := pos8_get hu
          obtain ⟨hu0, hu1⟩ := hc8.out u (List.mem_of_getElem? hu)
          clear hu hRz
          by_cases hup : 0 < u
          · have HT2 : Hid (markedTo (pos8 cs) (j + 1) = out ++ [(j : Int)]) := Lib.hid (by rw [markedTo_hit (by rw [hpg]; simp [hup]), hT.out])
            clear hpg hT
            go_wp2_with (at_builtin; refine wpList_app1 rfl _ _ 24 3 1 8 rowInt rfl (w.heap.size + 1) g m cp _ HO.out rfl rfl rfl rfl (by unfold maxLen; omega) (by omega) hwz2 ?_; intro g4 c4 w4 ho4 hg4 hz4; have HO4 := Lib.hid ho4; have HB4 := Lib.hid (below_grown hBz hg4 (by omega) hBz.size); have HR4 := Lib.hid (HRz.out.grown hg4 (by simp; omega)); clear ho4 hg4)
            go_roundw
            case rel => exact ⟨j + 1, g4, m + 1, c4, _, by omega, by go_num, rfl, HT2, Lib.hid (by have := hlo.out; simp [this]), by omega, HR4.out, by simpa [List.flatMap_append, intCells] using HO4.out, HB4.out⟩
            case measure => simp [intOf]; omega
          · have HT2 : Hid (markedTo (pos8 cs) (j + 1) = out) := Lib.hid (by rw [markedTo_miss (by rw [hpg]; simp [hup]), hT.out])
            clear hpg hT
            go_wp2
            go_roundw
            case rel => exact ⟨j + 1, g, m, cp, _, by omega, by go_num, rfl, HT2, hlo, by omega, HRz.out, HO.out, hBz⟩
            case measure => simp [intOf]; omega
        · obtain rfl : j = 8 := by omega
          have HF : Hid (stripesL xs st = out) := Lib.hid (HE.out.trans hT.out)
          go_wp2
          go_ret
          exact ⟨g, m, cp, rfl, by rw [HF.out]; exact hlo.out, by rw [HF.out]; exact ownsRow_base HO.out (by omega), hBz⟩

theorem specStripes_at (lo hi : Nat) (v : Value) (xs : List ByteArray) (st : Int) (hok : ∀ x ∈ xs, x.size ≤ 1048576) (w : World) (h : stringSAt w lo hi v xs) :
    Calls Tryd.prog 8 #[v, .int .i64 st] w fun e w' => ∃ u, e = .returned u ∧ intSAt w' w.heap.size w'.heap.size u (stripesL xs st) ∧ Below w.heap.size w w' := by
  obtain ⟨A, c, rfl, hA⟩ := h.2.open
  exact (specStripes_any _ _ _ xs st h.1 rfl hok w hA).mono fun _ _ ⟨_, _, _, he, hl, hw, hB⟩ => ⟨_, he, intSAt.made hl (by have := stripesL_len xs st; omega) hw, hB⟩
theorem implStripes_at (lo hi : Nat) (v : Value) (xs : List ByteArray) (st : Int) (hok : ∀ x ∈ xs, x.size ≤ 1048576) (w : World) (a : Addr) (hS : Sent a w) (hM : MaxL w) (h : stringSAt w lo hi v xs) :
    Calls Tryd.prog 10 #[v, .int .i64 st] w fun e w' => ∃ u, e = .returned u ∧ intSAt w' w.heap.size w'.heap.size u (stripesL xs st) ∧ Below w.heap.size w w' := by
  obtain ⟨A, c, rfl, hA⟩ := h.2.open
  exact (implStripes_any _ _ _ xs st h.1 rfl hok w a hS hM hA).mono fun _ _ ⟨_, _, _, he, hl, hw, hB⟩ => ⟨_, he, intSAt.made hl (by have := stripesL_len xs st; omega) hw, hB⟩
end Go.Proofs.YtipkhmcnkldbbaaDoor
