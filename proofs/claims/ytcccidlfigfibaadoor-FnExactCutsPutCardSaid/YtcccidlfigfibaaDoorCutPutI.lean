/-
  CutsPut of the program. No condition beyond the sentinel and the library's int.
-/
import Derived.Test.YtcccidlfigfibaaDoorCutPutS
import Derived.Test.YtcccidlfigfibaaDoorCutInsI
namespace Go.Proofs.YtcccidlfigfibaaDoor
open Go.ChangeShapes Go.WideShapes Go.ChangeAt Go.RowKit

theorem rowIs_setCells {g : Nat} {t : TypeId} : ∀ (us pre mid post : List Value) (W : World), RowIs W g t (pre ++ mid ++ post) → mid.length = us.length → RowIs (W.setCells g pre.length us) g t (pre ++ us ++ post)
  | [], pre, mid, post, W, h, hl => by
    obtain rfl : mid = [] := List.length_eq_zero_iff.1 hl
    exact h
  | u :: us, pre, [], post, W, h, hl => by simp at hl
  | u :: us, pre, m :: mid, post, W, h, hl => by
    have h1 := h.set pre.length u
    have e : (pre ++ m :: mid ++ post).set pre.length u = (pre ++ [u]) ++ mid ++ post := by
      rw [List.append_assoc, List.set_append_right _ _ (Nat.le_refl _), Nat.sub_self]; simp
    rw [e] at h1
    have h2 := rowIs_setCells us (pre ++ [u]) mid post _ h1 (by simpa using hl)
    have e2 : (pre ++ [u]).length = pre.length + 1 := by simp
    rw [e2] at h2
    have e3 : pre ++ u :: us ++ post = pre ++ [u] ++ us ++ post := by simp
    rw [e3]
    exact h2
theorem below_setCells {B g : Nat} (hg : B ≤ g) : ∀ (us : List Value) (o : Nat) (w W : World), Below B w W → Below B w (W.setCells g o us)
  | [], _, _, _, h => h
  | u :: us, o, w, _W, h => below_setCells hg us (o + 1) w _ (h.setCell (p := ⟨g, o, none⟩) hg u)
theorem flat_set {s : ByteArray} {v M : Int} : ∀ {xs : List (ByteArray × Int)} {i : Nat}, xs[i]? = some (s, v) → (xs.flatMap cutCells).set (i * 2 + 1) (.int .i64 M) = (xs.set i (s, M)).flatMap cutCells
  | [], _, h => by simp at h
  | x :: xs, 0, h => by
    obtain rfl : x = (s, v) := by simpa using h
    simp [cutCells]
  | x :: xs, i + 1, h => by
    have ih := flat_set (M := M) (xs := xs) (i := i) (by simpa using h)
    rw [List.set_cons_succ, List.flatMap_cons, List.flatMap_cons, ← ih, List.set_append_right _ _ (by simp [cutCells]; omega)]
    congr 2
    simp [cutCells]; omega

set_option maxHeartbeats 3200000 in
theorem cutOfAt_any (g n c : Nat) (xs : List (ByteArray × Int)) (s : ByteArray) (hn : n ≤ 1048576) (hx : xs.length = n) (w : World) (hL : Lies w 2 (some ⟨g, 0, none⟩) n (xs.flatMap cutCells)) :
    Calls Tryd.prog 59 #[.slice (some ⟨g, 0, none⟩) n c, .string s] w fun e w' => ((e = .returned (.pointer none) ∧ ∀ y ∈ xs, y.1 ≠ s) ∨ ∃ i v, e = .returned (.pointer (some ⟨g, i * 2, none⟩)) ∧ xs[i]? = some (s, v) ∧ i < n ∧ ∀ j y, j < i → xs[j]? = some y → y.1 ≠ s) ∧ Below w.heap.size w w' := by
  have HX := Lib.hid hx
  clear hx
  go_enter Tryd.func59, Tryd.ntmps59
  go_wp2
  go_loopw [8] (fun i wr => ∃ k : Nat, k ≤ n ∧ i = .int .i64 k ∧ Hid (∀ j y, j < k → xs[j]? = some y → y.1 ≠ s) ∧ Below w.heap.size w wr) (fun i _ => n - (intOf i).toNat)
  case atStart => exact ⟨0, Nat.zero_le _, rfl, Lib.hid (fun j y h => by omega), Below.refl _ _⟩
  case round =>
    obtain ⟨k, hk, rfl, hT, hB⟩ := hrel
    by_cases hlt : k < n
    · obtain ⟨b, o, e, hb, hc⟩ := (hL.below hB).row (fun _ => rfl) (by omega)
      cases e
      obtain ⟨⟨x0, x1⟩, hxk⟩ := get_lt HX.out hlt
      have c0 : wr.cell? ⟨g, k * 2, none⟩ = some (.string x0) := by simpa using hc k _ hxk 0 _ rfl
      have c1 : wr.cell? ⟨g, k * 2 + 1, none⟩ = some (.int .i64 x1) := by simpa using hc k _ hxk 1 _ rfl
      have HXK := Lib.hid hxk
      clear hxk hc
      by_cases he : x0 = s
      · have E : (x0.toList == s.toList) = true := by simp [he]
        subst he
        go_wp2
        go_ret
        exact ⟨.inr ⟨k, x1, rfl, HXK.out, hlt, hT.out⟩, (by repeat' (first | (with_reducible exact Below.refl _ _) | (with_reducible assumption) | (with_reducible refine below_step (by assumption) ?_) | (with_reducible refine below_alloc ?_ _) | (with_reducible refine Below.drew ?_) | (with_reducible refine below_drewN ?_ _) | (with_reducible refine Below.setCell ?_ ?_ _) | go_size))⟩
      · have E : (x0.toList == s.toList) = false := str_ne he
        have HT2 : Hid (∀ j y, j < k + 1 → xs[j]? = some y → y.1 ≠ s) := Lib.hid (fun j y hj hy => by
          by_cases hjk : j = k
          · subst hjk
            rw [HXK.out] at hy
            obtain rfl := Option.some.inj hy
            exact he
          · exact hT.out j y (by omega) hy)
        clear he hT
        go_wp2
        go_roundw
        case rel => exact ⟨k + 1, by omega, by go_num, HT2, (by repeat' (first | (with_reducible exact Below.refl _ _) | (with_reducible assumption) | (with_reducible refine below_step (by assumption) ?_) | (with_reducible refine below_alloc ?_ _) | (with_reducible refine Below.drew ?_) | (with_reducible refine below_drewN ?_ _) | (with_reducible refine Below.setCell ?_ ?_ _) | go_size))⟩
        case measure => simp [intOf]; omega
    · go_wp2
      go_ret
      exact ⟨.inl ⟨rfl, fun y hy => by
        obtain ⟨j, hj, rfl⟩ := List.getElem_of_mem hy
        exact hT.out j _ (by have := HX.out; omega) (List.getElem?_eq_getElem hj)⟩, (by repeat' (first | (with_reducible exact Below.refl _ _) | (with_reducible assumption) | (with_reducible refine below_step (by assumption) ?_) | (with_reducible refine below_alloc ?_ _) | (with_reducible refine Below.drew ?_) | (with_reducible refine below_drewN ?_ _) | (with_reducible refine Below.setCell ?_ ?_ _) | go_size))⟩

set_option maxRecDepth 8000 in
set_option maxHeartbeats 12800000 in
theorem implPut_any (gA n c : Nat) (xs : List (ByteArray × Int)) (s : ByteArray) (m : Int) (hn : n ≤ 1048576) (hx : xs.length = n) (hok : ∀ x ∈ xs, cutSOk x) (hs : s.size ≤ 1048576) (w : World) (a : Addr) (hS : Sent a w) (hM : MaxL w) (hL : Lies w 2 (some ⟨gA, 0, none⟩) n (xs.flatMap cutCells)) :
    Calls Tryd.prog 29 #[.slice (some ⟨gA, 0, none⟩) n c, .agg #[.string s, .int .i64 m]] w fun e w' => ∃ g k cap, e = .returned (.tuple #[.slice (some ⟨g, 0, none⟩) k cap, .bool (cutPutB xs s m)]) ∧ (cutPutL xs s m).length = k ∧ w'.ownsRow w.heap.size 57 2 (.slice (some ⟨g, 0, none⟩) k cap) k ((cutPutL xs s m).flatMap cutCells) ∧ Below w.heap.size w w' := by
  have HX := Lib.hid hx
  have HL := Lib.hid hL
  clear hx hL
  have B0 : Below w.heap.size w (w.alloc (.cells #[.string s, .int .i64 m] 57)) := below_alloc (Below.refl _ _) _
  cases E1 : cutsB xs
  · have hE0 : cutPutB xs s m = false := by unfold cutPutB; rw [E1]; rfl
    have HE := Lib.hid (cutPut_no hE0)
    have HB := Lib.hid hE0
    clear hE0
    go_enter Tryd.func29, Tryd.ntmps29
    go_wp2_with fail
    refine (implCuts_any _ n c xs hn HX.out hok _ a (hS.below B0 (Nat.le_refl _)) (hM.below B0) (HL.out.below B0)).mono ?_
    rintro e1 w1 ⟨rfl, hb1⟩
    rw [E1]
    have hB1 := below_step hb1 B0
    go_wp2
    go_ret2
    exact ⟨_, 0, 0, by rw [HB.out]; rfl, by rw [HE.out]; rfl, by rw [HE.out]; exact owns_nil' _ _ rfl hB1.size, below_alloc hB1 _⟩
  cases E2 : cutB (s, m)
  · have hE0 : cutPutB xs s m = false := by unfold cutPutB; rw [E1, E2]; rfl
    have HE := Lib.hid (cutPut_no hE0)
    have HB := Lib.hid hE0
    clear hE0
    go_enter Tryd.func29, Tryd.ntmps29
    go_wp2_with fail
    refine (implCuts_any _ n c xs hn HX.out hok _ a (hS.below B0 (Nat.le_refl _)) (hM.below B0) (HL.out.below B0)).mono ?_
    rintro e1 w1 ⟨rfl, hb1⟩
    rw [E1]
    have hB1 := below_step hb1 B0
    have y0 := box_cell hb1 (b := w.heap.size) (o := 0) (u := .string s) (by go_cell)
    have y1 := box_cell hb1 (b := w.heap.size) (o := 1) (u := .int .i64 m) (by go_cell)
    go_wp2_with fail
    refine (cutValid_any s m hs a _ (hS.below hB1 (Nat.le_refl _)) (hM.below hB1)).mono ?_
    rintro e1 w2 ⟨rfl, hb2⟩
    rw [E2]
    have hB2 := below_step hb2 hB1
    go_wp2
    go_ret2
    exact ⟨_, 0, 0, by rw [HB.out]; rfl, by rw [HE.out]; rfl, by rw [HE.out]; exact owns_nil' _ _ rfl hB2.size, below_alloc hB2 _⟩
  have hn12 : n ≤ 12 := by
    have h := E1
    unfold cutsB at h; rw [Bool.and_eq_true] at h
    have := of_decide_eq_true h.1
    have := HX.out
    omega
  have hmb : 1 ≤ m ∧ m ≤ 24 := by
    have h := E2
    unfold cutB at h; rw [Bool.and_eq_true] at h
    exact inB_iff.1 h.2
  have HOK := Lib.hid (cutPut_ok hok hs E1 E2)
  obtain ⟨i0, hi, hz0, hz1, hz2⟩ := info_parts infoCut
  have hmk0 := fun W => run_make_rowN (P := Tryd.prog) 53 57 i0 _ Tryd.underlying53 hi hz0 .i64 .i64 0 (n + 1) (by omega) (by rw [hz2]; omega) (by omega) W
  rw [hz1] at hmk0
  have e1 : ((n + 1 : Nat) : Int) = (n : Int) + 1 := by omega
  rw [e1] at hmk0
  have hmk : ∀ W, (Instr.makeSlice 53 (.int .i64 0) (.int .i64 ((n : Int) + 1))).run Tryd.prog W = .ok (.slice (some ⟨W.heap.size, 0, none⟩) 0 (n + 1)) (W.alloc (.cells (madeCells (Value.agg #[.string ByteArray.empty, .int .i64 0]).cells ((n + 1) * 2)) 57)) := fun W => hmk0 W
  have wq : IntKind.i64.wrap ((n : Int) + 1) = (n : Int) + 1 := IntWalk.i64_in _ ⟨by omega, by omega⟩
  have HI := Lib.hid hi
  have HZ1 := Lib.hid hz1
  clear hmk0 hi hz0 hz1 hz2 e1
  have hLl : (xs.flatMap cutCells).length = n * 2 := HL.out.1
  go_enter Tryd.func29, Tryd.ntmps29
  go_wp2_with fail
  refine (implCuts_any _ n c xs hn HX.out hok _ a (hS.below B0 (Nat.le_refl _)) (hM.below B0) (HL.out.below B0)).mono ?_
  rintro e1 w1 ⟨rfl, hb1⟩
  rw [E1]
  have hB1 := below_step hb1 B0
  have R1 : RowIs w1 w.heap.size 57 [.string s, .int .i64 m] := (RowIs.new w #[.string s, .int .i64 m] 57).below hb1
  have y0 := R1.cell (j := 0) rfl
  have y1 := R1.cell (j := 1) rfl
  go_wp2_with fail
  refine (cutValid_any s m hs a _ (hS.below hB1 (Nat.le_refl _)) (hM.below hB1)).mono ?_
  rintro e1 w2 ⟨rfl, hb2⟩
  rw [E2]
  have hB2 := below_step hb2 hB1
  have R2 := R1.below hb2
  have hlt2 := R2.lt
  clear R1 y0 y1 hb1 hb2 hB1 B0
  have RZ : RowIs (w2.alloc (.cells (madeCells (Value.agg #[.string ByteArray.empty, .int .i64 0]).cells ((n + 1) * 2)) 57)) w2.heap.size 57 (madeCells (Value.agg #[.string ByteArray.empty, .int .i64 0]).cells ((n + 1) * 2)).toList := RowIs.new _ _ _
  obtain ⟨Z, hZ⟩ : ∃ Z, madeCells (Value.agg #[.string ByteArray.empty, .int .i64 0]).cells ((n + 1) * 2) = Z := ⟨_, rfl⟩
  have hZs : Z.size = (n + 1) * 2 := by rw [← hZ]; simp [size_madeCells]
  rw [hZ] at RZ hmk
  clear hZ
  have hZ2 : Z.toList = [] ++ Z.toList.take (n * 2) ++ Z.toList.drop (n * 2) := by simp
  have hZl : (Z.toList.take (n * 2)).length = (xs.flatMap cutCells).length := by rw [hLl, List.length_take, Array.length_toList, hZs]; omega
  have RF := rowIs_setCells (xs.flatMap cutCells) [] (Z.toList.take (n * 2)) (Z.toList.drop (n * 2)) _ (by rw [← hZ2]; exact RZ) hZl
  have hcl : ∀ j, j < (xs.flatMap cutCells).length → ((w2.alloc (.cells Z 57)).cell? ⟨w2.heap.size, j, none⟩).isSome = true := fun j hj => by
    obtain ⟨u, hu⟩ : ∃ u, Z.toList[j]? = some u := ⟨_, List.getElem?_eq_getElem (by rw [Array.length_toList, hZs]; omega)⟩
    rw [RZ.cell hu]; rfl
  have HRF := Lib.hid RF
  have HCL := Lib.hid hcl
  have HFZ := Lib.hid (fun j => RZ.frozen j)
  have BZ : Below w.heap.size w (w2.alloc (.cells Z 57)) := below_alloc hB2 _
  have LZ := Lib.hid (HL.out.below BZ)
  have hLc : ∀ j u, (xs.flatMap cutCells)[j]? = some u → (w2.alloc (.cells Z 57)).cell? ⟨gA, j, none⟩ = some u := fun j u hj => by
    have hjl := (List.getElem?_eq_some_iff.1 hj).1
    obtain ⟨b, o, e, _, hc⟩ := LZ.out.2 (by omega)
    cases e
    have := hc j u hj
    simpa using this
  have HLC := Lib.hid hLc
  clear RF hcl RZ hZ2 hLc
  obtain ⟨w5, hw5⟩ : ∃ w5, (w2.alloc (.cells Z 57)).setCells w2.heap.size 0 (xs.flatMap cutCells) = w5 := ⟨_, rfl⟩
  have b25 : Below w2.heap.size w2 w5 := by rw [← hw5]; exact below_setCells (Nat.le_refl _) _ _ _ _ (below_alloc (Below.refl _ _) _)
  have B5 : Below w.heap.size w w5 := below_step b25 hB2
  have R5 := R2.below b25
  have O5 : w5.ownsRow (w.heap.size + 1) 57 2 (.slice (some ⟨w2.heap.size, 0, none⟩) n (n + 1)) n (xs.flatMap cutCells) := by
    have h : RowIs w5 w2.heap.size 57 ([] ++ xs.flatMap cutCells ++ Z.toList.drop (n * 2)) := by rw [← hw5]; exact HRF.out
    refine ⟨hLl, .inr ⟨w2.heap.size, n + 1, _, rfl, hlt2, h, by omega, by unfold maxLen; omega, ?_, ?_⟩⟩
    · simp [hLl, hZs]; omega
    · simp [hLl]
  have x0 := R5.cell (j := 0) rfl
  have x1 := R5.cell (j := 1) rfl
  have hlt5 := R5.lt
  have hg5 := (owns_lt O5).2
  have HO5 := Lib.hid O5
  have HR5 := Lib.hid R5
  go_wp2_with (at_builtin; refine wpList_append_room_src _ rfl _ _ 53 53 rfl 57 i0 Tryd.underlying53 HI.out w2.heap.size 0 0 (n + 1) rfl _ rfl n (xs.flatMap cutCells) (by rw [HZ1.out]; exact Src.ofSlice _ Tryd.underlying53 ⟨gA, 0, none⟩ n c _ hLl (fun j u hj => by rw [add_plain, Nat.zero_add]; exact HLC.out j u hj) (cells_one xs)) (by omega) (fun j hj => by simpa using HCL.out j hj) (fun j _ => by simp [HFZ.out j]) ?_; simp only [Nat.zero_mul, Nat.zero_add]; rw [hw5])
  clear hw5 HRF HCL HFZ HLC LZ BZ hmk O5 R5 R2 HI HZ1 hZl hZs wq b25 hB2
  go_wp2_with fail
  refine (cutOfAt_any w2.heap.size n (n + 1) xs s hn HX.out _ (lies_of_own HO5.out)).mono ?_
  rintro e1 w6 ⟨⟨rfl, hnone⟩ | ⟨i, v, rfl, hiv, hin, hlt⟩, hb6⟩
  · have HNO := Lib.hid hnone
    clear hnone
    have R6 := HR5.out.below hb6
    have z0 := R6.cell (j := 0) rfl
    have z1 := R6.cell (j := 1) rfl
    have O6 := Lib.hid (owns_below HO5.out hb6)
    have B6 := below_step hb6 B5
    have HR6 := Lib.hid R6
    have hg6 : w2.heap.size < w6.heap.size := (owns_lt O6.out).2
    have hz6 : w.heap.size + 1 ≤ w6.heap.size := R6.lt
    clear R6 x0 x1 HO5 HR5 hb6 B5 hlt5 hg5
    go_wp2
    go_loopw [8] (fun i wr => ∃ k : Nat, k ≤ n ∧ i = .int .i64 k ∧ Hid (∀ j y, j < k → xs[j]? = some y → ltS y.1 s = true) ∧ Below w6.heap.size w6 wr) (fun i _ => n - (intOf i).toNat)
    case atStart => exact ⟨0, Nat.zero_le _, rfl, Lib.hid (fun j y h => by omega), Below.refl _ _⟩
    case round =>
      obtain ⟨k, hk, rfl, hT, hB⟩ := hrel
      have t0 := box_cell hB z0
      have t1 := box_cell hB z1
      have hgr : w2.heap.size < wr.heap.size := Nat.lt_of_lt_of_le hg6 hB.size
      by_cases hlt : k < n ∧ ∃ y, xs[k]? = some y ∧ ltS y.1 s = true
      · obtain ⟨hkn, ⟨y0, y1⟩, hyk, hyl⟩ := hlt
        obtain ⟨b, o, e, hb, hc⟩ := ((lies_of_own O6.out).below hB).row (fun _ => rfl) (by omega)
        cases e
        have c0 : wr.cell? ⟨w2.heap.size, k * 2, none⟩ = some (.string y0) := by simpa using hc k _ hyk 0 _ rfl
        have c1 : wr.cell? ⟨w2.heap.size, k * 2 + 1, none⟩ = some (.int .i64 y1) := by simpa using hc k _ hyk 1 _ rfl
        have G1 : Op.bytesLess y0.toList s.toList = true := hyl
        have HT2 : Hid (∀ j y, j < k + 1 → xs[j]? = some y → ltS y.1 s = true) := Lib.hid (fun j y hj hy => by
          by_cases hjk : j = k
          · subst hjk
            rw [hyk] at hy
            obtain rfl := Option.some.inj hy
            exact hyl
          · exact hT.out j y (by omega) hy)
        clear hT hyk hyl hc
        go_wp2_with fail
        go_quiet (fail)
        go_wp2
        go_roundw
        case rel => exact ⟨k + 1, by omega, by go_num, HT2, (by repeat' (first | (with_reducible exact Below.refl _ _) | (with_reducible assumption) | (with_reducible refine below_step (by assumption) ?_) | (with_reducible refine below_alloc ?_ _) | (with_reducible refine Below.drew ?_) | (with_reducible refine below_drewN ?_ _) | (with_reducible refine Below.setCell ?_ ?_ _) | go_size))⟩
        case measure => simp [intOf]; omega
      · have hstop : ∀ y, xs[k]? = some y → ltS y.1 s = false := fun y hy => by
          cases h : ltS y.1 s
          · rfl
          · exact absurd ⟨by have := (List.getElem?_eq_some_iff.1 hy).1; have := HX.out; omega, y, hy, h⟩ hlt
        have HP : Hid (cutPut xs s m = xs.take k ++ (s, m) :: xs.drop k) := Lib.hid (cutPut_none E2 HNO.out (by have := HX.out; omega) hT.out hstop)
        have HLN : Hid ((cutPut xs s m).length = n + 1) := Lib.hid (by rw [HP.out]; simp; have := HX.out; omega)
        clear hT
        by_cases hkn : k < n
        · obtain ⟨b, o, e, hb, hc⟩ := ((lies_of_own O6.out).below hB).row (fun _ => rfl) (by omega)
          cases e
          obtain ⟨⟨y0, y1⟩, hyk⟩ := get_lt HX.out hkn
          have c0 : wr.cell? ⟨w2.heap.size, k * 2, none⟩ = some (.string y0) := by simpa using hc k _ hyk 0 _ rfl
          have c1 : wr.cell? ⟨w2.heap.size, k * 2 + 1, none⟩ = some (.int .i64 y1) := by simpa using hc k _ hyk 1 _ rfl
          have G1 : Op.bytesLess y0.toList s.toList = false := hstop _ hyk
          clear hyk hc hstop hlt
          go_wp2_with fail
          go_quiet (fail)
          go_wp2_with fail
          cases E3 : cutsB (cutPut xs s m)
          · have hE0 : cutPutB xs s m = false := by unfold cutPutB; rw [E1, E2, E3]; rfl
            have HE := Lib.hid (cutPut_no hE0)
            have HB := Lib.hid hE0
            clear hE0
            refine (insCut_any (w.heap.size + 1) w2.heap.size n (n + 1) k xs HX.out (by omega) (by omega) (by omega) s m (wr.drewN nq) (Nat.le_trans hz6 hB.size) (owns_below O6.out (below_drewN hB nq))).mono ?_
            rintro e7 w7 ⟨g7, c7, rfl, o7, b7⟩
            have O7 := Lib.hid o7
            have B7 : Below w.heap.size w w7 := (below_drewN (below_step hB B6) nq).trans (b7.mono (by omega))
            clear o7 b7
            go_wp2_with fail
            refine (implCuts_any _ (n + 1) c7 (cutPut xs s m) (by omega) HLN.out HOK.out _ a (hS.below B7 (Nat.le_refl _)) (hM.below B7) (by rw [HP.out]; exact lies_of_own O7.out)).mono ?_
            rintro e8 w8 ⟨rfl, hb8⟩
            rw [E3]
            have B8 := below_step hb8 B7
            go_wp2
            go_ret2
            exact ⟨_, 0, 0, by rw [HB.out]; rfl, by rw [HE.out]; rfl, by rw [HE.out]; exact owns_nil' _ _ rfl B8.size, below_alloc B8 _⟩
          · have hE0 : cutPutB xs s m = true := by unfold cutPutB; rw [E1, E2, E3]; rfl
            have HE := Lib.hid (cutPut_yes hE0)
            have HB := Lib.hid hE0
            clear hE0
            refine (insCut_any (w.heap.size + 1) w2.heap.size n (n + 1) k xs HX.out (by omega) (by omega) (by omega) s m (wr.drewN nq) (Nat.le_trans hz6 hB.size) (owns_below O6.out (below_drewN hB nq))).mono ?_
            rintro e7 w7 ⟨g7, c7, rfl, o7, b7⟩
            have O7 := Lib.hid o7
            have B7 : Below w.heap.size w w7 := (below_drewN (below_step hB B6) nq).trans (b7.mono (by omega))
            clear o7 b7
            go_wp2_with fail
            refine (implCuts_any _ (n + 1) c7 (cutPut xs s m) (by omega) HLN.out HOK.out _ a (hS.below B7 (Nat.le_refl _)) (hM.below B7) (by rw [HP.out]; exact lies_of_own O7.out)).mono ?_
            rintro e8 w8 ⟨rfl, hb8⟩
            rw [E3]
            have B8 := below_step hb8 B7
            go_wp2
            go_ret2
            exact ⟨_, _, _, by rw [HB.out]; rfl, by rw [HE.out]; exact HLN.out, by rw [HE.out, HP.out]; exact ownsRow_base (owns_below O7.out hb8) (by omega), B8⟩
        · clear hstop hlt
          obtain rfl : k = n := by omega
          go_wp2_with fail
          go_quiet (fail)
          go_wp2_with fail
          cases E3 : cutsB (cutPut xs s m)
          · have hE0 : cutPutB xs s m = false := by unfold cutPutB; rw [E1, E2, E3]; rfl
            have HE := Lib.hid (cutPut_no hE0)
            have HB := Lib.hid hE0
            clear hE0
            refine (insCut_any (w.heap.size + 1) w2.heap.size k (k + 1) k xs HX.out (by omega) (by omega) (by omega) s m (wr.drewN nq) (Nat.le_trans hz6 hB.size) (owns_below O6.out (below_drewN hB nq))).mono ?_
            rintro e7 w7 ⟨g7, c7, rfl, o7, b7⟩
            have O7 := Lib.hid o7
            have B7 : Below w.heap.size w w7 := (below_drewN (below_step hB B6) nq).trans (b7.mono (by omega))
            clear o7 b7
            go_wp2_with fail
            refine (implCuts_any _ (k + 1) c7 (cutPut xs s m) (by omega) HLN.out HOK.out _ a (hS.below B7 (Nat.le_refl _)) (hM.below B7) (by rw [HP.out]; exact lies_of_own O7.out)).mono ?_
            rintro e8 w8 ⟨rfl, hb8⟩
            rw [E3]
            have B8 := below_step hb8 B7
            go_wp2
            go_ret2
            exact ⟨_, 0, 0, by rw [HB.out]; rfl, by rw [HE.out]; rfl, by rw [HE.out]; exact owns_nil' _ _ rfl B8.size, below_alloc B8 _⟩
          · have hE0 : cutPutB xs s m = true := by unfold cutPutB; rw [E1, E2, E3]; rfl
            have HE := Lib.hid (cutPut_yes hE0)
            have HB := Lib.hid hE0
            clear hE0
            refine (insCut_any (w.heap.size + 1) w2.heap.size k (k + 1) k xs HX.out (by omega) (by omega) (by omega) s m (wr.drewN nq) (Nat.le_trans hz6 hB.size) (owns_below O6.out (below_drewN hB nq))).mono ?_
            rintro e7 w7 ⟨g7, c7, rfl, o7, b7⟩
            have O7 := Lib.hid o7
            have B7 : Below w.heap.size w w7 := (below_drewN (below_step hB B6) nq).trans (b7.mono (by omega))
            clear o7 b7
            go_wp2_with fail
            refine (implCuts_any _ (k + 1) c7 (cutPut xs s m) (by omega) HLN.out HOK.out _ a (hS.below B7 (Nat.le_refl _)) (hM.below B7) (by rw [HP.out]; exact lies_of_own O7.out)).mono ?_
            rintro e8 w8 ⟨rfl, hb8⟩
            rw [E3]
            have B8 := below_step hb8 B7
            go_wp2
            go_ret2
            exact ⟨_, _, _, by rw [HB.out]; rfl, by rw [HE.out]; exact HLN.out, by rw [HE.out, HP.out]; exact ownsRow_base (owns_below O7.out hb8) (by omega), B8⟩
  · obtain ⟨hf, hp, hpb⟩ := cutPut_found E1 E2 hiv hlt
    have HE : Hid (cutPutL xs s m = xs.set i (s, max v m)) := Lib.hid ((cutPut_yes hpb).trans hp)
    have HB := Lib.hid hpb
    have R6 := HR5.out.below hb6
    have z0 := R6.cell (j := 0) rfl
    have z1 := R6.cell (j := 1) rfl
    have O6 := Lib.hid (owns_below HO5.out hb6)
    have B6 := below_step hb6 B5
    have hg6 : w2.heap.size < w6.heap.size := (owns_lt O6.out).2
    have c1 : w6.cell? ⟨w2.heap.size, i * 2 + 1, none⟩ = some (.int .i64 v) := by
      obtain ⟨b, o, e, hb, hc⟩ := (lies_of_own O6.out).row (fun _ => rfl) (by omega)
      cases e
      simpa using hc i _ hiv 1 _ rfl
    have f1 := O6.out.frozenAt (i * 2 + 1)
    have OF := Lib.hid (O6.out.stored (i * 2 + 1) (.int .i64 (max v m))).1
    have hfs := flat_set (M := max v m) hiv
    have HFS := Lib.hid hfs
    clear hfs hf hp hpb hlt x0 x1 HO5 HR5 hb6 B5 hlt5 hg5 R6
    go_wp2_with fail
    go_region
    all_goals
      go_wp2
      go_ret2
      exact ⟨w2.heap.size, n, n + 1, by rw [HB.out]; rfl, by rw [HE.out, List.length_set]; exact HX.out, by rw [HE.out, ← HFS.out]; exact ownsRow_base OF.out (by omega), (by repeat' (first | (with_reducible exact Below.refl _ _) | (with_reducible assumption) | (with_reducible refine below_step (by assumption) ?_) | (with_reducible refine below_alloc ?_ _) | (with_reducible refine Below.drew ?_) | (with_reducible refine below_drewN ?_ _) | (with_reducible refine Below.setCell ?_ ?_ _) | go_size))⟩

theorem implPut_at (lo hi : Nat) (v : Value) (xs : List (ByteArray × Int)) (s : ByteArray) (m : Int) (hok : ∀ x ∈ xs, cutSOk x) (hs : s.size ≤ 1048576) (w : World) (a : Addr) (hS : Sent a w) (hM : MaxL w) (h : cutSAt w lo hi v xs) :
    Calls Tryd.prog 29 #[v, .agg #[.string s, .int .i64 m]] w fun e w' => ∃ u, e = .returned (.tuple #[u, .bool (cutPutB xs s m)]) ∧ cutSAt w' w.heap.size w'.heap.size u (cutPutL xs s m) ∧ Below w.heap.size w w' := by
  obtain ⟨g, k, c, rfl, hx, hb, _, _, ho⟩ := h.open
  exact (implPut_any _ _ _ xs s m hb hx hok hs w a hS hM (lies_of_own ho)).mono fun _ _ ⟨_, _, _, he, hl, hw, hB⟩ => ⟨_, he, cutSAt.made hl (by have := cutPutL_len xs s m; omega) hw, hB⟩
end Go.Proofs.YtcccidlfigfibaaDoor
