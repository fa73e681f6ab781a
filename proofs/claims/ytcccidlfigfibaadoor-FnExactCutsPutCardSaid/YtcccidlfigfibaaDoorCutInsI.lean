/-
  slices.Insert at cuts, one cut put into a row with room for it: the walk. No condition.
-/
import Derived.Test.YtcccidlfigfibaaDoorCutIns
import Derived.Deep.RegionLaw
import Derived.Laws.CopyOwn
namespace Go.Proofs.YtcccidlfigfibaaDoor
open Go.ChangeShapes Go.WideShapes Go.ChangeAt Go.RowKit Go.Shelf Go.Lib

set_option maxRecDepth 100000 in
set_option maxHeartbeats 6400000 in
theorem insCut_any (B g n c k : Nat) (xs : List (ByteArray × Int)) (hx : xs.length = n) (hk : k ≤ n) (hn : n ≤ 1000) (hroom : n + 1 ≤ c) (s : ByteArray) (m : Int) (w0 : World) (hB : B ≤ w0.heap.size) (ho : w0.ownsRow B 57 2 (.slice (some ⟨g, 0, none⟩) n c) n (xs.flatMap cutCells)) :
    Calls Tryd.prog 60 #[.slice (some ⟨g, 0, none⟩) n c, .int .i64 k, .slice (some ⟨w0.heap.size, 0, none⟩) 1 1] (w0.alloc (.cells #[.string s, .int .i64 m] 57)) fun e w' => ∃ g' c', e = .returned (.slice (some ⟨g', 0, none⟩) (n + 1) c') ∧ w'.ownsRow B 57 2 (.slice (some ⟨g', 0, none⟩) (n + 1) c') (n + 1) ((xs.take k ++ (s, m) :: xs.drop k).flatMap cutCells) ∧ Below B w0 w' := by
  have hgB := (owns_lt ho).1
  have hgl := (owns_lt ho).2
  obtain ⟨hcl, ⟨h0, _⟩ | ⟨g', cap, cur, hv, hgb, hheap, hnc, hcm, hcs, htk⟩⟩ := id ho
  · cases h0
  have eg : g = g' := by simp only [Value.slice.injEq, Option.some.injEq, Addr.mk.injEq] at hv; exact hv.1.1
  have ec : c = cap := by simp only [Value.slice.injEq] at hv; exact hv.2.2
  subst eg ec
  obtain ⟨W, hW⟩ : ∃ W, w0.alloc (.cells #[.string s, .int .i64 m] 57) = W := ⟨_, rfl⟩
  have hgW : W.heap[g]? = some (.cells cur 57 (0, 0)) := by rw [← hW]; exact (heap_alloc_old w0 _ hgl).trans hheap
  have hvW : W.heap[w0.heap.size]? = some (.cells #[.string s, .int .i64 m] 57 (0, 0)) := by rw [← hW]; exact heap_alloc_new _ _
  have BW : Below B w0 W := by rw [← hW]; exact (Below.refl B w0).alloc hB _
  have hWs : W.heap.size = w0.heap.size + 1 := by rw [← hW]; simp
  have hoW : W.ownsRow B 57 2 (.slice (some ⟨g, 0, none⟩) n c) n (xs.flatMap cutCells) := by rw [← hW]; exact ho.alloc _
  have hLv : Lies W 2 (some ⟨w0.heap.size, 0, none⟩) 1 [.string s, .int .i64 m] := ⟨rfl, fun _ => ⟨_, _, rfl, by omega, fun j u hu => by
    rw [Nat.zero_add, cell_of_row _ _ j _ _ (0, 0) hvW]; simpa using hu⟩⟩
  rw [hW]
  by_cases hkn : k = n
  · subst hkn
    have HT : (xs.take k ++ (s, m) :: xs.drop k).flatMap cutCells = xs.flatMap cutCells ++ [.string s, .int .i64 m] := by
      rw [List.take_of_length_le (by omega), List.drop_of_length_le (by omega), List.flatMap_append]; rfl
    have HT' := Lib.hid HT
    have HOW := Lib.hid hoW
    clear HT hW htk hcl hheap hgW hvW hoW ho hv hx
    go_enter Tryd.func60, Tryd.ntmps60
    go_wp2_with (at_builtin; refine wpList_appS rfl _ _ 53 57 2 24 rowCut rfl B g k c _ HOW.out rfl w0.heap.size 0 1 1 _ rfl hLv (by intro u hu; simp at hu; rcases hu with rfl | rfl <;> rfl) (by unfold maxLen; omega) (by omega) (by omega) ?_; intro g1 c1 w1 ho1 hg1; have HO1 := Lib.hid ho1; have HG1 := Lib.hid hg1; clear ho1 hg1)
    go_ret
    exact ⟨g1, c1, rfl, by rw [HT'.out]; exact HO1.out, below_grown BW HG1.out hgB (by omega)⟩
  · have hklt : k < n := by omega
    obtain ⟨P, hP⟩ : ∃ P, (xs.flatMap cutCells).take (k * 2) = P := ⟨_, rfl⟩
    obtain ⟨Q, hQ⟩ : ∃ Q, (xs.flatMap cutCells).drop (k * 2) = Q := ⟨_, rfl⟩
    obtain ⟨R, hR⟩ : ∃ R, cur.toList.drop (n * 2) = R := ⟨_, rfl⟩
    have hPQ : xs.flatMap cutCells = P ++ Q := by rw [← hP, ← hQ, List.take_append_drop]
    have hPl : P.length = k * 2 := by rw [← hP, List.length_take, hcl]; omega
    have hQl : Q.length = (n - k) * 2 := by rw [← hQ, List.length_drop, hcl]; omega
    have hcu : cur.toList = P ++ Q ++ R := by rw [← hPQ, ← htk, ← hR, List.take_append_drop]
    have hRl : 2 ≤ R.length := by rw [← hR, List.length_drop, Array.length_toList]; omega
    have hQ1 : ∀ v ∈ Q, v.oneCell' = true := fun v hv => cells_one xs v (by rw [hPQ]; simp [hv])
    have hT : (xs.take k ++ (s, m) :: xs.drop k).flatMap cutCells = P ++ [Value.string s, Value.int .i64 m] ++ Q := by
      rw [List.flatMap_append, List.flatMap_cons, ← flat_take, ← flat_drop, hP, hQ]; simp [cutCells]
    obtain ⟨cur1, hc1⟩ : ∃ cur1 : Array Value, (cur.toList.take ((k + 1) * 2) ++ Q ++ cur.toList.drop ((k + 1) * 2 + Q.length)).toArray = cur1 := ⟨_, rfl⟩
    obtain ⟨cur2, hc2⟩ : ∃ cur2 : Array Value, (cur1.toList.take (k * 2) ++ [Value.string s, Value.int .i64 m] ++ cur1.toList.drop (k * 2 + 2)).toArray = cur2 := ⟨_, rfl⟩
    have hcur2 : cur2.toList = P ++ [.string s, .int .i64 m] ++ Q ++ R.drop 2 := by
      rw [← hc2, ← hc1, List.toList_toArray, List.toList_toArray, hcu, show (k + 1) * 2 = k * 2 + 2 by omega]
      exact ins_list P Q R [.string s, .int .i64 m] (k * 2) 2 hPl rfl hRl
    have hs2 : cur2.size = c * 2 := by
      have h1 : cur2.toList.length = c * 2 := by
        rw [hcur2]
        have h2 : cur.toList.length = c * 2 := by rw [Array.length_toList]; exact hcs
        rw [hcu] at h2
        simp at h2 ⊢
        omega
      rwa [Array.length_toList] at h1
    have hsc1 : cur1.size = c * 2 := by
      have h2 : cur.toList.length = c * 2 := by rw [Array.length_toList]; exact hcs
      rw [← hc1]; simp; rw [← Array.length_toList, h2]; omega
    have hsz : (Tryd.prog.info? 57).map (·.size) = some 2 := by
      obtain ⟨i0, hi, hz0, hz1, hz2⟩ := info_parts infoCut
      rw [hi]; simp [hz1]
    have hov : ∀ lb cb, (callFunc 79 #[.slice (some ⟨w0.heap.size, 0, none⟩) 1 1, .slice (some ⟨g, (k + 1) * 2, none⟩) lb cb]).run Tryd.prog W = .ok (.value (.bool false)) W := fun lb cb => by
      rw [run_callFunc_extern Tryd.func79 (by kernel_rfl) (by kernel_rfl) (by kernel_rfl) (e := Extern.SlicesOverlaps.overlaps #[53, 53] #[4]) (by kernel_rfl),
        Lib.run_overlaps_apart W 53 4 57 Tryd.underlying53 2 sizeCut ⟨w0.heap.size, 0, none⟩ ⟨g, (k + 1) * 2, none⟩ 1 1 lb cb (by show w0.heap.size ≠ g; omega) _ _ 2 (c * 2) (by simp [World.shape?, hvW]; rfl) (by simp [World.shape?, hgW, hcs]; rfl) (by omega) (frozen_of_row W _ _ _ _ hvW) (frozen_of_row W _ _ _ _ hvW)]
      rfl
    have hgD : W.drew.heap[g]? = some (.cells cur 57 (0, 0)) := hgW
    have hcp1 : ∀ ty dl dc sl sc, dl = n - k → sl = n + 1 - k → (Builtin.copy_ #[53, 53] ty #[.slice (some ⟨g, (k + 1) * 2, none⟩) dl dc, .slice (some ⟨g, k * 2, none⟩) sl sc]).run Tryd.prog W.drew = .ok (goInt ((n - k : Nat) : Int)) (W.drew.setRow g cur1) := fun ty dl dc sl sc h1 h2 => by
      subst h1 h2
      rw [← hc1]
      refine run_copy_rowN W.drew _ _ ty 57 2 g ((k + 1) * 2) (n - k) dc ⟨g, k * 2, none⟩ (n + 1 - k) sc (n - k) cur _ Q Tryd.underlying53 hsz hgD (by simp only [Nat.min_def]; split <;> omega) hQl ?_ (by omega) hQ1
      intro j v hj
      rw [add_plain, cell_of_row _ _ _ cur _ (0, 0) hgD]
      have : cur.toList[k * 2 + j]? = some v := by
        rw [hcu, List.append_assoc, List.getElem?_append_right (by omega), hPl, show k * 2 + j - k * 2 = j by omega, List.getElem?_append_left (List.getElem?_eq_some_iff.1 hj).1]
        exact hj
      simpa using this
    obtain ⟨W1, hW1⟩ : ∃ W1, W.drew.setRow g cur1 = W1 := ⟨_, rfl⟩
    have hg1 : W1.heap[g]? = some (.cells cur1 57 (0, 0)) := by rw [← hW1]; exact setRow_heap W.drew g cur cur1 _ (0, 0) hgD
    have hv1 : W1.heap[w0.heap.size]? = some (.cells #[.string s, .int .i64 m] 57 (0, 0)) := by rw [← hW1]; exact (setRow_other W.drew g _ cur1 (by omega)).trans hvW
    have hcp2 : ∀ ty dl dc, dl = n + 1 - k → (Builtin.copy_ #[53, 53] ty #[.slice (some ⟨g, k * 2, none⟩) dl dc, .slice (some ⟨w0.heap.size, 0, none⟩) 1 1]).run Tryd.prog W1 = .ok (goInt 1) (W1.setRow g cur2) := fun ty dl dc h1 => by
      subst h1
      rw [← hc2]
      refine run_copy_rowN W1 _ _ ty 57 2 g (k * 2) (n + 1 - k) dc ⟨w0.heap.size, 0, none⟩ 1 1 1 cur1 _ [.string s, .int .i64 m] Tryd.underlying53 hsz hg1 (by simp only [Nat.min_def]; split <;> omega) rfl ?_ (by simp; omega) (by intro u hu; simp at hu; rcases hu with rfl | rfl <;> rfl)
      intro j v hj
      rw [add_plain, Nat.zero_add, cell_of_row _ _ _ _ _ (0, 0) hv1]
      simpa using hj
    rw [hW1] at hcp1
    have hOF : (W1.setRow g cur2).ownsRow B 57 2 (.slice (some ⟨g, 0, none⟩) (n + 1) c) (n + 1) ((xs.take k ++ (s, m) :: xs.drop k).flatMap cutCells) := by
      rw [hT]
      refine ⟨by simp; omega, .inr ⟨g, c, cur2, rfl, hgB, setRow_heap W1 g cur1 cur2 _ (0, 0) hg1, by omega, hcm, hs2, ?_⟩⟩
      rw [hcur2, List.take_append, List.take_of_length_le (by simp; omega)]
      have : (n + 1) * 2 - (P ++ [Value.string s, Value.int .i64 m] ++ Q).length = 0 := by simp; omega
      rw [this]; simp
    have hBF : Below B w0 (W1.setRow g cur2) := by
      rw [← hW1]
      exact below_setRow (below_setRow (Below.drew BW) hgB cur1) hgB cur2
    have HOF := Lib.hid hOF
    have HBF := Lib.hid hBF
    have hz2 : ((k : Int) == (n : Int)) = false := by simp; omega
    have hz3 : ¬ ((k : Int) = (n : Int)) := by omega
    have hw1 : IntKind.i64.wrap ((k : Int) + 1) = (k : Int) + 1 := by rw [IntKind.wrap_i64]; omega
    have hw2 : IntKind.i64.wrap ((n : Int) + 1) = (n : Int) + 1 := by rw [IntKind.wrap_i64]; omega
    have hb1 : (0 : Int) ≤ (k : Int) + 1 := by omega
    have hb5 : (0 : Int) ≤ (n : Int) + 1 := by omega
    have htn : ((k : Int) + 1).toNat = k + 1 := by omega
    have htn2 : ((n : Int) + 1).toNat = n + 1 := by omega
    have hb2 : ¬ (c = k + 1) := by omega
    have hb3 : (k : Int) ≤ (n : Int) + 1 := by omega
    have hb6 : (k : Int) + 1 ≤ (n : Int) + 1 := by omega
    have hb4 : ¬ (c = k) := by omega
    have hb7 : ¬ ((c : Int) < (n : Int) + 1) := by omega
    have hb8 : (n : Int) + 1 ≤ (c : Int) := by omega
    have hb9 : n + 1 ≤ c := hroom
    clear hOF hBF hW hT hc1 hc2 hcur2 hcu htk hcl hheap hgW hvW hoW ho hv hx hPQ hP hQ hR hQ1 hg1 hv1 hgD hs2 hsc1 hPl hQl hRl hsz hcs hLv
    go_enter Tryd.func60, Tryd.ntmps60
    go_wp2_with (simp only [hov])
    go_region_law (refine step_copy_runI rfl _ _ 53 53 rfl _ _ (by simp [Act.eval, Act.put]) (by simp [Act.eval, Act.put]) (hcp1 _ _ _ _ _ (by omega) (by omega)) ?_)
    go_wp2_with (at_builtin; refine wpList_copy_runI _ rfl _ _ 53 53 rfl _ _ rfl rfl (hcp2 _ _ _ (by omega)) ?_)
    go_ret
    exact ⟨g, c, rfl, HOF.out, HBF.out⟩
end Go.Proofs.YtcccidlfigfibaaDoor
