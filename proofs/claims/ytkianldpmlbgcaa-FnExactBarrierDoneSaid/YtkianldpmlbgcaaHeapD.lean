/-
  The heap of open positions: Push of a number that is greater than all, and draining the heap of an ascending list. For every list of at most 1048576 numbers. No condition.
-/
import Derived.Test.YtkianldpmlbgcaaHeapP
import Derived.Test.YtkianldpmlbgcaaKInt
namespace Go.Proofs.Ytkianldpmlbgcaa
open Go.ChangeShapes Go.WideShapes Go.ChangeAt Go.RowKit

theorem at_snoc_last (L : List Int) (x : Int) : at' (L ++ [x]) L.length = x := by unfold at'; simp
theorem at_snoc_old {L : List Int} {i : Nat} (x : Int) (h : i < L.length) : at' (L ++ [x]) i = at' L i := by
  unfold at'
  rw [List.getD_eq_getElem?_getD, List.getD_eq_getElem?_getD, List.getElem?_append_left h]
theorem at_mem {L : List Int} {i : Nat} (h : i < L.length) : at' L i ∈ L := by rw [at_lt h]; exact List.getElem_mem h

set_option maxHeartbeats 1600000 in
theorem heapPush_any (h B g c k : Nat) (L : List Int) (x : Int) (hl : L.length = k) (hl1 : k + 1 ≤ 1048576) (hx : ∀ y ∈ L, y ≤ x) (w : World) (hB : B ≤ w.heap.size)
    (hp : RowIs w h 78 [.slice (some ⟨g, 0, none⟩) k c]) (ho : w.ownsRow B 3 1 (.slice (some ⟨g, 0, none⟩) k c) k (L.flatMap intCells)) :
    Calls Try.prog 44 #[.iface 64 (.pointer (some ⟨h, 0, none⟩)), .iface 3 (.int .i64 x)] w fun e w' => e = .returned (.tuple #[]) ∧ ∃ g' c', RowIs w' h 78 [.slice (some ⟨g', 0, none⟩) (k + 1) c'] ∧ w'.ownsRow B 3 1 (.slice (some ⟨g', 0, none⟩) (k + 1) c') (k + 1) ((L ++ [x]).flatMap intCells) ∧ Two w w' g h := by
  have HO := Lib.hid ho
  have HP := Lib.hid hp
  have HL := Lib.hid hl
  have HLE := Lib.hid (show at' (L ++ [x]) ((k - 1) / 2) ≤ at' (L ++ [x]) k by
    rw [← hl, at_snoc_last]
    by_cases h0 : L.length = 0
    · rw [h0]
      have : L = [] := List.length_eq_zero_iff.1 h0
      subst this
      show at' [x] 0 ≤ x
      exact Int.le_refl _
    · rw [at_snoc_old x (by omega)]
      exact hx _ (at_mem (by omega)))
  clear ho hp hl hx
  go_enter Try.func44, Try.ntmps44
  go_wp2_with fail
  refine (pushM_any h B g c k L x HL.out hl1 _ hB HP.out HO.out).mono ?_
  rintro e1 w1 ⟨g1, c1, rfl, p1, o1, t1⟩
  have hpc := p1.cell (j := 0) rfl
  have HP1 := Lib.hid p1
  have HO1 := Lib.hid o1
  have HT1 := Lib.hid t1
  clear p1 o1 t1
  go_wp2_with fail
  refine (len_any _ _ _ _).mono ?_
  rintro e2 w2 ⟨rfl, rfl⟩
  go_wp2_with fail
  refine (upTop_any h g1 c1 (k + 1) (L ++ [x]) k ((k - 1) / 2) (by have := HL.out; simp; omega) hl1 (by omega) rfl HLE.out _ hpc (lies_of_own HO1.out)).mono ?_
  rintro e3 w3 ⟨rfl, b3⟩
  go_wp2
  go_returns
  exact ⟨rfl, g1, c1, HP1.out.below b3, owns_below HO1.out b3, HT1.out.trans (Two.of_below b3 _ _)⟩

theorem sorted_same {xs ys : List Int} (h : xs.Perm ys) (hx : xs.Pairwise (· ≤ ·)) (hy : ys.Pairwise (· < ·)) : xs = ys := by
  have hn : xs.Nodup := h.symm.nodup (hy.imp (fun h => by omega))
  refine asc_same xs ys ?_ hy (fun x => h.mem_iff)
  have h2 := List.pairwise_and_iff.2 ⟨hx, hn⟩
  exact h2.imp (fun h => by omega)
theorem ascL_pair {xs : List Int} (h : AscL xs) : xs.Pairwise (· < ·) := by
  rw [List.pairwise_iff_getElem]
  intro i j hi hj hij
  exact h i j _ _ hij (List.getElem?_eq_getElem hi) (List.getElem?_eq_getElem hj)

set_option maxHeartbeats 3200000 in
theorem drain_any (h B g c : Nat) (L : List Int) (l : Nat) (hl : L.length = l) (hl1 : l ≤ 1048576) (ha : AscL L) (w : World) (hB : B ≤ w.heap.size) (hh : B ≤ h) (hg : B ≤ g)
    (hp : RowIs w h 78 [.slice (some ⟨g, 0, none⟩) l c]) (ho : w.ownsRow B 3 1 (.slice (some ⟨g, 0, none⟩) l c) l (L.flatMap intCells)) :
    Calls Try.prog 45 #[.pointer (some ⟨h, 0, none⟩)] w fun e w' => ∃ g' c', e = .returned (.slice (some ⟨g', 0, none⟩) l c') ∧ w'.ownsRow w.heap.size 3 1 (.slice (some ⟨g', 0, none⟩) l c') l (L.flatMap intCells) ∧ Below B w w' := by
  have hhl := hp.lt
  have hgl := (owns_lt ho).2
  have HO := Lib.hid ho
  have HP := Lib.hid hp
  have HL := Lib.hid hl
  have HA := Lib.hid ha
  clear ho hp hl ha
  go_enter Try.func45, Try.ntmps45
  go_wp2_with fail
  go_loopg [3] l (fun kk r wr => ∃ (k : Nat) (out L' : List Int) (g2 m c2 : Nat), Hid (kk = k) ∧ r = .slice (some ⟨g2, 0, none⟩) m c2 ∧ m + k = l ∧ Hid (out.length = m) ∧ Hid (L'.length = k) ∧ Hid ((out ++ L').Perm L) ∧ Hid (HeapTo L' k) ∧ Hid (out.Pairwise (· ≤ ·)) ∧ Hid (∀ x ∈ out, ∀ y ∈ L', x ≤ y) ∧ Hid (RowIs wr h 78 [.slice (some ⟨g, 0, none⟩) k c]) ∧ Hid (wr.ownsRow B 3 1 (.slice (some ⟨g, 0, none⟩) k c) k (L'.flatMap intCells)) ∧ Hid (wr.ownsRow w.heap.size 3 1 (.slice (some ⟨g2, 0, none⟩) m c2) m (out.flatMap intCells)) ∧ Hid (Below B w wr) ∧ w.heap.size ≤ wr.heap.size)
  case atStart => exact ⟨l, [], L, _, 0, 0, Lib.hid rfl, rfl, by omega, Lib.hid rfl, HL, Lib.hid (by simp), Lib.hid (by have h := asc_heap HA.out; rw [HL.out] at h; exact h), Lib.hid List.Pairwise.nil, Lib.hid (by simp), Lib.hid (HP.out.alloc _), Lib.hid (HO.out.alloc _), Lib.hid (owns_nil' _ _ rfl (Nat.le_refl _)), Lib.hid ((Below.refl _ _).alloc hB _), by simp⟩
  case round =>
    obtain ⟨k, out, L', g2, m, c2, hkk, rfl, hmk, hO1, hL1, hPm, hHT, hPW, hOL, hRP, hOW, hOut, hBl, hsz⟩ := hrel
    have hgl2 := (owns_lt hOut.out).1
    have hpc := hRP.out.cell (j := 0) rfl
    cases k with
    | zero =>
      go_wp2_with fail
      refine (len_any _ _ _ _).mono ?_
      rintro e1 w1 ⟨rfl, rfl⟩
      have HE := Lib.hid (show out = L by
        have hL0 : L' = [] := List.length_eq_zero_iff.1 hL1.out
        have hp := hPm.out
        rw [hL0, List.append_nil] at hp
        exact sorted_same hp hPW.out (ascL_pair HA.out))
      obtain rfl : m = l := by omega
      go_wp2
      go_ret
      exact ⟨g2, c2, rfl, by rw [← HE.out]; exact hOut.out, hBl.out⟩
    | succ k =>
      obtain ⟨b, o, e, hb, hc⟩ := (lies_of_own hOW.out).row (fun _ => rfl) (by omega)
      cases e
      have c0 : wr.cell? ⟨g, 0, none⟩ = some (.int .i64 (at' L' 0)) := by simpa using hc 0 _ (at_get (by have := hL1.out; omega)) 0 _ rfl
      have z0 : decide ((0 : Int) < (k : Int) + 1) = true := decide_eq_true (by omega)
      clear hc
      go_wp2_with fail
      refine (len_any _ _ _ _).mono ?_
      rintro e1 w1 ⟨rfl, rfl⟩
      go_wp2_with (at_builtin; refine wpList_app1 rfl _ _ 29 3 1 8 rowInt rfl w.heap.size g2 m c2 _ hOut.out rfl rfl rfl rfl (by unfold maxLen; omega) (by omega) hsz ?_; intro g3 c3 w3 ho3 hg3 hz3; have HO3 := Lib.hid ho3; have HG3 := Lib.hid hg3; have HP3 := Lib.hid (hRP.out.grown hg3 (fun e => by injection e with e; omega)); have HOW3 := Lib.hid (owns_grown hOW.out hg3 (fun e => by injection e with e; omega)); clear ho3 hg3)
      refine (heapPop_any h B g c k L' hL1.out (by omega) hHT.out _ HP3.out HOW3.out).mono ?_
      rintro e4 w4 ⟨v4, L4, rfl, l4, p4, t4, r4, o4, w4'⟩
      have HL4 := Lib.hid l4
      have HP4 := Lib.hid p4
      have HT4 := Lib.hid t4
      have HR4 := Lib.hid r4
      have HO4 := Lib.hid o4
      have HW4 := Lib.hid w4'
      have hg3l := (owns_lt HO3.out).1
      clear l4 p4 t4 r4 o4 w4'
      have HTOP := Lib.hid (show ∀ y ∈ L', at' L' 0 ≤ y by
        intro y hy
        obtain ⟨i, hi, e⟩ := List.getElem_of_mem hy
        have := heap_top hHT.out i (by have := hL1.out; omega)
        rw [at_lt hi, e] at this; exact this)
      have HM := Lib.hid (show ∀ y ∈ L4, y ∈ L' from fun y hy => (HP4.out.mem_iff).1 (List.mem_cons_of_mem _ hy))
      have HM0 := Lib.hid (show at' L' 0 ∈ L' from at_mem (by have := hL1.out; omega))
      have hs4 := HW4.out.size
      go_wp2
      go_roundg k
      case measure => have := hkk.out; omega
      case rel =>
        refine ⟨k, out ++ [at' L' 0], L4, g3, m + 1, c3, Lib.hid rfl, rfl, by omega, Lib.hid (by simp [hO1.out]), HL4, Lib.hid ?_, HT4, Lib.hid ?_, Lib.hid ?_, HR4, HO4, Lib.hid ?_, Lib.hid ?_, by omega⟩
        · rw [List.append_assoc]
          exact (List.Perm.append_left out HP4.out).trans hPm.out
        · rw [List.pairwise_append]
          refine ⟨hPW.out, by simp, fun x hx y hy => ?_⟩
          obtain rfl := List.mem_singleton.1 hy
          exact hOL.out x hx _ HM0.out
        · intro x hx y hy
          rcases List.mem_append.1 hx with h | h
          · exact hOL.out x h y (HM.out y hy)
          · obtain rfl := List.mem_singleton.1 h
            exact HTOP.out y (HM.out y hy)
        · rw [List.flatMap_append]
          exact owns_two HO3.out HW4.out (by omega) (by omega)
        · exact Two.below (below_grown hBl.out HG3.out (by omega) (by omega)) HW4.out hg hh (by omega)
end Go.Proofs.Ytkianldpmlbgcaa
