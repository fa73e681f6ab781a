/-
  The rows of a tree, behind other rows: what rowsBehind returns. No condition.
-/
import Derived.Test.YtkianldpmlbgcaaRTree
import Derived.Test.YtkianldpmlbgcaaTRowT
namespace Go.Proofs.Ytkianldpmlbgcaa
open Go.ChangeShapes Go.WideShapes Go.ChangeAt Go.RowKit

theorem rowRow : RowTy Try.prog 25 55 2 40 := rowTy_mk Try.underlying25 infoRow rfl (by decide)
/-- A row whose numbers lie in a block of S. -/
def HeadIn (w : World) (S : List Nat) (h : RowX) : Prop := ∃ g, h.A = some ⟨g, 0, none⟩ ∧ g ∈ S ∧ h.zs.length = h.n ∧ w.ownsRow 0 3 1 (.slice (some ⟨g, 0, none⟩) h.n h.c) h.n (h.zs.flatMap intCells)
theorem HeadIn.keep {w w' : World} {S S' : List Nat} {h : RowX} (hh : HeadIn w S h) (hs : ∀ b ∈ S, b ∈ S') (hk : ∀ b ∈ S, w'.heap[b]? = w.heap[b]?) : HeadIn w' S' h := by
  obtain ⟨g, h1, h2, h3, h4⟩ := hh
  exact ⟨g, h1, hs g h2, h3, own_block h4 (hk g h2)⟩
theorem HeadIn.ne {w w' : World} {S S' : List Nat} {h h' : RowX} (a : HeadIn w S h) (b : HeadIn w' S' h') (hd : ∀ x, x ∈ S → x ∈ S' → False) : h.A ≠ h'.A := fun e => by
  obtain ⟨g, h1, h2, _⟩ := a
  obtain ⟨g', h1', h2', _⟩ := b
  rw [h1, h1'] at e
  injection e with e
  injection e with e
  subst e
  exact hd _ h2 h2'

set_option maxRecDepth 8000 in
set_option maxHeartbeats 6400000 in
theorem behind_tree (B : Nat) : ∀ (t : RT) (S : List Nat) (q : Option Addr) (w : World) (xs : List RowX) (g m c : Nat), Tree w S q t → w.ownsRow B 55 2 (.slice (some ⟨g, 0, none⟩) m c) m (xs.flatMap rowCells) → xs.length = m → g ∉ S → B ≤ w.heap.size → m + t.rows.length ≤ 4194304 →
    Calls Try.prog 55 #[.pointer q, .slice (some ⟨g, 0, none⟩) m c] w fun e w' => ∃ (hs : List RowX) (g' m' c' : Nat), e = .returned (.slice (some ⟨g', 0, none⟩) m' c') ∧ (xs ++ hs).length = m' ∧ hs.map rowVal = t.rows ∧ (∀ h ∈ hs, HeadIn w S h) ∧ (hs.map (·.A)).Nodup ∧ w'.ownsRow B 55 2 (.slice (some ⟨g', 0, none⟩) m' c') m' ((xs ++ hs).flatMap rowCells) ∧ (g' = g ∨ w.heap.size ≤ g') ∧ Turns w w' [g]
  | .leaf, S, q, w, xs, g, m, c, h, ho, hx, _, _, _ => by
    obtain ⟨rfl, rfl⟩ := h
    have HO := Lib.hid ho
    have HX := Lib.hid hx
    clear ho hx
    go_enter Try.func55, Try.ntmps55
    go_wp2
    go_ret
    exact ⟨[], g, m, c, rfl, by simpa using HX.out, rfl, by simp, by simp, by simpa using HO.out, .inl rfl, ⟨rfl, rfl, rfl, Nat.le_refl _, fun _ _ _ => rfl⟩⟩
  | .node l k a r, S, q, w, xs, g, m, c, h, ho, hx, hgS, hBw, hm9 => by
    obtain ⟨b, gA, n, cA, pl, pr, Sl, Sr, rfl, rfl, hnd, hR, hn, hoA, hl, hr⟩ := h
    obtain ⟨hbg, hb1, hg1, hb2, hg2, hndl, hndr, hdis⟩ := nodup_parts hnd
    simp only [List.mem_cons, List.mem_append, not_or] at hgS
    obtain ⟨hgb, hgA, hgl, hgr⟩ := hgS
    have hblt := hR.lt
    have hAlt := (owns_lt hoA).2
    have hglt := (owns_lt ho).2
    have hrl : l.rows.length + (r.rows.length + 1) = (RT.node l k a r).rows.length := by simp [RT.rows]
    have u2 := hR.cell (j := 2) rfl
    have HX := Lib.hid hx
    go_enter Try.func55, Try.ntmps55
    go_wp2_with fail
    refine (behind_tree B l Sl pl w xs g m c hl ho HX.out hgl hBw (by omega)).mono ?_
    rintro e1 w1 ⟨hs1, g1, m1, c1, rfl, hl1, hv1, hh1, hn1, ho1, hat1, k1⟩
    have R1 : RowIs w1 b 87 _ := (k1.block b hblt (by simp; exact fun e => hgb e.symm)).trans hR
    have v0 := R1.cell (j := 0) rfl
    have v1 := R1.cell (j := 1) rfl
    have v2 := R1.cell (j := 2) rfl
    have v3 := R1.cell (j := 3) rfl
    have hz1 := k1.size
    have hlv1 : hs1.length = l.rows.length := by rw [← hv1, List.length_map]
    have hm1 : m1 = m + l.rows.length := by rw [← hl1, List.length_append, HX.out, hlv1]
    have hg1b : g1 ≠ b := by rcases hat1 with e | e <;> omega
    have HO1 := Lib.hid ho1
    have HL1 := Lib.hid hl1
    have HM1 := Lib.hid hm1
    have hm1b : m1 ≤ 4194304 := by omega
    have HAT1 := Lib.hid hat1
    have hBw1 : B ≤ w1.heap.size := by omega
    clear ho ho1 hl1 hm1 hat1
    go_wp2_with (first | (at_builtin; refine wpList_app1z rfl _ _ 25 55 2 40 rowRow rfl B g1 m1 c1 _ HO1.out rfl rfl rfl rfl (by unfold maxLen; omega) (by omega) hBw1 ?_; intro g2 c2 w2 o2 hg2' hat2; have HO2 := Lib.hid o2; have HG2 := Lib.hid hg2'; have HAT2 := Lib.hid hat2; have R2 : RowIs w2 b 87 _ := R1.grown hg2' (by simp; exact fun e => hg1b e.symm); have y0 := R2.cell (j := 0) rfl; have y1 := R2.cell (j := 1) rfl; have y2 := R2.cell (j := 2) rfl; have y3 := R2.cell (j := 3) rfl; clear o2 hg2' hat2) | fail)
    have hz2 := HG2.out.size
    have hgg1 : g1 = g ∨ w.heap.size ≤ g1 := HAT1.out
    have hgg2 : g2 = g1 ∨ w1.heap.size < g2 := HAT2.out
    have hgg : g2 = g ∨ w.heap.size ≤ g2 := by omega
    have hstay : ∀ x, x < w.heap.size → x ≠ g → w2.heap[x]? = w.heap[x]? := fun x hx hxg => (HG2.out.block x (by omega) (fun e => by have := Option.some.inj e; omega)).trans (k1.block x hx (by simpa using hxg))
    have tr2 : Tree w2 Sr pr r := hr.keep (fun x hx => hstay x (hr.lt x hx) (fun e => hgr (e ▸ hx)))
    have hg2r : g2 ∉ Sr := fun h => by
      have h1 := hr.lt _ h
      rcases hgg with e | e
      · exact hgr (e ▸ h)
      · omega
    have hl2 : (xs ++ hs1 ++ [(⟨k, some ⟨gA, 0, none⟩, n, cA, a⟩ : RowX)]).length = m1 + 1 := by rw [List.length_append, HL1.out]; rfl
    have ho2 : w2.ownsRow B 55 2 (.slice (some ⟨g2, 0, none⟩) (m1 + 1) c2) (m1 + 1) ((xs ++ hs1 ++ [(⟨k, some ⟨gA, 0, none⟩, n, cA, a⟩ : RowX)]).flatMap rowCells) := by simpa [rowCells] using HO2.out
    refine (behind_tree B r Sr pr w2 _ g2 (m1 + 1) c2 tr2 ho2 hl2 hg2r (by omega) (by have := HM1.out; omega)).mono ?_
    rintro e3 w3 ⟨hs3, g3, m3, c3, rfl, hl3, hv3, hh3, hn3, ho3, hat3, k3⟩
    have HO3 := Lib.hid ho3
    have HL3 := Lib.hid hl3
    clear ho3 hl3 ho2 hl2
    go_wp2
    go_ret
    have hz3 := k3.size
    have hhl : ∀ h ∈ hs1, HeadIn w Sl h := hh1
    have hhr : ∀ h ∈ hs3, HeadIn w Sr h := fun h hh => (hh3 h hh).keep (fun _ hb => hb) (fun x hx => (hstay x (hr.lt x hx) (fun e => hgr (e ▸ hx))).symm)
    have hmid : HeadIn w [gA] ⟨k, some ⟨gA, 0, none⟩, n, cA, a⟩ := ⟨gA, rfl, by simp, hn, hoA⟩
    refine ⟨hs1 ++ (⟨k, some ⟨gA, 0, none⟩, n, cA, a⟩ : RowX) :: hs3, g3, m3, c3, rfl, by have := HL3.out; simpa using this, ?_, ?_, ?_, by simpa using HO3.out, by omega, ?_⟩
    · rw [List.map_append, List.map_cons, hv1, hv3]; rfl
    · intro h hh
      rcases List.mem_append.1 hh with h1 | h1
      · exact (hhl h h1).keep (fun x hx => by simp [hx]) (fun _ _ => rfl)
      · rcases List.mem_cons.1 h1 with h1 | h1
        · subst h1; exact hmid.keep (fun x hx => by simp at hx; simp [hx]) (fun _ _ => rfl)
        · exact (hhr h h1).keep (fun x hx => by simp [hx]) (fun _ _ => rfl)
    · rw [List.map_append, List.map_cons, List.nodup_append, List.nodup_cons]
      refine ⟨hn1, ⟨?_, hn3⟩, ?_⟩
      · intro hh
        obtain ⟨h, h1, h2⟩ := List.mem_map.1 hh
        exact (hhr h h1).ne hmid (fun x hx hx2 => by simp at hx2; subst hx2; exact hg2 hx) h2
      · intro A hA A' hA' e
        obtain ⟨h, h1, rfl⟩ := List.mem_map.1 hA
        rcases List.mem_cons.1 hA' with h2 | h2
        · exact (hhl h h1).ne hmid (fun x hx hx2 => by simp at hx2; subst hx2; exact hg1 hx) (e.trans h2)
        · obtain ⟨h', h3, rfl⟩ := List.mem_map.1 h2
          exact (hhl h h1).ne (hhr h' h3) hdis e
    · refine ⟨k3.os.trans (HG2.out.os.trans k1.os), k3.tape.trans (HG2.out.tape.trans k1.tape), k3.output.trans (HG2.out.output.trans k1.output), by omega, fun x hx hxg => ?_⟩
      have hxg' : x ≠ g := by simpa using hxg
      exact (k3.block x (by omega) (by simp; omega)).trans (hstay x hx hxg')
end Go.Proofs.Ytkianldpmlbgcaa
