/-
  Rows put in order of their keys, as a list and as a tree; and where freshly made rows lie. No program.
-/
import Derived.Test.YtkianldpmlbgcaaRBehind
namespace Go.Proofs.Ytkianldpmlbgcaa
open Go.ChangeShapes Go.WideShapes Go.ChangeAt Go.RowKit

theorem Turns.below {w0 w w' : World} {S : List Nat} {B : Nat} (h : Turns w w' S) (hS : ∀ b ∈ S, B ≤ b) (hB : Below B w0 w) (hw : B ≤ w.heap.size) : Below B w0 w' :=
  hB.trans ⟨h.os, h.tape, h.output, h.size, fun k hk => h.block k (by omega) (fun hks => by have := hS k hks; omega)⟩

abbrev RowV := ByteArray × List Int
/-- One round of the reference's l22Add. -/
def addS (key : ByteArray) (p : Int) (s : List RowV × Bool) (x : RowV) : List RowV × Bool :=
  if x.1 = key then (s.1 ++ [(x.1, x.2 ++ [p])], true) else if s.2 = false ∧ ltS key x.1 = true then (s.1 ++ [(key, [p]), x], true) else (s.1 ++ [x], s.2)
def addT (key : ByteArray) (p : Int) (xs : List RowV) (k : Nat) : List RowV × Bool := (xs.take k).foldl (addS key p) ([], false)
def addR (key : ByteArray) (p : Int) (xs : List RowV) : List RowV :=
  if (xs.foldl (addS key p) ([], false)).2 then (xs.foldl (addS key p) ([], false)).1 else (xs.foldl (addS key p) ([], false)).1 ++ [(key, [p])]
theorem addS_eq {key : ByteArray} {p : Int} {o : List RowV} {d : Bool} {zs : List Int} : addS key p (o, d) (key, zs) = (o ++ [(key, zs ++ [p])], true) := by
  unfold addS
  rw [if_pos rfl]
theorem addS_new {key ky : ByteArray} {p : Int} {o : List RowV} {zs : List Int} (h : ltS key ky = true) (hn : ky ≠ key) : addS key p (o, false) (ky, zs) = (o ++ [(key, [p])] ++ [(ky, zs)], true) := by
  unfold addS
  rw [if_neg hn, if_pos ⟨rfl, h⟩]
  simp
theorem addS_old {key ky : ByteArray} {p : Int} {o : List RowV} {d : Bool} {zs : List Int} (hn : ky ≠ key) (h : d = true ∨ ltS key ky = false) : addS key p (o, d) (ky, zs) = (o ++ [(ky, zs)], d) := by
  unfold addS
  rw [if_neg hn, if_neg]
  rintro ⟨h1, h2⟩
  rcases h with h | h
  · rw [h] at h1; cases h1
  · rw [h] at h2; cases h2
theorem addT_succ {key : ByteArray} {p : Int} {xs : List RowV} {k : Nat} {x : RowV} (h : xs[k]? = some x) : addT key p xs (k + 1) = addS key p (addT key p xs k) x := by
  unfold addT
  rw [take_succ_of h, List.foldl_append]
  rfl
theorem addT_all {key : ByteArray} {p : Int} {xs : List RowV} {k : Nat} (h : xs.length ≤ k) : addT key p xs k = xs.foldl (addS key p) ([], false) := by
  unfold addT
  rw [List.take_of_length_le h]
theorem addS_app (key : ByteArray) (p : Int) : ∀ (xs o : List RowV) (d : Bool), xs.foldl (addS key p) (o, d) = (o ++ (xs.foldl (addS key p) ([], d)).1, (xs.foldl (addS key p) ([], d)).2)
  | [], o, d => by simp
  | x :: xs, o, d => by
    have h1 : addS key p (o, d) x = (o ++ (addS key p ([], d) x).1, (addS key p ([], d) x).2) := by
      unfold addS
      split
      · simp
      · split
        · simp
        · simp
    rw [List.foldl_cons, List.foldl_cons, h1, addS_app key p xs (o ++ _), addS_app key p xs (addS key p ([], d) x).1]
    simp
theorem addS_less (key : ByteArray) (p : Int) : ∀ (xs o : List RowV) (d : Bool), (∀ x ∈ xs, ltS x.1 key = true) → xs.foldl (addS key p) (o, d) = (o ++ xs, d)
  | [], o, d, _ => by simp
  | x :: xs, o, d, h => by
    have hx := h x (by simp)
    have h1 : addS key p (o, d) x = (o ++ [x], d) := by
      unfold addS
      rw [if_neg (fun e => by rw [e, ltS_irrefl] at hx; cases hx), if_neg (fun e => by rw [ltS_asymm hx] at e; cases e.2)]
    rw [List.foldl_cons, h1, addS_less key p xs _ _ (fun y hy => h y (by simp [hy]))]
    simp
theorem addS_done (key : ByteArray) (p : Int) : ∀ (xs o : List RowV), (∀ x ∈ xs, x.1 ≠ key) → xs.foldl (addS key p) (o, true) = (o ++ xs, true)
  | [], o, _ => by simp
  | x :: xs, o, h => by
    have h1 : addS key p (o, true) x = (o ++ [x], true) := by
      unfold addS
      rw [if_neg (h x (by simp)), if_neg (fun e => by cases e.1)]
    rw [List.foldl_cons, h1, addS_done key p xs _ (fun y hy => h y (by simp [hy]))]
    simp
/-- The rows in order of their keys, all different. -/
def AscR (xs : List RowV) : Prop := xs.Pairwise (fun a b => ltS a.1 b.1 = true)
theorem RT.ins_keys (key : ByteArray) (p : Int) : ∀ (t : RT), ∀ x ∈ (t.ins key p).rows, x.1 = key ∨ ∃ y ∈ t.rows, y.1 = x.1
  | .leaf, x, hx => by
    simp [RT.ins, RT.rows] at hx
    exact .inl (by rw [hx])
  | .node l k a r, x, hx => by
    rw [RT.ins] at hx
    split at hx
    · simp only [RT.rows, List.mem_append, List.mem_cons] at hx ⊢
      rcases hx with hx | hx | hx
      · rcases RT.ins_keys key p l x hx with h | ⟨y, hy, h⟩
        · exact .inl h
        · exact .inr ⟨y, .inl hy, h⟩
      · exact .inr ⟨(k, a), .inr (.inl rfl), by rw [hx]⟩
      · exact .inr ⟨x, .inr (.inr hx), rfl⟩
    · split at hx
      · simp only [RT.rows, List.mem_append, List.mem_cons] at hx ⊢
        rcases hx with hx | hx | hx
        · exact .inr ⟨x, .inl hx, rfl⟩
        · exact .inr ⟨(k, a), .inr (.inl rfl), by rw [hx]⟩
        · rcases RT.ins_keys key p r x hx with h | ⟨y, hy, h⟩
          · exact .inl h
          · exact .inr ⟨y, .inr (.inr hy), h⟩
      · simp only [RT.rows, List.mem_append, List.mem_cons] at hx ⊢
        rcases hx with hx | hx | hx
        · exact .inr ⟨x, .inl hx, rfl⟩
        · exact .inr ⟨(k, a), .inr (.inl rfl), by rw [hx]⟩
        · exact .inr ⟨x, .inr (.inr hx), rfl⟩
theorem RT.ins_asc (key : ByteArray) (p : Int) : ∀ (t : RT), AscR t.rows → AscR (t.ins key p).rows
  | .leaf, _ => by simp [RT.ins, RT.rows, AscR]
  | .node l k a r, h => by
    unfold AscR RT.rows at h
    rw [List.pairwise_append] at h
    obtain ⟨h1, h2, h3⟩ := h
    rw [List.pairwise_cons] at h2
    obtain ⟨h2, h4⟩ := h2
    rw [RT.ins]
    split
    · rename_i hlt
      unfold AscR RT.rows
      rw [List.pairwise_append, List.pairwise_cons]
      refine ⟨RT.ins_asc key p l h1, ⟨h2, h4⟩, fun x hx y hy => ?_⟩
      rcases RT.ins_keys key p l x hx with e | ⟨z, hz, e⟩
      · rw [e]
        rcases List.mem_cons.1 hy with rfl | hy
        · exact hlt
        · exact ltS_trans hlt (h2 y hy)
      · rw [← e]; exact h3 z hz y hy
    · split
      · rename_i hlt
        unfold AscR RT.rows
        rw [List.pairwise_append, List.pairwise_cons]
        refine ⟨h1, ⟨fun y hy => ?_, RT.ins_asc key p r h4⟩, fun x hx y hy => ?_⟩
        · rcases RT.ins_keys key p r y hy with e | ⟨z, hz, e⟩
          · rw [e]; exact hlt
          · rw [← e]; exact h2 z hz
        · rcases List.mem_cons.1 hy with rfl | hy
          · exact h3 x hx (k, a) (by simp)
          · rcases RT.ins_keys key p r y hy with e | ⟨z, hz, e⟩
            · rw [e]; exact ltS_trans (h3 x hx (k, a) (by simp)) hlt
            · rw [← e]; exact h3 x hx z (by simp [hz])
      · unfold AscR RT.rows
        rw [List.pairwise_append, List.pairwise_cons]
        refine ⟨h1, ⟨fun y hy => h2 y hy, h4⟩, fun x hx y hy => ?_⟩
        rcases List.mem_cons.1 hy with rfl | hy
        · exact h3 x hx (k, a) (by simp)
        · exact h3 x hx y (by simp [hy])
theorem addR_ins (key : ByteArray) (p : Int) : ∀ (t : RT), AscR t.rows → addR key p t.rows = (t.ins key p).rows
  | .leaf, _ => by simp [addR, RT.ins, RT.rows]
  | .node l k a r, h => by
    unfold AscR RT.rows at h
    rw [List.pairwise_append] at h
    obtain ⟨h1, h2, h3⟩ := h
    rw [List.pairwise_cons] at h2
    obtain ⟨h2, h4⟩ := h2
    have hl := addR_ins key p l h1
    have hr := addR_ins key p r h4
    have hne : ∀ {x : ByteArray}, ltS key x = true → x ≠ key := fun hx e => by rw [e, ltS_irrefl] at hx; cases hx
    rw [RT.ins]
    split
    · rename_i hlt
      rw [RT.rows, RT.rows, ← hl]
      unfold addR
      rw [List.foldl_append, List.foldl_cons]
      obtain ⟨o, d⟩ : List RowV × Bool := l.rows.foldl (addS key p) ([], false)
      have hr2 : ∀ x ∈ r.rows, x.1 ≠ key := fun x hx => hne (ltS_trans hlt (h2 x hx))
      cases d
      · have e1 : addS key p (o, false) (k, a) = (o ++ [(key, [p]), (k, a)], true) := by
          unfold addS
          rw [if_neg (hne hlt), if_pos ⟨rfl, hlt⟩]
        rw [e1, addS_done key p _ _ hr2]
        simp
      · have e1 : addS key p (o, true) (k, a) = (o ++ [(k, a)], true) := by
          unfold addS
          rw [if_neg (hne hlt), if_neg (fun e => by cases e.1)]
        rw [e1, addS_done key p _ _ hr2]
        simp
    · split
      · rename_i hn hgt
        rw [RT.rows, RT.rows, ← hr]
        unfold addR
        have hl2 : ∀ x ∈ l.rows, ltS x.1 key = true := fun x hx => ltS_trans (h3 x hx (k, a) (by simp)) hgt
        have e1 : addS key p ([] ++ l.rows, false) (k, a) = (l.rows ++ [(k, a)], false) := by
          unfold addS
          rw [if_neg (fun e => by rw [show k = key from e, ltS_irrefl] at hgt; cases hgt), if_neg (fun e => hn e.2)]
          simp
        rw [List.foldl_append, List.foldl_cons, addS_less key p _ _ _ hl2, e1, addS_app]
        split
        · simp
        · simp
      · rename_i hn hn2
        have hek : k = key := ltS_tri (by simpa using hn2) (by simpa using hn)
        subst hek
        rw [RT.rows, RT.rows]
        unfold addR
        have hl2 : ∀ x ∈ l.rows, ltS x.1 k = true := fun x hx => h3 x hx (k, a) (by simp)
        have hr2 : ∀ x ∈ r.rows, x.1 ≠ k := fun x hx => hne (h2 x hx)
        have e1 : addS k p ([] ++ l.rows, false) (k, a) = (l.rows ++ [(k, a ++ [p])], true) := by
          unfold addS
          rw [if_pos rfl]
          simp
        rw [List.foldl_append, List.foldl_cons, addS_less k p _ _ _ hl2, e1, addS_done k p _ _ hr2]
        simp

/-- Freshly made rows: the list's block g, the numbers of each row in a block of S. -/
structure Fresh (w : World) (B g m c : Nat) (hs : List RowX) (S : List Nat) : Prop where
  len : hs.length = m
  own : w.ownsRow B 55 2 (.slice (some ⟨g, 0, none⟩) m c) m (hs.flatMap rowCells)
  heads : ∀ h ∈ hs, HeadIn w S h
  nodup : (hs.map (·.A)).Nodup
  far : ∀ b ∈ S, B ≤ b ∧ b ≠ g ∧ b < w.heap.size
theorem Fresh.keep {w w' : World} {B g m c : Nat} {hs : List RowX} {S : List Nat} (h : Fresh w B g m c hs S) (hz : w.heap.size ≤ w'.heap.size) (hk : ∀ b, b < w.heap.size → b = g ∨ b ∈ S → w'.heap[b]? = w.heap[b]?) : Fresh w' B g m c hs S :=
  ⟨h.len, by
    have h0 := h.own
    refine ⟨h0.1, ?_⟩
    rcases h0.2 with q | ⟨g', cap, cur, hv, q1, q2, q3⟩
    · exact .inl q
    · have e : g = g' := by simp only [Value.slice.injEq, Option.some.injEq, Addr.mk.injEq] at hv; exact hv.1.1
      exact .inr ⟨g', cap, cur, hv, q1, by rw [← e, hk g (by have := (owns_lt h0).2; exact this) (.inl rfl), e]; exact q2, q3⟩,
    fun x hx => (h.heads x hx).keep (fun _ hb => hb) (fun b hb => hk b (h.far b hb).2.2 (.inr hb)), h.nodup, fun b hb => ⟨(h.far b hb).1, (h.far b hb).2.1, Nat.lt_of_lt_of_le (h.far b hb).2.2 hz⟩⟩
theorem Fresh.below {w w' : World} {B g m c : Nat} {hs : List RowX} {S : List Nat} (h : Fresh w B g m c hs S) (k : Below w.heap.size w w') : Fresh w' B g m c hs S :=
  h.keep k.size (fun b hb _ => k.block b hb)
theorem Fresh.lt {w : World} {B g m c : Nat} {hs : List RowX} {S : List Nat} (h : Fresh w B g m c hs S) : B ≤ g ∧ g < w.heap.size := owns_lt h.own
theorem Fresh.nil (w : World) (B : Nat) (hB : B ≤ w.heap.size) : Fresh (w.alloc (.cells #[] 55)) B w.heap.size 0 0 [] [] :=
  ⟨rfl, owns_nil' _ _ rfl hB, by simp, by simp, by simp⟩
theorem Fresh.base {w : World} {B B' g m c : Nat} {hs : List RowX} {S : List Nat} (h : Fresh w B g m c hs S) (hb : B' ≤ B) : Fresh w B' g m c hs S :=
  ⟨h.len, ownsRow_base h.own hb, h.heads, h.nodup, fun b hb' => ⟨Nat.le_trans hb (h.far b hb').1, (h.far b hb').2⟩⟩
theorem Fresh.rows {w : World} {B g m c N : Nat} {hs : List RowX} {S : List Nat} (h : Fresh w B g m c hs S) (hv : ∀ v ∈ hs.map rowVal, v.2.length ≤ N) : ∀ x ∈ hs, (∃ b, x.A = some ⟨b, 0, none⟩) ∧ x.n ≤ N ∧ x.zs.length = x.n ∧ Lies w 1 x.A x.n (x.zs.flatMap intCells) := by
  intro x hx
  obtain ⟨b, h1, _, h3, h4⟩ := h.heads x hx
  refine ⟨⟨b, h1⟩, ?_, h3, by rw [h1]; exact lies_of_own h4⟩
  have := hv (rowVal x) (List.mem_map_of_mem hx)
  rw [← h3]; exact this
theorem RT.small_mono {N M : Nat} (h : N ≤ M) : ∀ {t : RT}, t.small N → t.small M
  | .leaf, _ => trivial
  | .node _ _ _ _, ⟨h1, h2, h3⟩ => ⟨Nat.le_trans h1 h, RT.small_mono h h2, RT.small_mono h h3⟩
theorem RT.small_ins {N : Nat} (key : ByteArray) (p : Int) : ∀ {t : RT}, t.small N → (t.ins key p).small (N + 1)
  | .leaf, _ => ⟨by simp, trivial, trivial⟩
  | .node l k a r, ⟨h1, h2, h3⟩ => by
    rw [RT.ins]
    split
    · exact ⟨by omega, RT.small_ins key p h2, RT.small_mono (Nat.le_succ N) h3⟩
    · split
      · exact ⟨by omega, RT.small_mono (Nat.le_succ N) h2, RT.small_ins key p h3⟩
      · exact ⟨by simp; omega, RT.small_mono (Nat.le_succ N) h2, RT.small_mono (Nat.le_succ N) h3⟩
theorem RT.rows_ins (key : ByteArray) (p : Int) : ∀ (t : RT), (t.ins key p).rows.length ≤ t.rows.length + 1
  | .leaf => by simp [RT.ins, RT.rows]
  | .node l k a r => by
    have hl := RT.rows_ins key p l
    have hr := RT.rows_ins key p r
    rw [RT.ins]
    split
    · simp only [RT.rows, List.length_append, List.length_cons]; omega
    · split
      · simp only [RT.rows, List.length_append, List.length_cons]; omega
      · simp only [RT.rows, List.length_append, List.length_cons]; omega
theorem RT.small_rows {N : Nat} : ∀ {t : RT}, t.small N → ∀ x ∈ t.rows, x.2.length ≤ N
  | .leaf, _, x, hx => by simp [RT.rows] at hx
  | .node l k a r, ⟨h1, h2, h3⟩, x, hx => by
    simp only [RT.rows, List.mem_append, List.mem_cons] at hx
    rcases hx with hx | rfl | hx
    · exact RT.small_rows h2 x hx
    · exact h1
    · exact RT.small_rows h3 x hx
/-- One more row, its numbers in a block of its own. -/
theorem Fresh.push {w1 w' : World} {B g m c g' c' g2 n2 c2 : Nat} {hs : List RowX} {S : List Nat} (h : Fresh w1 B g m c hs S) (key : ByteArray) (zs : List Int) (hz : zs.length = n2) (ho2 : w1.ownsRow 0 3 1 (.slice (some ⟨g2, 0, none⟩) n2 c2) n2 (zs.flatMap intCells)) (hB2 : B ≤ g2) (h2S : g2 ∉ S) (h2g : g2 ≠ g)
    (ho : w'.ownsRow B 55 2 (.slice (some ⟨g', 0, none⟩) (m + 1) c') (m + 1) (hs.flatMap rowCells ++ [.string key, .slice (some ⟨g2, 0, none⟩) n2 c2])) (hg : w1.grownBy w' (some g)) (hat : g' = g ∨ w1.heap.size ≤ g') :
    Fresh w' B g' (m + 1) c' (hs ++ [⟨key, some ⟨g2, 0, none⟩, n2, c2, zs⟩]) (g2 :: S) := by
  have hl2 := (owns_lt ho2).2
  refine ⟨by simp [h.len], by rw [List.flatMap_append]; exact ho, ?_, ?_, ?_⟩
  · intro x hx
    rcases List.mem_append.1 hx with hx | hx
    · exact (h.heads x hx).keep (fun b hb => by simp [hb]) (fun b hb => hg.block b (h.far b hb).2.2 (fun e => (h.far b hb).2.1 (by injection e)))
    · obtain rfl := List.mem_singleton.1 hx
      exact ⟨g2, rfl, by simp, hz, own_block ho2 (hg.block g2 hl2 (fun e => h2g (by injection e)))⟩
  · rw [List.map_append, List.nodup_append]
    refine ⟨h.nodup, by simp, ?_⟩
    intro a ha b hb e
    simp at hb
    obtain ⟨x, hx, rfl⟩ := List.mem_map.1 ha
    obtain ⟨gx, h1, h2, _⟩ := h.heads x hx
    rw [h1, hb] at e
    injection e with e
    injection e with e
    exact h2S (e ▸ h2)
  · intro b hb
    rcases List.mem_cons.1 hb with rfl | hb
    · refine ⟨hB2, ?_, Nat.lt_of_lt_of_le hl2 hg.size⟩
      rcases hat with e | e
      · rw [e]; exact h2g
      · omega
    · have := h.far b hb
      refine ⟨this.1, ?_, Nat.lt_of_lt_of_le this.2.2 hg.size⟩
      rcases hat with e | e
      · rw [e]; exact this.2.1
      · omega
end Go.Proofs.Ytkianldpmlbgcaa
