/-
  Slices of rows that a call made, each row's numbers in a block of its own: the laws' equality, marks, and whether the marks are held. No condition.
-/
import Derived.Test.YtkianldpmlbgcaaRowsP
import Derived.Test.YtkianldpmlbgcaaMarkText
namespace Go.Proofs.Ytkianldpmlbgcaa
open Go.ChangeShapes Go.WideShapes Go.ChangeAt Go.RowKit

def rowLen : List RowV → Nat
  | [] => 0
  | y :: ys => y.2.length + 1 + rowLen ys
theorem rowLen_app (xs : List RowV) : ∀ ys : List RowV, rowLen (ys ++ xs) = rowLen ys + rowLen xs
  | [] => by simp [rowLen]
  | y :: ys => by rw [List.cons_append, rowLen, rowLen, rowLen_app xs ys]; omega
theorem rowLen_len : ∀ ys : List RowV, ys.length ≤ rowLen ys
  | [] => by simp [rowLen]
  | y :: ys => by have := rowLen_len ys; rw [rowLen, List.length_cons]; omega
theorem rowLen_mem : ∀ (ys : List RowV) (y : RowV), y ∈ ys → y.2.length ≤ rowLen ys
  | [], _, h => by simp at h
  | z :: ys, y, h => by
    rw [rowLen]
    rcases List.mem_cons.1 h with rfl | h
    · omega
    · have := rowLen_mem ys y h; omega
theorem rowLen_le {N : Nat} : ∀ ys : List RowV, (∀ y ∈ ys, y.2.length ≤ N) → rowLen ys ≤ ys.length * (N + 1)
  | [], _ => by simp [rowLen]
  | z :: ys, h => by
    have h1 := rowLen_le ys (fun y hy => h y (by simp [hy]))
    have h2 := h z (by simp)
    rw [rowLen, List.length_cons, Nat.succ_mul]; omega
def ints (q : Int) (n : Nat) : List Int := (List.range n).map (fun i : Nat => q + (i : Int))
theorem ints_len (q : Int) (n : Nat) : (ints q n).length = n := by simp [ints]
theorem ints_marks (q : Int) : ∀ n, (ints q n).flatMap intCells = marksBy intMarks 1 q n
  | 0 => by simp [ints, marksBy]
  | n + 1 => by
    have h := ints_marks q n
    unfold ints at h ⊢
    rw [List.range_succ, List.map_append, List.flatMap_append, h, marksBy]
    simp [intMarks, intCells]
def markV (q : Int) : List RowV → List RowV
  | [] => []
  | y :: ys => (mtext q, ints (q + 1) y.2.length) :: markV (q + 1 + (y.2.length : Int)) ys
theorem markV_len : ∀ (ys : List RowV) (q : Int), (markV q ys).length = ys.length
  | [], _ => rfl
  | y :: ys, q => by rw [markV, List.length_cons, List.length_cons, markV_len ys]
theorem rowLen_markV : ∀ (ys : List RowV) (q : Int), rowLen (markV q ys) = rowLen ys
  | [], _ => rfl
  | y :: ys, q => by rw [markV, rowLen, rowLen, rowLen_markV ys]; show (ints (q + 1) y.2.length).length + 1 + _ = _; rw [ints_len]
theorem markV_all {N : Nat} : ∀ {ys : List RowV}, (∀ y ∈ ys, y.2.length ≤ N) → ∀ (q : Int), ∀ y ∈ markV q ys, y.2.length ≤ N
  | [], _, _, y, hy => by simp [markV] at hy
  | z :: ys, h, q, y, hy => by
    rw [markV] at hy
    rcases List.mem_cons.1 hy with rfl | hy
    · show (ints (q + 1) z.2.length).length ≤ N
      rw [ints_len]; exact h z (by simp)
    · exact markV_all (fun y hy => h y (by simp [hy])) _ y hy
theorem markV_snoc (x : RowV) : ∀ (ys : List RowV) (q : Int), markV q (ys ++ [x]) = markV q ys ++ [(mtext (q + (rowLen ys : Nat)), ints (q + (rowLen ys : Nat) + 1) x.2.length)]
  | [], q => by simp [markV, rowLen]
  | y :: ys, q => by
    rw [List.cons_append, markV, markV, markV_snoc x ys, rowLen]
    have e : q + 1 + (y.2.length : Int) + (rowLen ys : Nat) = q + ((y.2.length + 1 + rowLen ys : Nat) : Int) := by omega
    rw [e]; rfl
theorem markV_get {x : RowV} : ∀ (ys : List RowV) (q : Int) (k : Nat), ys[k]? = some x → (markV q ys)[k]? = some (mtext (q + (rowLen (ys.take k) : Nat)), ints (q + (rowLen (ys.take k) : Nat) + 1) x.2.length)
  | [], _, _, h => by simp at h
  | y :: ys, q, 0, h => by
    simp only [List.getElem?_cons_zero, Option.some.injEq] at h
    subst h
    simp [markV, rowLen]
  | y :: ys, q, k + 1, h => by
    rw [List.getElem?_cons_succ] at h
    rw [markV, List.getElem?_cons_succ, markV_get ys _ k h, List.take_succ_cons, rowLen]
    have e : q + 1 + (y.2.length : Int) + (rowLen (ys.take k) : Nat) = q + ((y.2.length + 1 + rowLen (ys.take k) : Nat) : Int) := by omega
    rw [e]

/-- Rows made by a call, their blocks between lo and hi. -/
def RowsAt (w : World) (lo hi : Nat) (v : Value) (vals : List RowV) : Prop :=
  ∃ (g m c : Nat) (hs : List RowX) (S : List Nat), v = .slice (some ⟨g, 0, none⟩) m c ∧ hs.map rowVal = vals ∧ Fresh w lo g m c hs S ∧ g < hi ∧ (∀ b ∈ S, b < hi) ∧ hi ≤ w.heap.size
/-- Of a size that the laws' marks can number. -/
def SmallR (vals : List RowV) : Prop := rowLen vals ≤ 2097152 ∧ ∀ y ∈ vals, y.2.length ≤ 1048576
theorem SmallR.of {vals : List RowV} (h : rowLen vals ≤ 1048576) : SmallR vals := ⟨by omega, fun y hy => Nat.le_trans (rowLen_mem _ y hy) h⟩
theorem SmallR.mark {vals : List RowV} (h : SmallR vals) (q : Int) : SmallR (markV q vals) := ⟨by rw [rowLen_markV]; exact h.1, markV_all h.2 q⟩
theorem SmallR.len {vals : List RowV} (h : SmallR vals) : vals.length ≤ 2097152 := Nat.le_trans (rowLen_len _) h.1
def rowSAt (w : World) (lo hi : Nat) (v : Value) (vals : List RowV) : Prop := SmallR vals ∧ RowsAt w lo hi v vals
theorem rowSAt.keep {w w' : World} {lo hi lo' hi' : Nat} {v : Value} {vals : List RowV} (h : rowSAt w lo hi v vals) (k : Within w w' lo' hi') (d : hi ≤ lo' ∨ hi' ≤ lo) : rowSAt w' lo hi v vals := by
  obtain ⟨h0, g, m, c, hs, S, rfl, hv, hf, hg, hS, hz⟩ := h
  refine ⟨h0, g, m, c, hs, S, rfl, hv, hf.keep k.size (fun b hb hor => k.block b hb ?_), hg, hS, Nat.le_trans hz k.size⟩
  rcases hor with rfl | hm
  · have := hf.lt.1; omega
  · have h1 := (hf.far b hm).1; have h2 := hS b hm; omega
theorem rowSAt.keepB {w w' : World} {lo hi : Nat} {v : Value} {vals : List RowV} (h : rowSAt w lo hi v vals) (k : Below w.heap.size w w') : rowSAt w' lo hi v vals := h.keep (Within.of_below k 0 0) (.inr (Nat.zero_le _))
theorem rowSAt.made {w w' : World} {g m c : Nat} {hs : List RowX} {S : List Nat} {vals : List RowV} (hv : hs.map rowVal = vals) (hl : SmallR vals) (hf : Fresh w' w.heap.size g m c hs S) : rowSAt w' w.heap.size w'.heap.size (.slice (some ⟨g, 0, none⟩) m c) vals :=
  ⟨hl, g, m, c, hs, S, rfl, hv, hf, hf.lt.2, fun b hb => (hf.far b hb).2.2, Nat.le_refl _⟩

/-- A row's numbers lie behind it. -/
def RowZ (w : World) (x : RowX) : Prop := x.n ≤ 1048576 ∧ x.zs.length = x.n ∧ Lies w 1 x.A x.n (x.zs.flatMap intCells)
theorem RowZ.below {w w' : World} {x : RowX} (h : RowZ w x) (hb : Below w.heap.size w w') : RowZ w' x := ⟨h.1, h.2.1, h.2.2.below hb⟩
theorem Fresh.rowZ {w : World} {B g m c : Nat} {hs : List RowX} {S : List Nat} (h : Fresh w B g m c hs S) (hl : SmallR (hs.map rowVal)) : ∀ x ∈ hs, RowZ w x := fun x hx => by
  obtain ⟨_, h1, h2, h3⟩ := h.rows (N := 1048576) hl.2 x hx
  exact ⟨h1, h2, h3⟩

set_option maxHeartbeats 1600000 in
theorem eqRow2_any (x y : RowX) (w : World) (hx : RowZ w x) (hy : RowZ w y) :
    Calls Try.prog 36 #[.agg #[.string x.key, .slice x.A x.n x.c], .agg #[.string y.key, .slice y.A y.n y.c]] w fun e w' => e = .returned (.bool (decide (rowVal x = rowVal y))) ∧ Below w.heap.size w w' := by
  obtain ⟨kx, A, n, c, zs⟩ := x
  obtain ⟨ky, B, m, d, ts⟩ := y
  have hn : n ≤ 1048576 := hx.1
  have HX := Lib.hid (show zs.length = n from hx.2.1)
  have HY := Lib.hid (show ts.length = m from hy.2.1)
  have HL := Lib.hid (show Lies w 1 A n (zs.flatMap intCells) from hx.2.2)
  have HM := Lib.hid (show Lies w 1 B m (ts.flatMap intCells) from hy.2.2)
  clear hx hy
  by_cases h0 : kx = ky
  · subst h0
    have m0 : (kx.toList == kx.toList) = true := by simp
    cases hz : decide (zs = ts)
    all_goals
      have e := Lib.hid (show decide (rowVal ⟨kx, A, n, c, zs⟩ = rowVal ⟨kx, B, m, d, ts⟩) = decide (zs = ts) by unfold rowVal; simp)
      go_enter Try.func36, Try.ntmps36
      go_wp2_with (go_at_call 24; refine (eqIntS_any A B n c m d zs ts hn HX.out HY.out _ (HL.out.below (by repeat' (first | (with_reducible exact Below.refl _ _) | (with_reducible assumption) | (with_reducible refine below_step (by assumption) ?_) | (with_reducible refine below_alloc ?_ _) | (with_reducible refine Below.drew ?_) | (with_reducible refine below_drewN ?_ _) | (with_reducible refine Below.setCell ?_ ?_ _) | go_size))) (HM.out.below (by repeat' (first | (with_reducible exact Below.refl _ _) | (with_reducible assumption) | (with_reducible refine below_step (by assumption) ?_) | (with_reducible refine below_alloc ?_ _) | (with_reducible refine Below.drew ?_) | (with_reducible refine below_drewN ?_ _) | (with_reducible refine Below.setCell ?_ ?_ _) | go_size)))).mono ?_; rintro e1 w1 ⟨rfl, hb1⟩; rw [hz])
      go_ret
      exact ⟨ret_bool (by rw [e.out, hz]), (by repeat' (first | (with_reducible exact Below.refl _ _) | (with_reducible assumption) | (with_reducible refine below_step (by assumption) ?_) | (with_reducible refine below_alloc ?_ _) | (with_reducible refine Below.drew ?_) | (with_reducible refine below_drewN ?_ _) | (with_reducible refine Below.setCell ?_ ?_ _) | go_size))⟩
  · have e := Lib.hid (show decide (rowVal ⟨kx, A, n, c, zs⟩ = rowVal ⟨ky, B, m, d, ts⟩) = false by unfold rowVal; simp [h0])
    have m0 : (kx.toList == ky.toList) = false := str_ne h0
    have m1 : (kx.toList != ky.toList) = true := by unfold bne; rw [m0]; rfl
    clear h0
    go_enter Try.func36, Try.ntmps36
    go_wp2
    go_ret
    exact ⟨ret_bool e.out.symm, (by repeat' (first | (with_reducible exact Below.refl _ _) | (with_reducible assumption) | (with_reducible refine below_step (by assumption) ?_) | (with_reducible refine below_alloc ?_ _) | (with_reducible refine Below.drew ?_) | (with_reducible refine below_drewN ?_ _) | (with_reducible refine Below.setCell ?_ ?_ _) | go_size))⟩

set_option maxHeartbeats 3200000 in
theorem eqRowS2_same (A B : Option Addr) (n c d : Nat) (xs ys : List RowX) (hn : n ≤ 2097152) (hx : xs.length = n) (hy : ys.length = n) (hv : xs.map rowVal = ys.map rowVal) (w : World) (ox : ∀ x ∈ xs, RowZ w x) (oy : ∀ y ∈ ys, RowZ w y) (hL : Lies w 2 A n (xs.flatMap rowCells)) (hM : Lies w 2 B n (ys.flatMap rowCells)) :
    Calls Try.prog 12 #[.slice A n c, .slice B n d] w fun e w' => e = .returned (.bool true) ∧ Below w.heap.size w w' := by
  have HV := Lib.hid hv
  have OX := Lib.hid ox
  have OY := Lib.hid oy
  clear hv ox oy
  go_enter Try.func12, Try.ntmps12
  go_wp2
  go_loopw [5] (fun i wr => ∃ k : Nat, k ≤ n ∧ i = .int .i64 k ∧ Below w.heap.size w wr) (fun i _ => n - (intOf i).toNat)
  case atStart => exact ⟨0, Nat.zero_le _, rfl, Below.refl _ _⟩
  case round =>
    obtain ⟨k, hk, rfl, hB⟩ := hrel
    by_cases hlt : k < n
    · obtain ⟨b, o, rfl, hb, hc⟩ := (hL.below hB).row (fun _ => rfl) (by omega)
      obtain ⟨x, hxk⟩ := get_lt hx hlt
      obtain ⟨b', o', rfl, hb', hc'⟩ := (hM.below hB).row (fun _ => rfl) (by omega)
      obtain ⟨y, hyk⟩ := get_lt hy hlt
      have c0 : wr.cell? ⟨b, o + k * 2, none⟩ = some (.string x.key) := hc k _ hxk 0 _ rfl
      have c1 : wr.cell? ⟨b, o + k * 2 + 1, none⟩ = some (.slice x.A x.n x.c) := hc k _ hxk 1 _ rfl
      have d0 : wr.cell? ⟨b', o' + k * 2, none⟩ = some (.string y.key) := hc' k _ hyk 0 _ rfl
      have d1 : wr.cell? ⟨b', o' + k * 2 + 1, none⟩ = some (.slice y.A y.n y.c) := hc' k _ hyk 1 _ rfl
      have KX := Lib.hid ((OX.out _ (List.mem_of_getElem? hxk)).below hB)
      have KY := Lib.hid ((OY.out _ (List.mem_of_getElem? hyk)).below hB)
      have E : decide (rowVal x = rowVal y) = true := decide_eq_true (by
        have h := congrArg (fun l : List (ByteArray × List Int) => l[k]?) HV.out
        simp only [List.getElem?_map, hxk, hyk, Option.map_some, Option.some.injEq] at h
        exact h)
      clear hxk hc hyk hc'
      have R0 := After.cell c0
      have R1 := After.cell c1
      have R2 := After.cell d0
      have R3 := After.cell d1
      go_wp2_with fail
      refine wp_region_after (by kernel_rfl) (by kernel_rfl) ?_
      repeat (go_big_quiet_step (((go_at_call 36; exact after_bool E (eqRow2_any x y _ (KX.out.below (After.h _)) (KY.out.below (After.h _)))))))
      refine wpQuiet_nil ?_
      intro wn hw'
      have hwn := after_below hw'
      clear hw'
      go_wp2
      go_roundw
      case rel => exact ⟨k + 1, by omega, by go_num, (by repeat' (first | (with_reducible exact Below.refl _ _) | (with_reducible assumption) | (with_reducible refine below_step (by assumption) ?_) | (with_reducible refine below_alloc ?_ _) | (with_reducible refine Below.drew ?_) | (with_reducible refine below_drewN ?_ _) | (with_reducible refine Below.setCell ?_ ?_ _) | go_size))⟩
      case measure => simp [intOf]; omega
    · go_wp2
      go_ret
      exact ⟨rfl, (by repeat' (first | (with_reducible exact Below.refl _ _) | (with_reducible assumption) | (with_reducible refine below_step (by assumption) ?_) | (with_reducible refine below_alloc ?_ _) | (with_reducible refine Below.drew ?_) | (with_reducible refine below_drewN ?_ _) | (with_reducible refine Below.setCell ?_ ?_ _) | go_size))⟩
theorem eqRowS_at (lo hi lo' hi' : Nat) (v v' : Value) (vals : List RowV) (w : World) (h : rowSAt w lo hi v vals) (h' : rowSAt w lo' hi' v' vals) :
    Calls Try.prog 12 #[v, v'] w fun e w' => e = .returned (.bool true) ∧ Below w.heap.size w w' := by
  obtain ⟨h0, g, m, c, hs, S, rfl, hv, hf, _, _, _⟩ := h
  obtain ⟨_, g', m', c', hs', S', rfl, hv', hf', _, _, _⟩ := h'
  have hm : m = vals.length := by rw [← hf.len, ← hv, List.length_map]
  have hm' : m' = vals.length := by rw [← hf'.len, ← hv', List.length_map]
  subst hm
  subst hm'
  exact eqRowS2_same _ _ _ _ _ hs hs' h0.len hf.len hf'.len (by rw [hv, hv']) w (hf.rowZ (by rw [hv]; exact h0)) (hf'.rowZ (by rw [hv']; exact h0)) (lies_of_own hf.own) (lies_of_own hf'.own)

theorem set_mid (a r : List Value) (u v : Value) : (a ++ u :: r).set a.length v = a ++ v :: r := by
  rw [List.set_append_right _ _ (Nat.le_refl _), Nat.sub_self, List.set_cons_zero]
theorem rowCells_len : ∀ ds : List RowX, (ds.flatMap rowCells).length = ds.length * 2
  | [] => rfl
  | d :: ds => by rw [List.flatMap_cons, List.length_append, rowCells_len ds, List.length_cons]; simp [rowCells]; omega
theorem Fresh.setKey {w : World} {B g m c : Nat} {ds rs : List RowX} {x : RowX} {S : List Nat} (h : Fresh w B g m c (ds ++ x :: rs) S) (t : ByteArray) :
    Fresh (w.setCell ⟨g, ds.length * 2, none⟩ (.string t)) B g m c (ds ++ ⟨t, x.A, x.n, x.c, x.zs⟩ :: rs) S := by
  have hoth : ∀ b, b ≠ g → (w.setCell ⟨g, ds.length * 2, none⟩ (.string t)).heap[b]? = w.heap[b]? := fun b hb => heap_setCell_other w ⟨g, ds.length * 2, none⟩ b _ hb
  refine ⟨by rw [← h.len]; simp, ?_, ?_, ?_, ?_⟩
  · have h1 := (h.own.stored (ds.length * 2) (.string t)).1
    have e : (ds ++ x :: rs).flatMap rowCells = ds.flatMap rowCells ++ .string x.key :: (.slice x.A x.n x.c :: rs.flatMap rowCells) := by
      rw [List.flatMap_append, List.flatMap_cons]; rfl
    have e2 : (ds ++ ⟨t, x.A, x.n, x.c, x.zs⟩ :: rs).flatMap rowCells = ds.flatMap rowCells ++ .string t :: (.slice x.A x.n x.c :: rs.flatMap rowCells) := by
      rw [List.flatMap_append, List.flatMap_cons]; rfl
    rw [e, ← rowCells_len, set_mid] at h1
    rw [e2, ← rowCells_len]
    exact h1
  · intro y hy
    have hk : ∀ b ∈ S, (w.setCell ⟨g, ds.length * 2, none⟩ (.string t)).heap[b]? = w.heap[b]? := fun b hb => hoth b (h.far b hb).2.1
    rcases List.mem_append.1 hy with hy | hy
    · exact (h.heads y (by simp [hy])).keep (fun _ hb => hb) hk
    · rcases List.mem_cons.1 hy with rfl | hy
      · exact (show HeadIn w S ⟨t, x.A, x.n, x.c, x.zs⟩ from h.heads x (by simp)).keep (fun _ hb => hb) hk
      · exact (h.heads y (by simp [hy])).keep (fun _ hb => hb) hk
  · have h1 := h.nodup
    simpa using h1
  · intro b hb
    have h1 := h.far b hb
    exact ⟨h1.1, h1.2.1, by rw [World.size_setCell]; exact h1.2.2⟩
theorem Fresh.setAt {w w' : World} {B g m c b n cc : Nat} {ky : ByteArray} {zs zs' : List Int} {ds rs : List RowX} {S : List Nat} (h : Fresh w B g m c (ds ++ ⟨ky, some ⟨b, 0, none⟩, n, cc, zs⟩ :: rs) S) (hl : zs'.length = n)
    (ho : w'.ownsRow 0 3 1 (.slice (some ⟨b, 0, none⟩) n cc) n (zs'.flatMap intCells)) (hg : w.grownBy w' (some b)) :
    Fresh w' B g m c (ds ++ ⟨ky, some ⟨b, 0, none⟩, n, cc, zs'⟩ :: rs) S := by
  have hbS : b ∈ S := by
    obtain ⟨g1, h1, h2, _⟩ := h.heads ⟨ky, some ⟨b, 0, none⟩, n, cc, zs⟩ (by simp)
    have e : b = g1 := by cases h1; rfl
    rw [e]; exact h2
  have hbg := (h.far b hbS).2.1
  have hnd := h.nodup
  rw [List.map_append, List.map_cons, List.nodup_append, List.nodup_cons] at hnd
  obtain ⟨n1, ⟨n2, n3⟩, n4⟩ := hnd
  have hoth : ∀ y, HeadIn w S y → y.A ≠ some ⟨b, 0, none⟩ → HeadIn w' S y := by
    rintro y ⟨g1, e1, m1, l1, o1⟩ hne
    refine ⟨g1, e1, m1, l1, own_block o1 (hg.block g1 (owns_lt o1).2 (fun e => hne ?_))⟩
    injection e with e
    rw [e1, e]
  refine ⟨by rw [← h.len]; simp, ?_, ?_, ?_, ?_⟩
  · have h0 := h.own
    have e2 : (ds ++ ⟨ky, some ⟨b, 0, none⟩, n, cc, zs'⟩ :: rs).flatMap rowCells = (ds ++ ⟨ky, some ⟨b, 0, none⟩, n, cc, zs⟩ :: rs).flatMap rowCells := by
      rw [List.flatMap_append, List.flatMap_append, List.flatMap_cons, List.flatMap_cons]; rfl
    rw [e2]
    refine ⟨h0.1, ?_⟩
    rcases h0.2 with q | ⟨g', cap, cur, hv, q1, q2, q3⟩
    · exact .inl q
    · have e : g = g' := by simp only [Value.slice.injEq, Option.some.injEq, Addr.mk.injEq] at hv; exact hv.1.1
      exact .inr ⟨g', cap, cur, hv, q1, by rw [← e, hg.block g h.lt.2 (fun e => hbg (by injection e with e; exact e.symm)), e]; exact q2, q3⟩
  · intro y hy
    rcases List.mem_append.1 hy with hy | hy
    · exact hoth y (h.heads y (by simp [hy])) (fun e => n4 _ (List.mem_map.2 ⟨y, hy, rfl⟩) (some ⟨b, 0, none⟩) (List.mem_cons_self ..) e)
    · rcases List.mem_cons.1 hy with rfl | hy
      · exact ⟨b, rfl, hbS, hl, ho⟩
      · exact hoth y (h.heads y (by simp [hy])) (fun e => n2 (List.mem_map.2 ⟨y, hy, e⟩))
  · have h1 := h.nodup
    simpa using h1
  · intro x hx
    have h1 := h.far x hx
    exact ⟨h1.1, h1.2.1, Nat.lt_of_lt_of_le h1.2.2 hg.size⟩

/-- Only blocks of the rows, and new ones, may differ. -/
theorem Within.of_set {w : World} {g lo hi o : Nat} {u : Value} (h1 : lo ≤ g) (h2 : g < hi) : Within w (w.setCell ⟨g, o, none⟩ u) lo hi :=
  ⟨rfl, rfl, rfl, by simp [World.setCell], fun b _ hne => heap_setCell_other w ⟨g, o, none⟩ b _ (fun e => hne (by show lo ≤ b ∧ b < hi; have : b = g := e; omega))⟩
theorem rowVal_len {hs : List RowX} {k : Nat} {x : RowX} (h : hs[k]? = some x) : rowLen ((hs.take (k + 1)).map rowVal) = rowLen ((hs.take k).map rowVal) + (x.zs.length + 1) := by
  rw [take_succ_of h, List.map_append, rowLen_app]; simp [rowLen, rowVal]
theorem rowLen_take (hs : List RowX) (k : Nat) : rowLen ((hs.take k).map rowVal) ≤ rowLen (hs.map rowVal) := by
  have h := rowLen_app ((hs.drop k).map rowVal) ((hs.take k).map rowVal)
  rw [← List.map_append, List.take_append_drop] at h
  omega
set_option maxHeartbeats 6400000 in
theorem markRowS_own (lo hi g m c : Nat) (hs : List RowX) (S : List Nat) (q : Int) (h1 : 1 ≤ q) (h2 : q ≤ 1048576) (hl : SmallR (hs.map rowVal)) (w : World) (hf : Fresh w lo g m c hs S) (hg : g < hi) (hS : ∀ b ∈ S, b < hi) :
    Calls Try.prog 25 #[.slice (some ⟨g, 0, none⟩) m c, .int .i64 q] w fun e w' => ∃ hs' : List RowX, e = .returned (.int .i64 (q + (rowLen (hs.map rowVal) : Nat))) ∧ hs'.map rowVal = markV q (hs.map rowVal) ∧ Fresh w' lo g m c hs' S ∧ Within w w' lo hi := by
  have HM := Lib.hid hf.len
  have HF := Lib.hid hf
  have HS := Lib.hid hS
  clear hf hS
  have hm : m ≤ 2097152 := by
    have := hl.len
    rw [List.length_map, HM.out] at this
    exact this
  have HSM := Lib.hid hl.2
  have hl := hl.1
  go_enter Try.func25, Try.ntmps25
  go_wp2
  go_loopw [1, 5] (fun p i wr => ∃ (k : Nat) (ds : List RowX), k ≤ m ∧ ds.length = k ∧ i = .int .i64 k ∧ p = .int .i64 (q + (rowLen ((hs.take k).map rowVal) : Nat)) ∧ Hid (ds.map rowVal = markV q ((hs.take k).map rowVal)) ∧ Hid (Fresh wr lo g m c (ds ++ hs.drop k) S) ∧ Within w wr lo hi) (fun _ i _ => m - (intOf i).toNat)
  case atStart => exact ⟨0, [], Nat.zero_le _, rfl, rfl, by simp [rowLen], Lib.hid rfl, Lib.hid (by simpa using HF.out), Within.refl _ _ _⟩
  case round =>
    obtain ⟨k, ds, hk, hdk, rfl, rfl, hD, hF, hW⟩ := hrel
    have ht := rowLen_take hs k
    by_cases hlt : k < m
    · obtain ⟨x, hxk⟩ := get_lt HM.out hlt
      have hv := rowVal_len hxk
      have ht2 := rowLen_take hs (k + 1)
      have hms := markV_snoc (rowVal x) ((hs.take k).map rowVal) q
      have htk : (hs.take (k + 1)).map rowVal = (hs.take k).map rowVal ++ [rowVal x] := by rw [take_succ_of hxk, List.map_append]; rfl
      have hdr := drop_of hxk
      have F0 := hF.out
      rw [hdr] at F0
      obtain ⟨bx, hbx, hbS, hzl, hzo⟩ := F0.heads x (by simp)
      obtain ⟨ky, A, nx, cx, zs⟩ := x
      simp only at hbx hzl hzo hv
      subst hbx
      subst hdk
      have hbg := (F0.far bx hbS).2.1
      obtain ⟨R, hR⟩ : ∃ R, rowLen ((hs.take ds.length).map rowVal) = R := ⟨_, rfl⟩
      rw [hR] at hv ht hms
      rw [hR]
      have F0 := Lib.hid F0
      have HV := Lib.hid hv
      have HT := Lib.hid (htk.symm ▸ hms)
      have hnx : nx ≤ 1048576 := by
        have h := HSM.out _ (List.mem_map_of_mem (List.mem_of_getElem? hxk))
        rw [← hzl]; exact h
      have hq2 : q + (R : Int) + 1 + (nx : Int) ≤ 4194304 := by omega
      have HDR := Lib.hid hdr
      clear hms htk hv hdr hF hR hzo
      go_wp2_with fail
      refine (markText_any _ (by omega) (by omega) _).mono ?_
      rintro e1 w1 ⟨rfl, hb1⟩
      have F1 := Lib.hid (F0.out.below hb1)
      have hW1 := hW.trans (Within.of_below hb1 _ _)
      have G1 := Lib.hid F1.out.own
      have f1_0 := G1.out.frozenAt (ds.length * 2)
      have f1_1 := G1.out.frozenAt (ds.length * 2 + 1)
      obtain ⟨u1_0, d1_0⟩ := owns_cell G1.out (show ds.length * 2 < m * 2 by omega)
      have d1_1 : w1.cell? ⟨g, ds.length * 2 + 1, none⟩ = some (.slice (some ⟨bx, 0, none⟩) nx cx) := (G1.out.cellAt (ds.length * 2 + 1) (by omega)).trans (by
        rw [List.flatMap_append, List.getElem?_append_right (by rw [rowCells_len]; omega), rowCells_len, show ds.length * 2 + 1 - ds.length * 2 = 1 by omega]
        rfl)
      have F2 := Lib.hid (F1.out.setKey (mtext (q + (R : Int))))
      have hW2 : Within w (w1.setCell ⟨g, ds.length * 2, none⟩ (.string (mtext (q + (R : Int))))) lo hi := hW1.trans (Within.of_set F1.out.lt.1 hg)
      have hzo := (by obtain ⟨b', e', _, _, o'⟩ := F2.out.heads _ (by simp : (⟨mtext (q + (R : Int)), some ⟨bx, 0, none⟩, nx, cx, zs⟩ : RowX) ∈ _); cases e'; exact o' : (w1.setCell ⟨g, ds.length * 2, none⟩ (.string (mtext (q + (R : Int))))).ownsRow 0 3 1 (.slice (some ⟨bx, 0, none⟩) nx cx) nx (zs.flatMap intCells))
      have HZO := Lib.hid hzo
      clear hzo
      go_wp2_with fail
      refine (markIntS_own 0 bx nx cx _ (q + (R : Int) + 1) (by omega) (by omega) hnx _ HZO.out).mono ?_
      rintro e2 w2 ⟨rfl, ho2, hg2⟩
      rw [← ints_marks] at ho2
      have F3 := Lib.hid (F2.out.setAt (ints_len _ _) ho2 hg2)
      have hW3 := hW2.trans (Within.of_grown hg2 (F0.out.far bx hbS).1 (HS.out bx hbS))
      clear ho2 hg2
      go_wp2
      go_roundw
      case rel =>
        refine ⟨ds.length + 1, ds ++ [⟨mtext (q + (R : Int)), some ⟨bx, 0, none⟩, nx, cx, ints (q + (R : Int) + 1) nx⟩], by omega, by simp, by go_num, ?_, Lib.hid ?_, Lib.hid ?_, hW3⟩
        · rw [HV.out, hzl]; go_num
        · rw [HT.out, List.map_append, hD.out]
          have hzl2 : (rowVal (⟨ky, some ⟨bx, 0, none⟩, nx, cx, zs⟩ : RowX)).2.length = nx := hzl
          rw [hzl2]; rfl
        · have := F3.out
          simpa using this
      case measure => simp [intOf]; omega
    · obtain rfl : k = m := by omega
      have e1 : hs.take k = hs := List.take_of_length_le (by have := HM.out; omega)
      have e2 : hs.drop k = [] := List.drop_of_length_le (by have := HM.out; omega)
      rw [e1] at hD
      rw [e1]
      rw [e2, List.append_nil] at hF
      go_wp2
      go_ret
      exact ⟨ds, rfl, hD.out, hF.out, hW⟩
theorem markRowS_at (lo hi : Nat) (v : Value) (vals : List RowV) (q : Int) (h1 : 1 ≤ q) (h2 : q ≤ 1048576) (w : World) (h : rowSAt w lo hi v vals) :
    Calls Try.prog 25 #[v, .int .i64 q] w fun e w' => e = .returned (.int .i64 (q + (rowLen vals : Nat))) ∧ rowSAt w' lo hi v (markV q vals) ∧ Within w w' lo hi := by
  obtain ⟨h0, g, m, c, hs, S, rfl, rfl, hf, hg, hS, hz⟩ := h
  refine (markRowS_own lo hi g m c hs S q h1 h2 h0 w hf hg hS).mono ?_
  rintro e w' ⟨hs', rfl, hv', hf', hw'⟩
  refine ⟨rfl, ⟨?_, g, m, c, hs', S, rfl, hv', hf', hg, hS, Nat.le_trans hz hw'.size⟩, hw'⟩
  exact h0.mark q

set_option maxHeartbeats 6400000 in
theorem heldRowS_at (lo hi : Nat) (v : Value) (vals : List RowV) (q : Int) (h1 : 1 ≤ q) (h2 : q ≤ 1048576) (w : World) (h : rowSAt w lo hi v (markV q vals)) :
    Calls Try.prog 30 #[v, .int .i64 q] w fun e w' => e = .returned (.int .i64 (q + (rowLen vals : Nat))) ∧ Below w.heap.size w w' := by
  obtain ⟨hl, g, m, c, hs, S, rfl, hv, hf, _, _, _⟩ := h
  have hlen := rowLen_markV vals q
  have HSM := Lib.hid hl.2
  have hl := hl.1
  rw [hlen] at hl
  have HL := Lib.hid (lies_of_own hf.own)
  have HV := Lib.hid hv
  have HF := Lib.hid hf
  have hm : vals.length = m := by rw [← hf.len, ← markV_len vals q, ← hv, List.length_map]
  have HM := Lib.hid hm
  have hmm := rowLen_len vals
  clear hf hv hm
  have hm : m ≤ 2097152 := by have := HM.out; omega
  clear hlen
  go_enter Try.func30, Try.ntmps30
  go_wp2
  go_loopw [1, 5] (fun p i wr => ∃ k : Nat, k ≤ m ∧ i = .int .i64 k ∧ p = .int .i64 (q + (rowLen (vals.take k) : Nat)) ∧ Below w.heap.size w wr) (fun _ i _ => m - (intOf i).toNat)
  case atStart => exact ⟨0, Nat.zero_le _, rfl, by simp [rowLen], Below.refl _ _⟩
  case round =>
    obtain ⟨k, hk, rfl, rfl, hB⟩ := hrel
    by_cases hlt : k < m
    · obtain ⟨y, hyk⟩ := get_lt HM.out hlt
      have hgk := markV_get vals q k hyk
      obtain ⟨x, hxk⟩ := get_lt HF.out.len hlt
      have hxv : rowVal x = (mtext (q + (rowLen (vals.take k) : Nat)), ints (q + (rowLen (vals.take k) : Nat) + 1) y.2.length) := by
        rw [← HV.out, List.getElem?_map, hxk] at hgk
        simpa using hgk
      have hsk : rowLen (vals.take (k + 1)) = rowLen (vals.take k) + (y.2.length + 1) := by
        rw [take_succ_of hyk, rowLen_app]; simp [rowLen]
      have hle : rowLen (vals.take (k + 1)) ≤ rowLen vals := by
        have h := rowLen_app (vals.drop (k + 1)) (vals.take (k + 1))
        rw [List.take_append_drop] at h; omega
      obtain ⟨b, o, hbo, hbl, hc⟩ := (HL.out.below hB).row (fun _ => rfl) (by omega)
      obtain rfl : g = b := by cases hbo; rfl
      obtain rfl : 0 = o := by cases hbo; rfl
      obtain ⟨bx, hbx, hbS, hzl, hzo⟩ := HF.out.heads x (List.mem_of_getElem? hxk)
      obtain ⟨ky, A, nx, cx, zs⟩ := x
      simp only at hbx hzl hzo
      subst hbx
      obtain ⟨R, hR⟩ : ∃ R, rowLen (vals.take k) = R := ⟨_, rfl⟩
      rw [hR] at hxv hsk hgk
      rw [hR]
      unfold rowVal at hxv
      simp only [Prod.mk.injEq] at hxv
      obtain ⟨rfl, rfl⟩ := hxv
      have hyn : y.2.length = nx := by rw [← hzl, ints_len]
      rw [hyn] at hsk hzo
      rw [ints_marks] at hzo
      have d0 : wr.cell? ⟨g, k * 2, none⟩ = some (.string (mtext (q + (R : Int)))) := by simpa using hc k _ hxk 0 _ rfl
      have d1 : wr.cell? ⟨g, k * 2 + 1, none⟩ = some (.slice (some ⟨bx, 0, none⟩) nx cx) := by simpa using hc k _ hxk 1 _ rfl
      have HZ := Lib.hid (owns_below hzo hB)
      have HSK := Lib.hid hsk
      have hnx : nx ≤ 1048576 := by
        have h := HSM.out _ (List.mem_of_getElem? hgk)
        rw [ints_len, hyn] at h; exact h
      have hq2 : q + (R : Int) + 1 + (nx : Int) ≤ 4194304 := by omega
      clear hc hxk hgk hzo hsk hyk hyn hzl hR hbo
      have A0 := After.cell d0
      go_wp2_with fail
      refine wp_region_after (by kernel_rfl) (by kernel_rfl) ?_
      repeat (go_big_quiet_step (((go_at_call 50; exact after_call (markText_any _ (by omega) (by omega) _)))))
      refine wpQuiet_nil ?_
      intro wn hw'
      have hwn := after_below hw'
      clear hw'
      have d0 := box_cell hwn d0
      have d1 := box_cell hwn d1
      have hB := below_step hwn hB
      have HZ2 := Lib.hid (owns_below HZ.out hwn)
      clear A0 HZ
      go_wp2_with fail
      refine (heldIntS_own 0 bx nx cx (q + (R : Int) + 1) (by omega) (by omega) hnx _ HZ2.out).mono ?_
      rintro e2 w2 ⟨rfl, hb2⟩
      have hB2 := below_step hb2 hB
      go_wp2
      go_roundw
      case rel => exact ⟨k + 1, by omega, by go_num, by rw [HSK.out]; go_num, hB2⟩
      case measure => simp [intOf]; omega
    · obtain rfl : k = m := by omega
      have e1 : vals.take k = vals := List.take_of_length_le (by have := HM.out; omega)
      rw [e1]
      go_wp2
      go_ret
      exact ⟨rfl, hB⟩
end Go.Proofs.Ytkianldpmlbgcaa
