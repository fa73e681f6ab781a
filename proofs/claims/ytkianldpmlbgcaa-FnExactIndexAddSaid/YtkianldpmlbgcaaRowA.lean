/-
  Rows as a law's argument: what is counted of them, and their copies, in blocks of their own. No condition.
-/
import Derived.Test.YtkianldpmlbgcaaKRow
import Derived.Test.YtkianldpmlbgcaaIdxV
namespace Go.Proofs.Ytkianldpmlbgcaa
open Go.ChangeShapes Go.WideShapes Go.ChangeAt Go.RowKit

/-- An argument's rows: their block, and those of their numbers, below B. -/
structure ArgR (w : World) (B : Nat) (A : Option Addr) (n : Nat) (xs : List RowX) : Prop where
  lies : ArgAt w B A 2 n (xs.flatMap rowCells)
  rows : ∀ x ∈ xs, StrOk x.key ∧ x.n ≤ x.c ∧ x.c ≤ maxLen ∧ x.zs.length = x.n ∧ ArgAt w B x.A 1 x.n (x.zs.flatMap intCells) ∧ (∀ z ∈ x.zs, IntOk z)
theorem ArgR.ok {w : World} {B n : Nat} {A : Option Addr} {xs : List RowX} (h : ArgR w B A n xs) : ∀ x ∈ xs, RowOk w x := fun x hx => by
  obtain ⟨h1, h2, h3, h4, h5, h6⟩ := h.rows x hx
  exact ⟨h1, h2, h3, h4, by rw [int_map]; exact h5.1, h6⟩
theorem ArgR.mk' {w : World} {n : Nat} {A : Option Addr} {xs : List RowX} (hL : Lies w 2 A n (xs.flatMap rowCells)) (hok : ∀ x ∈ xs, RowOk w x) : ArgR w w.heap.size A n xs :=
  ⟨ArgAt.mk' hL, fun x hx => by
    have h := hok x hx
    exact ⟨h.key, h.cap, h.most, h.len, ArgAt.mk' (by rw [← int_map]; exact h.lies), h.ints⟩⟩
theorem ArgR.keep {w w' : World} {B n lo hi : Nat} {A : Option Addr} {xs : List RowX} (h : ArgR w B A n xs) (k : Within w w' lo hi) (d : B ≤ lo ∨ hi ≤ 0) : ArgR w' B A n xs :=
  ⟨h.lies.keep k d, fun x hx => by
    obtain ⟨h1, h2, h3, h4, h5, h6⟩ := h.rows x hx
    exact ⟨h1, h2, h3, h4, h5.keep k d, h6⟩⟩
theorem ArgR.keepB {w w' : World} {B n : Nat} {A : Option Addr} {xs : List RowX} (h : ArgR w B A n xs) (k : Below w.heap.size w w') : ArgR w' B A n xs := h.keep (Within.of_below k 0 0) (.inr (Nat.zero_le _))
/-- Rows that a law lets pass. -/
structure FitR (xs : List RowX) : Prop where
  len : xs.length ≤ 1048576
  sum : rowLen (xs.map rowVal) ≤ 1048576
  rows : ∀ x ∈ xs, RowFit x

set_option maxHeartbeats 1600000 in
theorem szRow2_any (x : RowX) (left : Int) (h0 : 0 ≤ left) (h1 : left ≤ 1048576) (w : World) (hx : RowOk w x) :
    Calls Try.prog 31 #[.agg #[.string x.key, .slice x.A x.n x.c], .int .i64 left] w fun e w' => (∃ r : Int, e = .returned (.int .i64 r) ∧ (r = -1 ∨ (0 ≤ r ∧ r + x.n ≤ left ∧ RowFit x))) ∧ Below w.heap.size w w' := by
  obtain ⟨k, A, n, c, zs⟩ := x
  have hs : k.size ≤ maxLen := hx.key
  have hn : n ≤ maxLen := Nat.le_trans hx.cap hx.most
  clear hx
  unfold maxLen at hs
  by_cases c0 : left < k.size
  · go_enter Try.func31, Try.ntmps31
    go_wp2
    go_ret
    exact ⟨⟨-1, rfl, .inl rfl⟩, (by repeat' (first | (with_reducible exact Below.refl _ _) | (with_reducible assumption) | (with_reducible refine below_step (by assumption) ?_) | (with_reducible refine below_alloc ?_ _) | (with_reducible refine Below.drew ?_) | (with_reducible refine below_drewN ?_ _) | (with_reducible refine Below.setCell ?_ ?_ _) | go_size))⟩
  · by_cases c1 : left - k.size < n
    · have e := Lib.hid (show szN (left - k.size) n = -1 by unfold szN; rw [if_pos c1])
      go_enter Try.func31, Try.ntmps31
      go_wp2_with (go_at_call 37; refine (szIntS_any A n c hn (left - k.size) (by omega) (by omega) _).mono ?_; rintro e1 w1 ⟨rfl, rfl⟩; rw [e.out])
      go_ret
      exact ⟨⟨-1, rfl, .inl rfl⟩, (by repeat' (first | (with_reducible exact Below.refl _ _) | (with_reducible assumption) | (with_reducible refine below_step (by assumption) ?_) | (with_reducible refine below_alloc ?_ _) | (with_reducible refine Below.drew ?_) | (with_reducible refine below_drewN ?_ _) | (with_reducible refine Below.setCell ?_ ?_ _) | go_size))⟩
    · have e := Lib.hid (show szN (left - k.size) n = left - k.size - n by unfold szN; rw [if_neg c1])
      go_enter Try.func31, Try.ntmps31
      go_wp2_with (go_at_call 37; refine (szIntS_any A n c hn (left - k.size) (by omega) (by omega) _).mono ?_; rintro e1 w1 ⟨rfl, rfl⟩; rw [e.out])
      go_ret
      exact ⟨⟨left - k.size - n, rfl, .inr ⟨by omega, by show left - k.size - n + (n : Int) ≤ left; omega, by show k.size ≤ 1048576; omega, by show n ≤ 1048576; omega⟩⟩, (by repeat' (first | (with_reducible exact Below.refl _ _) | (with_reducible assumption) | (with_reducible refine below_step (by assumption) ?_) | (with_reducible refine below_alloc ?_ _) | (with_reducible refine Below.drew ?_) | (with_reducible refine below_drewN ?_ _) | (with_reducible refine Below.setCell ?_ ?_ _) | go_size))⟩

set_option maxHeartbeats 1600000 in
theorem szRowS_arg (B : Nat) (A : Option Addr) (n c : Nat) (hn : n ≤ maxLen) (xs : List RowX) (hx : xs.length = n) (left : Int) (h0 : 0 ≤ left) (h1 : left ≤ 1048576) (w : World) (hA : ArgR w B A n xs) :
    Calls Try.prog 8 #[.slice A n c, .int .i64 left] w fun e w' => (∃ r : Int, e = .returned (.int .i64 r) ∧ (r = -1 ∨ (0 ≤ r ∧ FitR xs))) ∧ Below w.heap.size w w' := by
  unfold maxLen at hn
  by_cases c : left < n
  · go_enter Try.func8, Try.ntmps8
    go_wp2
    go_ret
    exact ⟨⟨-1, rfl, .inl rfl⟩, Below.refl _ _⟩
  · have HX := Lib.hid hx
    have HK := Lib.hid hA.ok
    have hL := hA.lies.1
    clear hx hA
    go_enter Try.func8, Try.ntmps8
    go_wp2
    go_loopw [1, 5] (fun l i wr => ∃ (k : Nat) (r : Int), k ≤ n ∧ i = .int .i64 k ∧ l = .int .i64 r ∧ 0 ≤ r ∧ (rowLen ((xs.take k).map rowVal) : Int) + r + n ≤ 1048576 + k ∧ Hid (∀ x ∈ xs.take k, RowFit x) ∧ Below w.heap.size w wr) (fun _ i _ => n - (intOf i).toNat)
    case atStart => exact ⟨0, left - n, Nat.zero_le _, rfl, rfl, by omega, by simp [rowLen]; omega, Lib.hid (by simp), Below.refl _ _⟩
    case round =>
      obtain ⟨k, r, hk, rfl, rfl, hl0, hl1, hT, hB⟩ := hrel
      by_cases hlt : k < n
      · obtain ⟨b, o, rfl, hb, hc⟩ := (hL.below hB).row (fun _ => rfl) (by omega)
        obtain ⟨x, hxk⟩ := get_lt HX.out hlt
        have c0 : wr.cell? ⟨b, o + k * 2, none⟩ = some (.string x.key) := hc k _ hxk 0 _ rfl
        have c1 : wr.cell? ⟨b, o + k * 2 + 1, none⟩ = some (.slice x.A x.n x.c) := hc k _ hxk 1 _ rfl
        have OK := Lib.hid ((HK.out _ (List.mem_of_getElem? hxk)).below hB)
        have HXK := Lib.hid hxk
        have hrl := rowVal_len hxk
        rw [OK.out.len] at hrl
        have HRL := Lib.hid hrl
        clear hxk hc hrl
        go_wp2_with fail
        refine (szRow2_any x r hl0 (by omega) _ OK.out).mono ?_
        rintro e1 w1 ⟨⟨r', rfl, hr⟩, hb1⟩
        rcases hr with rfl | ⟨q0, q1, q2⟩
        · go_wp2
          go_ret
          exact ⟨⟨-1, rfl, .inl rfl⟩, (by repeat' (first | (with_reducible exact Below.refl _ _) | (with_reducible assumption) | (with_reducible refine below_step (by assumption) ?_) | (with_reducible refine below_alloc ?_ _) | (with_reducible refine Below.drew ?_) | (with_reducible refine below_drewN ?_ _) | (with_reducible refine Below.setCell ?_ ?_ _) | go_size))⟩
        · have HF := Lib.hid (show ∀ y ∈ xs.take (k + 1), RowFit y by
            rw [take_succ_of HXK.out]
            intro y hy
            rcases List.mem_append.1 hy with h | h
            · exact hT.out y h
            · obtain rfl := List.mem_singleton.1 h
              exact q2)
          have q3 : (rowLen ((xs.take (k + 1)).map rowVal) : Int) + r' + n ≤ 1048576 + ((k + 1 : Nat) : Int) := by have := HRL.out; omega
          clear q2
          go_wp2
          go_roundw
          case rel => exact ⟨k + 1, r', by omega, by go_num, rfl, q0, q3, HF, (by repeat' (first | (with_reducible exact Below.refl _ _) | (with_reducible assumption) | (with_reducible refine below_step (by assumption) ?_) | (with_reducible refine below_alloc ?_ _) | (with_reducible refine Below.drew ?_) | (with_reducible refine below_drewN ?_ _) | (with_reducible refine Below.setCell ?_ ?_ _) | go_size))⟩
          case measure => simp [intOf]; omega
      · obtain rfl : k = n := by omega
        have HF := Lib.hid (show FitR xs by
          have h := hT.out
          have e : xs.take k = xs := List.take_of_length_le (by have := HX.out; omega)
          rw [e] at h hl1
          exact ⟨by have := HX.out; omega, by omega, h⟩)
        go_wp2
        go_ret
        exact ⟨⟨r, rfl, .inr ⟨hl0, HF.out⟩⟩, (by repeat' (first | (with_reducible exact Below.refl _ _) | (with_reducible assumption) | (with_reducible refine below_step (by assumption) ?_) | (with_reducible refine below_alloc ?_ _) | (with_reducible refine Below.drew ?_) | (with_reducible refine below_drewN ?_ _) | (with_reducible refine Below.setCell ?_ ?_ _) | go_size))⟩

/-- Copies so far: the numbers of each in a block of its own, behind the list's block G. -/
structure Cop (w : World) (G : Nat) (ys : List RowX) (S : List Nat) : Prop where
  heads : ∀ y ∈ ys, HeadIn w S y
  nodup : (ys.map (·.A)).Nodup
  far : ∀ b ∈ S, G < b ∧ b < w.heap.size
theorem Cop.keep {w w' : World} {G : Nat} {ys : List RowX} {S : List Nat} (h : Cop w G ys S) (hz : w.heap.size ≤ w'.heap.size) (hk : ∀ b, b < w.heap.size → b ≠ G → w'.heap[b]? = w.heap[b]?) : Cop w' G ys S :=
  ⟨fun y hy => (h.heads y hy).keep (fun _ hb => hb) (fun b hb => hk b (h.far b hb).2 (by have := (h.far b hb).1; omega)), h.nodup, fun b hb => ⟨(h.far b hb).1, Nat.lt_of_lt_of_le (h.far b hb).2 hz⟩⟩
theorem Cop.push {w : World} {G g n c : Nat} {ys : List RowX} {S : List Nat} (h : Cop w G ys S) (key : ByteArray) (zs : List Int) (hl : zs.length = n) (ho : w.ownsRow 0 3 1 (.slice (some ⟨g, 0, none⟩) n c) n (zs.flatMap intCells)) (hG : G < g) (hS : g ∉ S) : Cop w G (ys ++ [⟨key, some ⟨g, 0, none⟩, n, c, zs⟩]) (g :: S) := by
  refine ⟨?_, ?_, ?_⟩
  · intro y hy
    rcases List.mem_append.1 hy with hy | hy
    · exact (h.heads y hy).keep (fun b hb => by simp [hb]) (fun _ _ => rfl)
    · obtain rfl := List.mem_singleton.1 hy
      exact ⟨g, rfl, by simp, hl, ho⟩
  · rw [List.map_append, List.nodup_append]
    refine ⟨h.nodup, by simp, ?_⟩
    intro a ha b hb e
    simp at hb
    obtain ⟨y, hy, rfl⟩ := List.mem_map.1 ha
    obtain ⟨gx, h1, h2, _⟩ := h.heads y hy
    rw [h1, hb] at e
    injection e with e
    injection e with e
    exact hS (e ▸ h2)
  · intro b hb
    rcases List.mem_cons.1 hb with rfl | hb
    · exact ⟨hG, (owns_lt ho).2⟩
    · exact h.far b hb

set_option maxHeartbeats 3200000 in
theorem toRowS_at (B : Nat) (A : Option Addr) (n c : Nat) (xs : List RowX) (hx : xs.length = n) (hf : FitR xs) (w : World) (hA : ArgR w B A n xs) :
    Calls Try.prog 10 #[.slice A n c] w fun e w' => ∃ v, e = .returned v ∧ rowSAt w' w.heap.size w'.heap.size v (xs.map rowVal) ∧ Below w.heap.size w w' := by
  have hn : n ≤ 1048576 := by have := hf.len; omega
  obtain ⟨i0, hi, hz0, hz1, hz2⟩ := info_parts infoRow
  have hmk := fun W => run_make_rowN (P := Try.prog) 25 55 i0 _ Try.underlying25 hi hz0 .i64 .i64 n n (Nat.le_refl _) (by rw [hz2]; omega) (by omega) W
  rw [hz1] at hmk
  clear hi hz0 hz1 hz2
  have HX := Lib.hid hx
  have HK := Lib.hid hA.ok
  have hL := hA.lies.1
  have HFT := Lib.hid hf
  clear hx hA hf
  go_enter Try.func10, Try.ntmps10
  go_wp2
  go_loopw [4] (fun i wr => ∃ (k : Nat) (ys : List RowX) (S : List Nat), k ≤ n ∧ i = .int .i64 k ∧ Filled wr w.heap.size 55 2 w.heap.size n (ys.flatMap rowCells) k ∧ Hid (ys.map rowVal = (xs.take k).map rowVal) ∧ Hid (Cop wr w.heap.size ys S) ∧ Below w.heap.size w wr) (fun i _ => n - (intOf i).toNat)
  case atStart => exact ⟨0, [], [], Nat.zero_le _, rfl, Filled.start _ n (Nat.le_refl _) (by unfold maxLen; omega) (by simp [size_madeCells]), Lib.hid rfl, Lib.hid ⟨by simp, by simp, by simp⟩, below_alloc (Below.refl _ _) _⟩
  case round =>
    obtain ⟨k, ys, S, hk, rfl, hF, hV, hN, hB⟩ := hrel
    by_cases hlt : k < n
    · obtain ⟨b, o, rfl, hb, hc⟩ := (hL.below hB).row (fun _ => rfl) (by omega)
      obtain ⟨x, hxk⟩ := get_lt HX.out hlt
      have c0 : wr.cell? ⟨b, o + k * 2, none⟩ = some (.string x.key) := hc k _ hxk 0 _ rfl
      have c1 : wr.cell? ⟨b, o + k * 2 + 1, none⟩ = some (.slice x.A x.n x.c) := hc k _ hxk 1 _ rfl
      have OK := Lib.hid ((HK.out _ (List.mem_of_getElem? hxk)).below hB)
      have FT := Lib.hid (HFT.out.rows _ (List.mem_of_getElem? hxk))
      have HXK := Lib.hid hxk
      clear hxk hc
      have hsz : w.heap.size < wr.heap.size := by
        obtain ⟨u9, d9⟩ := hF.cell (k * 2) (by omega)
        exact World.block_lt_of_cell? _ _ d9
      go_wp2_with fail
      refine (toRow_any x.key x.A x.n x.c x.zs FT.out.2 OK.out.len _ (by rw [← int_map]; exact OK.out.lies)).mono ?_
      rintro e1 w1 ⟨g, rfl, o1, hb1⟩
      have hg := (o1.lt g (by simp [Value.ownBlock])).1
      have N1 := Lib.hid ((hN.out.keep hb1.size (fun b hb _ => hb1.block b hb)).push x.key x.zs OK.out.len (ownsRow_base o1 (Nat.zero_le _)) (by omega) (fun h => by have := (hN.out.far _ h).2; omega))
      clear o1
      have F1 := hF.step hb1
      obtain ⟨u0, d0⟩ := F1.cell (k * 2) (by omega)
      have f0 := F1.frozen (k * 2)
      obtain ⟨u1, d1⟩ := F1.cell (k * 2 + 1) (by omega)
      have f1 := F1.frozen (k * 2 + 1)
      have HV := Lib.hid (show (ys ++ [RowX.mk x.key (some ⟨g, 0, none⟩) x.n x.n x.zs]).map rowVal = (xs.take (k + 1)).map rowVal by
        rw [take_succ_of HXK.out, List.map_append, List.map_append, hV.out]; rfl)
      clear hg
      go_wp2
      go_roundw
      case rel => exact ⟨k + 1, ys ++ [RowX.mk x.key (some ⟨g, 0, none⟩) x.n x.n x.zs], g :: S, by omega, by go_num, by rw [List.flatMap_append]; exact F1.stored [.string x.key, .slice (some ⟨g, 0, none⟩) x.n x.n] rfl hlt, HV, Lib.hid (N1.out.keep (by simp [World.setCell]) (fun b _ hne => (heap_setCell_other _ ⟨w.heap.size, k * 2 + 1, none⟩ b _ hne).trans (heap_setCell_other _ ⟨w.heap.size, k * 2, none⟩ b _ hne))), setAll_below [.string x.key, .slice (some ⟨g, 0, none⟩) x.n x.n] _ (k * 2) (Nat.le_refl _) (below_step hb1 hB)⟩
      case measure => simp [intOf]; omega
    · obtain rfl : k = n := by omega
      have HV := hV.out
      rw [List.take_of_length_le (by have := HX.out; omega)] at HV
      have HVV := Lib.hid HV
      have hym : ys.length = k := by
        have := congrArg List.length HV
        rw [List.length_map, List.length_map, HX.out] at this; exact this
      have HYM := Lib.hid hym
      clear HV hym
      go_wp2
      go_ret
      exact ⟨_, rfl, rowSAt.made (S := S) HVV.out (SmallR.of HFT.out.sum) ⟨HYM.out, hF.owns, hN.out.heads, hN.out.nodup, fun b hb => ⟨Nat.le_of_lt (hN.out.far b hb).1, by have := (hN.out.far b hb).1; omega, (hN.out.far b hb).2⟩⟩, hB⟩

/-- Texts and numbers that a law lets pass. -/
def OkV (vals : List RowV) : Prop := ∀ y ∈ vals, y.1.size ≤ 1048576 ∧ ∀ z ∈ y.2, IntOk z
theorem OkV.of {w : World} {B n : Nat} {A : Option Addr} {xs : List RowX} (h : ArgR w B A n xs) (hf : FitR xs) : OkV (xs.map rowVal) := fun y hy => by
  obtain ⟨x, hx, rfl⟩ := List.mem_map.1 hy
  exact ⟨(hf.rows x hx).1, (h.rows x hx).2.2.2.2.2⟩
theorem owns_capR {w : World} {B : Nat} {e : TypeId} {size n m c g : Nat} {xs : List Value} (h : w.ownsRow B e size (.slice (some ⟨g, 0, none⟩) m c) n xs) : m ≤ c ∧ c ≤ maxLen := by
  rcases h.2 with ⟨q, _⟩ | ⟨g', cap, cur, hv, q1, q2, q3, q4, _⟩
  · cases q
  · simp only [Value.slice.injEq] at hv
    obtain ⟨_, rfl, rfl⟩ := hv
    exact ⟨q3, q4⟩
theorem RowsAt.open {w : World} {lo hi : Nat} {v : Value} {vals : List RowV} (h : rowSAt w lo hi v vals) (hv : OkV vals) : ∃ (g m c : Nat) (hs : List RowX), v = .slice (some ⟨g, 0, none⟩) m c ∧ hs.map rowVal = vals ∧ hs.length = m ∧ (∀ x ∈ hs, RowOk w x ∧ RowFit x) ∧ Lies w 2 (some ⟨g, 0, none⟩) m (hs.flatMap rowCells) ∧ (∀ x ∈ hs, (∃ b, x.A = some ⟨b, 0, none⟩) ∧ x.n ≤ 1048576 ∧ x.zs.length = x.n ∧ Lies w 1 x.A x.n (x.zs.flatMap intCells)) ∧ m ≤ c := by
  obtain ⟨h0, g, m, c, hs, S, rfl, he, hf, _, _, _⟩ := h
  subst he
  refine ⟨g, m, c, hs, rfl, rfl, hf.len, ?_, lies_of_own hf.own, hf.rows h0.2, (owns_capR hf.own).1⟩
  intro x hx
  obtain ⟨b, h1, _, h3, h4⟩ := hf.heads x hx
  have hc := owns_capR h4
  have hy := hv (rowVal x) (List.mem_map_of_mem hx)
  have hz := h0.2 (rowVal x) (List.mem_map_of_mem hx)
  have hl := lies_of_own h4
  rw [← int_map, ← h1] at hl
  have h5 : x.key.size ≤ 1048576 := hy.1
  have h6 : x.zs.length ≤ 1048576 := hz
  exact ⟨⟨by show x.key.size ≤ maxLen; unfold maxLen; omega, hc.1, hc.2, h3, hl, hy.2⟩, h5, by omega⟩
end Go.Proofs.Ytkianldpmlbgcaa
