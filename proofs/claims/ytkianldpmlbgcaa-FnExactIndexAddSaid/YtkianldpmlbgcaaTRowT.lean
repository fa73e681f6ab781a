/-
  Row: the laws' copy of a slice of rows: the copies' numbers lie in blocks of their own. For every readable one. No condition.
-/
import Derived.Test.YtkianldpmlbgcaaTRowS
namespace Go.Proofs.Ytkianldpmlbgcaa
open Go.ChangeShapes Go.WideShapes Go.ChangeAt Go.RowKit

theorem infoRow : (Try.prog.info? 55).map (fun i => (i.zero, i.size, i.bytes)) = some (some (.agg #[.string ByteArray.empty, .slice none 0 0]), 2, 40) := by kernel_rfl
/-- The same text and the same numbers. -/
def rowVal (x : RowX) : ByteArray × List Int := (x.key, x.zs)
/-- A copied row: its numbers lie in a block behind B. -/
structure RowNew (w : World) (B : Nat) (y : RowX) : Prop where
  ok : RowOk w y
  far : ∃ g, B < g ∧ y.A = some ⟨g, 0, none⟩
theorem RowNew.below {w w' : World} {B : Nat} {y : RowX} (h : RowNew w B y) (hb : Below w.heap.size w w') : RowNew w' B y := ⟨h.ok.below hb, h.far⟩
theorem RowNew.set {w : World} {B o : Nat} {y : RowX} (h : RowNew w B y) (u : Value) : RowNew (w.setCell ⟨B, o, none⟩ u) B y :=
  ⟨⟨h.ok.key, h.ok.cap, h.ok.most, h.ok.len, h.ok.lies.setOther (fun _ b o' e => by
    obtain ⟨g, hg, e2⟩ := h.far
    rw [e2] at e
    have e3 : g = b := by cases e; rfl
    show b ≠ B
    omega) u, h.ok.ints⟩, h.far⟩

set_option maxHeartbeats 3200000 in
theorem toRowS_any (A : Option Addr) (n c : Nat) (xs : List RowX) (hn : n ≤ 1048576) (hx : xs.length = n) (w : World) (hok : ∀ x ∈ xs, RowOk w x ∧ RowFit x) (hL : Lies w 2 A n (xs.flatMap rowCells)) :
    Calls Try.prog 10 #[.slice A n c] w fun e w' => ∃ (g : Nat) (ys : List RowX), e = .returned (.slice (some ⟨g, 0, none⟩) n n) ∧ w'.ownsRow w.heap.size 55 2 (.slice (some ⟨g, 0, none⟩) n n) n (ys.flatMap rowCells) ∧ ys.map rowVal = xs.map rowVal ∧ (∀ y ∈ ys, RowNew w' g y) ∧ Below w.heap.size w w' := by
  obtain ⟨i0, hi, hz0, hz1, hz2⟩ := info_parts infoRow
  have hmk := fun W => run_make_rowN (P := Try.prog) 25 55 i0 _ Try.underlying25 hi hz0 .i64 .i64 n n (Nat.le_refl _) (by rw [hz2]; omega) (by omega) W
  rw [hz1] at hmk
  clear hi hz0 hz1 hz2
  have HX := Lib.hid hx
  have HK := Lib.hid hok
  clear hx hok
  go_enter Try.func10, Try.ntmps10
  go_wp2
  go_loopw [4] (fun i wr => ∃ (k : Nat) (ys : List RowX), k ≤ n ∧ i = .int .i64 k ∧ Filled wr w.heap.size 55 2 w.heap.size n (ys.flatMap rowCells) k ∧ Hid (ys.map rowVal = (xs.take k).map rowVal) ∧ Hid (∀ y ∈ ys, RowNew wr w.heap.size y) ∧ Below w.heap.size w wr) (fun i _ => n - (intOf i).toNat)
  case atStart => exact ⟨0, [], Nat.zero_le _, rfl, Filled.start _ n (Nat.le_refl _) (by unfold maxLen; omega) (by simp [size_madeCells]), Lib.hid rfl, Lib.hid (by simp), below_alloc (Below.refl _ _) _⟩
  case round =>
    obtain ⟨k, ys, hk, rfl, hF, hV, hN, hB⟩ := hrel
    by_cases hlt : k < n
    · obtain ⟨b, o, rfl, hb, hc⟩ := (hL.below hB).row (fun _ => rfl) (by omega)
      obtain ⟨x, hxk⟩ := get_lt HX.out hlt
      have c0 : wr.cell? ⟨b, o + k * 2, none⟩ = some (.string x.key) := hc k _ hxk 0 _ rfl
      have c1 : wr.cell? ⟨b, o + k * 2 + 1, none⟩ = some (.slice x.A x.n x.c) := hc k _ hxk 1 _ rfl
      have OK := Lib.hid ((HK.out _ (List.mem_of_getElem? hxk)).1.below hB)
      have FT := Lib.hid (HK.out _ (List.mem_of_getElem? hxk)).2
      have HXK := Lib.hid hxk
      clear hxk hc
      have hsz : w.heap.size < wr.heap.size := by
        obtain ⟨u9, d9⟩ := hF.cell (k * 2) (by omega)
        exact World.block_lt_of_cell? _ _ d9
      go_wp2_with fail
      refine (toRow_any x.key x.A x.n x.c x.zs FT.out.2 OK.out.len _ (by rw [← int_map]; exact OK.out.lies)).mono ?_
      rintro e1 w1 ⟨g, rfl, o1, hb1⟩
      have hg := (o1.lt g (by simp [Value.ownBlock])).1
      have HO := Lib.hid o1
      clear o1
      have F1 := hF.step hb1
      obtain ⟨u0, d0⟩ := F1.cell (k * 2) (by omega)
      have f0 := F1.frozen (k * 2)
      obtain ⟨u1, d1⟩ := F1.cell (k * 2 + 1) (by omega)
      have f1 := F1.frozen (k * 2 + 1)
      have HN := Lib.hid (show ∀ y ∈ ys ++ [RowX.mk x.key (some ⟨g, 0, none⟩) x.n x.n x.zs], RowNew w1 w.heap.size y by
        intro y hy
        rcases List.mem_append.1 hy with h | h
        · exact (hN.out y h).below hb1
        · obtain rfl := List.mem_singleton.1 h
          have hl := lies_of_own HO.out
          rw [← int_map] at hl
          have hfit := FT.out.2
          exact ⟨⟨OK.out.key, Nat.le_refl _, by show x.n ≤ maxLen; unfold maxLen; omega, OK.out.len, hl, OK.out.ints⟩, ⟨g, by omega, rfl⟩⟩)
      have HV := Lib.hid (show (ys ++ [RowX.mk x.key (some ⟨g, 0, none⟩) x.n x.n x.zs]).map rowVal = (xs.take (k + 1)).map rowVal by
        rw [take_succ_of HXK.out, List.map_append, List.map_append, hV.out]; rfl)
      clear hg
      go_wp2
      go_roundw
      case rel => exact ⟨k + 1, ys ++ [RowX.mk x.key (some ⟨g, 0, none⟩) x.n x.n x.zs], by omega, by go_num, by rw [List.flatMap_append]; exact F1.stored [.string x.key, .slice (some ⟨g, 0, none⟩) x.n x.n] rfl hlt, HV, Lib.hid (fun y hy => ((HN.out y hy).set _).set _), setAll_below [.string x.key, .slice (some ⟨g, 0, none⟩) x.n x.n] _ (k * 2) (Nat.le_refl _) (below_step hb1 hB)⟩
      case measure => simp [intOf]; omega
    · obtain rfl : k = n := by omega
      have HV := hV.out
      rw [List.take_of_length_le (by have := HX.out; omega)] at HV
      have HVV := Lib.hid HV
      clear HV
      go_wp2
      go_ret
      exact ⟨_, ys, rfl, hF.owns, HVV.out, hN.out, hB⟩
end Go.Proofs.Ytkianldpmlbgcaa
