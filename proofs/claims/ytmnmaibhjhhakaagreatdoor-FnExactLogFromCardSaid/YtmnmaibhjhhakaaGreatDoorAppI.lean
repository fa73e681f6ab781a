/-
  StoreAppend of the program. No condition beyond what the rows list.
-/
import Derived.Test.YtmnmaibhjhhakaaGreatDoorAppS
namespace Go.Proofs.YtmnmaibhjhhakaaGreatDoor
open Go.ChangeShapes Go.WideShapes Go.ChangeAt Go.RowKit
set_option maxHeartbeats 6400000 in
theorem with_any (gA oA n c : Nat) (xs : List EnT) (s : ByteArray) (B : Option Addr) (m d : Nat) (ys : List EvT) (hn : n ≤ 1048576) (hx : xs.length = n) (hm : m ≤ 24) (hy : ys.length = m) (w : World) (hL : Lies w 4 (some ⟨gA, oA, none⟩) n (xs.flatMap entryCells)) (hM : Lies w 3 B m (ys.flatMap eventCells)) :
    Calls Tryz.prog 15 #[.slice (some ⟨gA, oA, none⟩) n c, .string s, .slice B m d] w fun e w' => ∃ g k cap, e = .returned (.slice (some ⟨g, 0, none⟩) k cap) ∧ (appE xs s ys).length = k ∧ w'.ownsRow w.heap.size 32 4 (.slice (some ⟨g, 0, none⟩) k cap) k ((appE xs s ys).flatMap entryCells) ∧ Below w.heap.size w w' := by
  obtain ⟨i0, hi, hz0, hz1, hz2⟩ := info_parts infoEntry
  have hmk0 := fun W => run_make_rowN (P := Tryz.prog) 22 32 i0 _ Tryz.underlying22 hi hz0 .i64 .i64 0 (n + m) (by omega) (by rw [hz2]; omega) (by omega) W
  rw [hz1] at hmk0
  have e1 : ((n + m : Nat) : Int) = (n : Int) + (m : Int) := by omega
  rw [e1] at hmk0
  have hmk : ∀ W, (Instr.makeSlice 22 (.int .i64 0) (.int .i64 ((n : Int) + (m : Int)))).run Tryz.prog W = .ok (.slice (some ⟨W.heap.size, 0, none⟩) 0 (n + m)) (W.alloc (.cells (madeCells (Value.agg #[.string ByteArray.empty, .int .i64 0, .string ByteArray.empty, .int .i64 0]).cells ((n + m) * 4)) 32)) := fun W => hmk0 W
  have wq : IntKind.i64.wrap ((n : Int) + (m : Int)) = (n : Int) + (m : Int) := IntWalk.i64_in _ ⟨by omega, by omega⟩
  have HX := Lib.hid hx
  have HY := Lib.hid hy
  have HL := Lib.hid hL
  have HM := Lib.hid hM
  clear hx hy hL hM hmk0 hi hz0 hz1 hz2 e1
  go_enter Tryz.func15, Tryz.ntmps15
  go_wp2_with (at_builtin; refine wpList_appS rfl _ _ 22 32 4 48 rowEntry rfl w.heap.size w.heap.size 0 (n + m) [] (owns_made _ _ rfl (Nat.le_refl _) (by unfold maxLen; omega) (by simp [size_madeCells])) rfl gA oA n c _ rfl (HL.out.below (below_alloc (Below.refl _ _) _)) (entry_one xs) (by unfold maxLen; omega) (by omega) (by simp) ?_; intro g1 c1 w1 ho1 hg1; have HO1 := Lib.hid ho1; have hB1 : Below w.heap.size w w1 := below_grown (below_alloc (Below.refl _ _) _) hg1 (Nat.le_refl _) (by simp); clear ho1 hg1)
  simp only [Nat.zero_add, List.nil_append] at HO1
  go_loopw [7, 21] (fun l i wr => ∃ (k g m' cp : Nat), k ≤ m ∧ i = .int .i64 k ∧ l = .slice (some ⟨g, 0, none⟩) m' cp ∧ Hid ((appE xs s (ys.take k)).length = m') ∧ wr.ownsRow w.heap.size 32 4 (.slice (some ⟨g, 0, none⟩) m' cp) m' ((appE xs s (ys.take k)).flatMap entryCells) ∧ Below w.heap.size w wr) (fun _ i _ => m - (intOf i).toNat)
  case atStart => exact ⟨0, g1, n, c1, Nat.zero_le _, rfl, by simp, Lib.hid (by rw [List.take_zero, appE_nil]; exact HX.out), by rw [List.take_zero, appE_nil]; exact HO1.out, hB1⟩
  case round =>
    obtain ⟨k, g, m', cp, hk, rfl, rfl, hlen, ho, hB⟩ := hrel
    have HO := Lib.hid ho
    have hz := hB.size
    have hgl := (owns_lt ho).1
    have hm9 : m' ≤ 1048600 := by have := hlen.out; rw [appE_length, List.length_take] at this; have := HX.out; omega
    clear ho
    by_cases hlt : k < m
    · obtain ⟨b, o, rfl, hb, hc⟩ := (HM.out.below hB).row (fun _ => rfl) (by omega)
      obtain ⟨⟨y0, y1, y2⟩, hyk⟩ := get_lt HY.out hlt
      have c0 : wr.cell? ⟨b, o + k * 3, none⟩ = some (.int .i64 y0) := hc k _ hyk 0 _ rfl
      have c1 : wr.cell? ⟨b, o + k * 3 + 1, none⟩ = some (.string y1) := hc k _ hyk 1 _ rfl
      have c2 : wr.cell? ⟨b, o + k * 3 + 2, none⟩ = some (.int .i64 y2) := hc k _ hyk 2 _ rfl
      have HSU := Lib.hid (appE_succ (xs := xs) (s := s) hyk)
      clear hyk hc
      have HOb := Lib.hid (World.ownsRow.alloc HO.out (.cells #[.int .i64 y0, .string y1, .int .i64 y2] 30))
      have hBb : Below w.heap.size w (wr.alloc (.cells #[.int .i64 y0, .string y1, .int .i64 y2] 30)) := below_alloc hB _
      have hzb := hBb.size
      go_wp2_with (at_builtin; refine wpList_app1n rfl _ _ 22 32 4 48 rowEntry rfl w.heap.size g m' cp _ HOb.out rfl (wr.heap.size + 1) rfl (by simp) rfl rfl (by unfold maxLen; omega) (by omega) hzb ?_; intro g4 c4 w4 ho4 hg4 hz4; have HO4 := Lib.hid ho4; have HB4 := Lib.hid (below_grown hBb hg4 hgl hzb); clear ho4 hg4)
      go_roundw
      case rel => exact ⟨k + 1, g4, m' + 1, c4, by omega, by go_num, rfl, Lib.hid (by rw [HSU.out, List.length_append, hlen.out]; rfl), by rw [HSU.out, List.flatMap_append]; exact HO4.out, HB4.out⟩
      case measure => simp [intOf]; omega
    · have HT := Lib.hid (show ys.take k = ys from List.take_of_length_le (by have := HY.out; omega))
      go_wp2
      go_ret
      exact ⟨g, m', cp, rfl, by rw [← HT.out]; exact hlen.out, by rw [← HT.out]; exact HO.out, hB⟩

end Go.Proofs.YtmnmaibhjhhakaaGreatDoor
