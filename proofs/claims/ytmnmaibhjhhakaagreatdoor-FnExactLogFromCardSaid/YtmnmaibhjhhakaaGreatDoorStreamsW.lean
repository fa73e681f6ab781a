/-
  streamsOf: the map from names to events that the program lays, for every slice of entries. No condition.
-/
import Derived.Test.YtmnmaibhjhhakaaGreatDoorStreams
import Derived.Test.YtmnmaibhjhhakaaGreatDoorPTail
import Derived.Test.YtmnmaibhjhhakaaGreatDoorKEvent
namespace Go.Proofs.YtmnmaibhjhhakaaGreatDoor
open Go.ChangeShapes Go.WideShapes Go.ChangeAt Go.RowKit Go.Maps

/-- append(v, x) in a region that draws, v nil or a row of the call's own. -/
theorem step_appV {P : Program} {ops : Array Oper} {o : Oper} {a : Act} {K : Act → World → Prop} {Q : Exit → Act → World → Prop} {E : Prop} (hgd : o.guard = none) (s x : Operand) (t e : TypeId) (size bytes : Nat) (R : RowTy P t e size bytes) (ho : o.op = .call { callee := .builtin .append, args := #[s, x], argTypes := #[t, t] })
    {wr : World} {us : Array Value} (B n : Nat) (v : Value) (xs : List Value) (hown : wr.ownsRow B e size v n xs)
    (hs : a.eval s = v) (hx : a.eval x = .slice (some ⟨wr.heap.size, 0, none⟩) 1 1)
    (hu : us.size = size) (h1 : us.toList.all Value.oneCell' = true) (hn : n + 1 ≤ maxLen) (hby : (n + 1) * bytes ≤ 140737488355328) (hB : B ≤ wr.heap.size)
    (h : ∀ g' c' w', w'.ownsRow B e size (.slice (some ⟨g', 0, none⟩) (n + 1) c') (n + 1) (xs ++ us.toList) → wr.grownBy w' v.ownBlock → (v.ownBlock = some g' ∨ wr.heap.size ≤ g') → K (a.put o.dst (.slice (some ⟨g', 0, none⟩) (n + 1) c')) w') :
    if Region.wanted o (yielded ops a.tmps) = true then Oper.wp P o a (wr.alloc (.cells us e)).drew K Q else E := by
  obtain ⟨ht, i, z, k1, k2, k3, k4, k5, k6⟩ := R
  have hb : (wr.alloc (.cells us e)).drew.heap[wr.heap.size]? = some (.cells us e (0, 0)) := by
    show (wr.alloc (.cells us e)).heap[wr.heap.size]? = _
    exact heap_alloc_new _ _
  refine step_append_lies _ hgd s x t ho B e i z size bytes ht k1 k2 k3 k4 k5 k6 v n xs hs (show (wr.alloc (.cells us e)).drew.ownsRow B e size v n xs from hown.alloc _) ⟨wr.heap.size, 0, none⟩ 1 1 us.toList hx (by simp [hu]) (World.news_of_block hb) (fun u hu' => List.all_eq_true.1 h1 u hu') (by omega) hn hby (by show B ≤ (wr.alloc (.cells us e)).heap.size; simp; omega) _ rfl ?_
  intro g' cap w' o1 g1 hat _
  have hsz : (wr.alloc (.cells us e)).drew.heap.size = wr.heap.size + 1 := by show (wr.alloc (.cells us e)).heap.size = _; simp
  refine h g' cap w' o1 ⟨g1.os, g1.tape, g1.output, ?_, fun k hk hne => (g1.block k (by omega) hne).trans (heap_alloc_old _ _ hk)⟩ ?_
  · have := g1.size; omega
  · rcases hat with hat | hat
    · exact .inl hat
    · exact .inr (by omega)

set_option maxHeartbeats 6400000 in
set_option maxRecDepth 8000 in
theorem streamsOf_any (A : Option Addr) (n c : Nat) (xs : List EnT) (hn : n ≤ 1048576) (hx : xs.length = n) (hok : ∀ x ∈ xs, x.1.size ≤ maxLen) (w : World) (hL : Lies w 4 A n (xs.flatMap entryCells)) :
    Calls Tryz.prog 31 #[.slice A n c] w fun e w' => ∃ b D V, e = .returned (.map (some b)) ∧ Streams w' b xs D V ∧ w.heap.size ≤ b ∧ Below w.heap.size w w' := by
  have HX := Lib.hid hx
  have HK := Lib.hid hok
  clear hx hok
  have hmm := @run_makeMap Tryz.prog
  go_enter Tryz.func31, Tryz.ntmps31
  go_wp2
  go_loopw [9] (fun i wr => ∃ (k : Nat) (D : DataW Unit) (V : ByteArray → Value), k ≤ n ∧ i = .int .i64 k ∧ Hid (Streams wr w.heap.size (xs.take k) D V) ∧ Below w.heap.size w wr) (fun i _ => n - (intOf i).toNat)
  case atStart => exact ⟨0, _, _, Nat.zero_le _, rfl, Lib.hid (Streams.made w), below_alloc (Below.refl _ _) _⟩
  case round =>
    obtain ⟨k, D, V, hk, rfl, hS, hB⟩ := hrel
    by_cases hlt : k < n
    · obtain ⟨b, o, rfl, hb, hc⟩ := (hL.below hB).row (fun _ => rfl) (by omega)
      obtain ⟨⟨x0, x1, x2, x3⟩, hxk⟩ := get_lt HX.out hlt
      have c0 : wr.cell? ⟨b, o + k * 4, none⟩ = some (.string x0) := hc k _ hxk 0 _ rfl
      have c1 : wr.cell? ⟨b, o + k * 4 + 1, none⟩ = some (.int .i64 x1) := hc k _ hxk 1 _ rfl
      have c2 : wr.cell? ⟨b, o + k * 4 + 2, none⟩ = some (.string x2) := hc k _ hxk 2 _ rfl
      have c3 : wr.cell? ⟨b, o + k * 4 + 3, none⟩ = some (.int .i64 x3) := hc k _ hxk 3 _ rfl
      have HSZ : x0.size ≤ maxLen := HK.out _ (List.mem_of_getElem? hxk)
      have HXK := Lib.hid hxk
      clear hxk hc
      obtain ⟨wb, hwb⟩ : ∃ wb, wb = wr.alloc (.cells #[.string x0, .int .i64 x1, .string x2, .int .i64 x3] 32) := ⟨_, rfl⟩
      have HWB := Lib.hid hwb
      have BOB : Below wr.heap.size wr wb := by rw [hwb]; exact below_alloc (Below.refl _ _) _
      have HWS := Lib.hid (show wb.heap.size = wr.heap.size + 1 by rw [hwb]; simp)
      have hwlt : wr.heap.size < wb.heap.size := by have := HWS.out; omega
      clear hwb
      have b0 : wb.cell? ⟨wr.heap.size, 0, none⟩ = some (.string x0) := by rw [HWB.out]; go_cell
      have b1 : wb.cell? ⟨wr.heap.size, 1, none⟩ = some (.int .i64 x1) := by rw [HWB.out]; go_cell
      have b2 : wb.cell? ⟨wr.heap.size, 2, none⟩ = some (.string x2) := by rw [HWB.out]; go_cell
      have b3 : wb.cell? ⟨wr.heap.size, 3, none⟩ = some (.int .i64 x3) := by rw [HWB.out]; go_cell
      have HS1 := Lib.hid (hS.out.kept BOB)
      obtain ⟨vs, hvs⟩ : ∃ vs, vs = V x0 := ⟨_, rfl⟩
      have HVS := Lib.hid hvs
      have BA : Below wb.heap.size wb (wb.alloc (.cells #[.int .i64 x1, .string x2, .int .i64 x3] 30)) := below_alloc (Below.refl _ _) _
      have l1 := HS1.out.look HSZ
      have l2 := (HS1.out.kept (Below.drew (Below.refl wb.heap.size wb))).look HSZ
      have l3 := (HS1.out.kept BA).look HSZ
      have l4 := (HS1.out.kept BA.drew).look HSZ
      rw [← hvs] at l1 l2 l3 l4
      clear hvs
      have hrow := HS1.out.rows x0
      rw [← HVS.out] at hrow
      have hlen := evOf_length x0 (xs.take k)
      have HROW := Lib.hid hrow
      have hlen2 : (evOf x0 (xs.take k)).length ≤ 1048576 := by have := List.length_take_le k xs; omega
      clear hrow hlen
      have hbl : w.heap.size < wr.heap.size := hS.out.owns.lt
      have hnb : ∀ g, vs.ownBlock = some g → w.heap.size + 1 ≤ g ∧ g < wr.heap.size := by
        intro g hg
        rw [HVS.out] at hg
        exact ownBlock_lt (hS.out.rows x0) hg
      have HNR := Lib.hid (show some wr.heap.size ≠ vs.ownBlock from fun e => by have := hnb _ e.symm; omega)
      have HNW := Lib.hid (show some wr.heap.size ≠ some w.heap.size from fun e => by injection e; omega)
      have HNB := Lib.hid hnb
      have HKL := Lib.hid (show (xs.take k).length < maxLen by have := List.length_take_le k xs; unfold maxLen; omega)
      clear hnb
      go_wp2_with fail
      rw [← HWB.out]
      go_region_held3 (fun wx => wx.cell? ⟨wr.heap.size, 0, none⟩ = some (.string x0) ∧ wx.cell? ⟨wr.heap.size, 1, none⟩ = some (.int .i64 x1) ∧ wx.cell? ⟨wr.heap.size, 2, none⟩ = some (.string x2) ∧ wx.cell? ⟨wr.heap.size, 3, none⟩ = some (.int .i64 x3)) ((go_split_ands; refine ⟨?_, ?_, ?_, ?_⟩ <;> first | assumption | (simp [go_sem]; assumption) | (refine box_cell (below_alloc (Below.refl _ _) _) ?_; assumption)))
        (first | (refine step_appV ?_ ?_ ?_ 43 30 3 32 rowEvent ?_ (w.heap.size + 1) (evOf x0 (xs.take k)).length vs ((evOf x0 (xs.take k)).flatMap eventCells) ?_ ?_ ?_ ?_ ?_ ?_ ?_ ?_ ?_; rfl; rotate_left 2; exact rfl; exact HROW.out; exact rfl; exact rfl; exact rfl; exact rfl; (unfold maxLen; omega); omega; omega; intro g4 c4 w4 ho4 hg4 hat4; obtain ⟨w5, D5, V5, hup, hS5, hg5⟩ := HS1.out.put (x0, x1, x2, x3) HSZ HKL.out (v' := .slice (some ⟨g4, 0, none⟩) ((evOf x0 (xs.take k)).length + 1) c4) (by rw [← HVS.out]; exact hg4) ho4 (by rw [← HVS.out]; exact hat4.imp (fun e => e.symm) (fun e => ⟨g4, rfl, e⟩)); have HS5 := Lib.hid hS5; have HG5 := Lib.hid hg5; have HG4 := Lib.hid hg4; have e0 := hg4.cell b0 HNR.out; have e1 := hg4.cell b1 HNR.out; have e2 := hg4.cell b2 HNR.out; have e3 := hg4.cell b3 HNR.out; have q0 := hg5.cell e0 HNW.out; have q1 := hg5.cell e1 HNW.out; have q2 := hg5.cell e2 HNW.out; have q3 := hg5.cell e3 HNW.out; clear hS5 hg5 hg4 ho4 hat4; all_goals skip))
      all_goals
        go_wp2
        go_roundw
        case rel =>
          have hB4 : Below w.heap.size wb w4 := ⟨HG4.out.os, HG4.out.tape, HG4.out.output, HG4.out.size, fun i hi => HG4.out.block i (by omega) (fun e => by have := HNB.out i e.symm; omega)⟩
          have hB5 : Below w.heap.size w4 w5 := ⟨HG5.out.os, HG5.out.tape, HG5.out.output, HG5.out.size, fun i hi => HG5.out.block i (by have := HG4.out.size; omega) (fun e => by injection e; omega)⟩
          exact ⟨k + 1, D5, V5, by omega, by go_num, by rw [take_succ_of HXK.out]; exact HS5, ((below_step BOB hB).trans hB4).trans hB5⟩
        case measure => simp [intOf]; omega
    · obtain rfl : k = n := by omega
      have HS2 := Lib.hid (show Streams wr w.heap.size xs D V by
        have h := hS.out
        rwa [List.take_of_length_le (by have := HX.out; omega)] at h)
      go_wp2
      go_ret
      exact ⟨_, _, _, rfl, HS2.out, Nat.le_refl _, hB⟩
end Go.Proofs.YtmnmaibhjhhakaaGreatDoor
