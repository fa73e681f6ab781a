/-
  An entry as a line: what the program's lineOf and the reference's l31Text return for a valid entry. No condition beyond the library's table.
-/
import Derived.Test.YtmnmaibhjhhakaaGreatDoorEvText
import Derived.Test.YtmnmaibhjhhakaaGreatDoorNameS
import Derived.Test.YtmnmaibhjhhakaaGreatDoorBunS
namespace Go.Proofs.YtmnmaibhjhhakaaGreatDoor
open Go.ChangeShapes Go.WideShapes Go.ChangeAt Go.RowKit

/-- The check of a text. -/
def sumL (l : List UInt8) : Int := l.foldl (fun n c => (257 * n + (c.toNat : Int)) % 997) 3
theorem sumL_snoc (l : List UInt8) (c : UInt8) : sumL (l ++ [c]) = (257 * sumL l + (c.toNat : Int)) % 997 := by unfold sumL; rw [List.foldl_append]; rfl
theorem take_sum {s : ByteArray} {k : Nat} (h : k < s.size) : sumL (s.data.toList.take (k + 1)) = (257 * sumL (s.data.toList.take k) + (s[k].toNat : Int)) % 997 := by
  have hk : k < s.data.toList.length := by simpa using h
  rw [List.take_succ_eq_append_getElem hk, sumL_snoc]
  congr 3
theorem sum_facts (v : Int) (c : UInt8) (h0 : 0 ≤ v) (h1 : v ≤ 997) : IntKind.i64.wrap (257 * v) = 257 * v ∧ IntKind.i64.wrap (c.toNat : Int) = c.toNat ∧ IntKind.i64.wrap (257 * v + (c.toNat : Int)) = 257 * v + c.toNat ∧ (257 * v + (c.toNat : Int)).tmod 997 = (257 * v + (c.toNat : Int)) % 997 ∧ IntKind.i64.wrap ((257 * v + (c.toNat : Int)) % 997) = (257 * v + (c.toNat : Int)) % 997 ∧ 0 ≤ (257 * v + (c.toNat : Int)) % 997 ∧ (257 * v + (c.toNat : Int)) % 997 ≤ 997 := by
  have hc := c.toNat_lt
  refine ⟨IntWalk.i64_in _ ⟨by omega, by omega⟩, IntWalk.i64_in _ ⟨by omega, by omega⟩, IntWalk.i64_in _ ⟨by omega, by omega⟩, Int.tmod_eq_emod_of_nonneg (by omega), IntWalk.i64_in _ ⟨by omega, by omega⟩, by omega, by omega⟩

set_option maxHeartbeats 1600000 in
theorem l31Sum_any (s : ByteArray) (hs : s.size ≤ 2097152) (w : World) :
    Calls Tryz.prog 54 #[.string s] w fun e w' => ∃ v, e = .returned (.int .i64 v) ∧ sumL s.data.toList = v ∧ 0 ≤ v ∧ v ≤ 997 ∧ w = w' := by
  go_enter Tryz.func54, Tryz.ntmps54
  go_wp2
  go_loop [3, 4] (fun n i => ∃ (k : Nat) (v : Int), k ≤ s.size ∧ i = .int .i64 k ∧ n = .int .i64 v ∧ 0 ≤ v ∧ v ≤ 997 ∧ Hid (sumL (s.data.toList.take k) = v)) (fun _ i => s.size - (intOf i).toNat)
  case atStart => exact ⟨0, 3, Nat.zero_le _, rfl, rfl, by omega, by omega, Lib.hid (by simp [sumL])⟩
  case round =>
    obtain ⟨k, v, hk, rfl, rfl, hv0, hv1, hd⟩ := hrel
    by_cases hlt : k < s.size
    · have HD := Lib.hid ((take_sum hlt).trans (by rw [hd.out]))
      obtain ⟨f1, f2, f3, f4, f5, f6, f7⟩ := sum_facts v s[k] hv0 hv1
      go_wp2
      go_round
      case rel => exact ⟨k + 1, (257 * v + (s[k].toNat : Int)) % 997, by omega, by go_num, rfl, f6, f7, HD⟩
      case measure => simp [intOf]; omega
    · have ht : s.data.toList.take k = s.data.toList := List.take_of_length_le (by simp; omega)
      rw [ht] at hd
      clear ht
      go_wp2
      go_ret
      exact ⟨v, rfl, hd.out, hv0, hv1, rfl⟩

set_option maxHeartbeats 1600000 in
theorem lineCheck_any (s : ByteArray) (hs : s.size ≤ 2097152) (w : World) :
    Calls Tryz.prog 47 #[.string s] w fun e w' => ∃ v, e = .returned (.int .i64 v) ∧ sumL s.data.toList = v ∧ 0 ≤ v ∧ v ≤ 997 ∧ w = w' := by
  go_enter Tryz.func47, Tryz.ntmps47
  go_wp2
  go_loop [3, 4] (fun n i => ∃ (k : Nat) (v : Int), k ≤ s.size ∧ i = .int .i64 k ∧ n = .int .i64 v ∧ 0 ≤ v ∧ v ≤ 997 ∧ Hid (sumL (s.data.toList.take k) = v)) (fun _ i => s.size - (intOf i).toNat)
  case atStart => exact ⟨0, 3, Nat.zero_le _, rfl, rfl, by omega, by omega, Lib.hid (by simp [sumL])⟩
  case round =>
    obtain ⟨k, v, hk, rfl, rfl, hv0, hv1, hd⟩ := hrel
    by_cases hlt : k < s.size
    · have HD := Lib.hid ((take_sum hlt).trans (by rw [hd.out]))
      obtain ⟨f1, f2, f3, f4, f5, f6, f7⟩ := sum_facts v s[k] hv0 hv1
      go_wp2
      go_round
      case rel => exact ⟨k + 1, (257 * v + (s[k].toNat : Int)) % 997, by omega, by go_num, rfl, f6, f7, HD⟩
      case measure => simp [intOf]; omega
    · have ht : s.data.toList.take k = s.data.toList := List.take_of_length_le (by simp; omega)
      rw [ht] at hd
      clear ht
      go_wp2
      go_ret
      exact ⟨v, rfl, hd.out, hv0, hv1, rfl⟩

/-- What is ahead of the check. -/
def aheadS (x : EnT) : ByteArray := x.1 ++ ⟨#[32]⟩ ++ textE x.2.1 x.2.2.1 x.2.2.2
def lineS (x : EnT) : ByteArray := aheadS x ++ ⟨#[32]⟩ ++ decS (sumL (aheadS x).data.toList)
theorem event_parts {id : Int} {k : ByteArray} {d : Int} (h : eventB id k d = true) : 1 ≤ id ∧ id ≤ 9999 ∧ k.size ≤ 6 ∧ 0 ≤ d ∧ d ≤ 999 := by
  unfold eventB at h
  simp only [Bool.and_eq_true] at h
  obtain ⟨⟨h1, h2⟩, h3⟩ := h
  rw [inB_iff] at h1 h3
  have h4 : inB (k.size : Int) 1 6 = true := by
    unfold wordB at h2
    simp only [Bool.and_eq_true] at h2
    first | exact h2.1 | exact h2.2
  rw [inB_iff] at h4
  omega
theorem textE_size {id : Int} {k : ByteArray} {d : Int} (h : eventB id k d = true) : (textE id k d).size ≤ 48 := by
  obtain ⟨p1, p2, p3, p4, p5⟩ := event_parts h
  have z1 := decS_size id (by omega) (by omega)
  have z2 := decS_size d p4 (by omega)
  unfold textE
  simp only [ByteArray.size_append]
  have : (⟨#[32]⟩ : ByteArray).size = 1 := rfl
  omega

theorem evTextI_any (id : Int) (k : ByteArray) (d : Int) (h : eventB id k d = true) (w : World) (HT : HasTab w) :
    Calls Tryz.prog 45 #[.agg #[.int .i64 id, .string k, .int .i64 d]] w fun e w' => e = .returned (.string (textE id k d)) ∧ Below w.heap.size w w' := by
  obtain ⟨p1, p2, p3, p4, p5⟩ := event_parts h
  have hs : StrOk k := by unfold StrOk maxLen; omega
  go_enter Tryz.func45, Tryz.ntmps45
  go_wp2_with fail
  refine (eventValid_any _ _ _ hs _).mono ?_
  rintro e w1 ⟨rfl, hb1⟩
  rw [h]
  have y0 := box_cell hb1 (b := w.heap.size) (o := 0) (u := .int .i64 id) (by go_cell)
  have y1 := box_cell hb1 (b := w.heap.size) (o := 1) (u := .string k) (by go_cell)
  have y2 := box_cell hb1 (b := w.heap.size) (o := 2) (u := .int .i64 d) (by go_cell)
  have hB := below_step hb1 (below_alloc (Below.refl _ _) _)
  go_wp2_with fail
  refine (eventText_any _ _ _ p3 (by omega) (by omega) (by omega) (by omega) _ (HT.below hB (Nat.le_refl _))).mono ?_
  rintro e w2 ⟨rfl, hb2⟩
  go_wp2
  go_ret
  exact ⟨rfl, below_step hb2 hB⟩

set_option maxHeartbeats 3200000 in
theorem l31Text_any (x0 : ByteArray) (x1 : Int) (x2 : ByteArray) (x3 : Int) (hs : x0.size ≤ 1048576) (h : eventB x1 x2 x3 = true) (w : World) :
    Calls Tryz.prog 35 #[.agg #[.string x0, .int .i64 x1, .string x2, .int .i64 x3]] w fun e w' => e = .returned (.string (lineS (x0, x1, x2, x3))) ∧ Below w.heap.size w w' := by
  obtain ⟨p1, p2, p3, p4, p5⟩ := event_parts h
  have z := textE_size h
  have HA : Hid (aheadS (x0, x1, x2, x3) = x0 ++ ⟨#[32]⟩ ++ textE x1 x2 x3) := Lib.hid rfl
  have HL : Hid (lineS (x0, x1, x2, x3) = aheadS (x0, x1, x2, x3) ++ ⟨#[32]⟩ ++ decS (sumL (aheadS (x0, x1, x2, x3)).data.toList)) := Lib.hid rfl
  obtain ⟨t, ht⟩ : ∃ t, textE x1 x2 x3 = t := ⟨_, rfl⟩
  rw [ht] at HA z
  have HTX := Lib.hid ht
  clear ht
  go_enter Tryz.func35, Tryz.ntmps35
  go_wp2_with fail
  have c0 : (w.alloc (Obj.cells #[.string x0, .int .i64 x1, .string x2, .int .i64 x3] 32)).cell? ⟨w.heap.size, 0, none⟩ = some (.string x0) := by go_cell
  have c1 : (w.alloc (Obj.cells #[.string x0, .int .i64 x1, .string x2, .int .i64 x3] 32)).cell? ⟨w.heap.size, 1, none⟩ = some (.int .i64 x1) := by go_cell
  have c2 : (w.alloc (Obj.cells #[.string x0, .int .i64 x1, .string x2, .int .i64 x3] 32)).cell? ⟨w.heap.size, 2, none⟩ = some (.string x2) := by go_cell
  have c3 : (w.alloc (Obj.cells #[.string x0, .int .i64 x1, .string x2, .int .i64 x3] 32)).cell? ⟨w.heap.size, 3, none⟩ = some (.int .i64 x3) := by go_cell
  have R0 := After.cell c0
  have R1 := After.cell c1
  have R2 := After.cell c2
  have R3 := After.cell c3
  refine wp_region_after (by kernel_rfl) (by kernel_rfl) ?_
  repeat (go_big_quiet_step (((go_at_call 52; exact after_call (v := .string t) (by rw [← HTX.out]; exact l1Text_any _ _ _ p3 (by omega) (by omega) (by omega) (by omega) _)))))
  refine wpQuiet_nil ?_
  intro wn hw'
  have hwn := after_below hw'
  clear hw'
  have hB : Below w.heap.size w wn := below_step hwn (below_alloc (Below.refl _ _) _)
  go_wp2_with fail
  refine (l31Sum_any _ (by simp only [ByteArray.size_append]; have : (⟨#[32]⟩ : ByteArray).size = 1 := rfl; omega) _).mono ?_
  rintro e w2 ⟨v, rfl, hv, hv0, hv1, rfl⟩
  have HV := Lib.hid hv
  clear hv
  have z3 := decS_size v hv0 (by omega)
  go_wp2_with fail
  refine (l6Dec_any v hv0 (by omega) _).mono ?_
  rintro e w3 ⟨rfl, hb3⟩
  have HR : Hid (lineS (x0, x1, x2, x3) = x0 ++ ⟨#[32]⟩ ++ t ++ ⟨#[32]⟩ ++ decS v) := Lib.hid (by rw [HL.out, HA.out, HV.out])
  go_wp2
  go_ret
  exact ⟨ret_str HR.out.symm, below_step hb3 hB⟩

set_option maxHeartbeats 3200000 in
theorem lineOf_any (x0 : ByteArray) (x1 : Int) (x2 : ByteArray) (x3 : Int) (hs : x0.size ≤ 1048576) (h : eventB x1 x2 x3 = true) (w : World) (HT : HasTab w) :
    Calls Tryz.prog 29 #[.agg #[.string x0, .int .i64 x1, .string x2, .int .i64 x3]] w fun e w' => e = .returned (.string (lineS (x0, x1, x2, x3))) ∧ Below w.heap.size w w' := by
  obtain ⟨p1, p2, p3, p4, p5⟩ := event_parts h
  have z := textE_size h
  have HA : Hid (aheadS (x0, x1, x2, x3) = x0 ++ ⟨#[32]⟩ ++ textE x1 x2 x3) := Lib.hid rfl
  have HL : Hid (lineS (x0, x1, x2, x3) = aheadS (x0, x1, x2, x3) ++ ⟨#[32]⟩ ++ decS (sumL (aheadS (x0, x1, x2, x3)).data.toList)) := Lib.hid rfl
  obtain ⟨t, ht⟩ : ∃ t, textE x1 x2 x3 = t := ⟨_, rfl⟩
  rw [ht] at HA z
  have HTX := Lib.hid ht
  clear ht
  go_enter Tryz.func29, Tryz.ntmps29
  go_wp2_with fail
  have c0 : (w.alloc (Obj.cells #[.string x0, .int .i64 x1, .string x2, .int .i64 x3] 32)).cell? ⟨w.heap.size, 0, none⟩ = some (.string x0) := by go_cell
  have c1 : (w.alloc (Obj.cells #[.string x0, .int .i64 x1, .string x2, .int .i64 x3] 32)).cell? ⟨w.heap.size, 1, none⟩ = some (.int .i64 x1) := by go_cell
  have c2 : (w.alloc (Obj.cells #[.string x0, .int .i64 x1, .string x2, .int .i64 x3] 32)).cell? ⟨w.heap.size, 2, none⟩ = some (.string x2) := by go_cell
  have c3 : (w.alloc (Obj.cells #[.string x0, .int .i64 x1, .string x2, .int .i64 x3] 32)).cell? ⟨w.heap.size, 3, none⟩ = some (.int .i64 x3) := by go_cell
  have HT' : HasTab (w.alloc (Obj.cells #[.string x0, .int .i64 x1, .string x2, .int .i64 x3] 32)) := HT.below (below_alloc (Below.refl _ _) _) (Nat.le_refl _)
  have R0 := After.cell c0
  have R1 := After.cell c1
  have R2 := After.cell c2
  have R3 := After.cell c3
  refine wp_region_after (by kernel_rfl) (by kernel_rfl) ?_
  repeat (go_big_quiet_step (((go_at_call 45; exact after_call (v := .string t) (by rw [← HTX.out]; exact evTextI_any _ _ _ h _ (HT'.below (After.h _) (Nat.le_refl _)))))))
  refine wpQuiet_nil ?_
  intro wn hw'
  have hwn := after_below hw'
  clear hw'
  have hB : Below w.heap.size w wn := below_step hwn (below_alloc (Below.refl _ _) _)
  go_wp2_with fail
  refine (lineCheck_any _ (by simp only [ByteArray.size_append]; have : (⟨#[32]⟩ : ByteArray).size = 1 := rfl; omega) _).mono ?_
  rintro e w2 ⟨v, rfl, hv, hv0, hv1, rfl⟩
  have HV := Lib.hid hv
  clear hv
  have z3 := decS_size v hv0 (by omega)
  go_wp2_with fail
  refine (itoa_any v hv0 (by omega) _ (HT.below hB (Nat.le_refl _))).mono ?_
  rintro e w3 ⟨rfl, hb3⟩
  have HR : Hid (lineS (x0, x1, x2, x3) = x0 ++ ⟨#[32]⟩ ++ t ++ ⟨#[32]⟩ ++ decS v) := Lib.hid (by rw [HL.out, HA.out, HV.out])
  go_wp2
  go_ret
  exact ⟨ret_str HR.out.symm, below_step hb3 hB⟩
end Go.Proofs.YtmnmaibhjhhakaaGreatDoor
