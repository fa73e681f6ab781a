/-
  LogText: what the reference's function and the program's return. No condition beyond what the row lists.
-/
import Derived.Test.YtipkhmcnkldbbaaDoorLine
import Derived.Test.YtipkhmcnkldbbaaDoorBuild
import Derived.Test.YtipkhmcnkldbbaaDoorKEntry
namespace Go.Proofs.YtipkhmcnkldbbaaDoor
open Go.ChangeShapes Go.WideShapes Go.ChangeAt Go.RowKit

def logTo (xs : List EnT) (k : Nat) : ByteArray := (xs.take k).foldl (fun a x => a ++ lineS x ++ ⟨#[10]⟩) ⟨#[]⟩
def logS (xs : List EnT) : ByteArray := if storeB xs then logTo xs xs.length else ⟨#[]⟩
theorem logTo_succ {xs : List EnT} {k : Nat} {x : EnT} (h : xs[k]? = some x) : logTo xs (k + 1) = logTo xs k ++ lineS x ++ ⟨#[10]⟩ := by
  unfold logTo; rw [take_succ_of h, List.foldl_append]; rfl
theorem sum_bounds : ∀ (l : List UInt8) (v : Int), 0 ≤ v → v ≤ 997 → 0 ≤ l.foldl (fun n c => (257 * n + (c.toNat : Int)) % 997) v ∧ l.foldl (fun n c => (257 * n + (c.toNat : Int)) % 997) v ≤ 997
  | [], v, h0, h1 => ⟨h0, h1⟩
  | c :: l, v, h0, h1 => sum_bounds l ((257 * v + (c.toNat : Int)) % 997) (by omega) (by omega)
theorem lineS_size {x : EnT} (hs : x.1.size ≤ 1048576) (h : eventB x.2.1 x.2.2.1 x.2.2.2 = true) : (lineS x).size ≤ 1048700 := by
  obtain ⟨s0, s1⟩ := sum_bounds (aheadS x).data.toList 3 (by omega) (by omega)
  have z3 := decS_size (sumL (aheadS x).data.toList) s0 (by unfold sumL; omega)
  have z := textE_size h
  unfold lineS
  unfold aheadS at z3 ⊢
  simp only [ByteArray.size_append] at *
  have : (⟨#[32]⟩ : ByteArray).size = 1 := rfl
  omega
theorem store_ev {xs : List EnT} (h : storeB xs = true) : ∀ {k : Nat} {x : EnT}, xs[k]? = some x → eventB x.2.1 x.2.2.1 x.2.2.2 = true := fun hx => by
  have := ((store_iff xs).1 h).2.1 _ (List.mem_of_getElem? hx)
  unfold entB evOk at this
  rw [Bool.and_eq_true] at this
  exact this.2
theorem logTo_size {xs : List EnT} (h : storeB xs = true) (hok : StOk xs) : ∀ k, k ≤ xs.length → (logTo xs k).size ≤ k * 1048701
  | 0, _ => by
    have e : logTo xs 0 = ⟨#[]⟩ := rfl
    have z : (⟨#[]⟩ : ByteArray).size = 0 := rfl
    rw [e, z]; exact Nat.zero_le _
  | k + 1, hk => by
    have hxk : xs[k]? = some (xs[k]'(by omega)) := List.getElem?_eq_getElem (by omega)
    have ih := logTo_size h hok k (by omega)
    have hl := lineS_size (hok.small _ (List.mem_of_getElem? hxk)).1 (store_ev h hxk)
    rw [logTo_succ hxk]
    simp only [ByteArray.size_append]
    have : (⟨#[10]⟩ : ByteArray).size = 1 := rfl
    omega
theorem log_bytes (a l : ByteArray) : Lib.byteCells a.data.toList ++ Lib.strCells l ++ [.int .u8 10] = Lib.byteCells (a ++ l ++ ⟨#[10]⟩).data.toList := by
  unfold Lib.byteCells Lib.strCells
  simp

set_option maxHeartbeats 6400000 in
theorem specLog_any (A : Option Addr) (n c : Nat) (xs : List EnT) (hn : n ≤ 1048576) (hx : xs.length = n) (hok : StOk xs) (w : World) (hL : Lies w 4 A n (xs.flatMap entryCells)) :
    Calls Tryd.prog 21 #[.slice A n c] w fun e w' => e = .returned (.string (logS xs)) ∧ Below w.heap.size w w' := by
  have HX := Lib.hid hx
  have HL := Lib.hid hL
  clear hx hL
  cases E1 : storeB xs
  · have HE := Lib.hid (show logS xs = ⟨#[]⟩ by unfold logS; rw [E1]; rfl)
    have hn0 : 0 < n := by
      rcases Nat.eq_zero_or_pos n with h | h
      · have : xs = [] := List.length_eq_zero_iff.1 (by rw [HX.out, h])
        rw [this] at E1; cases E1
      · exact h
    go_enter Tryd.func21, Tryd.ntmps21
    go_wp2
    go_loopw [3, 4] (fun l i wr => i = .int .i64 0 ∧ l = .string ⟨#[]⟩ ∧ Below w.heap.size w wr) (fun _ _ _ => 0)
    case atStart => exact ⟨rfl, rfl, Below.refl _ _⟩
    case round =>
      obtain ⟨rfl, rfl, hB⟩ := hrel
      go_wp2_with fail
      refine (specStore_any A n c xs hn HX.out hok.small _ (HL.out.below hB)).mono ?_
      rintro e1 w1 ⟨rfl, hb1⟩
      rw [E1]
      go_wp2
      go_ret
      exact ⟨ret_str HE.out.symm, below_step hb1 hB⟩
  have h24 : n ≤ 24 := by have := ((store_iff xs).1 E1).1; have := HX.out; omega
  have HZ := Lib.hid (logTo_size E1 hok)
  have HEV := Lib.hid (fun (k : Nat) (x : EnT) (h : xs[k]? = some x) => store_ev E1 h)
  have HE := Lib.hid (show logS xs = logTo xs n by unfold logS; rw [E1, HX.out]; rfl)
  go_enter Tryd.func21, Tryd.ntmps21
  go_wp2
  go_loopw [3, 4] (fun l i wr => ∃ (k : Nat) (acc : ByteArray), k ≤ n ∧ i = .int .i64 k ∧ l = .string acc ∧ Hid (logTo xs k = acc) ∧ Below w.heap.size w wr) (fun _ i _ => n - (intOf i).toNat)
  case atStart => exact ⟨0, ⟨#[]⟩, Nat.zero_le _, rfl, rfl, Lib.hid rfl, Below.refl _ _⟩
  case round =>
    obtain ⟨k, acc, hk, rfl, rfl, hT, hB⟩ := hrel
    have hz : acc.size ≤ 26000000 := by have h1 := HZ.out k (by rw [HX.out]; exact hk); rw [hT.out] at h1; omega
    by_cases hlt : k < n
    · obtain ⟨b, o, rfl, hbl, hc⟩ := (HL.out.below hB).row (fun _ => rfl) (by omega)
      obtain ⟨⟨x0, x1, x2, x3⟩, hxk⟩ := get_lt HX.out hlt
      have hsm := (hok.small _ (List.mem_of_getElem? hxk)).1
      have hev : eventB x1 x2 x3 = true := HEV.out _ _ hxk
      have c0 : wr.cell? ⟨b, o + k * 4, none⟩ = some (.string x0) := hc k _ hxk 0 _ rfl
      have c1 : wr.cell? ⟨b, o + k * 4 + 1, none⟩ = some (.int .i64 x1) := hc k _ hxk 1 _ rfl
      have c2 : wr.cell? ⟨b, o + k * 4 + 2, none⟩ = some (.string x2) := hc k _ hxk 2 _ rfl
      have c3 : wr.cell? ⟨b, o + k * 4 + 3, none⟩ = some (.int .i64 x3) := hc k _ hxk 3 _ rfl
      have hlz := lineS_size (x := (x0, x1, x2, x3)) hsm hev
      have HT2 := Lib.hid (logTo_succ hxk)
      obtain ⟨ln, hln⟩ : ∃ ln, lineS (x0, x1, x2, x3) = ln := ⟨_, rfl⟩
      rw [hln] at hlz HT2
      rw [hT.out] at HT2
      have HLN := Lib.hid hln
      clear hc hxk hln hT
      go_wp2_with fail
      refine (specStore_any _ n c xs hn HX.out hok.small _ (HL.out.below hB)).mono ?_
      rintro e1 w1 ⟨rfl, hb1⟩
      rw [E1]
      have hB1 := below_step hb1 hB
      have d0 := box_cell hb1 c0
      have d1 := box_cell hb1 c1
      have d2 := box_cell hb1 c2
      have d3 := box_cell hb1 c3
      go_wp2_with fail
      refine (l31Text_any x0 x1 x2 x3 hsm hev _).mono ?_
      rintro e2 w2 ⟨rfl, hb2⟩
      rw [HLN.out]
      have hB2 := below_step hb2 hB1
      go_wp2
      go_roundw
      case rel => exact ⟨k + 1, acc ++ ln ++ ⟨#[10]⟩, by omega, by go_num, rfl, HT2, hB2⟩
      case measure => simp [intOf]; omega
    · obtain rfl : k = n := by omega
      have HF := Lib.hid (HE.out.trans hT.out)
      go_wp2
      go_ret
      exact ⟨ret_str HF.out.symm, hB⟩

set_option maxHeartbeats 6400000 in
theorem implLog_any (A : Option Addr) (n c : Nat) (xs : List EnT) (hn : n ≤ 1048576) (hx : xs.length = n) (hok : StOk xs) (w : World) (a : Addr) (hS : Sent a w) (hM : MaxL w) (HT : HasTab w) (hL : Lies w 4 A n (xs.flatMap entryCells)) :
    Calls Tryd.prog 23 #[.slice A n c] w fun e w' => e = .returned (.string (logS xs)) ∧ Below w.heap.size w w' := by
  have HX := Lib.hid hx
  have HL := Lib.hid hL
  clear hx hL
  cases E1 : storeB xs
  · have HE := Lib.hid (show logS xs = ⟨#[]⟩ by unfold logS; rw [E1]; rfl)
    go_enter Tryd.func23, Tryd.ntmps23
    go_wp2_with fail
    refine (implStore_any A n c xs hn HX.out hok.small hok.ints _ a hS hM HL.out).mono ?_
    rintro e1 w1 ⟨rfl, hb1⟩
    rw [E1]
    go_wp2
    go_ret
    exact ⟨ret_str HE.out.symm, hb1⟩
  have h24 : n ≤ 24 := by have := ((store_iff xs).1 E1).1; have := HX.out; omega
  have HZ := Lib.hid (logTo_size E1 hok)
  have HEV := Lib.hid (fun (k : Nat) (x : EnT) (h : xs[k]? = some x) => store_ev E1 h)
  have HE := Lib.hid (show logS xs = logTo xs n by unfold logS; rw [E1, HX.out]; rfl)
  go_enter Tryd.func23, Tryd.ntmps23
  go_wp2_with fail
  refine (implStore_any A n c xs hn HX.out hok.small hok.ints _ a hS hM HL.out).mono ?_
  rintro e1 w1 ⟨rfl, hb1⟩
  rw [E1]
  have hbn := bld_new w1 hb1.size
  go_wp2
  go_loopw [11] (fun i wr => ∃ (k : Nat) (acc : ByteArray), k ≤ n ∧ i = .int .i64 k ∧ Hid (logTo xs k = acc) ∧ Bld w.heap.size w1.heap.size (Lib.byteCells acc.data.toList) wr ∧ Below w.heap.size w wr) (fun i _ => n - (intOf i).toNat)
  case atStart => exact ⟨0, ⟨#[]⟩, Nat.zero_le _, rfl, Lib.hid rfl, hbn, below_alloc hb1 _⟩
  case round =>
    obtain ⟨k, acc, hk, rfl, hT, hD, hB⟩ := hrel
    clear hbn
    have hz : acc.size ≤ 26000000 := by have h1 := HZ.out k (by rw [HX.out]; exact hk); rw [hT.out] at h1; omega
    have HD := Lib.hid hD
    clear hD
    by_cases hlt : k < n
    · obtain ⟨b, o, rfl, hbl, hc⟩ := (HL.out.below hB).row (fun _ => rfl) (by omega)
      obtain ⟨⟨x0, x1, x2, x3⟩, hxk⟩ := get_lt HX.out hlt
      have hsm := (hok.small _ (List.mem_of_getElem? hxk)).1
      have hev : eventB x1 x2 x3 = true := HEV.out _ _ hxk
      have c0 : wr.cell? ⟨b, o + k * 4, none⟩ = some (.string x0) := hc k _ hxk 0 _ rfl
      have c1 : wr.cell? ⟨b, o + k * 4 + 1, none⟩ = some (.int .i64 x1) := hc k _ hxk 1 _ rfl
      have c2 : wr.cell? ⟨b, o + k * 4 + 2, none⟩ = some (.string x2) := hc k _ hxk 2 _ rfl
      have c3 : wr.cell? ⟨b, o + k * 4 + 3, none⟩ = some (.int .i64 x3) := hc k _ hxk 3 _ rfl
      have hlz := lineS_size (x := (x0, x1, x2, x3)) hsm hev
      have HT2 := Lib.hid (logTo_succ hxk)
      obtain ⟨ln, hln⟩ : ∃ ln, lineS (x0, x1, x2, x3) = ln := ⟨_, rfl⟩
      rw [hln] at hlz HT2
      rw [hT.out] at HT2
      have HLN := Lib.hid hln
      have HBY := Lib.hid (log_bytes acc ln)
      clear hc hxk hln hT
      have BA := below_alloc hB (.cells #[.string x0, .int .i64 x1, .string x2, .int .i64 x3] 39)
      go_wp2_with fail
      refine (lineOf_any x0 x1 x2 x3 hsm hev _ (HT.below BA (Nat.le_refl _))).mono ?_
      rintro e2 w2 ⟨rfl, hb2⟩
      rw [HLN.out]
      have hB2 := below_step hb2 BA
      have D2 := bld_below (bld_below HD.out (below_alloc (Below.refl _ _) _)) hb2
      go_wp2_with fail
      refine (writeString_any w.heap.size w1.heap.size _ ln _ D2 (by rw [Lib.byteCells_length, Array.length_toList]; show acc.size + ln.size ≤ _; omega) hB2.size).mono ?_
      rintro e3 w3 ⟨rfl, D3, b3⟩
      have hB3 := hB2.trans b3
      go_wp2_with fail
      refine (writeByte_any w.heap.size w1.heap.size _ 10 _ (.inr D3) (by rw [List.length_append, Lib.byteCells_length, Lib.strCells_length, Array.length_toList]; show acc.size + ln.size + 1 ≤ _; omega) hB3.size).mono ?_
      rintro e4 w4 ⟨rfl, D4, b4⟩
      have hB4 := hB3.trans b4
      rw [HBY.out] at D4
      have HD4 := Lib.hid D4
      clear D2 D3 D4
      go_wp2
      go_roundw
      case rel => exact ⟨k + 1, acc ++ ln ++ ⟨#[10]⟩, by omega, by go_num, HT2, .inr HD4.out, hB4⟩
      case measure => simp [intOf]; omega
    · obtain rfl : k = n := by omega
      have HF := Lib.hid (HE.out.trans hT.out)
      go_wp2_with fail
      refine (Tryd.Builder_String_any w.heap.size w1.heap.size acc.data.toList _ HD.out hB.size).mono ?_
      rintro e5 w5 ⟨rfl, b5⟩
      go_wp2
      go_ret
      exact ⟨ret_str HF.out.symm, hB.trans b5⟩

theorem specLog_at (lo hi : Nat) (v : Value) (xs : List EnT) (hok : StOk xs) (w : World) (h : entrySAt w lo hi v xs) :
    Calls Tryd.prog 21 #[v] w fun e w' => e = .returned (.string (logS xs)) ∧ Below w.heap.size w w' := by
  obtain ⟨g, m, c, rfl, hx, hb, _, _, ho⟩ := h.open
  exact specLog_any _ _ _ xs hb hx hok w (lies_of_own ho)
theorem implLog_at (lo hi : Nat) (v : Value) (xs : List EnT) (hok : StOk xs) (w : World) (a : Addr) (hS : Sent a w) (hM : MaxL w) (HT : HasTab w) (h : entrySAt w lo hi v xs) :
    Calls Tryd.prog 23 #[v] w fun e w' => e = .returned (.string (logS xs)) ∧ Below w.heap.size w w' := by
  obtain ⟨g, m, c, rfl, hx, hb, _, _, ho⟩ := h.open
  exact implLog_any _ _ _ xs hb hx hok w a hS hM HT (lies_of_own ho)
end Go.Proofs.YtipkhmcnkldbbaaDoor
