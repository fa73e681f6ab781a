/-
  Who holds the stripes, and the locks of that, as the program reckons them: for every slice of locks with stripes from 0 to 7. 
-/
import Derived.Test.YtfbnpnajpkhkdaaPLocks
import Derived.Test.YtfbnpnajpkhkdaaOwn
import Derived.Handy
namespace Go.Proofs.Ytfbnpnajpkhkdaa
open Go.ChangeShapes Go.WideShapes Go.ChangeAt Go.RowKit

def vals (hs : List Int) : List Value := hs.map (Value.int .i64)
theorem vals_get {hs : List Int} {k : Nat} {h : Int} (e : hs[k]? = some h) : (vals hs)[k]? = some (.int .i64 h) := by unfold vals; rw [List.getElem?_map, e]; rfl
theorem vals_set (hs : List Int) (k : Nat) (h : Int) : vals (hs.set k h) = (vals hs).set k (.int .i64 h) := by unfold vals; rw [List.map_set]
theorem eight {hs : List Int} (h : hs.length = 8) : ∃ a0 a1 a2 a3 a4 a5 a6 a7 : Int, hs = [a0, a1, a2, a3, a4, a5, a6, a7] := by
  match hs, h with
  | [a0, a1, a2, a3, a4, a5, a6, a7], _ => exact ⟨_, _, _, _, _, _, _, _, rfl⟩
theorem holdsL_snoc {xs : List (Int × Int)} {k : Nat} {x : Int × Int} (hx : xs[k]? = some x) (h0 : 0 ≤ x.1) (h7 : x.1 ≤ 7) : holdsL (xs.take (k + 1)) = (holdsL (xs.take k)).set x.1.toNat x.2 := by
  rw [take_succ_of hx]
  refine List.ext_getElem? (fun j => ?_)
  by_cases hj : j < 8
  · rw [holdsL_get _ j hj, List.getElem?_set, holdFrom_snoc]
    by_cases c : x.1.toNat = j
    · rw [if_pos c, if_pos (show x.1 = (j : Int) by omega), if_pos (by rw [holdsL_length]; omega)]
    · rw [if_neg c, if_neg (show ¬ x.1 = (j : Int) by omega), holdsL_get _ j hj]
  · rw [List.getElem?_eq_none (by rw [holdsL_length]; omega), List.getElem?_eq_none (by rw [List.length_set, holdsL_length]; omega)]
theorem lt8 {x : Int} (h0 : 0 ≤ x) (h7 : x ≤ 7) : x.toNat < 8 := by omega
/-- a[k] of an array of eight by value. -/
theorem idx8 {a0 a1 a2 a3 a4 a5 a6 a7 o : Int} {k : Nat} (hk : k < 8) (h : [a0, a1, a2, a3, a4, a5, a6, a7][k]? = some o) (W : World) :
    (Instr.index 108 (.agg #[.int .i64 a0, .int .i64 a1, .int .i64 a2, .int .i64 a3, .int .i64 a4, .int .i64 a5, .int .i64 a6, .int .i64 a7]) (.int .i64 (k : Int))).run Try.prog W = .ok (.int .i64 o) W := by
  rcases (show k = 0 ∨ k = 1 ∨ k = 2 ∨ k = 3 ∨ k = 4 ∨ k = 5 ∨ k = 6 ∨ k = 7 by omega) with rfl | rfl | rfl | rfl | rfl | rfl | rfl | rfl
  all_goals
    obtain rfl := Option.some.inj h
    kernel_rfl

set_option maxHeartbeats 1600000 in
theorem holdersOf_any (A : Option Addr) (n c : Nat) (xs : List (Int × Int)) (hn : n ≤ 1048576) (hx : xs.length = n) (hok : ∀ x ∈ xs, 0 ≤ x.1 ∧ x.1 ≤ 7) (a0 a1 a2 a3 a4 a5 a6 a7 : Int) (he : holdsL xs = [a0, a1, a2, a3, a4, a5, a6, a7]) (w : World) (hL : Lies w 2 A n (xs.flatMap lockCells)) :
    Calls Try.prog 80 #[.slice A n c] w fun e w' => e = .returned (.agg #[.int .i64 a0, .int .i64 a1, .int .i64 a2, .int .i64 a3, .int .i64 a4, .int .i64 a5, .int .i64 a6, .int .i64 a7]) ∧ Below w.heap.size w w' := by
  have HE := Lib.hid he
  clear he
  go_enter Try.func80, Try.ntmps80
  go_wp2
  go_loopw [8] (fun i wr => ∃ k : Nat, k ≤ n ∧ i = .int .i64 k ∧ RowIs wr w.heap.size 108 (vals [0, 0, 0, 0, 0, 0, 0, 0]) ∧ RowIs wr (w.heap.size + 1) 108 (vals (holdsL (xs.take k))) ∧ Below w.heap.size w wr) (fun i _ => n - (intOf i).toNat)
  case atStart => exact ⟨0, Nat.zero_le _, rfl, (RowIs.new w _ _).alloc _, by have h := RowIs.new (w.alloc (.cells #[.int .i64 0, .int .i64 0, .int .i64 0, .int .i64 0, .int .i64 0, .int .i64 0, .int .i64 0, .int .i64 0] 108)) #[.int .i64 0, .int .i64 0, .int .i64 0, .int .i64 0, .int .i64 0, .int .i64 0, .int .i64 0, .int .i64 0] 108; rw [World.size_alloc] at h; exact h, (by repeat' (first | (with_reducible exact Below.refl _ _) | (with_reducible assumption) | (with_reducible refine below_step (by assumption) ?_) | (with_reducible refine below_alloc ?_ _) | (with_reducible refine Below.drew ?_) | (with_reducible refine below_drewN ?_ _) | (with_reducible refine Below.setCell ?_ ?_ _) | go_size))⟩
  case round =>
    obtain ⟨k, hk, rfl, hR, hT, hB⟩ := hrel
    by_cases hlt : k < n
    · obtain ⟨b, o, rfl, hb, hc⟩ := (hL.below hB).row (fun _ => rfl) (by omega)
      obtain ⟨⟨x0, x1⟩, hxk⟩ := get_lt hx hlt
      obtain ⟨q0, q7⟩ := hok _ (List.mem_of_getElem? hxk)
      have q0 : 0 ≤ x0 := q0
      have q7 : x0 ≤ 7 := q7
      have c0 : wr.cell? ⟨b, o + k * 2, none⟩ = some (.int .i64 x0) := hc k _ hxk 0 _ rfl
      have c1 : wr.cell? ⟨b, o + k * 2 + 1, none⟩ = some (.int .i64 x1) := hc k _ hxk 1 _ rfl
      obtain ⟨u, hu⟩ := get_lt (holdsL_length (xs.take k)) (lt8 q0 q7)
      have d0 := hT.cell (vals_get hu)
      have f0 := hT.frozen x0.toNat
      have hlt1 := hT.lt
      have HX := Lib.hid hxk
      have HT := Lib.hid hT
      have HR := Lib.hid hR
      clear hxk hc hT hR hu
      go_wp2
      go_roundw
      case rel => exact ⟨k + 1, by omega, by go_num, (HR.out.other (by simp) _).alloc _, by rw [holdsL_snoc HX.out q0 q7, vals_set]; exact (HT.out.set _ _).alloc _, (by repeat' (first | (with_reducible exact Below.refl _ _) | (with_reducible assumption) | (with_reducible refine below_step (by assumption) ?_) | (with_reducible refine below_alloc ?_ _) | (with_reducible refine Below.drew ?_) | (with_reducible refine below_drewN ?_ _) | (with_reducible refine Below.setCell ?_ ?_ _) | go_size))⟩
      case measure => simp [intOf]; omega
    · obtain rfl : k = n := by omega
      have hT2 : RowIs wr (w.heap.size + 1) 108 (vals [a0, a1, a2, a3, a4, a5, a6, a7]) := by
        rw [List.take_of_length_le (by omega), HE.out] at hT; exact hT
      have c0 := hT2.cell (j := 0) rfl
      have c1 := hT2.cell (j := 1) rfl
      have c2 := hT2.cell (j := 2) rfl
      have c3 := hT2.cell (j := 3) rfl
      have c4 := hT2.cell (j := 4) rfl
      have c5 := hT2.cell (j := 5) rfl
      have c6 := hT2.cell (j := 6) rfl
      have c7 := hT2.cell (j := 7) rfl
      have d0 := hR.cell (j := 0) rfl
      have d1 := hR.cell (j := 1) rfl
      have d2 := hR.cell (j := 2) rfl
      have d3 := hR.cell (j := 3) rfl
      have d4 := hR.cell (j := 4) rfl
      have d5 := hR.cell (j := 5) rfl
      have d6 := hR.cell (j := 6) rfl
      have d7 := hR.cell (j := 7) rfl
      have f0 := hR.frozen 0
      have f1 := hR.frozen 1
      have f2 := hR.frozen 2
      have f3 := hR.frozen 3
      have f4 := hR.frozen 4
      have f5 := hR.frozen 5
      have f6 := hR.frozen 6
      have f7 := hR.frozen 7
      have HR := Lib.hid hR
      have hlt1 := hR.lt
      clear hT hT2 hR
      go_wp2
      refine bodyPost_ret (v := .agg #[.int .i64 a0, .int .i64 a1, .int .i64 a2, .int .i64 a3, .int .i64 a4, .int .i64 a5, .int .i64 a6, .int .i64 a7]) (by simp [results, Try.results80, go_sem, d0, d1, d2, d3, d4, d5, d6, d7]) rfl ?_
      exact ⟨rfl, (by repeat' (first | (with_reducible exact Below.refl _ _) | (with_reducible assumption) | (with_reducible refine below_step (by assumption) ?_) | (with_reducible refine below_alloc ?_ _) | (with_reducible refine Below.drew ?_) | (with_reducible refine below_drewN ?_ _) | (with_reducible refine Below.setCell ?_ ?_ _) | go_size))⟩
end Go.Proofs.Ytfbnpnajpkhkdaa
