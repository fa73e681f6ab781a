/-
  The program's iterator over a store's entries from a position on: what it hands to the body of a loop. No condition.
-/
import Derived.Test.YtcccidlfigfibaaDoorBunS
import Derived.RangeFuncNested
import Derived.RangeFuncBound
import Derived.RangeFuncCalls
import Derived.RangeFuncLeaves
import Derived.Shelf.Abstract
import Derived.Shelf.RegionOpen
import Derived.WalkKit
import Derived.OwnWalkIn
import Derived.TacticsInMore
import Derived.LoopNIn
import Derived.LoopIn
namespace Go.Proofs.YtcccidlfigfibaaDoor
open Go.RowKit Go.Shelf Go.ChangeShapes Go.WideShapes Go.ChangeAt

attribute [local go_sem] Oper.semAt_some

abbrev EntIx (xs : List EnT) := { j : Nat // j < xs.length }
def entV (x : EnT) : Value := .agg #[.string x.1, .int .i64 x.2.1, .string x.2.2.1, .int .i64 x.2.2.2]
def ixV (xs : List EnT) (j : EntIx xs) : Array Value := #[.int .i64 (j.1 : Int), entV (xs[j.1]'j.2)]
/-- What a round keeps: what lies below B, and the box Bl. -/
def KpL (B Bl : Nat) (W W' : World) : Prop := Below B W W' ∧ ∀ v, Boxed W Bl 28 v → Boxed W' Bl 28 v
theorem KpL.t {B Bl : Nat} {X Y Z : World} (h : KpL B Bl X Y) (k : KpL B Bl Y Z) : KpL B Bl X Z := ⟨h.1.trans k.1, fun v b => k.2 v (h.2 v b)⟩
theorem KpL.b {B Bl : Nat} {w : World} (hB : B ≤ w.heap.size) (W : World) (l : Nat) (o o' : Obj) (hl : w.heap.size ≤ l) (h : W.heap[l]? = some o) (hc : o.isCells = false) (hw : o.isWalk = false) : KpL B Bl W (W.putObj l o') :=
  ⟨belowK_b hB W l o o' hl h hc hw, fun v b => boxed_own Bl 28 (fun (_ : Unit) => v) () W _ (some l) b (grownBy_putObj' W l o') (fun r e => by cases e; exact ⟨o, h, hc⟩)⟩
theorem KpL.refl (B Bl : Nat) (W : World) : KpL B Bl W W := ⟨Below.refl _ _, fun _ h => h⟩
theorem keeps_below {W W' : World} (h : Below W.heap.size W W') : KeepsOthers W W' := ⟨h.size, fun k _ hk _ => (h.block k (Array.getElem?_eq_some_iff.1 hk).1).trans hk⟩
theorem boxed_below {W W' : World} {B : Nat} {t : TypeId} {v : Value} (h : Boxed W B t v) (hb : Below W.heap.size W W') : Boxed W' B t v := (hb.block B h.lt).trans h
theorem KpL.below {B Bl : Nat} {W W' : World} (hB : B ≤ W.heap.size) (h : Below W.heap.size W W') : KpL B Bl W W' := ⟨h.mono hB, fun _ b => boxed_below b h⟩

set_option maxRecDepth 100000 in
set_option maxHeartbeats 4000000 in
/-- The closure: for every loop body that keeps what lay below n₀, and the box of the list. -/
theorem from1_in (F : Fence) (n : Nat) (h7 : F.fn 71) (hro : F.round = none) (hn : 1 ≤ n) (l Bl Bf n₀ len cap p : Nat) (A : Option Addr) (xs : List EnT) (hx : xs.length = len) (hlen : len ≤ 1048576) (hp : p ≤ 1048576) (J Jx : List (EntIx xs) → World → Prop)
    (hY : ∀ pre x W, J pre W → pre.length < len → YieldAt F (n - 1) Tryd.prog l (ixV xs x) W fun e W' =>
      (e = .returned (.bool true) ∧ J (pre ++ [x]) W' ∧ KpL n₀ Bl W W') ∨ (e = .returned (.bool false) ∧ Jx (pre ++ [x]) W'))
    (W : World) (hBl : Boxed W Bl 28 (.slice A len cap)) (hBf : Boxed W Bf 3 (.int .i64 p))
    (hc : ∀ k, k < len → ∃ b o, A = some ⟨b, o, none⟩ ∧ b < n₀ ∧ ∀ x, xs[k]? = some x → ∀ i u, (entryCells x)[i]? = some u → W.cell? ⟨b, o + k * 4 + i, none⟩ = some u) (h0 : J [] W) :
    CallsIn F n Tryd.prog 71 #[.func (.yield l) #[] #[], .pointer (some ⟨Bf, 0, none⟩), .pointer (some ⟨Bl, 0, none⟩)] W fun e W' => (∃ v, e = .returned v) ∧
      ((∃ ys : List (EntIx xs), ys.map (·.1) = List.range' p (len - p) ∧ J ys W') ∨ (∃ pre : List (EntIx xs), (∃ k, p ≤ k ∧ k ≤ len ∧ pre.map (·.1) = List.range' p (k - p)) ∧ Jx pre W')) := by
  have cBf := hBf.cell
  have HX := Lib.hid hx
  refine callsIn_of_wp Tryd.func71 rfl h7 ?_ hro
  simp only [Tryd.ntmps71, List.size_toArray, List.length_cons, List.length_nil, Nat.reduceAdd, Nat.reduceSub, Array.replicate_succ, Array.replicate_zero, List.push_toArray, List.append_toArray, List.nil_append, List.cons_append]
  gi_wp2
  gi_loopw [4] (fun i wr => ∃ (k : Nat) (pre : List (EntIx xs)), (k ≤ len ∨ k = p) ∧ p ≤ k ∧ i = .int .i64 k ∧ Hid (pre.map (·.1) = List.range' p (k - p)) ∧ J pre wr ∧ KpL n₀ Bl W wr)
    (fun i _ => len - (intOf i).toNat)
  case atStart => exact ⟨p, [], .inr rfl, Nat.le_refl _, rfl, Lib.hid (by simp), h0, KpL.refl _ _ _⟩
  case round =>
    obtain ⟨k, pre, hk, hpk, rfl, hpre, hJs, hnx⟩ := hrel
    have cBl := (hnx.2 _ hBl).cell
    by_cases hlt : k < len
    · obtain ⟨b, o, rfl, hb, hcx⟩ := hc k hlt
      obtain ⟨⟨x0, x1, x2, x3⟩, hxk⟩ := get_lt HX.out hlt
      have hkx : k < xs.length := by rw [HX.out]; exact hlt
      have hget : xs[k] = (x0, x1, x2, x3) := Option.some.inj ((List.getElem?_eq_getElem hkx).symm.trans hxk)
      obtain ⟨fn, tmps, assign, body, hy, hR⟩ := hY pre ⟨k, hkx⟩ wr hJs (by
        have h := congrArg List.length hpre.out
        simp at h
        omega)
      have q := hcx _ hxk
      have c0 : wr.cell? ⟨b, o + k * 4, none⟩ = some (.string x0) := (hnx.1.cell (p := ⟨b, o + k * 4, none⟩) hb).trans (q 0 _ rfl)
      have c1 : wr.cell? ⟨b, o + k * 4 + 1, none⟩ = some (.int .i64 x1) := (hnx.1.cell (p := ⟨b, o + k * 4 + 1, none⟩) hb).trans (q 1 _ rfl)
      have c2 : wr.cell? ⟨b, o + k * 4 + 2, none⟩ = some (.string x2) := (hnx.1.cell (p := ⟨b, o + k * 4 + 2, none⟩) hb).trans (q 2 _ rfl)
      have c3 : wr.cell? ⟨b, o + k * 4 + 3, none⟩ = some (.int .i64 x3) := (hnx.1.cell (p := ⟨b, o + k * 4 + 3, none⟩) hb).trans (q 3 _ rfl)
      simp only [ixV, entV, hget] at hy
      have HP := Lib.hid (show (pre ++ [(⟨k, hkx⟩ : EntIx xs)]).map (·.1) = List.range' p (k + 1 - p) by
        rw [List.map_append, hpre.out, show k + 1 - p = (k - p) + 1 by omega, List.range'_concat, show p + 1 * (k - p) = k by omega]; rfl)
      clear q hcx hpre hxk
      gi_wp2
      refine hR.mono ?_
      rintro e W3 (⟨rfl, hJ3, hk3⟩ | ⟨rfl, hJx3⟩)
      · gi_wp2
        go_roundw
        case rel => exact ⟨k + 1, _, .inl (by omega), by omega, by simp, HP, hJ3, hnx.t hk3⟩
        case measure => simp [intOf]; omega
      · gi_wp2
        refine bodyPost_ret (results_none rfl _ _ _) rfl ?_
        exact ⟨⟨_, rfl⟩, .inr ⟨_, ⟨k + 1, by omega, by omega, HP.out⟩, hJx3⟩⟩
    · have HP := Lib.hid (show pre.map (·.1) = List.range' p (len - p) by
        rw [hpre.out]
        rcases hk with hk | hk
        · rw [show k = len by omega]
        · rw [show k - p = 0 by omega, show len - p = 0 by omega])
      gi_wp2
      go_end0
      exact ⟨⟨_, rfl⟩, .inl ⟨_, HP.out, hJs⟩⟩

set_option maxHeartbeats 2000000 in
theorem from_in (F : Fence) (n : Nat) (h5 : F.fn 40) (hro : F.round = none) (A : Option Addr) (len cap : Nat) (p : Int) (w : World) :
    CallsIn F n Tryd.prog 40 #[.slice A len cap, .int .i64 p] w fun e w' => e = .returned (.func (.func 71) #[] #[.pointer (some ⟨w.heap.size + 1, 0, none⟩), .pointer (some ⟨w.heap.size, 0, none⟩)]) ∧ w' = (w.alloc (.cells #[.slice A len cap] 28)).alloc (.cells #[.int .i64 p] 3) := by
  refine callsIn_of_wp Tryd.func40 rfl h5 ?_ hro
  simp only [Tryd.ntmps40, List.size_toArray, List.length_cons, List.length_nil, Nat.reduceAdd, Nat.reduceSub, Array.replicate_succ, Array.replicate_zero, List.push_toArray, List.append_toArray, List.nil_append, List.cons_append]
  gi_wp2
  go_ret
  exact ⟨rfl, rfl⟩

theorem from_stops (F : Fence) (n : Nat) (h7 : F.fn 71) (hro : F.round = none) (hn : 1 ≤ n) (Bl Bf n₀ len cap p : Nat) (A : Option Addr) (xs : List EnT) (hx : xs.length = len) (hlen : len ≤ 1048576) (hp : p ≤ 1048576) (w : World)
    (hBl : Boxed w Bl 28 (.slice A len cap)) (hBf : Boxed w Bf 3 (.int .i64 p)) (hL : Lies w 4 A len (xs.flatMap entryCells)) (hA : 0 < len → ∀ b o, A = some ⟨b, o, none⟩ → b < n₀) :
    SeqStopsK F n Tryd.prog 71 #[.pointer (some ⟨Bf, 0, none⟩), .pointer (some ⟨Bl, 0, none⟩)] (ixV xs) (KpL n₀ Bl) (fun ys => ys.map (·.1) = List.range' p (len - p)) (fun pre => ∃ k, p ≤ k ∧ k ≤ len ∧ pre.map (·.1) = List.range' p (k - p)) len w := fun l J Jx W hW _ _ hY h0 =>
  from1_in F n h7 hro hn l Bl Bf n₀ len cap p A xs hx hlen hp J Jx hY W (boxed_below hBl hW) (boxed_below hBf hW)
    (fun k hk => by
      obtain ⟨b, o, e, hb, hc⟩ := (hL.below hW).row (fun _ => rfl) (show 0 < len by omega)
      exact ⟨b, o, e, hA (by omega) b o e, fun x hxk i u hu => hc k x hxk i u hu⟩) h0
end Go.Proofs.YtcccidlfigfibaaDoor
