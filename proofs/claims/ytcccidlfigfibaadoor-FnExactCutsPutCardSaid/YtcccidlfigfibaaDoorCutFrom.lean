/-
  From which version on the events of a stream are kept: of the reference and of the program. No condition.
-/
import Derived.Test.YtcccidlfigfibaaDoorCutsS
namespace Go.Proofs.YtcccidlfigfibaaDoor
open Go.ChangeShapes Go.WideShapes Go.ChangeAt Go.RowKit

def fromI : List (ByteArray × Int) → ByteArray → Int
  | [], _ => 0
  | x :: xs, s => if x.1 = s then x.2 else fromI xs s
theorem from_step {xs : List (ByteArray × Int)} {k : Nat} {x : ByteArray × Int} (s : ByteArray) (hx : xs[k]? = some x) : fromI (xs.drop k) s = if x.1 = s then x.2 else fromI (xs.drop (k + 1)) s := by rw [drop_of hx, fromI]
theorem from_end {xs : List (ByteArray × Int)} {k : Nat} (s : ByteArray) (h : xs.length ≤ k) : fromI (xs.drop k) s = 0 := by rw [List.drop_of_length_le h, fromI]

set_option maxHeartbeats 3200000 in
theorem specFrom_any (A : Option Addr) (n c : Nat) (xs : List (ByteArray × Int)) (s : ByteArray) (hn : n ≤ 1048576) (hx : xs.length = n) (w : World) (hL : Lies w 2 A n (xs.flatMap cutCells)) :
    Calls Tryd.prog 56 #[.slice A n c, .string s] w fun e w' => e = .returned (.int .i64 (fromI xs s)) ∧ Below w.heap.size w w' := by
  have HX := Lib.hid hx
  clear hx
  go_enter Tryd.func56, Tryd.ntmps56
  go_wp2
  go_loopw [5] (fun i wr => ∃ k : Nat, k ≤ n ∧ i = .int .i64 k ∧ Hid (fromI xs s = fromI (xs.drop k) s) ∧ Below w.heap.size w wr) (fun i _ => n - (intOf i).toNat)
  case atStart => exact ⟨0, Nat.zero_le _, rfl, Lib.hid rfl, Below.refl _ _⟩
  case round =>
    obtain ⟨k, hk, rfl, hT, hB⟩ := hrel
    by_cases hlt : k < n
    · obtain ⟨b, o, rfl, hb, hc⟩ := (hL.below hB).row (fun _ => rfl) (by omega)
      obtain ⟨⟨x0, x1⟩, hxk⟩ := get_lt HX.out hlt
      have c0 : wr.cell? ⟨b, o + k * 2, none⟩ = some (.string x0) := hc k _ hxk 0 _ rfl
      have c1 : wr.cell? ⟨b, o + k * 2 + 1, none⟩ = some (.int .i64 x1) := hc k _ hxk 1 _ rfl
      have HS := Lib.hid (from_step s hxk)
      clear hxk hc
      by_cases he : x0 = s
      · have E : (x0.toList == s.toList) = true := by simp [he]
        have HE := Lib.hid (show fromI xs s = x1 by rw [hT.out, HS.out, if_pos he])
        clear he
        go_wp2
        go_ret
        exact ⟨by rw [HE.out]; rfl, (by repeat' (first | (with_reducible exact Below.refl _ _) | (with_reducible assumption) | (with_reducible refine below_step (by assumption) ?_) | (with_reducible refine below_alloc ?_ _) | (with_reducible refine Below.drew ?_) | (with_reducible refine below_drewN ?_ _) | (with_reducible refine Below.setCell ?_ ?_ _) | go_size))⟩
      · have E : (x0.toList == s.toList) = false := str_ne he
        have HE := Lib.hid (show fromI xs s = fromI (xs.drop (k + 1)) s by rw [hT.out, HS.out, if_neg he])
        clear he
        go_wp2
        go_roundw
        case rel => exact ⟨k + 1, by omega, by go_num, HE, (by repeat' (first | (with_reducible exact Below.refl _ _) | (with_reducible assumption) | (with_reducible refine below_step (by assumption) ?_) | (with_reducible refine below_alloc ?_ _) | (with_reducible refine Below.drew ?_) | (with_reducible refine below_drewN ?_ _) | (with_reducible refine Below.setCell ?_ ?_ _) | go_size))⟩
        case measure => simp [intOf]; omega
    · have HE := Lib.hid (show fromI xs s = 0 by rw [hT.out, from_end s (by rw [HX.out]; omega)])
      go_wp2
      go_ret
      exact ⟨by rw [HE.out]; rfl, (by repeat' (first | (with_reducible exact Below.refl _ _) | (with_reducible assumption) | (with_reducible refine below_step (by assumption) ?_) | (with_reducible refine below_alloc ?_ _) | (with_reducible refine Below.drew ?_) | (with_reducible refine below_drewN ?_ _) | (with_reducible refine Below.setCell ?_ ?_ _) | go_size))⟩

set_option maxHeartbeats 3200000 in
theorem cutOf_any (A : Option Addr) (n c : Nat) (xs : List (ByteArray × Int)) (s : ByteArray) (hn : n ≤ 1048576) (hx : xs.length = n) (w : World) (hL : Lies w 2 A n (xs.flatMap cutCells)) :
    Calls Tryd.prog 59 #[.slice A n c, .string s] w fun e w' => ∃ p, e = .returned (.pointer p) ∧ ((p = none ∧ fromI xs s = 0) ∨ ∃ b o, p = some ⟨b, o, none⟩ ∧ w'.cell? ⟨b, o + 1, none⟩ = some (.int .i64 (fromI xs s))) ∧ Below w.heap.size w w' := by
  have HX := Lib.hid hx
  clear hx
  go_enter Tryd.func59, Tryd.ntmps59
  go_wp2
  go_loopw [8] (fun i wr => ∃ k : Nat, k ≤ n ∧ i = .int .i64 k ∧ Hid (fromI xs s = fromI (xs.drop k) s) ∧ Below w.heap.size w wr) (fun i _ => n - (intOf i).toNat)
  case atStart => exact ⟨0, Nat.zero_le _, rfl, Lib.hid rfl, Below.refl _ _⟩
  case round =>
    obtain ⟨k, hk, rfl, hT, hB⟩ := hrel
    by_cases hlt : k < n
    · obtain ⟨b, o, rfl, hb, hc⟩ := (hL.below hB).row (fun _ => rfl) (by omega)
      obtain ⟨⟨x0, x1⟩, hxk⟩ := get_lt HX.out hlt
      have c0 : wr.cell? ⟨b, o + k * 2, none⟩ = some (.string x0) := hc k _ hxk 0 _ rfl
      have c1 : wr.cell? ⟨b, o + k * 2 + 1, none⟩ = some (.int .i64 x1) := hc k _ hxk 1 _ rfl
      have HS := Lib.hid (from_step s hxk)
      clear hxk hc
      by_cases he : x0 = s
      · have E : (x0.toList == s.toList) = true := by simp [he]
        have HE := Lib.hid (show fromI xs s = x1 by rw [hT.out, HS.out, if_pos he])
        have HC := Lib.hid c1
        clear he
        go_wp2
        go_ret
        exact ⟨_, rfl, .inr ⟨b, o + k * 2, rfl, by rw [HE.out]; exact HC.out⟩, (by repeat' (first | (with_reducible exact Below.refl _ _) | (with_reducible assumption) | (with_reducible refine below_step (by assumption) ?_) | (with_reducible refine below_alloc ?_ _) | (with_reducible refine Below.drew ?_) | (with_reducible refine below_drewN ?_ _) | (with_reducible refine Below.setCell ?_ ?_ _) | go_size))⟩
      · have E : (x0.toList == s.toList) = false := str_ne he
        have HE := Lib.hid (show fromI xs s = fromI (xs.drop (k + 1)) s by rw [hT.out, HS.out, if_neg he])
        clear he
        go_wp2
        go_roundw
        case rel => exact ⟨k + 1, by omega, by go_num, HE, (by repeat' (first | (with_reducible exact Below.refl _ _) | (with_reducible assumption) | (with_reducible refine below_step (by assumption) ?_) | (with_reducible refine below_alloc ?_ _) | (with_reducible refine Below.drew ?_) | (with_reducible refine below_drewN ?_ _) | (with_reducible refine Below.setCell ?_ ?_ _) | go_size))⟩
        case measure => simp [intOf]; omega
    · have HE := Lib.hid (show fromI xs s = 0 by rw [hT.out, from_end s (by rw [HX.out]; omega)])
      go_wp2
      go_ret
      exact ⟨_, rfl, .inl ⟨rfl, HE.out⟩, (by repeat' (first | (with_reducible exact Below.refl _ _) | (with_reducible assumption) | (with_reducible refine below_step (by assumption) ?_) | (with_reducible refine below_alloc ?_ _) | (with_reducible refine Below.drew ?_) | (with_reducible refine below_drewN ?_ _) | (with_reducible refine Below.setCell ?_ ?_ _) | go_size))⟩

/-- Where the cuts are right it is a number of a version, or none. -/
theorem from_small : ∀ (xs : List (ByteArray × Int)) (p : Option ByteArray) (s : ByteArray), cutsFrom p xs = true → 0 ≤ fromI xs s ∧ fromI xs s ≤ 24
  | [], _, _, _ => by simp [fromI]
  | x :: xs, p, s, h => by
    unfold cutsFrom at h
    unfold sortedBy at h
    simp only [Bool.and_eq_true] at h
    obtain ⟨⟨h1, _⟩, h2⟩ := h
    have hb : inB x.2 1 24 = true := by unfold cutB at h1; rw [Bool.and_eq_true] at h1; exact h1.2
    obtain ⟨b1, b2⟩ := inB_iff.1 hb
    rw [fromI]
    split
    · omega
    · exact from_small xs (some x.1) s h2
theorem cutS_okL {left : Int} {n : Nat} {xs : List (ByteArray × Int)} (hl : left ≤ 1048576) (h : 0 ≤ szR left n (xs.flatMap cutTexts)) (hok : ∀ x ∈ xs, cutOk x) : ∀ x ∈ xs, cutSOk x := fun x hx => by
  refine ⟨(hok x hx).2, ?_⟩
  unfold szR at h
  split at h
  · omega
  · have := szT_mem _ _ (by omega) h x.1 (List.mem_flatMap.2 ⟨x, hx, by simp [cutTexts]⟩)
    omega
end Go.Proofs.YtcccidlfigfibaaDoor
