/-
  How often rows have a position, as the reference counts it. For every readable slice of rows. No condition.
-/
import Derived.Test.YtkianldpmlbgcaaTRow
namespace Go.Proofs.Ytkianldpmlbgcaa
open Go.ChangeShapes Go.WideShapes Go.ChangeAt Go.RowKit

/-- How often rows have a position. -/
def manyN (xs : List RowX) (p : Int) : Nat := (xs.flatMap (·.zs)).count p
theorem many_succ {xs : List RowX} {k : Nat} {x : RowX} (h : xs[k]? = some x) (p : Int) : manyN (xs.take (k + 1)) p = manyN (xs.take k) p + x.zs.count p := by
  unfold manyN
  rw [take_succ_of h, List.flatMap_append, List.count_append]
  simp
theorem count_succ {zs : List Int} {j : Nat} {z : Int} (h : zs[j]? = some z) (p : Int) : (zs.take (j + 1)).count p = (zs.take j).count p + if z = p then 1 else 0 := by
  rw [take_succ_of h, List.count_append, List.count_singleton]
  by_cases e : z = p <;> simp [e]
theorem count_take_le (zs : List Int) (j : Nat) (p : Int) : (zs.take j).count p ≤ j := Nat.le_trans List.count_le_length (by simp; omega)

set_option maxHeartbeats 3200000 in
theorem l22Many_any (A : Option Addr) (n c : Nat) (xs : List RowX) (hn : n ≤ 1048576) (hx : xs.length = n) (p : Int) (w : World) (ox : ∀ x ∈ xs, RowOk w x ∧ RowFit x) (hL : Lies w 2 A n (xs.flatMap rowCells)) :
    Calls Try.prog 33 #[.slice A n c, .int .i64 p] w fun e w' => e = .returned (.int .i64 (manyN xs p)) ∧ w = w' := by
  have OX := Lib.hid ox
  clear ox
  go_enter Try.func33, Try.ntmps33
  go_wp2
  go_loop [5, 6, 7] (fun m i _ => ∃ (k t : Nat), k ≤ n ∧ i = .int .i64 k ∧ m = .int .i64 t ∧ t ≤ k * 1048576 ∧ Hid (manyN (xs.take k) p = t)) (fun _ i _ => n - (intOf i).toNat)
  case atStart => exact ⟨0, 0, Nat.zero_le _, rfl, rfl, by omega, Lib.hid (by simp [manyN])⟩
  case round =>
    obtain ⟨k, t, hk, rfl, rfl, ht, hM⟩ := hrel
    by_cases hlt : k < n
    · obtain ⟨b, o, rfl, hb, hc⟩ := hL.row (fun _ => rfl) (by omega)
      obtain ⟨x, hxk⟩ := get_lt hx hlt
      have c1 : w.cell? ⟨b, o + k * 2 + 1, none⟩ = some (.slice x.A x.n x.c) := hc k _ hxk 1 _ rfl
      obtain ⟨KX, FX⟩ := OX.out _ (List.mem_of_getElem? hxk)
      have hxn : x.n ≤ 1048576 := FX.2
      have HS := Lib.hid (many_succ hxk p)
      have HKX := Lib.hid KX
      clear hxk hc KX FX
      go_wp2
      go_loop [5, 7] (fun m i => ∃ (j s : Nat), j ≤ x.n ∧ i = .int .i64 j ∧ m = .int .i64 s ∧ s ≤ t + j ∧ Hid (t + (x.zs.take j).count p = s)) (fun _ i => x.n - (intOf i).toNat)
      case atStart => exact ⟨0, t, Nat.zero_le _, rfl, rfl, by omega, Lib.hid (by simp)⟩
      case round =>
        obtain ⟨j, s, hj, rfl, rfl, hs, hC⟩ := hrel
        by_cases hlt2 : j < x.n
        · obtain ⟨b2, o2, hA2, hb2, hc2⟩ := HKX.out.lies.2 (by omega)
          obtain ⟨z, hz⟩ := get_lt HKX.out.len hlt2
          have d0 : w.cell? ⟨b2, o2 + j, none⟩ = some (.int .i64 z) := hc2 j _ (by simp [hz])
          have HA := Lib.hid hA2
          have c2 : w.cell? ⟨b, o + k * 2 + 1, none⟩ = some (.slice (some ⟨b2, o2, none⟩) x.n x.c) := by rw [← HA.out]; exact c1
          have HZ := Lib.hid (count_succ hz p)
          clear hz hA2 hc2 c1
          by_cases he : z = p
          · have HC2 := Lib.hid (show t + (x.zs.take (j + 1)).count p = s + 1 by rw [HZ.out, if_pos he, ← hC.out]; omega)
            have E : (z == p) = true := by simp [he]
            clear he
            go_wp2
            go_round
            case rel => exact ⟨j + 1, s + 1, by omega, by go_num, by go_num, by omega, HC2⟩
            case measure => simp [intOf]; omega
          · have HC2 := Lib.hid (show t + (x.zs.take (j + 1)).count p = s by rw [HZ.out, if_neg he, ← hC.out]; omega)
            have E : (z == p) = false := by simp [he]
            clear he
            go_wp2
            go_round
            case rel => exact ⟨j + 1, s, by omega, by go_num, rfl, by omega, HC2⟩
            case measure => simp [intOf]; omega
        · have HT := Lib.hid (show manyN (xs.take (k + 1)) p = s by
            have h := hC.out
            rw [List.take_of_length_le (by have := HKX.out.len; omega)] at h
            rw [HS.out, hM.out, h])
          have hs2 : s ≤ (k + 1) * 1048576 := by omega
          go_wp2
          go_round
          case rel => exact ⟨k + 1, s, by omega, by go_num, rfl, hs2, HT⟩
          case measure => simp [intOf]; omega
    · have HT := Lib.hid (show manyN xs p = t by
        have h := hM.out
        rw [List.take_of_length_le (by omega)] at h
        exact h)
      go_wp2
      go_ret
      exact ⟨by rw [HT.out]; rfl, rfl⟩
end Go.Proofs.Ytkianldpmlbgcaa
