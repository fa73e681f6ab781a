/-
  StoreFind of the reference and of the program. No condition beyond what the rows list.
-/
import Derived.Test.YtjloonjkplaplaaDoorIds
namespace Go.Proofs.YtjloonjkplaplaaDoor
open Go.ChangeShapes Go.WideShapes Go.ChangeAt Go.RowKit Go.Maps

theorem ent_parts' {x : EnT} (h : entB x = true) : evOk x.2 = true := by
  unfold entB at h
  rw [Bool.and_eq_true] at h
  exact h.2
def hasIds (ids : List Nat) (z : Int) : Bool := inB z 1 9999 && decide (z.toNat ∈ ids)

set_option maxHeartbeats 3200000 in
theorem idsHas_any (g : Nat) (ids : List Nat) (z : Int) (w : World) (h : RowIs w g 64 (idsV ids)) :
    Calls Tryd.prog 41 #[.pointer (some ⟨g, 0, none⟩), .int .i64 z] w fun e w' => e = .returned (.bool (hasIds ids z)) ∧ Below w.heap.size w w' := by
  by_cases h1 : z < 1
  · have HE := Lib.hid (show hasIds ids z = false by unfold hasIds; rw [inB_f (by omega)]; rfl)
    have e1 : decide ((1 : Int) ≤ z) = false := by simp; omega
    have e2 : ¬ (1 : Int) ≤ z := by omega
    clear h
    go_enter Tryd.func41, Tryd.ntmps41
    go_wp2_with fail
    go_quiet (fail)
    go_wp2
    go_ret
    exact ⟨ret_bool HE.out.symm, (by repeat' (first | (with_reducible exact Below.refl _ _) | (with_reducible assumption) | (with_reducible refine below_step (by assumption) ?_) | (with_reducible refine below_alloc ?_ _) | (with_reducible refine Below.drew ?_) | (with_reducible refine below_drewN ?_ _) | (with_reducible refine Below.setCell ?_ ?_ _) | go_size))⟩
  by_cases h2 : 9999 < z
  · have HE := Lib.hid (show hasIds ids z = false by unfold hasIds; rw [inB_f (by omega)]; rfl)
    have e1 : decide ((1 : Int) ≤ z) = true := by simp; omega
    have e2 : (1 : Int) ≤ z := by omega
    have e3 : decide (z ≤ (9999 : Int)) = false := by simp; omega
    have e4 : ¬ z ≤ (9999 : Int) := by omega
    clear h
    go_enter Tryd.func41, Tryd.ntmps41
    go_wp2_with fail
    go_quiet (fail)
    go_wp2
    go_ret
    exact ⟨ret_bool HE.out.symm, (by repeat' (first | (with_reducible exact Below.refl _ _) | (with_reducible assumption) | (with_reducible refine below_step (by assumption) ?_) | (with_reducible refine below_alloc ?_ _) | (with_reducible refine Below.drew ?_) | (with_reducible refine below_drewN ?_ _) | (with_reducible refine Below.setCell ?_ ?_ _) | go_size))⟩
  obtain ⟨n, rfl⟩ := Int.eq_ofNat_of_zero_le (show (0 : Int) ≤ z by omega)
  have e1 : decide ((1 : Int) ≤ (n : Int)) = true := by simp; omega
  have e2 : (1 : Int) ≤ (n : Int) := by omega
  have e3 : decide ((n : Int) ≤ (9999 : Int)) = true := by simp; omega
  have e4 : (n : Int) ≤ (9999 : Int) := by omega
  have e5 : 1 ≤ n := by omega
  have e6 : n ≤ 9999 := by omega
  have hb := bit_has ids n
  have HV := Lib.hid (show hasIds ids (n : Int) = decide (n ∈ ids) by unfold hasIds; rw [inB_t ⟨by omega, by omega⟩]; simp)
  obtain ⟨q, hq⟩ : ∃ q, q = n / 64 := ⟨_, rfl⟩
  obtain ⟨r, hr⟩ : ∃ r, r = n % 64 := ⟨_, rfl⟩
  obtain ⟨p, hp⟩ : ∃ p, p = 2 ^ r := ⟨_, rfl⟩
  obtain ⟨u, hu⟩ : ∃ u, u = bitW ids q := ⟨_, rfl⟩
  obtain ⟨x, hx⟩ : ∃ x, x = u &&& p := ⟨_, rfl⟩
  rw [← hq, ← hr, ← hp, ← hu, ← hx] at hb
  have hp64 : p < 18446744073709551616 := by rw [hp, hr]; exact two_lt n
  have hu64 : u < 18446744073709551616 := by rw [hu]; exact bitW_lt ids q
  have b1 : bits .and .u64 (u : Int) (p : Int) = (x : Int) := by rw [bits_and_u64_nat u p hu64 hp64, hx]
  have s1 : IntKind.u64.wrap ((2 : Int) ^ r) = (p : Int) := by
    have e : ((2 : Int) ^ r) = ((p : Nat) : Int) := by rw [hp]; push_cast; rfl
    rw [e]
    exact IntWalk.u64_in _ ⟨by omega, by omega⟩
  have d1 : ((n : Nat) : Int).tdiv 64 = (q : Int) := by rw [Int.tdiv_eq_ediv_of_nonneg (by omega)]; omega
  have d2 : ((n : Nat) : Int).tmod 64 = (r : Int) := by rw [Int.tmod_eq_emod_of_nonneg (by omega)]; omega
  have d3 : IntKind.i64.wrap (q : Int) = (q : Int) := IntWalk.i64_in _ ⟨by omega, by omega⟩
  have d4 : IntKind.i64.wrap (r : Int) = (r : Int) := IntWalk.i64_in _ ⟨by omega, by omega⟩
  have q1 : q < 157 := by omega
  have q2 : (q : Int) < 157 := by omega
  have q3 : (0 : Int) ≤ (q : Int) := by omega
  have r1 : (0 : Int) ≤ (r : Int) := by omega
  have r2 : (r : Int) ≤ 64 := by omega
  have r3 : r < 64 := by omega
  have u0 : w.cell? ⟨g, q, none⟩ = some (.int .u64 (u : Int)) := h.cell (by rw [idsV_get _ q1, hu])
  clear hq hr hp hu hx h
  by_cases hxz : x = 0
  · have HE := Lib.hid (show hasIds ids (n : Int) = false by rw [HV.out]; simp [hb.1 hxz])
    have f1 : ((x : Int) == 0) = true := by simp [hxz]
    have f2 : ((x : Int) != 0) = false := by simp [hxz]
    clear hxz hb
    go_enter Tryd.func41, Tryd.ntmps41
    go_wp2_with fail
    go_quiet (fail)
    go_wp2
    go_ret
    exact ⟨ret_bool (by rw [HE.out]), (by repeat' (first | (with_reducible exact Below.refl _ _) | (with_reducible assumption) | (with_reducible refine below_step (by assumption) ?_) | (with_reducible refine below_alloc ?_ _) | (with_reducible refine Below.drew ?_) | (with_reducible refine below_drewN ?_ _) | (with_reducible refine Below.setCell ?_ ?_ _) | go_size))⟩
  · have HE := Lib.hid (show hasIds ids (n : Int) = true by rw [HV.out]; simpa using fun h' => hxz (hb.2 h'))
    have f1 : ((x : Int) == 0) = false := by simp [hxz]
    have f2 : ((x : Int) != 0) = true := by simp [hxz]
    clear hxz hb
    go_enter Tryd.func41, Tryd.ntmps41
    go_wp2_with fail
    go_quiet (fail)
    go_wp2
    go_ret
    exact ⟨ret_bool (by rw [HE.out]), (by repeat' (first | (with_reducible exact Below.refl _ _) | (with_reducible assumption) | (with_reducible refine below_step (by assumption) ?_) | (with_reducible refine below_alloc ?_ _) | (with_reducible refine Below.drew ?_) | (with_reducible refine below_drewN ?_ _) | (with_reducible refine Below.setCell ?_ ?_ _) | go_size))⟩

end Go.Proofs.YtjloonjkplaplaaDoor
