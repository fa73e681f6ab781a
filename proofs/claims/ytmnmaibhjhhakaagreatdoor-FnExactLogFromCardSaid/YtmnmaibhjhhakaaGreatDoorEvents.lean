/-
  Valid events, with different ids: what the reference's and the program's functions return, for every slice of events. No condition.
-/
import Derived.Test.YtmnmaibhjhhakaaGreatDoorBunT
import Derived.Test.YtmnmaibhjhhakaaGreatDoorEvent
namespace Go.Proofs.YtmnmaibhjhhakaaGreatDoor
open Go.ChangeShapes Go.WideShapes Go.ChangeAt Go.RowKit

def evOk (x : Int × ByteArray × Int) : Bool := eventB x.1 x.2.1 x.2.2
/-- Valid events, whose ids are none of those before. -/
def evs (pre : List (Int × ByteArray × Int)) : List (Int × ByteArray × Int) → Bool
  | [] => true
  | x :: xs => evOk x && decide (x.1 ∉ pre.map (·.1)) && evs (pre ++ [x]) xs
def eventsB (xs : List (Int × ByteArray × Int)) : Bool := decide (xs.length ≤ 24) && evs [] xs
theorem evs_step {xs : List (Int × ByteArray × Int)} {k : Nat} {x : Int × ByteArray × Int} (hx : xs[k]? = some x) (h : evs [] xs = evs (xs.take k) (xs.drop k)) :
    evs [] xs = (evOk x && decide (x.1 ∉ (xs.take k).map (·.1)) && evs (xs.take (k + 1)) (xs.drop (k + 1))) := by
  rw [h, drop_of hx, evs, take_succ_of hx]
theorem evs_bad {xs : List (Int × ByteArray × Int)} {k : Nat} {x : Int × ByteArray × Int} (hx : xs[k]? = some x) (h : evs [] xs = evs (xs.take k) (xs.drop k)) (hb : evOk x = false) : evs [] xs = false := by
  rw [evs_step hx h, hb]; rfl
theorem evs_twice {xs : List (Int × ByteArray × Int)} {k j : Nat} {x y : Int × ByteArray × Int} (hx : xs[k]? = some x) (h : evs [] xs = evs (xs.take k) (xs.drop k)) (hy : xs[j]? = some y) (hj : j < k) (he : y.1 = x.1) : evs [] xs = false := by
  rw [evs_step hx h]
  have hm : x.1 ∈ (xs.take k).map (·.1) := by
    rw [← he]
    exact List.mem_map_of_mem (List.mem_of_getElem? (by rw [List.getElem?_take, if_pos hj]; exact hy))
  rw [decide_eq_false (fun h => h hm)]; simp
theorem evs_on {xs : List (Int × ByteArray × Int)} {k : Nat} {x : Int × ByteArray × Int} (hx : xs[k]? = some x) (h : evs [] xs = evs (xs.take k) (xs.drop k)) (hb : evOk x = true) (hn : x.1 ∉ (xs.take k).map (·.1)) : evs [] xs = evs (xs.take (k + 1)) (xs.drop (k + 1)) := by
  rw [evs_step hx h, hb, decide_eq_true hn]; rfl
theorem events_no {xs : List (Int × ByteArray × Int)} (h : evs [] xs = false) : eventsB xs = false := by unfold eventsB; rw [h]; simp
theorem not_in_succ {xs : List (Int × ByteArray × Int)} {j : Nat} {y : Int × ByteArray × Int} {v : Int} (hy : xs[j]? = some y) (h : v ∉ (xs.take j).map (·.1)) (hne : y.1 ≠ v) : v ∉ (xs.take (j + 1)).map (·.1) := by
  rw [take_succ_of hy, List.map_append, List.mem_append]
  rintro (g | g)
  · exact h g
  · simp at g; exact hne g.symm

set_option maxHeartbeats 6400000 in
theorem implEvents_any (A : Option Addr) (n c : Nat) (xs : List (Int × ByteArray × Int)) (_hn : n ≤ 1048576) (hnc : n ≤ c) (hx : xs.length = n) (hok : ∀ x ∈ xs, eventOk x) (w : World) (hL : Lies w 3 A n (xs.flatMap eventCells)) :
    Calls Tryz.prog 32 #[.slice A n c] w fun e w' => e = .returned (.bool (eventsB xs)) ∧ Below w.heap.size w w' := by
  by_cases hlim : 24 < n
  · have HE : Hid (eventsB xs = false) := Lib.hid (by unfold eventsB; rw [hx]; simp; omega)
    clear hL hx
    go_enter Tryz.func32, Tryz.ntmps32
    go_wp2
    go_ret
    exact ⟨ret_bool HE.out.symm, Below.refl _ _⟩
  have HR : Hid (eventsB xs = evs [] xs) := Lib.hid (by unfold eventsB; rw [hx]; simp; omega)
  have HX := Lib.hid hx
  have HK := Lib.hid hok
  clear hx hok
  go_enter Tryz.func32, Tryz.ntmps32
  go_wp2
  go_loopw [12] (fun i wr => ∃ k : Nat, k ≤ n ∧ i = .int .i64 k ∧ Hid (evs [] xs = evs (xs.take k) (xs.drop k)) ∧ Below w.heap.size w wr) (fun i _ => n - (intOf i).toNat)
  case atStart => exact ⟨0, Nat.zero_le _, rfl, Lib.hid rfl, Below.refl _ _⟩
  case round =>
    obtain ⟨k, hk, rfl, hT, hB⟩ := hrel
    obtain ⟨wo, rfl⟩ : ∃ wo : World, wo = wr := ⟨_, rfl⟩
    by_cases hlt : k < n
    · obtain ⟨b, o, rfl, hb, hc⟩ := (hL.below hB).row (fun _ => rfl) (by omega)
      obtain ⟨⟨x0, x1, x2⟩, hxk⟩ := get_lt HX.out hlt
      have c0 : wo.cell? ⟨b, o + k * 3, none⟩ = some (.int .i64 x0) := hc k _ hxk 0 _ rfl
      have c1 : wo.cell? ⟨b, o + k * 3 + 1, none⟩ = some (.string x1) := hc k _ hxk 1 _ rfl
      have c2 : wo.cell? ⟨b, o + k * 3 + 2, none⟩ = some (.int .i64 x2) := hc k _ hxk 2 _ rfl
      have H1 := Lib.hid (HK.out _ (List.mem_of_getElem? hxk)).2.1
      have HXK := Lib.hid hxk
      have HC := Lib.hid hc
      clear hxk hc
      cases E0 : eventB x0 x1 x2
      · have HE : Hid (eventsB xs = false) := Lib.hid (HR.out.trans (evs_bad HXK.out hT.out E0))
        go_wp2_with (go_at_call 43; refine (eventValid_any _ _ _ H1.out _).mono ?_; rintro e1 w1 ⟨rfl, hb1⟩; rw [E0])
        go_ret
        exact ⟨ret_bool HE.out.symm, (by repeat' (first | (with_reducible exact Below.refl _ _) | (with_reducible assumption) | (with_reducible refine below_step (by assumption) ?_) | (with_reducible refine below_alloc ?_ _) | (with_reducible refine Below.drew ?_) | (with_reducible refine below_drewN ?_ _) | (with_reducible refine Below.setCell ?_ ?_ _) | go_size))⟩
      · go_wp2_with fail
        refine (eventValid_any _ _ _ H1.out _).mono ?_
        rintro e1 w1 ⟨rfl, hb1⟩
        rw [E0]
        have hB1 : Below w.heap.size w w1 := (by repeat' (first | (with_reducible exact Below.refl _ _) | (with_reducible assumption) | (with_reducible refine below_step (by assumption) ?_) | (with_reducible refine below_alloc ?_ _) | (with_reducible refine Below.drew ?_) | (with_reducible refine below_drewN ?_ _) | (with_reducible refine Below.setCell ?_ ?_ _) | go_size))
        have e0 := box_cell hb1 (b := wo.heap.size) (o := 0) (u := .int .i64 x0) (by go_cell)
        have hbo : Below wo.heap.size wo w1 := below_step hb1 (below_alloc (Below.refl _ _) _)
        have HL1 := Lib.hid (fun kk x (h : xs[kk]? = some x) j u (hu : (eventCells x)[j]? = some u) => box_cell hbo (HC.out kk x h j u hu))
        have HE0 := Lib.hid E0
        have hkc : k ≤ c := by omega
        clear c0 c1 c2 hB hb1 E0 hbo
        go_wp2
        go_loopw [24] (fun i wr => ∃ j : Nat, j ≤ k ∧ i = .int .i64 j ∧ Hid (x0 ∉ (xs.take j).map (·.1)) ∧ Below w1.heap.size w1 wr) (fun i _ => k - (intOf i).toNat)
        case atStart => exact ⟨0, Nat.zero_le _, rfl, Lib.hid (by simp), Below.refl _ _⟩
        case round =>
          obtain ⟨j, hj, rfl, hN, hBj⟩ := hrel
          have f0 := box_cell hBj e0
          by_cases hjk : j < k
          · obtain ⟨⟨y0, y1, y2⟩, hyj⟩ := get_lt HX.out (show j < n by omega)
            have d0 : wr.cell? ⟨b, o + j * 3, none⟩ = some (.int .i64 y0) := box_cell hBj (HL1.out j _ hyj 0 _ rfl)
            have d1 : wr.cell? ⟨b, o + j * 3 + 1, none⟩ = some (.string y1) := box_cell hBj (HL1.out j _ hyj 1 _ rfl)
            have d2 : wr.cell? ⟨b, o + j * 3 + 2, none⟩ = some (.int .i64 y2) := box_cell hBj (HL1.out j _ hyj 2 _ rfl)
            have g0 : (wr.alloc (.cells #[.int .i64 y0, .string y1, .int .i64 y2] 30)).cell? ⟨wo.heap.size, 0, none⟩ = some (.int .i64 x0) := box_cell (below_alloc (Below.refl _ _) _) f0
            by_cases he : y0 = x0
            · have HE : Hid (eventsB xs = false) := Lib.hid (HR.out.trans (evs_twice HXK.out hT.out hyj hjk he))
              have E : (y0 == x0) = true := by simp [he]
              clear he hyj
              go_wp2
              go_ret
              exact ⟨ret_bool HE.out.symm, (by repeat' (first | (with_reducible exact Below.refl _ _) | (with_reducible assumption) | (with_reducible refine below_step (by assumption) ?_) | (with_reducible refine below_alloc ?_ _) | (with_reducible refine Below.drew ?_) | (with_reducible refine below_drewN ?_ _) | (with_reducible refine Below.setCell ?_ ?_ _) | go_size))⟩
            · have HE := Lib.hid (not_in_succ hyj hN.out he)
              have E : (y0 == x0) = false := by simp [he]
              clear he hyj
              go_wp2
              go_roundw
              case rel => exact ⟨j + 1, by omega, by go_num, HE, (by repeat' (first | (with_reducible exact Below.refl _ _) | (with_reducible assumption) | (with_reducible refine below_step (by assumption) ?_) | (with_reducible refine below_alloc ?_ _) | (with_reducible refine Below.drew ?_) | (with_reducible refine below_drewN ?_ _) | (with_reducible refine Below.setCell ?_ ?_ _) | go_size))⟩
              case measure => simp [intOf]; omega
          · have HE := Lib.hid (evs_on HXK.out hT.out HE0.out (by have := hN.out; rwa [show j = k from by omega] at this))
            go_wp2
            go_roundw
            case rel => exact ⟨k + 1, by omega, by go_num, HE, (by repeat' (first | (with_reducible exact Below.refl _ _) | (with_reducible assumption) | (with_reducible refine below_step (by assumption) ?_) | (with_reducible refine below_alloc ?_ _) | (with_reducible refine Below.drew ?_) | (with_reducible refine below_drewN ?_ _) | (with_reducible refine Below.setCell ?_ ?_ _) | go_size))⟩
            case measure => simp [intOf]; omega
    · have HE : Hid (eventsB xs = true) := Lib.hid (by
        rw [HR.out, hT.out, List.drop_of_length_le (by rw [HX.out]; omega)]; rfl)
      go_wp2
      go_ret
      exact ⟨ret_bool HE.out.symm, (by repeat' (first | (with_reducible exact Below.refl _ _) | (with_reducible assumption) | (with_reducible refine below_step (by assumption) ?_) | (with_reducible refine below_alloc ?_ _) | (with_reducible refine Below.drew ?_) | (with_reducible refine below_drewN ?_ _) | (with_reducible refine Below.setCell ?_ ?_ _) | go_size))⟩
end Go.Proofs.YtmnmaibhjhhakaaGreatDoor
