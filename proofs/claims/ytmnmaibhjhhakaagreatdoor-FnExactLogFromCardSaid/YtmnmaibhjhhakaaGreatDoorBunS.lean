/-
  The texts StoreP StoreS StoreI StoreF StoreVer as one. No condition beyond what the rows list.
-/
import Derived.Test.YtmnmaibhjhhakaaGreatDoorStreams
import Derived.Test.YtmnmaibhjhhakaaGreatDoorBunN
import Derived.Test.YtmnmaibhjhhakaaGreatDoorStreamsW
import Derived.Test.YtmnmaibhjhhakaaGreatDoorBunT
/-
  Valid stores, told plainly: each entry valid, and no stream has an id twice; the same told stream by stream. No condition.
-/
namespace Go.Proofs.YtmnmaibhjhhakaaGreatDoor
open Go.RowKit

/-- A valid entry. -/
def entB (x : EnT) : Bool := nameB x.1 && evOk x.2
def idOf (x : EnT) : ByteArray × Int := (x.1, x.2.1)
def freshB (pre : List EnT) (x : EnT) : Bool := pre.all (fun y => decide (idOf y ≠ idOf x))
theorem fresh_iff {pre : List EnT} {x : EnT} : freshB pre x = true ↔ idOf x ∉ pre.map idOf := by
  unfold freshB
  rw [List.all_eq_true]
  simp only [decide_eq_true_eq, List.mem_map, not_exists, not_and]
/-- Valid entries, none of the stream and the id of one before. -/
def stFrom (pre : List EnT) : List EnT → Bool
  | [] => true
  | x :: xs => entB x && freshB pre x && stFrom (pre ++ [x]) xs
def storeB (xs : List EnT) : Bool := decide (xs.length ≤ 24) && stFrom [] xs
theorem st_step {xs : List EnT} {k : Nat} {x : EnT} (hx : xs[k]? = some x) (h : stFrom [] xs = stFrom (xs.take k) (xs.drop k)) :
    stFrom [] xs = (entB x && freshB (xs.take k) x && stFrom (xs.take (k + 1)) (xs.drop (k + 1))) := by
  rw [h, drop_of hx, stFrom, take_succ_of hx]
theorem st_bad {xs : List EnT} {k : Nat} {x : EnT} (hx : xs[k]? = some x) (h : stFrom [] xs = stFrom (xs.take k) (xs.drop k)) (hb : entB x = false) : stFrom [] xs = false := by
  rw [st_step hx h, hb]; rfl
theorem st_twice {xs : List EnT} {k j : Nat} {x y : EnT} (hx : xs[k]? = some x) (h : stFrom [] xs = stFrom (xs.take k) (xs.drop k)) (hy : xs[j]? = some y) (hj : j < k) (he : idOf y = idOf x) : stFrom [] xs = false := by
  rw [st_step hx h]
  have hm : idOf x ∈ (xs.take k).map idOf := by
    rw [← he]
    exact List.mem_map_of_mem (List.mem_of_getElem? (by rw [List.getElem?_take, if_pos hj]; exact hy))
  rw [show freshB (xs.take k) x = false from by rw [Bool.eq_false_iff]; intro hf; exact fresh_iff.1 hf hm]; simp
theorem st_on {xs : List EnT} {k : Nat} {x : EnT} (hx : xs[k]? = some x) (h : stFrom [] xs = stFrom (xs.take k) (xs.drop k)) (hb : entB x = true) (hn : idOf x ∉ (xs.take k).map idOf) : stFrom [] xs = stFrom (xs.take (k + 1)) (xs.drop (k + 1)) := by
  rw [st_step hx h, hb, fresh_iff.2 hn]; rfl
theorem store_no {xs : List EnT} (h : stFrom [] xs = false) : storeB xs = false := by unfold storeB; rw [h]; simp
theorem not_id_succ {xs : List EnT} {j : Nat} {y : EnT} {v : ByteArray × Int} (hy : xs[j]? = some y) (h : v ∉ (xs.take j).map idOf) (hne : idOf y ≠ v) : v ∉ (xs.take (j + 1)).map idOf := by
  rw [take_succ_of hy, List.map_append, List.mem_append]
  rintro (g | g)
  · exact h g
  · simp at g; exact hne g.symm

theorem st_iff : ∀ (xs pre : List EnT), stFrom pre xs = true ↔ (∀ x ∈ xs, entB x = true) ∧ (∀ x ∈ xs, idOf x ∉ pre.map idOf) ∧ xs.Pairwise (fun x y => idOf x ≠ idOf y)
  | [], pre => by simp [stFrom]
  | x :: xs, pre => by
    rw [stFrom, Bool.and_eq_true, Bool.and_eq_true, st_iff xs (pre ++ [x]), fresh_iff, List.pairwise_cons]
    have hm : ∀ v, v ∈ (pre ++ [x]).map idOf ↔ v ∈ pre.map idOf ∨ v = idOf x := fun v => by rw [List.map_append, List.mem_append]; simp
    constructor
    · rintro ⟨⟨h1, h2⟩, h3, h4, h5⟩
      refine ⟨fun y hy => ?_, fun y hy => ?_, fun y hy e => h4 y hy ((hm _).2 (.inr e.symm)), h5⟩
      · rcases List.mem_cons.1 hy with rfl | hy
        · exact h1
        · exact h3 y hy
      · rcases List.mem_cons.1 hy with rfl | hy
        · exact h2
        · exact fun h => h4 y hy ((hm _).2 (.inl h))
    · rintro ⟨h1, h2, h6, h5⟩
      refine ⟨⟨h1 x (by simp), h2 x (by simp)⟩, fun y hy => h1 y (by simp [hy]), fun y hy h => ?_, h5⟩
      rcases (hm _).1 h with h | h
      · exact h2 y (by simp [hy]) h
      · exact h6 y hy h.symm
theorem evs_iff : ∀ (xs pre : List EvT), evs pre xs = true ↔ (∀ x ∈ xs, evOk x = true) ∧ (∀ x ∈ xs, x.1 ∉ pre.map (·.1)) ∧ xs.Pairwise (fun x y => x.1 ≠ y.1)
  | [], pre => by simp [evs]
  | x :: xs, pre => by
    rw [evs, Bool.and_eq_true, Bool.and_eq_true, evs_iff xs (pre ++ [x]), decide_eq_true_eq, List.pairwise_cons]
    have hm : ∀ v, v ∈ (pre ++ [x]).map (·.1) ↔ v ∈ pre.map (·.1) ∨ v = x.1 := fun v => by rw [List.map_append, List.mem_append]; simp
    constructor
    · rintro ⟨⟨h1, h2⟩, h3, h4, h5⟩
      refine ⟨fun y hy => ?_, fun y hy => ?_, fun y hy e => h4 y hy ((hm _).2 (.inr e.symm)), h5⟩
      · rcases List.mem_cons.1 hy with rfl | hy
        · exact h1
        · exact h3 y hy
      · rcases List.mem_cons.1 hy with rfl | hy
        · exact h2
        · exact fun h => h4 y hy ((hm _).2 (.inl h))
    · rintro ⟨h1, h2, h6, h5⟩
      refine ⟨⟨h1 x (by simp), h2 x (by simp)⟩, fun y hy => h1 y (by simp [hy]), fun y hy h => ?_, h5⟩
      rcases (hm _).1 h with h | h
      · exact h2 y (by simp [hy]) h
      · exact h6 y hy h.symm
theorem events_iff (ys : List EvT) : eventsB ys = true ↔ ys.length ≤ 24 ∧ (∀ x ∈ ys, evOk x = true) ∧ ys.Pairwise (fun x y => x.1 ≠ y.1) := by
  unfold eventsB
  rw [Bool.and_eq_true, decide_eq_true_eq, evs_iff]
  simp
theorem store_iff (xs : List EnT) : storeB xs = true ↔ xs.length ≤ 24 ∧ (∀ x ∈ xs, entB x = true) ∧ xs.Pairwise (fun x y => idOf x ≠ idOf y) := by
  unfold storeB
  rw [Bool.and_eq_true, decide_eq_true_eq, st_iff]
  simp
/-- Ids are told apart stream by stream. -/
theorem apart_iff : ∀ xs : List EnT, xs.Pairwise (fun x y => idOf x ≠ idOf y) ↔ ∀ s, (evOf s xs).Pairwise (fun x y => x.1 ≠ y.1)
  | [] => by simp [evOf]
  | x :: xs => by
    have cons : ∀ s, evOf s (x :: xs) = (if x.1 = s then [x.2] else []) ++ evOf s xs := by
      intro s
      unfold evOf
      by_cases h : x.1 = s <;> simp [h]
    have mem : ∀ s (e : EvT), e ∈ evOf s xs ↔ (s, e) ∈ xs := by
      intro s e
      unfold evOf
      simp only [List.mem_map, List.mem_filter, decide_eq_true_eq]
      constructor
      · rintro ⟨⟨a, b⟩, ⟨h1, h2⟩, h3⟩
        simp at h2 h3; subst h2; subst h3; exact h1
      · intro h; exact ⟨(s, e), ⟨h, rfl⟩, rfl⟩
    rw [List.pairwise_cons, apart_iff xs]
    constructor
    · rintro ⟨h1, h2⟩ s
      rw [cons]
      by_cases h : x.1 = s
      · rw [if_pos h, List.singleton_append, List.pairwise_cons]
        refine ⟨fun e he hh => ?_, h2 s⟩
        exact h1 (s, e) ((mem s e).1 he) (by unfold idOf; rw [h, hh])
      · rw [if_neg h, List.nil_append]; exact h2 s
    · intro h
      refine ⟨fun y hy hh => ?_, fun s => ?_⟩
      · have h1 := h x.1
        rw [cons, if_pos rfl, List.singleton_append, List.pairwise_cons] at h1
        unfold idOf at hh
        simp only [Prod.mk.injEq] at hh
        exact h1.1 y.2 ((mem x.1 y.2).2 (by rw [hh.1]; exact hy)) hh.2
      · have h1 := h s
        rw [cons] at h1
        exact (List.pairwise_append.1 h1).2.1
theorem evOf_mem {s : ByteArray} {xs : List EnT} {e : EvT} (h : e ∈ evOf s xs) : (s, e) ∈ xs := by
  unfold evOf at h
  simp only [List.mem_map, List.mem_filter, decide_eq_true_eq] at h
  obtain ⟨⟨a, b⟩, ⟨h1, h2⟩, h3⟩ := h
  simp at h2 h3; subst h2; subst h3; exact h1
/-- A stream that is not valid: nor is the store. -/
theorem store_stream {xs : List EnT} {s : ByteArray} (h : eventsB (evOf s xs) = false) : storeB xs = false := by
  rw [Bool.eq_false_iff]
  intro hs
  obtain ⟨h1, h2, h3⟩ := (store_iff xs).1 hs
  rw [Bool.eq_false_iff] at h
  refine h ((events_iff _).2 ⟨Nat.le_trans (evOf_length s xs) h1, fun e he => ?_, (apart_iff xs).1 h3 s⟩)
  have := h2 _ (evOf_mem he)
  unfold entB at this
  simp only [Bool.and_eq_true] at this
  exact this.2
theorem store_yes {xs : List EnT} (h1 : xs.length ≤ 24) (h2 : ∀ x ∈ xs, entB x = true) (h3 : ∀ s, evOf s xs ≠ [] → eventsB (evOf s xs) = true) : storeB xs = true := by
  refine (store_iff xs).2 ⟨h1, h2, (apart_iff xs).2 (fun s => ?_)⟩
  by_cases h : evOf s xs = []
  · rw [h]; exact List.Pairwise.nil
  · exact ((events_iff _).1 (h3 s h)).2.2
/-- What the walks ask of an entry: its texts are short. -/
def enS (x : EnT) : Prop := x.1.size ≤ 1048576 ∧ x.2.2.1.size ≤ 1048576
end Go.Proofs.YtmnmaibhjhhakaaGreatDoor

/-
  Valid stores: what the reference's function returns, for every slice of entries. No condition.
-/
namespace Go.Proofs.YtmnmaibhjhhakaaGreatDoor
open Go.ChangeShapes Go.WideShapes Go.ChangeAt Go.RowKit

set_option maxHeartbeats 12800000 in
theorem specStore_any (A : Option Addr) (n c : Nat) (xs : List EnT) (hn : n ≤ 1048576) (hx : xs.length = n) (hok : ∀ x ∈ xs, enS x) (w : World) (hL : Lies w 4 A n (xs.flatMap entryCells)) :
    Calls Tryz.prog 11 #[.slice A n c] w fun e w' => e = .returned (.bool (storeB xs)) ∧ Below w.heap.size w w' := by
  have HX := Lib.hid hx
  have HK := Lib.hid hok
  clear hx hok
  go_enter Tryz.func11, Tryz.ntmps11
  go_wp2
  go_loopw [3] (fun i wr => ∃ k : Nat, k ≤ n ∧ i = .int .i64 k ∧ Hid (stFrom [] xs = stFrom (xs.take k) (xs.drop k)) ∧ Below w.heap.size w wr) (fun i _ => n - (intOf i).toNat)
  case atStart => exact ⟨0, Nat.zero_le _, rfl, Lib.hid rfl, Below.refl _ _⟩
  case round =>
    obtain ⟨k, hk, rfl, hT, hB⟩ := hrel
    obtain ⟨wo, rfl⟩ : ∃ wo : World, wo = wr := ⟨_, rfl⟩
    by_cases hlt : k < n
    · obtain ⟨b, o, rfl, hb, hc⟩ := (hL.below hB).row (fun _ => rfl) (by omega)
      obtain ⟨⟨x0, x1, x2, x3⟩, hxk⟩ := get_lt HX.out hlt
      have c0 : wo.cell? ⟨b, o + k * 4, none⟩ = some (.string x0) := hc k _ hxk 0 _ rfl
      have c1 : wo.cell? ⟨b, o + k * 4 + 1, none⟩ = some (.int .i64 x1) := hc k _ hxk 1 _ rfl
      have c2 : wo.cell? ⟨b, o + k * 4 + 2, none⟩ = some (.string x2) := hc k _ hxk 2 _ rfl
      have c3 : wo.cell? ⟨b, o + k * 4 + 3, none⟩ = some (.int .i64 x3) := hc k _ hxk 3 _ rfl
      have HZ := Lib.hid (HK.out _ (List.mem_of_getElem? hxk))
      have HXK := Lib.hid hxk
      have HC := Lib.hid hc
      clear hxk hc
      cases E0 : nameB x0
      · have HE : Hid (storeB xs = false) := Lib.hid (store_no (st_bad HXK.out hT.out (by unfold entB; simp only [E0]; rfl)))
        go_wp2_with fail
        refine (specNameValid_any _ HZ.out.1 _).mono ?_
        rintro e1 w1 ⟨rfl, hb1⟩
        rw [E0]
        go_wp2
        go_ret
        exact ⟨ret_bool HE.out.symm, (by repeat' (first | (with_reducible exact Below.refl _ _) | (with_reducible assumption) | (with_reducible refine below_step (by assumption) ?_) | (with_reducible refine below_alloc ?_ _) | (with_reducible refine Below.drew ?_) | (with_reducible refine below_drewN ?_ _) | (with_reducible refine Below.setCell ?_ ?_ _) | go_size))⟩
      cases E1 : eventB x1 x2 x3
      · have HE : Hid (storeB xs = false) := Lib.hid (store_no (st_bad HXK.out hT.out (by unfold entB evOk; simp only [E0, E1]; rfl)))
        go_wp2_with fail
        refine (specNameValid_any _ HZ.out.1 _).mono ?_
        rintro e1 w1 ⟨rfl, hb1⟩
        rw [E0]
        have c1 := box_cell hb1 c1
        have c2 := box_cell hb1 c2
        have c3 := box_cell hb1 c3
        go_wp2_with fail
        refine (specEvent_any _ _ _ (by have h : x2.size ≤ 1048576 := HZ.out.2; unfold StrOk maxLen; omega) _).mono ?_
        rintro e2 w2 ⟨rfl, hb2⟩
        rw [E1]
        go_wp2
        go_ret
        exact ⟨ret_bool HE.out.symm, (by repeat' (first | (with_reducible exact Below.refl _ _) | (with_reducible assumption) | (with_reducible refine below_step (by assumption) ?_) | (with_reducible refine below_alloc ?_ _) | (with_reducible refine Below.drew ?_) | (with_reducible refine below_drewN ?_ _) | (with_reducible refine Below.setCell ?_ ?_ _) | go_size))⟩
      have HE0 := Lib.hid (show entB (x0, x1, x2, x3) = true by unfold entB evOk; simp only [E0, E1]; rfl)
      go_wp2_with fail
      refine (specNameValid_any _ HZ.out.1 _).mono ?_
      rintro e1 w1 ⟨rfl, hb1⟩
      rw [E0]
      have c1 := box_cell hb1 c1
      have c2 := box_cell hb1 c2
      have c3 := box_cell hb1 c3
      go_wp2_with fail
      refine (specEvent_any _ _ _ (by have h : x2.size ≤ 1048576 := HZ.out.2; unfold StrOk maxLen; omega) _).mono ?_
      rintro e2 w2 ⟨rfl, hb2⟩
      rw [E1]
      have hb12 : Below wo.heap.size wo w2 := below_step hb2 hb1
      have hB1 : Below w.heap.size w w2 := below_step hb12 hB
      have HL1 := Lib.hid (fun kk x (h : xs[kk]? = some x) j u (hu : (entryCells x)[j]? = some u) => box_cell hb12 (HC.out kk x h j u hu))
      clear c0 c1 c2 c3 hB hb1 hb2 hb12 E0 E1
      go_wp2
      go_loopw [4] (fun i wr => ∃ j : Nat, j ≤ k ∧ i = .int .i64 j ∧ Hid (idOf (x0, x1, x2, x3) ∉ (xs.take j).map idOf) ∧ Below w2.heap.size w2 wr) (fun i _ => k - (intOf i).toNat)
      case atStart => exact ⟨0, Nat.zero_le _, rfl, Lib.hid (by simp), Below.refl _ _⟩
      case round =>
        obtain ⟨j, hj, rfl, hN, hBj⟩ := hrel
        by_cases hjk : j < k
        · obtain ⟨⟨y0, y1, y2, y3⟩, hyj⟩ := get_lt HX.out (show j < n by omega)
          have e0 : wr.cell? ⟨b, o + k * 4, none⟩ = some (.string x0) := box_cell hBj (HL1.out k _ HXK.out 0 _ rfl)
          have e1 : wr.cell? ⟨b, o + k * 4 + 1, none⟩ = some (.int .i64 x1) := box_cell hBj (HL1.out k _ HXK.out 1 _ rfl)
          have d0 : wr.cell? ⟨b, o + j * 4, none⟩ = some (.string y0) := box_cell hBj (HL1.out j _ hyj 0 _ rfl)
          have d1 : wr.cell? ⟨b, o + j * 4 + 1, none⟩ = some (.int .i64 y1) := box_cell hBj (HL1.out j _ hyj 1 _ rfl)
          by_cases he0 : y0 = x0
          · have E : (y0.toList == x0.toList) = true := by simp [he0]
            by_cases he1 : y1 = x1
            · have HE : Hid (storeB xs = false) := Lib.hid (store_no (st_twice HXK.out hT.out hyj hjk (by unfold idOf; simp [he0, he1])))
              have E1 : (y1 == x1) = true := by simp [he1]
              clear he0 he1 hyj
              go_wp2_with fail
              go_quiet (fail)
              go_wp2
              go_ret
              exact ⟨ret_bool HE.out.symm, (by repeat' (first | (with_reducible exact Below.refl _ _) | (with_reducible assumption) | (with_reducible refine below_step (by assumption) ?_) | (with_reducible refine below_alloc ?_ _) | (with_reducible refine Below.drew ?_) | (with_reducible refine below_drewN ?_ _) | (with_reducible refine Below.setCell ?_ ?_ _) | go_size))⟩
            · have HE := Lib.hid (not_id_succ hyj hN.out (by unfold idOf; simp [he1]))
              have E1 : (y1 == x1) = false := by simp [he1]
              clear he0 he1 hyj
              go_wp2_with fail
              go_quiet (fail)
              go_wp2
              go_roundw
              case rel => exact ⟨j + 1, by omega, by go_num, HE, (by repeat' (first | (with_reducible exact Below.refl _ _) | (with_reducible assumption) | (with_reducible refine below_step (by assumption) ?_) | (with_reducible refine below_alloc ?_ _) | (with_reducible refine Below.drew ?_) | (with_reducible refine below_drewN ?_ _) | (with_reducible refine Below.setCell ?_ ?_ _) | go_size))⟩
              case measure => simp [intOf]; omega
          · have HE := Lib.hid (not_id_succ hyj hN.out (by unfold idOf; simp [he0]))
            have E : (y0.toList == x0.toList) = false := str_ne he0
            clear he0 hyj
            go_wp2_with fail
            go_quiet (fail)
            go_wp2
            go_roundw
            case rel => exact ⟨j + 1, by omega, by go_num, HE, (by repeat' (first | (with_reducible exact Below.refl _ _) | (with_reducible assumption) | (with_reducible refine below_step (by assumption) ?_) | (with_reducible refine below_alloc ?_ _) | (with_reducible refine Below.drew ?_) | (with_reducible refine below_drewN ?_ _) | (with_reducible refine Below.setCell ?_ ?_ _) | go_size))⟩
            case measure => simp [intOf]; omega
        · have HE := Lib.hid (st_on HXK.out hT.out HE0.out (by have := hN.out; rwa [show j = k from by omega] at this))
          go_wp2
          go_roundw
          case rel => exact ⟨k + 1, by omega, by go_num, HE, (by repeat' (first | (with_reducible exact Below.refl _ _) | (with_reducible assumption) | (with_reducible refine below_step (by assumption) ?_) | (with_reducible refine below_alloc ?_ _) | (with_reducible refine Below.drew ?_) | (with_reducible refine below_drewN ?_ _) | (with_reducible refine Below.setCell ?_ ?_ _) | go_size))⟩
          case measure => simp [intOf]; omega
    · have HE : Hid (storeB xs = decide (n ≤ 24)) := Lib.hid (by
        unfold storeB
        rw [hT.out, List.drop_of_length_le (by rw [HX.out]; omega), HX.out]
        simp [stFrom])
      go_wp2
      go_ret
      exact ⟨ret_bool (by rw [HE.out, Bool.eq_iff_iff]; simp; omega), (by repeat' (first | (with_reducible exact Below.refl _ _) | (with_reducible assumption) | (with_reducible refine below_step (by assumption) ?_) | (with_reducible refine below_alloc ?_ _) | (with_reducible refine Below.drew ?_) | (with_reducible refine below_drewN ?_ _) | (with_reducible refine Below.setCell ?_ ?_ _) | go_size))⟩
end Go.Proofs.YtmnmaibhjhhakaaGreatDoor

/-
  Valid stores: what the program's function returns, for every slice of entries. No condition beyond what the rows list.
-/
namespace Go.Proofs.YtmnmaibhjhhakaaGreatDoor
open Go.ChangeShapes Go.WideShapes Go.ChangeAt Go.RowKit Go.Maps

set_option maxHeartbeats 3200000 in
theorem entryValid_any (x0 : ByteArray) (x1 : Int) (x2 : ByteArray) (x3 : Int) (hs : x0.size ≤ 1048576) (ht : x2.size ≤ 1048576) (a : Addr) (w : World) (hS : Sent a w) (hM : MaxL w) :
    Calls Tryz.prog 28 #[.agg #[.string x0, .int .i64 x1, .string x2, .int .i64 x3]] w fun e w' => e = .returned (.bool (entB (x0, x1, x2, x3))) ∧ Below w.heap.size w w' := by
  have BA : Below w.heap.size w (w.alloc (.cells #[.string x0, .int .i64 x1, .string x2, .int .i64 x3] 32)) := below_alloc (Below.refl _ _) _
  have hS1 := hS.below BA (Nat.le_refl _)
  have hM1 := hM.below BA
  cases E0 : nameB x0
  · have HE := Lib.hid (show entB (x0, x1, x2, x3) = false by unfold entB; simp only [E0]; rfl)
    go_enter Tryz.func28, Tryz.ntmps28
    go_wp2_with fail
    refine (implNameValid_any x0 hs a _ hS1 hM1).mono ?_
    rintro e w1 ⟨rfl, hb1⟩
    rw [E0]
    go_wp2
    go_ret
    exact ⟨ret_bool HE.out.symm, (by repeat' (first | (with_reducible exact Below.refl _ _) | (with_reducible assumption) | (with_reducible refine below_step (by assumption) ?_) | (with_reducible refine below_alloc ?_ _) | (with_reducible refine Below.drew ?_) | (with_reducible refine below_drewN ?_ _) | (with_reducible refine Below.setCell ?_ ?_ _) | go_size))⟩
  · cases E1 : eventB x1 x2 x3
    all_goals
      have HE := Lib.hid (show entB (x0, x1, x2, x3) = _ from show (nameB x0 && eventB x1 x2 x3) = _ by rw [E0, E1]; try rfl)
      go_enter Tryz.func28, Tryz.ntmps28
      go_wp2_with fail
      refine (implNameValid_any x0 hs a _ hS1 hM1).mono ?_
      rintro e w1 ⟨rfl, hb1⟩
      rw [E0]
      have m1 := box_cell hb1 (b := w.heap.size) (o := 1) (u := .int .i64 x1) (by go_cell)
      have m2 := box_cell hb1 (b := w.heap.size) (o := 2) (u := .string x2) (by go_cell)
      have m3 := box_cell hb1 (b := w.heap.size) (o := 3) (u := .int .i64 x3) (by go_cell)
      go_wp2_with fail
      refine (eventValid_any x1 x2 x3 (by unfold StrOk maxLen; omega) _).mono ?_
      rintro e2 w2 ⟨rfl, hb2⟩
      rw [E1]
      go_wp2
      go_ret
      exact ⟨ret_bool HE.out.symm, (by repeat' (first | (with_reducible exact Below.refl _ _) | (with_reducible assumption) | (with_reducible refine below_step (by assumption) ?_) | (with_reducible refine below_alloc ?_ _) | (with_reducible refine Below.drew ?_) | (with_reducible refine below_drewN ?_ _) | (with_reducible refine Below.setCell ?_ ?_ _) | go_size))⟩

/-- EventsValid at a slice that the call owns, nil too. -/
theorem implEvents_row {w : World} {B n : Nat} {v : Value} {ys : List EvT} (h : w.ownsRow B 30 3 v n (ys.flatMap eventCells)) (hl : ys.length = n) (hn : n ≤ 1048576) (hok : ∀ y ∈ ys, eventOk y) :
    Calls Tryz.prog 32 #[v] w fun e w' => e = .returned (.bool (eventsB ys)) ∧ Below w.heap.size w w' := by
  rcases h.2 with ⟨rfl, h0⟩ | ⟨g, c, _, rfl, _, _, _⟩
  · subst h0
    exact implEvents_any none 0 0 ys (by omega) (Nat.le_refl _) hl hok w (lies_of_own h)
  · exact implEvents_any _ _ _ ys hn (owns_cap h).2 hl hok w (lies_of_own h)

theorem keyOf_string_inv {key : Value} {kl : Lit} (h : keyOf Tryz.prog 9 key = some kl) : ∃ s : ByteArray, key = .string s ∧ kl = keyL s ∧ s.size ≤ maxLen := by
  have hk := Tryz.underlying9
  cases key <;> simp [keyOf, hk, mapKey] at h
  obtain ⟨h1, rfl⟩ := h
  exact ⟨_, rfl, rfl, h1⟩

/-- The step of a range over such a map. -/
theorem wpList_next_streams {w : World} {ops : Array Oper} {rest : List Oper} {o : Oper} {a : Act} {Q : Exit → Act → World → Prop} (hg : o.guard = none) (it : Operand) (hop : o.op = Op.next it false) (b r : Nat) (xs : List EnT) (D : DataW Unit) (V : ByteArray → Value) (left : Lit → Bool) (cnt : Nat)
    (hit : a.eval it = .pointer (some ⟨r, 0, none⟩)) (hS : Streams w b xs D V) (h : w.ranges Tryz.prog 9 encV b r xs.length D left cnt)
    (hDone : cnt = 0 → (∀ kl, left kl = false) → wpList Tryz.prog ops Q rest (a.put o.dst (.tuple #[.bool false])) w)
    (hMore : ∀ (s : ByteArray) (w' : World) (cnt' : Nat), s.size ≤ maxLen → left (keyL s) = true → w'.ranges Tryz.prog 9 encV b r xs.length D (fun z => left z && !z.sameKey (keyL s)) cnt' → cnt' < cnt → w.grownBy w' (some r) → w'.heap.size = w.heap.size →
      (Instr.entry (.pointer (some ⟨r, 0, none⟩))).run Tryz.prog w' = .ok (.tuple #[.string s, V s]) w' → wpList Tryz.prog ops Q rest (a.put o.dst (.tuple #[.bool true, .string s, V s])) w') :
    wpList Tryz.prog ops Q (o :: rest) a w := by
  refine wpList_plain hg fun K' hK' => ?_
  unfold Oper.wp
  rcases h.next keyed o.type with ⟨h0, hl, hrun⟩ | ⟨key, v, kl, y, w', cnt', hkey, hlk, hv, hat, hrun, hrg, hlt, hgr, hsz, hen⟩
  · simp [execOp, hop, hit, hrun, Result.andThen]
    exact hK' _ _ (hDone h0 hl)
  · obtain ⟨s, rfl, rfl, hs⟩ := keyOf_string_inv hkey
    obtain ⟨ps, hV⟩ := hS.tells s
    obtain rfl : v = V s := encV_inj hv hV (hat .nil).symm
    simp [execOp, hop, hit, hrun, Result.andThen]
    exact hK' _ _ (hMore s w' cnt' hs hlk hrg hlt hgr hsz hen)

/-- A name that has events is a key. -/
theorem Streams.has {w : World} {b : Nat} {xs : List EnT} {D : DataW Unit} {V : ByteArray → Value} (h : Streams w b xs D V) {s : ByteArray} (hne : evOf s xs ≠ []) : Maps.has D (keyL s) = true := by
  cases e : Maps.has D (keyL s)
  · exfalso
    obtain ⟨ps, hV⟩ := h.tells s
    rw [atKey_of_not_has e] at hV
    have hv : V s = .slice none 0 0 := encV_inj hV encV_nil rfl
    have hr := h.rows s
    rw [hv] at hr
    rcases hr.2 with ⟨_, h0⟩ | ⟨g, c, _, hv', _⟩
    · exact hne (List.length_eq_zero_iff.1 h0)
    · cases hv'
  · rfl

set_option maxRecDepth 8000 in
set_option maxHeartbeats 12800000 in
theorem implStore_any (A : Option Addr) (n c : Nat) (xs : List EnT) (hn : n ≤ 1048576) (hx : xs.length = n) (hok : ∀ x ∈ xs, enS x) (hint : ∀ x ∈ xs, eventOk x.2) (w : World) (a : Addr) (hS : Sent a w) (hM : MaxL w) (hL : Lies w 4 A n (xs.flatMap entryCells)) :
    Calls Tryz.prog 16 #[.slice A n c] w fun e w' => e = .returned (.bool (storeB xs)) ∧ Below w.heap.size w w' := by
  by_cases hlim : 24 < n
  · have HE : Hid (storeB xs = false) := Lib.hid (by unfold storeB; rw [hx]; simp; omega)
    clear hL hx
    go_enter Tryz.func16, Tryz.ntmps16
    go_wp2
    go_ret
    exact ⟨ret_bool HE.out.symm, Below.refl _ _⟩
  have HX := Lib.hid hx
  have HK := Lib.hid hok
  have HI := Lib.hid hint
  clear hx hok hint
  go_enter Tryz.func16, Tryz.ntmps16
  go_wp2
  go_loopw [12] (fun i wr => ∃ k : Nat, k ≤ n ∧ i = .int .i64 k ∧ Hid (∀ x ∈ xs.take k, entB x = true) ∧ Below w.heap.size w wr) (fun i _ => n - (intOf i).toNat)
  case atStart => exact ⟨0, Nat.zero_le _, rfl, Lib.hid (by simp), Below.refl _ _⟩
  case round =>
    obtain ⟨k, hk, rfl, hT, hB⟩ := hrel
    by_cases hlt : k < n
    · obtain ⟨b, o, rfl, hb, hc⟩ := (hL.below hB).row (fun _ => rfl) (by omega)
      obtain ⟨⟨x0, x1, x2, x3⟩, hxk⟩ := get_lt HX.out hlt
      have c0 : wr.cell? ⟨b, o + k * 4, none⟩ = some (.string x0) := hc k _ hxk 0 _ rfl
      have c1 : wr.cell? ⟨b, o + k * 4 + 1, none⟩ = some (.int .i64 x1) := hc k _ hxk 1 _ rfl
      have c2 : wr.cell? ⟨b, o + k * 4 + 2, none⟩ = some (.string x2) := hc k _ hxk 2 _ rfl
      have c3 : wr.cell? ⟨b, o + k * 4 + 3, none⟩ = some (.int .i64 x3) := hc k _ hxk 3 _ rfl
      have HZ := Lib.hid (HK.out _ (List.mem_of_getElem? hxk))
      have HXK := Lib.hid hxk
      clear hxk hc
      have BWB : Below w.heap.size w (wr.alloc (.cells #[.string x0, .int .i64 x1, .string x2, .int .i64 x3] 32)) := below_alloc hB _
      cases E0 : entB (x0, x1, x2, x3)
      · have HE : Hid (storeB xs = false) := Lib.hid (by
          rw [Bool.eq_false_iff]
          intro h
          have := ((store_iff xs).1 h).2.1 _ (List.mem_of_getElem? HXK.out)
          rw [E0] at this; cases this)
        go_wp2_with fail
        refine (entryValid_any x0 x1 x2 x3 HZ.out.1 HZ.out.2 a _ (hS.below BWB (Nat.le_refl _)) (hM.below BWB)).mono ?_
        rintro e1 w1 ⟨rfl, hb1⟩
        rw [E0]
        go_wp2
        go_ret
        exact ⟨ret_bool HE.out.symm, (by repeat' (first | (with_reducible exact Below.refl _ _) | (with_reducible assumption) | (with_reducible refine below_step (by assumption) ?_) | (with_reducible refine below_alloc ?_ _) | (with_reducible refine Below.drew ?_) | (with_reducible refine below_drewN ?_ _) | (with_reducible refine Below.setCell ?_ ?_ _) | go_size))⟩
      · have HE := Lib.hid (show ∀ x ∈ xs.take (k + 1), entB x = true by
          rw [take_succ_of HXK.out]
          intro y hy
          rcases List.mem_append.1 hy with h | h
          · exact hT.out y h
          · obtain rfl := List.mem_singleton.1 h
            exact E0)
        go_wp2_with fail
        refine (entryValid_any x0 x1 x2 x3 HZ.out.1 HZ.out.2 a _ (hS.below BWB (Nat.le_refl _)) (hM.below BWB)).mono ?_
        rintro e1 w1 ⟨rfl, hb1⟩
        rw [E0]
        go_wp2
        go_roundw
        case rel => exact ⟨k + 1, by omega, by go_num, HE, (by repeat' (first | (with_reducible exact Below.refl _ _) | (with_reducible assumption) | (with_reducible refine below_step (by assumption) ?_) | (with_reducible refine below_alloc ?_ _) | (with_reducible refine Below.drew ?_) | (with_reducible refine below_drewN ?_ _) | (with_reducible refine Below.setCell ?_ ?_ _) | go_size))⟩
        case measure => simp [intOf]; omega
    · have HALL := Lib.hid (show ∀ x ∈ xs, entB x = true by
        have h := hT.out
        rwa [List.take_of_length_le (by have := HX.out; omega)] at h)
      obtain ⟨wo, rfl⟩ : ∃ wo : World, wo = wr := ⟨_, rfl⟩
      go_wp2_with fail
      refine (streamsOf_any A n c xs hn HX.out (fun x hx => by have := (HK.out x hx).1; unfold maxLen; omega) _ (hL.below hB)).mono ?_
      rintro e2 w2 ⟨b, D, V, rfl, hSt, hbl, hb2⟩
      have HSt := Lib.hid hSt
      have HB2 := Lib.hid (below_step hb2 hB)
      clear hSt hb2
      go_wp2_with (at_range; refine wpList_range_own _ rfl _ 61 rfl 9 43 keyed Tryz.underlying61 encV b xs.length D rfl HSt.out.owns ?_; intro w0 hrg0 hg0 hs0)
      go_frame
      have hb0 : Below w2.heap.size w2 w0 := ⟨hg0.os, hg0.tape, hg0.output, hg0.size, fun i hi => hg0.block i hi (by simp)⟩
      have HRG := Lib.hid hrg0
      have HB0 := Lib.hid hb0
      clear hrg0 hg0 hs0 hb0
      go_loopw [6] (fun _ wr => ∃ (left : Lit → Bool) (cnt : Nat), Hid (wr.ranges Tryz.prog 9 encV b w2.heap.size xs.length D left cnt) ∧ Hid (∀ s, Maps.has D (keyL s) = true → left (keyL s) = false → eventsB (evOf s xs) = true) ∧ Hid (Below w2.heap.size w2 wr)) (fun _ wr => wr.rangeLeft b w2.heap.size)
      case atStart => exact ⟨_, _, HRG, Lib.hid (fun s h1 h2 => by rw [h1] at h2; cases h2), HB0⟩
      case round =>
        obtain ⟨left, cnt, hrg, hDone, hB3⟩ := hrel
        have hS3 := Lib.hid (HSt.out.kept hB3.out)
        go_wp2_with (at_next; refine wpList_next_streams rfl _ rfl b w2.heap.size xs D V left cnt rfl hS3.out hrg.out ?_ ?_)
        · intro _ hl0
          have HE : Hid (storeB xs = true) := Lib.hid (store_yes (by have := HX.out; omega) HALL.out (fun s hne => hDone.out s (HSt.out.has hne) (hl0 _)))
          have HBR := Lib.hid (HB2.out.trans (hB3.out.mono HB2.out.size))
          clear hl0
          go_wp2
          go_ret
          exact ⟨ret_bool HE.out.symm, HBR.out⟩
        · intro s w4 cnt1 hs hlk hrg1 hlt1 hg1 hsz1 hen
          have hB4 : Below w2.heap.size w2 w4 := below_grown hB3.out hg1 (Nat.le_refl _) hB3.out.size
          have HB4 := Lib.hid hB4
          have HROW := Lib.hid ((HSt.out.kept hB4).rows s)
          have HRG1 := Lib.hid hrg1
          have HLT := Lib.hid hlt1
          have hl5 := evOf_length s xs
          have hl6 : (evOf s xs).length ≤ 1048576 := by have := HX.out; omega
          clear hrg1 hg1 hsz1 hlk hB4 hlt1
          cases E5 : eventsB (evOf s xs)
          · have HE : Hid (storeB xs = false) := Lib.hid (store_stream E5)
            go_wp2_with (go_at_call 32; refine (implEvents_row HROW.out rfl hl6 (fun y hy => HI.out _ (evOf_mem hy))).mono ?_; rintro e5 w5 ⟨rfl, hb5⟩; rw [E5])
            go_ret
            exact ⟨ret_bool HE.out.symm, below_step hb5 (HB2.out.trans (HB4.out.mono HB2.out.size))⟩
          · have HE5 := Lib.hid E5
            clear E5
            go_wp2_with (go_at_call 32; refine (implEvents_row HROW.out rfl hl6 (fun y hy => HI.out _ (evOf_mem hy))).mono ?_; rintro e5 w5 ⟨rfl, hb5⟩; rw [HE5.out])
            have hgn : w4.grownBy w5 none := ⟨hb5.os, hb5.tape, hb5.output, hb5.size, fun i hi _ => hb5.block i hi⟩
            have HRG5 := Lib.hid (HRG1.out.kept hgn (by simp) (by simp))
            go_roundw
            case rel =>
              refine ⟨_, cnt1, HRG5, Lib.hid (fun t ht hl => ?_), Lib.hid (HB4.out.trans (hb5.mono HB4.out.size))⟩
              simp only [Bool.and_eq_false_iff, Bool.not_eq_false'] at hl
              rcases hl with hl | hl
              · exact hDone.out t ht hl
              · by_cases e : keyL t = keyL s
                · rw [keyL_inj e]; exact HE5.out
                · rw [sameKey_ne e] at hl; cases hl
            case measure =>
              rw [HRG5.out.left_eq, hrg.out.left_eq]
              exact HLT.out
end Go.Proofs.YtmnmaibhjhhakaaGreatDoor

/-
  Entries whose texts' sizes the laws let pass. No condition.
-/
namespace Go.Proofs.YtmnmaibhjhhakaaGreatDoor
open Go.ChangeShapes Go.WideShapes Go.ChangeAt Go.RowKit

theorem enS_ok {left : Int} {n : Nat} {xs : List EnT} (hl : left ≤ 1048576) (h : 0 ≤ szR left n (xs.flatMap entryTexts)) : ∀ x ∈ xs, enS x := fun x hx => by
  unfold szR at h
  split at h
  · omega
  · have hm := szT_all (by omega) h
    have h1 := hm x.1 (List.mem_flatMap.2 ⟨x, hx, by simp [entryTexts]⟩)
    have h2 := hm x.2.2.1 (List.mem_flatMap.2 ⟨x, hx, by simp [entryTexts]⟩)
    exact ⟨by omega, by omega⟩
theorem enE_ok {xs : List EnT} (h : ∀ x ∈ xs, entryOk x) : ∀ x ∈ xs, eventOk x.2 := fun x hx => by
  obtain ⟨_, h1, h2, h3⟩ := h x hx
  exact ⟨h1, h2, h3⟩
end Go.Proofs.YtmnmaibhjhhakaaGreatDoor

/-
  The events of a name, and the version of a stream: what the reference's and the program's functions return, for every slice of entries. No condition beyond what the rows list.
-/
namespace Go.Proofs.YtmnmaibhjhhakaaGreatDoor
open Go.ChangeShapes Go.WideShapes Go.ChangeAt Go.RowKit Go.Maps

/-- What the walks ask of a slice of entries and of a name. -/
structure StOk (xs : List EnT) : Prop where
  small : ∀ x ∈ xs, enS x
  ints : ∀ x ∈ xs, eventOk x.2
theorem StOk.names {xs : List EnT} (h : StOk xs) : ∀ x ∈ xs, x.1.size ≤ maxLen := fun x hx => by have := (h.small x hx).1; unfold maxLen; omega
theorem StOk.evs {xs : List EnT} (h : StOk xs) (s : ByteArray) : ∀ y ∈ evOf s xs, eventOk y := fun _ hy => h.ints _ (evOf_mem hy)
theorem StOk.evSmall {xs : List EnT} (h : StOk xs) (s : ByteArray) : ∀ y ∈ evOf s xs, y.2.1.size ≤ 1048576 := fun _ hy => (h.small _ (evOf_mem hy)).2
theorem evOf_take_succ {s : ByteArray} {xs : List EnT} {k : Nat} {x : EnT} (h : xs[k]? = some x) : evOf s (xs.take (k + 1)) = evOf s (xs.take k) ++ (if x.1 = s then [x.2] else []) := by
  rw [take_succ_of h, evOf_snoc]

def storeVer (xs : List EnT) (s : ByteArray) : Int := if storeB xs && nameB s then ((evOf s xs).length : Int) - 1 else -2
theorem ver_no {xs : List EnT} {s : ByteArray} (h : (storeB xs && nameB s) = false) : storeVer xs s = -2 := by unfold storeVer; rw [h]; rfl
theorem ver_yes {xs : List EnT} {s : ByteArray} (h1 : storeB xs = true) (h2 : nameB s = true) : storeVer xs s = ((evOf s xs).length : Int) - 1 := by unfold storeVer; rw [h1, h2]; rfl

/-- What a look-up in the program's map gives, its shape written out. -/
theorem Streams.form {w : World} {b : Nat} {xs : List EnT} {D : DataW Unit} {V : ByteArray → Value} (h : Streams w b xs D V) (s : ByteArray) : ∃ A c, V s = .slice A (evOf s xs).length c ∧ (evOf s xs).length ≤ c ∧ (c ≤ maxLen) ∧ w.ownsRow (b + 1) 30 3 (.slice A (evOf s xs).length c) (evOf s xs).length ((evOf s xs).flatMap eventCells) := by
  have hr := h.rows s
  rcases hr.2 with ⟨hv, h0⟩ | ⟨g, c, cur, hv, hb, hh, hn, hc, r⟩
  · exact ⟨none, 0, by rw [hv, h0], by omega, by unfold maxLen; omega, by rw [h0] at hr ⊢; rw [hv] at hr; exact hr⟩
  · exact ⟨some ⟨g, 0, none⟩, c, hv, hn, hc, by rw [hv] at hr; exact hr⟩

end Go.Proofs.YtmnmaibhjhhakaaGreatDoor
