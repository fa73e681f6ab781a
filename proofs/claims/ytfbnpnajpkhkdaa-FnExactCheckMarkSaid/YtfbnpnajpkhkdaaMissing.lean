/-
  The positions that are missing: what the reference's and the program's CheckMissing return. No condition.
-/
import Derived.Test.YtfbnpnajpkhkdaaHasC
import Derived.Test.YtfbnpnajpkhkdaaKInt
namespace Go.Proofs.Ytfbnpnajpkhkdaa
open Go.ChangeShapes Go.WideShapes Go.ChangeAt Go.RowKit

/-- The numbers from a on, n of them. -/
def runI (a : Int) : Nat → List Int
  | 0 => []
  | n + 1 => a :: runI (a + 1) n
theorem runI_mem : ∀ {n : Nat} {a x : Int}, x ∈ runI a n ↔ a ≤ x ∧ x < a + n
  | 0, a, x => by simp [runI]
  | n + 1, a, x => by rw [runI, List.mem_cons, runI_mem]; omega
theorem runI_snoc : ∀ (n : Nat) (a : Int), runI a (n + 1) = runI a n ++ [a + n]
  | 0, a => by simp [runI]
  | n + 1, a => by
    rw [runI, runI_snoc n (a + 1), runI, List.cons_append]
    congr 3; omega
theorem runI_add : ∀ (n m : Nat) (a : Int), runI a (n + m) = runI a n ++ runI (a + n) m
  | n, 0, a => by simp [runI]
  | n, m + 1, a => by
    rw [← Nat.add_assoc, runI_snoc, runI_add n m a, runI_snoc, List.append_assoc]
    congr 3; omega
theorem runI_length : ∀ (n : Nat) (a : Int), (runI a n).length = n
  | 0, _ => rfl
  | n + 1, a => by rw [runI, List.length_cons, runI_length]
/-- The numbers from a to b - 1. -/
def toI (a b : Int) : List Int := runI a (b - a).toNat
theorem toI_snoc {a b : Int} (h : a ≤ b) : toI a (b + 1) = toI a b ++ [b] := by
  unfold toI
  rw [show (b + 1 - a).toNat = (b - a).toNat + 1 by omega, runI_snoc]
  congr 2; omega
theorem toI_mem {a b x : Int} : x ∈ toI a b ↔ a ≤ x ∧ x < b := by unfold toI; rw [runI_mem]; omega
theorem toI_split {a b c : Int} (h1 : a ≤ b) (h2 : b ≤ c) : toI a c = toI a b ++ toI b c := by
  unfold toI
  rw [show (c - a).toNat = (b - a).toNat + (c - b).toNat by omega, runI_add]
  congr 2; omega
theorem toI_cons {a b : Int} (h : a < b) : toI a b = a :: toI (a + 1) b := by
  unfold toI
  rw [show (b - a).toNat = (b - (a + 1)).toNat + 1 by omega, runI]
theorem toI_none {a b : Int} (h : b ≤ a) : toI a b = [] := by unfold toI; rw [show (b - a).toNat = 0 by omega]; rfl
theorem toI_length (a b : Int) : (toI a b).length = (b - a).toNat := runI_length _ _

/-- What is missing between the positions of an ascending list, from a position on. -/
def gaps (next : Int) : List Int → List Int
  | [] => []
  | z :: zs => toI next z ++ gaps (z + 1) zs
def gapsEnd (next : Int) (zs : List Int) : Int := match zs.getLast? with | none => next | some z => z + 1
theorem gaps_snoc : ∀ (zs : List Int) (next z : Int), gaps next (zs ++ [z]) = gaps next zs ++ toI (gapsEnd next zs) z
  | [], next, z => by simp [gaps, gapsEnd]
  | y :: zs, next, z => by
    rw [List.cons_append, gaps, gaps, gaps_snoc zs (y + 1) z, List.append_assoc]
    congr 3
    unfold gapsEnd
    rw [List.getLast?_cons]
    cases zs.getLast? <;> rfl
def missing (done : Int) (zs : List Int) : List Int := if checkB done zs then gaps done zs else []
theorem missing_t {done : Int} {zs : List Int} (h : checkB done zs = true) : missing done zs = gaps done zs := by unfold missing; rw [if_pos h]
theorem missing_f {done : Int} {zs : List Int} (h : checkB done zs = false) : missing done zs = [] := by unfold missing; rw [if_neg (by simp [h])]

/-- The last one of a list that is not empty. -/
def lastI (z : Int) : List Int → Int
  | [] => z
  | y :: ys => lastI y ys
theorem asc_cons {L hi z : Int} {zs : List Int} (h : ascTo L hi (z :: zs) = true) : L < z ∧ z < hi ∧ ascTo z hi zs = true := by
  unfold ascTo at h
  simp only [Bool.and_eq_true, decide_eq_true_eq] at h
  exact ⟨h.1.1, h.1.2, h.2⟩
theorem asc_lastI : ∀ {zs : List Int} {z hi : Int}, ascTo z hi zs = true → z ≤ lastI z zs
  | [], z, _, _ => Int.le_refl _
  | y :: ys, z, hi, h => by
    obtain ⟨h1, h2, h3⟩ := asc_cons h
    have := asc_lastI h3
    show z ≤ lastI y ys
    omega
theorem asc_mem : ∀ {zs : List Int} {z hi : Int}, ascTo z hi zs = true → ∀ y ∈ zs, z < y ∧ y < hi
  | [], _, _, _, y, hy => by simp at hy
  | x :: zs, z, hi, h, y, hy => by
    obtain ⟨h1, h2, h3⟩ := asc_cons h
    rcases List.mem_cons.1 hy with rfl | hy
    · exact ⟨h1, h2⟩
    · have := asc_mem h3 y hy; omega
/-- The reference's way: all numbers up to the last one that are not of the list. -/
theorem gaps_filter : ∀ (zs : List Int) (z next hi : Int), ascTo (next - 1) hi (z :: zs) = true → (toI next (lastI z zs)).filter (fun x => decide (x ∉ z :: zs)) = gaps next (z :: zs)
  | [], z, next, hi, h => by
    obtain ⟨h1, _, _⟩ := asc_cons h
    show (toI next z).filter _ = toI next z ++ []
    rw [List.append_nil, List.filter_eq_self]
    intro x hx
    rw [toI_mem] at hx
    simp; omega
  | y :: ys, z, next, hi, h => by
    obtain ⟨h1, h2, h3⟩ := asc_cons h
    have hy := asc_cons h3
    have hl := asc_lastI hy.2.2
    have ih := gaps_filter ys y (z + 1) hi (by rw [Int.add_sub_cancel]; exact h3)
    show (toI next (lastI y ys)).filter _ = toI next z ++ gaps (z + 1) (y :: ys)
    rw [toI_split (b := z) (by omega) (by omega), toI_cons (a := z) (by omega), List.filter_append, ← ih]
    congr 1
    · rw [List.filter_eq_self]
      intro x hx
      rw [toI_mem] at hx
      simp only [decide_eq_true_eq, List.mem_cons]
      rintro (rfl | hm)
      · omega
      · have := asc_mem h3 x (List.mem_cons.2 hm); omega
    · rw [List.filter_cons, if_neg (by simp)]
      refine List.filter_congr (fun x hx => ?_)
      rw [toI_mem] at hx
      simp only [List.mem_cons, decide_eq_decide]
      constructor
      · intro h' hm; exact h' (.inr hm)
      · rintro h' (rfl | hm)
        · omega
        · exact h' hm
theorem asc_weak {L L' hi : Int} {zs : List Int} (h : ascTo L hi zs = true) (hL : L' ≤ L) : ascTo L' hi zs = true := by
  cases zs with
  | nil => rfl
  | cons z zs =>
    obtain ⟨h1, h2, h3⟩ := asc_cons h
    unfold ascTo
    simp only [Bool.and_eq_true, decide_eq_true_eq]
    exact ⟨⟨by omega, h2⟩, h3⟩
theorem check_parts {done : Int} {zs : List Int} (h : checkB done zs = true) : (0 ≤ done ∧ done ≤ 100) ∧ zs.length ≤ 8 ∧ ascTo done 100 zs = true := by
  unfold checkB at h
  simp only [Bool.and_eq_true, decide_eq_true_eq] at h
  exact ⟨inB_iff.1 h.1.1, h.1.2, h.2⟩
theorem lastI_get : ∀ (zs : List Int) (z : Int), (z :: zs)[zs.length]? = some (lastI z zs)
  | [], z => rfl
  | y :: ys, z => by rw [List.length_cons, List.getElem?_cons_succ]; exact lastI_get ys y

/-- Blocks of two types are not one. -/
theorem Chain.grown {w w' : World} {l : List (Nat × Int)} {p : Value} {B n m c g : Nat} {xs : List Value} (h : Chain w l p) (ho : w.ownsRow B 3 1 (.slice (some ⟨g, 0, none⟩) m c) n xs) (hg : w.grownBy w' (some g)) : Chain w' l p := by
  induction l generalizing p with
  | nil => exact h
  | cons x l ih =>
    obtain ⟨gx, z⟩ := x
    obtain ⟨h1, q, h2, h3⟩ := h
    refine ⟨h1, q, (hg.block gx (Array.getElem?_eq_some_iff.1 h2).1 ?_).trans h2, ih h3⟩
    intro e
    injection e with e
    subst e
    obtain ⟨_, ⟨hv, _⟩ | ⟨g', cap, cur, hv, _, hh, _⟩⟩ := ho
    · cases hv
    · simp only [Value.slice.injEq, Option.some.injEq, Addr.mk.injEq] at hv
      obtain ⟨⟨rfl, _⟩, _⟩ := hv
      rw [h2] at hh
      simp at hh

theorem gaps_bound : ∀ (zs : List Int) (next : Int), ascTo (next - 1) 100 zs = true → 0 ≤ next → ((gaps next zs).length : Int) ≤ 100
  | [], _, _, _ => by simp [gaps]
  | z :: zs, next, h, h0 => by
    have h1 := gaps_filter zs z next 100 h
    rw [← h1]
    have h2 := List.length_filter_le (fun x => decide (x ∉ z :: zs)) (toI next (lastI z zs))
    rw [toI_length] at h2
    obtain ⟨q1, q2, q3⟩ := asc_cons h
    have : lastI z zs < 100 := by
      clear h1 h2
      have key : ∀ (zs : List Int) (z : Int), z < 100 → ascTo z 100 zs = true → lastI z zs < 100 := by
        intro zs
        induction zs with
        | nil => intro z hz _; exact hz
        | cons y ys ih => intro z hz hy; obtain ⟨_, a, b⟩ := asc_cons hy; exact ih y a b
      exact key zs z q2 q3
    omega

set_option maxHeartbeats 6400000 in
theorem specMissing_any (done : Int) (A : Option Addr) (n c : Nat) (zs : List Int) (hn : n ≤ 1048576) (hx : zs.length = n) (w : World) (hL : Lies w 1 A n (zs.flatMap intCells)) :
    Calls Try.prog 49 #[.agg #[.int .i64 done, .slice A n c]] w fun e w' => ∃ g' m' c', e = .returned (.slice (some ⟨g', 0, none⟩) m' c') ∧ (missing done zs).length = m' ∧ m' ≤ 100 ∧ w'.ownsRow w.heap.size 3 1 (.slice (some ⟨g', 0, none⟩) m' c') m' ((missing done zs).flatMap intCells) ∧ Below w.heap.size w w' := by
  have HX := Lib.hid hx
  have HL := Lib.hid hL
  clear hx hL
  cases E : checkB done zs
  · have HE := Lib.hid (missing_f E)
    go_enter Try.func49, Try.ntmps49
    go_wp2_with fail
    refine (specCheck_any _ _ _ _ zs hn HX.out _ (HL.out.below (by repeat' (first | (with_reducible exact Below.refl _ _) | (with_reducible assumption) | (with_reducible refine below_step (by assumption) ?_) | (with_reducible refine below_alloc ?_ _) | (with_reducible refine Below.drew ?_) | (with_reducible refine below_drewN ?_ _) | (with_reducible refine Below.setCell ?_ ?_ _) | go_size)))).mono ?_
    rintro e1 w1 ⟨rfl, hb1⟩
    rw [E]
    have c0 := box_cell hb1 (b := w.heap.size) (o := 0) (u := .int .i64 done) (by go_cell)
    have c1 := box_cell hb1 (b := w.heap.size) (o := 1) (u := .slice A n c) (by go_cell)
    have HO := Lib.hid (owns_below (owns_nil' (w := w.alloc (.cells #[.int .i64 done, .slice A n c] 67)) (B := w.heap.size) (g := w.heap.size + 1) 3 1 (by simp) (by omega)) hb1)
    go_wp2
    go_ret
    exact ⟨_, 0, 0, rfl, by rw [HE.out]; rfl, by omega, by rw [HE.out]; exact HO.out, (by repeat' (first | (with_reducible exact Below.refl _ _) | (with_reducible assumption) | (with_reducible refine below_step (by assumption) ?_) | (with_reducible refine below_alloc ?_ _) | (with_reducible refine Below.drew ?_) | (with_reducible refine below_drewN ?_ _) | (with_reducible refine Below.setCell ?_ ?_ _) | go_size))⟩
  · obtain ⟨⟨k0, k1⟩, k8, hasc⟩ := check_parts E
    have HE := Lib.hid (missing_t E)
    have HA := Lib.hid hasc
    clear hasc k8
    cases zs with
    | nil =>
      obtain rfl : n = 0 := by have := HX.out; simpa using this.symm
      go_enter Try.func49, Try.ntmps49
      go_wp2_with fail
      refine (specCheck_any _ _ _ _ [] hn HX.out _ (HL.out.below (by repeat' (first | (with_reducible exact Below.refl _ _) | (with_reducible assumption) | (with_reducible refine below_step (by assumption) ?_) | (with_reducible refine below_alloc ?_ _) | (with_reducible refine Below.drew ?_) | (with_reducible refine below_drewN ?_ _) | (with_reducible refine Below.setCell ?_ ?_ _) | go_size)))).mono ?_
      rintro e1 w1 ⟨rfl, hb1⟩
      rw [E]
      have c0 := box_cell hb1 (b := w.heap.size) (o := 0) (u := .int .i64 done) (by go_cell)
      have c1 := box_cell hb1 (b := w.heap.size) (o := 1) (u := .slice A 0 c) (by go_cell)
      have HO := Lib.hid (owns_below (owns_nil' (w := w.alloc (.cells #[.int .i64 done, .slice A 0 c] 67)) (B := w.heap.size) (g := w.heap.size + 1) 3 1 (by simp) (by omega)) hb1)
      go_wp2
      go_ret
      exact ⟨_, 0, 0, rfl, by rw [HE.out]; rfl, by omega, by rw [HE.out]; exact HO.out, (by repeat' (first | (with_reducible exact Below.refl _ _) | (with_reducible assumption) | (with_reducible refine below_step (by assumption) ?_) | (with_reducible refine below_alloc ?_ _) | (with_reducible refine Below.drew ?_) | (with_reducible refine below_drewN ?_ _) | (with_reducible refine Below.setCell ?_ ?_ _) | go_size))⟩
    | cons z zs =>
      have hpos : 0 < n := by have := HX.out; simp at this; omega
      have HLast := Lib.hid (show (z :: zs)[n - 1]? = some (lastI z zs) by have := HX.out; simp at this; rw [show n - 1 = zs.length by omega]; exact lastI_get zs z)
      have z0 : decide ((n : Int) = 0) = false := by simp; omega
      have z1 : decide (n = 0) = false := by simp; omega
      have z2 : (1 : Int) ≤ n := by omega
      have z3 : ((n : Int) == 0) = false := by simp; omega
      have hlast : lastI z zs < 100 := (asc_mem HA.out _ (List.mem_of_getElem? HLast.out)).2
      have hlast0 : done < lastI z zs := (asc_mem HA.out _ (List.mem_of_getElem? HLast.out)).1
      have HG := Lib.hid ((gaps_filter zs z done 100 (asc_weak HA.out (by omega))).trans HE.out.symm)
      go_enter Try.func49, Try.ntmps49
      go_wp2_with fail
      refine (specCheck_any _ _ _ _ (z :: zs) hn HX.out _ (HL.out.below (by repeat' (first | (with_reducible exact Below.refl _ _) | (with_reducible assumption) | (with_reducible refine below_step (by assumption) ?_) | (with_reducible refine below_alloc ?_ _) | (with_reducible refine Below.drew ?_) | (with_reducible refine below_drewN ?_ _) | (with_reducible refine Below.setCell ?_ ?_ _) | go_size)))).mono ?_
      rintro e1 w1 ⟨rfl, hb1⟩
      rw [E]
      have c0 := box_cell hb1 (b := w.heap.size) (o := 0) (u := .int .i64 done) (by go_cell)
      have c1 := box_cell hb1 (b := w.heap.size) (o := 1) (u := .slice A n c) (by go_cell)
      have B1 : Below w.heap.size w w1 := (by repeat' (first | (with_reducible exact Below.refl _ _) | (with_reducible assumption) | (with_reducible refine below_step (by assumption) ?_) | (with_reducible refine below_alloc ?_ _) | (with_reducible refine Below.drew ?_) | (with_reducible refine below_drewN ?_ _) | (with_reducible refine Below.setCell ?_ ?_ _) | go_size))
      have hs1 : w.heap.size + 2 ≤ w1.heap.size := by have := hb1.size; simp at this; omega
      have HO := Lib.hid (owns_below (owns_nil' (w := w.alloc (.cells #[.int .i64 done, .slice A n c] 67)) (B := w.heap.size + 1) (g := w.heap.size + 1) 3 1 (by simp) (by omega)) hb1)
      go_wp2_with fail
      go_loopw [3, 4] (fun l i wr => ∃ (at' : Int) (g m c' : Nat), done ≤ at' ∧ at' ≤ lastI z zs ∧ i = .int .i64 at' ∧ l = .slice (some ⟨g, 0, none⟩) m c' ∧ Hid (((toI done at').filter (fun x => decide (x ∉ z :: zs))).length = m) ∧ (m : Int) ≤ at' - done ∧ wr.ownsRow (w.heap.size + 1) 3 1 (.slice (some ⟨g, 0, none⟩) m c') m (((toI done at').filter (fun x => decide (x ∉ z :: zs))).flatMap intCells) ∧ wr.cell? ⟨w.heap.size, 0, none⟩ = some (.int .i64 done) ∧ wr.cell? ⟨w.heap.size, 1, none⟩ = some (.slice A n c) ∧ w.heap.size + 2 ≤ wr.heap.size ∧ Below w.heap.size w wr) (fun _ i _ => (lastI z zs - intOf i).toNat)
      case atStart => exact ⟨done, _, 0, 0, by omega, by omega, rfl, rfl, Lib.hid (by rw [toI_none (Int.le_refl _)]; rfl), by omega, by rw [toI_none (Int.le_refl _)]; exact HO.out, c0, c1, hs1, B1⟩
      case round =>
        obtain ⟨at', g, m, c', ha, hb, rfl, rfl, hl, hm, ho, d0, d1, hs, hB⟩ := hrel
        have HO := Lib.hid ho
        clear ho c0 c1
        have hgl := (owns_lt HO.out).1
        obtain ⟨b, o1, rfl, _, hc⟩ := (HL.out.below hB).row (fun _ => rfl) hpos
        have l0 : wr.cell? ⟨b, o1 + (n - 1), none⟩ = some (.int .i64 (lastI z zs)) := by simpa using hc (n - 1) _ HLast.out 0 _ rfl
        clear hc
        by_cases hlt : at' < lastI z zs
        · have HN := Lib.hid (show (toI done (at' + 1)).filter (fun x => decide (x ∉ z :: zs)) = (toI done at').filter (fun x => decide (x ∉ z :: zs)) ++ [at'].filter (fun x => decide (x ∉ z :: zs)) by rw [toI_snoc ha, List.filter_append])
          by_cases hmem : at' ∈ z :: zs
          · have HN2 := Lib.hid (show (toI done (at' + 1)).filter (fun x => decide (x ∉ z :: zs)) = (toI done at').filter (fun x => decide (x ∉ z :: zs)) from HN.out.trans (by rw [List.filter_cons, if_neg (by simp only [decide_eq_true_eq]; exact fun h => h hmem), List.filter_nil, List.append_nil]))
            have HH := Lib.hid (show hasB done (z :: zs) at' = true by unfold hasB; rw [decide_eq_true hmem]; rfl)
            clear HN hmem
            go_wp2_with fail
            refine (l15Has_any done _ n c (z :: zs) at' hn HX.out _ (HL.out.below hB)).mono ?_
            rintro e1 w2 ⟨rfl, hb2⟩
            rw [HH.out]
            have d0 := box_cell hb2 d0
            have d1 := box_cell hb2 d1
            go_wp2
            go_roundw
            case rel => exact ⟨at' + 1, g, m, c', by omega, by omega, by go_num, rfl, by rw [HN2.out]; exact hl, by omega, by rw [HN2.out]; exact owns_below HO.out hb2, d0, d1, Nat.le_trans hs hb2.size, (by repeat' (first | (with_reducible exact Below.refl _ _) | (with_reducible assumption) | (with_reducible refine below_step (by assumption) ?_) | (with_reducible refine below_alloc ?_ _) | (with_reducible refine Below.drew ?_) | (with_reducible refine below_drewN ?_ _) | (with_reducible refine Below.setCell ?_ ?_ _) | go_size))⟩
            case measure => simp [intOf]; omega
          · have HN2 := Lib.hid (show (toI done (at' + 1)).filter (fun x => decide (x ∉ z :: zs)) = (toI done at').filter (fun x => decide (x ∉ z :: zs)) ++ [at'] from HN.out.trans (by rw [List.filter_cons, if_pos (by simp only [decide_eq_true_eq]; exact hmem), List.filter_nil]))
            have HH := Lib.hid (show hasB done (z :: zs) at' = false by unfold hasB; rw [decide_eq_false hmem, decide_eq_false (by omega)]; rfl)
            clear HN hmem
            go_wp2_with fail
            refine (l15Has_any done _ n c (z :: zs) at' hn HX.out _ (HL.out.below hB)).mono ?_
            rintro e1 w2 ⟨rfl, hb2⟩
            rw [HH.out]
            have d0 := box_cell hb2 d0
            have d1 := box_cell hb2 d1
            have hB2 := below_step hb2 hB
            have hs2 := Nat.le_trans hs hb2.size
            have HO2 := Lib.hid (owns_below HO.out hb2)
            go_wp2_with (at_builtin; refine wpList_app1 rfl _ _ 47 3 1 8 rowInt rfl (w.heap.size + 1) g m c' _ HO2.out rfl rfl rfl rfl (by unfold maxLen; omega) (by omega) (by omega) ?_; intro g3 c3 w3 ho3 hg3 hz3; have HO3 := Lib.hid ho3; clear ho3)
            have hne : w.heap.size ≠ g := by omega
            go_roundw
            case rel => exact ⟨at' + 1, g3, m + 1, c3, by omega, by omega, by go_num, rfl, by rw [HN2.out]; exact Lib.hid (by rw [List.length_append, hl.out]; rfl), by omega, by rw [HN2.out, List.flatMap_append]; exact HO3.out, only_cell hg3 hne d0, only_cell hg3 hne d1, by omega, below_grown hB2 hg3 (by omega) (by omega)⟩
            case measure => simp [intOf]; omega
        · obtain rfl : at' = lastI z zs := by omega
          go_wp2
          go_ret
          exact ⟨g, m, c', rfl, by rw [← HG.out]; exact hl.out, by omega, by rw [← HG.out]; exact ownsRow_base HO.out (by omega), hB⟩

theorem gapsEnd_cons (next y : Int) (ys : List Int) : gapsEnd next (y :: ys) = gapsEnd (y + 1) ys := by
  unfold gapsEnd
  rw [List.getLast?_cons]
  cases ys.getLast? <;> rfl
theorem gapsEnd_le : ∀ (pre : List Int) (next hi z : Int) (suf : List Int), ascTo (next - 1) hi (pre ++ z :: suf) = true → gapsEnd next pre ≤ z ∧ z < hi
  | [], next, hi, z, suf, h => by
    obtain ⟨h1, h2, _⟩ := asc_cons h
    show next ≤ z ∧ z < hi
    omega
  | y :: pre, next, hi, z, suf, h => by
    obtain ⟨h1, h2, h3⟩ := asc_cons h
    rw [gapsEnd_cons]
    exact gapsEnd_le pre (y + 1) hi z suf (by rw [Int.add_sub_cancel]; exact h3)
theorem gapsEnd_snoc (next : Int) (pre : List Int) (z : Int) : gapsEnd next (pre ++ [z]) = z + 1 := by unfold gapsEnd; rw [List.getLast?_append]; rfl

set_option maxHeartbeats 6400000 in
theorem implMissing_any (done : Int) (A : Option Addr) (n c : Nat) (zs : List Int) (hn : n ≤ 1048576) (hx : zs.length = n) (w : World) (hL : Lies w 1 A n (zs.flatMap intCells)) :
    Calls Try.prog 51 #[.agg #[.int .i64 done, .slice A n c]] w fun e w' => ∃ g' m' c', e = .returned (.slice (some ⟨g', 0, none⟩) m' c') ∧ (missing done zs).length = m' ∧ m' ≤ 100 ∧ w'.ownsRow w.heap.size 3 1 (.slice (some ⟨g', 0, none⟩) m' c') m' ((missing done zs).flatMap intCells) ∧ Below w.heap.size w w' := by
  have HX := Lib.hid hx
  have HL := Lib.hid hL
  clear hx hL
  cases E : checkB done zs
  · have HE := Lib.hid (missing_f E)
    go_enter Try.func51, Try.ntmps51
    go_wp2_with fail
    refine (implCheck_any _ _ _ _ zs hn HX.out _ (HL.out.below (by repeat' (first | (with_reducible exact Below.refl _ _) | (with_reducible assumption) | (with_reducible refine below_step (by assumption) ?_) | (with_reducible refine below_alloc ?_ _) | (with_reducible refine Below.drew ?_) | (with_reducible refine below_drewN ?_ _) | (with_reducible refine Below.setCell ?_ ?_ _) | go_size)))).mono ?_
    rintro e1 w1 ⟨rfl, hb1⟩
    rw [E]
    have c0 := box_cell hb1 (b := w.heap.size) (o := 0) (u := .int .i64 done) (by go_cell)
    have c1 := box_cell hb1 (b := w.heap.size) (o := 1) (u := .slice A n c) (by go_cell)
    have HO := Lib.hid (owns_below (owns_nil' (w := w.alloc (.cells #[.int .i64 done, .slice A n c] 67)) (B := w.heap.size) (g := w.heap.size + 1) 3 1 (by simp) (by omega)) hb1)
    go_wp2
    go_ret
    exact ⟨_, 0, 0, rfl, by rw [HE.out]; rfl, by omega, by rw [HE.out]; exact HO.out, (by repeat' (first | (with_reducible exact Below.refl _ _) | (with_reducible assumption) | (with_reducible refine below_step (by assumption) ?_) | (with_reducible refine below_alloc ?_ _) | (with_reducible refine Below.drew ?_) | (with_reducible refine below_drewN ?_ _) | (with_reducible refine Below.setCell ?_ ?_ _) | go_size))⟩
  · obtain ⟨⟨k0, k1⟩, k8, hasc⟩ := check_parts E
    have HE := Lib.hid (missing_t E)
    have HA := Lib.hid (asc_weak (L' := done - 1) hasc (by omega))
    clear hasc k8
    go_enter Try.func51, Try.ntmps51
    go_wp2_with fail
    refine (implCheck_any _ _ _ _ zs hn HX.out _ (HL.out.below (by repeat' (first | (with_reducible exact Below.refl _ _) | (with_reducible assumption) | (with_reducible refine below_step (by assumption) ?_) | (with_reducible refine below_alloc ?_ _) | (with_reducible refine Below.drew ?_) | (with_reducible refine below_drewN ?_ _) | (with_reducible refine Below.setCell ?_ ?_ _) | go_size)))).mono ?_
    rintro e1 w1 ⟨rfl, hb1⟩
    rw [E]
    have c0 := box_cell hb1 (b := w.heap.size) (o := 0) (u := .int .i64 done) (by go_cell)
    have c1 := box_cell hb1 (b := w.heap.size) (o := 1) (u := .slice A n c) (by go_cell)
    have B1 : Below w.heap.size w w1 := (by repeat' (first | (with_reducible exact Below.refl _ _) | (with_reducible assumption) | (with_reducible refine below_step (by assumption) ?_) | (with_reducible refine below_alloc ?_ _) | (with_reducible refine Below.drew ?_) | (with_reducible refine below_drewN ?_ _) | (with_reducible refine Below.setCell ?_ ?_ _) | go_size))
    have HO := Lib.hid (owns_below (owns_nil' (w := w.alloc (.cells #[.int .i64 done, .slice A n c] 67)) (B := w.heap.size) (g := w.heap.size + 1) 3 1 (by simp) (by omega)) hb1)
    go_wp2_with fail
    refine (placesOf_any A n c zs hn HX.out _ (HL.out.below B1)).mono ?_
    rintro e2 w2 ⟨u, rfl, hP⟩
    obtain ⟨l, h1, h2, _, _, hb2⟩ := hP
    have B2 : Below w.heap.size w w2 := below_step hb2 B1
    have H1 := Lib.hid h1
    have H2 := Lib.hid h2
    have HO2 := Lib.hid (owns_below HO.out hb2)
    clear h1 h2 c0 c1 HO
    go_wp2_with fail
    go_loopg [3, 4, 5] l.length (fun k r i p wr => ∃ (pre suf : List (Nat × Int)) (u : Option Addr) (next : Int) (g m c' : Nat), l = pre ++ suf ∧ k = suf.length ∧ p = .pointer u ∧ i = .int .i64 next ∧ r = .slice (some ⟨g, 0, none⟩) m c' ∧ Hid (gapsEnd done (pre.map (·.2)) = next) ∧ done ≤ next ∧ next ≤ 100 ∧ Chain wr suf (.pointer u) ∧ Hid ((gaps done (pre.map (·.2))).length = m) ∧ (m : Int) ≤ next - done ∧ wr.ownsRow w.heap.size 3 1 (.slice (some ⟨g, 0, none⟩) m c') m ((gaps done (pre.map (·.2))).flatMap intCells) ∧ Below w.heap.size w wr)
    case atStart => exact ⟨[], l, u, done, _, 0, 0, rfl, rfl, rfl, rfl, rfl, Lib.hid rfl, by omega, by omega, H2.out, Lib.hid rfl, by omega, HO2.out, B2⟩
    case round =>
      obtain ⟨pre, suf, u', next, g, m, c', hl, hk, rfl, rfl, rfl, hend, hn1, hn2, hC, hlen, hm, ho, hB⟩ := hrel
      have HLl := Lib.hid hl
      have HK := Lib.hid hk
      have HO := Lib.hid ho
      clear hl hk ho
      cases suf with
      | nil =>
        obtain rfl : u' = none := by simpa [Chain] using hC
        have HE2 := Lib.hid (show gaps done (pre.map (·.2)) = missing done zs by
          have e1 := HLl.out
          rw [List.append_nil] at e1
          rw [← e1, H1.out, HE.out])
        clear hC
        go_wp2
        go_ret
        exact ⟨g, m, c', rfl, by rw [← HE2.out]; exact hlen.out, by omega, by rw [← HE2.out]; exact HO.out, hB⟩
      | cons y suf =>
        obtain ⟨gy, z⟩ := y
        have hC0 := hC
        obtain ⟨hp, q, hq, hC'⟩ := hC
        obtain rfl : u' = some ⟨gy, 0, none⟩ := by injection hp
        obtain ⟨u2, rfl⟩ := hC'.pointer
        have HZ := Lib.hid (show gapsEnd done (pre.map (·.2)) ≤ z ∧ z < 100 from gapsEnd_le _ done 100 z (suf.map (·.2)) (by
          have e1 := HA.out
          rw [← H1.out, HLl.out, List.map_append] at e1
          exact e1))
        have hz1 : next ≤ z := by rw [← hend.out]; exact HZ.out.1
        have hz2 : z < 100 := HZ.out.2
        have HC := Lib.hid hC0
        have HS := Lib.hid (show gaps done ((pre ++ [(gy, z)]).map (·.2)) = gaps done (pre.map (·.2)) ++ toI next z by
          rw [List.map_append]; show gaps done (pre.map (·.2) ++ [z]) = _; rw [gaps_snoc, hend.out])
        have HGE := Lib.hid (show gapsEnd done ((pre ++ [(gy, z)]).map (·.2)) = z + 1 by
          rw [List.map_append]; exact gapsEnd_snoc _ _ _)
        clear hC' hq hp hC0 HZ
        go_wp2_with fail
        obtain ⟨wo, hwo⟩ : ∃ wo : World, wo = wr := ⟨_, rfl⟩
        subst hwo
        go_loopw [3, 4] (fun r i wr => ∃ (at' : Int) (g m' c' : Nat), next ≤ at' ∧ at' ≤ z ∧ i = .int .i64 at' ∧ r = .slice (some ⟨g, 0, none⟩) m' c' ∧ Hid ((gaps done (pre.map (·.2)) ++ toI next at').length = m') ∧ (m' : Int) ≤ at' - done ∧ Chain wr ((gy, z) :: suf) (.pointer (some ⟨gy, 0, none⟩)) ∧ wr.ownsRow w.heap.size 3 1 (.slice (some ⟨g, 0, none⟩) m' c') m' ((gaps done (pre.map (·.2)) ++ toI next at').flatMap intCells) ∧ Below w.heap.size w wr) (fun _ i _ => (z - intOf i).toNat)
        case atStart => exact ⟨next, g, m, c', by omega, hz1, rfl, rfl, Lib.hid (by rw [toI_none (Int.le_refl _), List.append_nil]; exact hlen.out), by omega, HC.out, by rw [toI_none (Int.le_refl _), List.append_nil]; exact HO.out, hB⟩
        case round =>
          obtain ⟨at', g, m', c', ha, hb, rfl, rfl, hl', hm', hC1, ho, hB⟩ := hrel
          have HO1 := Lib.hid ho
          have HC1 := Lib.hid hC1
          obtain ⟨_, q, hq, hC2⟩ := hC1
          obtain ⟨u3, rfl⟩ := hC2.pointer
          have e0 := cell_of_row wr gy 0 _ _ (0, 0) hq
          have e1 := cell_of_row wr gy 1 _ _ (0, 0) hq
          simp at e0 e1
          have HC2 := Lib.hid hC2
          clear ho hC2 hq
          by_cases hlt : at' < z
          · have HN := Lib.hid (show gaps done (pre.map (·.2)) ++ toI next (at' + 1) = (gaps done (pre.map (·.2)) ++ toI next at') ++ [at'] by rw [toI_snoc ha, List.append_assoc])
            go_wp2_with (at_builtin; refine wpList_app1 rfl _ _ 47 3 1 8 rowInt rfl w.heap.size g m' c' _ HO1.out rfl rfl rfl rfl (by unfold maxLen; omega) (by omega) hB.size ?_; intro g3 c3 w3 ho3 hg3 hz3; have HO3 := Lib.hid ho3; have hgl := (owns_lt HO1.out).1; clear ho3)
            go_roundw
            case rel => exact ⟨at' + 1, g3, m' + 1, c3, by omega, by omega, by go_num, rfl, by rw [HN.out]; exact Lib.hid (by rw [List.length_append, hl'.out]; rfl), by omega, HC1.out.grown HO1.out hg3, by rw [HN.out, List.flatMap_append]; exact HO3.out, below_grown hB hg3 hgl hB.size⟩
            case measure => simp [intOf]; omega
          · obtain rfl : at' = z := by omega
            go_wp2
            go_roundg suf.length
            case measure => have := HK.out; simp at this; omega
            case rel => exact ⟨pre ++ [(gy, at')], suf, u3, at' + 1, g, m', c', by rw [HLl.out]; simp, rfl, rfl, rfl, rfl, HGE, by omega, by omega, HC2.out, by rw [HS.out]; exact hl', by omega, by rw [HS.out]; exact HO1.out, hB⟩

theorem specMissing_at (done : Int) (lo hi g m c : Nat) (zs : List Int) (w : World) (h : intSAt w lo hi (.slice (some ⟨g, 0, none⟩) m c) zs) :
    Calls Try.prog 49 #[.agg #[.int .i64 done, .slice (some ⟨g, 0, none⟩) m c]] w fun e w' => ∃ v', e = .returned v' ∧ intSAt w' w.heap.size w'.heap.size v' (missing done zs) ∧ Below w.heap.size w w' := by
  obtain ⟨_, _, _, e1, hx, hb, _, _, ho⟩ := h.open
  cases e1
  exact (specMissing_any _ _ _ _ zs hb hx w (lies_of_own ho)).mono fun _ _ ⟨_, _, _, he, hl, h8, hw, hB⟩ => ⟨_, he, intSAt.made hl (by omega) hw, hB⟩
theorem implMissing_at (done : Int) (lo hi g m c : Nat) (zs : List Int) (w : World) (h : intSAt w lo hi (.slice (some ⟨g, 0, none⟩) m c) zs) :
    Calls Try.prog 51 #[.agg #[.int .i64 done, .slice (some ⟨g, 0, none⟩) m c]] w fun e w' => ∃ v', e = .returned v' ∧ intSAt w' w.heap.size w'.heap.size v' (missing done zs) ∧ Below w.heap.size w w' := by
  obtain ⟨_, _, _, e1, hx, hb, _, _, ho⟩ := h.open
  cases e1
  exact (implMissing_any _ _ _ _ zs hb hx w (lies_of_own ho)).mono fun _ _ ⟨_, _, _, he, hl, h8, hw, hB⟩ => ⟨_, he, intSAt.made hl (by omega) hw, hB⟩
end Go.Proofs.Ytfbnpnajpkhkdaa
