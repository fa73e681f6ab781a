/-
  LocksGive of the reference and of the program: the locks of other owners, in a row of its own. No condition.
-/
import Derived.Test.YtfbnpnajpkhkdaaLocksOf
namespace Go.Proofs.Ytfbnpnajpkhkdaa
open Go.ChangeShapes Go.WideShapes Go.ChangeAt Go.RowKit

def gives (owner : Int) (xs : List (Int × Int)) : List (Int × Int) := if locksFrom (-1) xs then without owner xs else []
theorem gives_t {owner : Int} {xs : List (Int × Int)} (h : locksFrom (-1) xs = true) : gives owner xs = without owner xs := by unfold gives; rw [if_pos h]
theorem gives_f {owner : Int} {xs : List (Int × Int)} (h : locksFrom (-1) xs = false) : gives owner xs = [] := by unfold gives; rw [if_neg (by simp [h])]
theorem without_succ {owner : Int} {xs : List (Int × Int)} {k : Nat} {x : Int × Int} (hx : xs[k]? = some x) : without owner (xs.take (k + 1)) = without owner (xs.take k) ++ (if x.2 = owner then [] else [x]) := by
  unfold without
  rw [take_succ_of hx, List.filter_append, List.filter_cons]
  by_cases h : x.2 = owner <;> simp [h]

set_option maxHeartbeats 3200000 in
theorem specGive_any (A : Option Addr) (n c : Nat) (xs : List (Int × Int)) (owner : Int) (hn : n ≤ 1048576) (hx : xs.length = n) (w : World) (hL : Lies w 2 A n (xs.flatMap lockCells)) :
    Calls Try.prog 28 #[.slice A n c, .int .i64 owner] w fun e w' => ∃ g m c, e = .returned (.slice (some ⟨g, 0, none⟩) m c) ∧ (gives owner xs).length = m ∧ w'.ownsRow w.heap.size 104 2 (.slice (some ⟨g, 0, none⟩) m c) m ((gives owner xs).flatMap lockCells) ∧ Below w.heap.size w w' := by
  have HX := Lib.hid hx
  have HL := Lib.hid hL
  clear hx hL
  cases E : locksFrom (-1) xs
  · have HE := Lib.hid (gives_f (owner := owner) E)
    go_enter Try.func28, Try.ntmps28
    by_cases hn0 : n = 0
    · have z0 : decide ((0 : Int) < (n : Int)) = false := by simp; omega
      have z1 : decide (0 < n) = false := by simp; omega
      clear hn0
      go_wp2_with fail
      go_rounds 1
      go_ret
      exact ⟨_, 0, 0, rfl, by rw [HE.out]; rfl, by rw [HE.out]; exact owns_nil _ _ _, (by repeat' (first | (with_reducible exact Below.refl _ _) | (with_reducible assumption) | (with_reducible refine below_step (by assumption) ?_) | (with_reducible refine below_alloc ?_ _) | (with_reducible refine Below.drew ?_) | (with_reducible refine below_drewN ?_ _) | (with_reducible refine Below.setCell ?_ ?_ _) | go_size))⟩
    · have z0 : decide ((0 : Int) < (n : Int)) = true := by simp; omega
      have z1 : decide (0 < n) = true := by simp; omega
      clear hn0
      go_wp2_with fail
      refine wp_loop_rounds 1 ?_
      rw [rounds_succ]
      go_wp2_with fail
      refine (specLocks_any _ _ _ xs hn HX.out _ (HL.out.below (by repeat' (first | (with_reducible exact Below.refl _ _) | (with_reducible assumption) | (with_reducible refine below_step (by assumption) ?_) | (with_reducible refine below_alloc ?_ _) | (with_reducible refine Below.drew ?_) | (with_reducible refine below_drewN ?_ _) | (with_reducible refine Below.setCell ?_ ?_ _) | go_size)))).mono ?_
      rintro e1 w1 ⟨rfl, hb1⟩
      rw [E]
      have HO := Lib.hid (owns_below (owns_nil w 104 2) hb1)
      go_wp2
      go_ret
      exact ⟨_, 0, 0, rfl, by rw [HE.out]; rfl, by rw [HE.out]; exact HO.out, (by repeat' (first | (with_reducible exact Below.refl _ _) | (with_reducible assumption) | (with_reducible refine below_step (by assumption) ?_) | (with_reducible refine below_alloc ?_ _) | (with_reducible refine Below.drew ?_) | (with_reducible refine below_drewN ?_ _) | (with_reducible refine Below.setCell ?_ ?_ _) | go_size))⟩
  · have HE := Lib.hid (gives_t (owner := owner) E)
    go_enter Try.func28, Try.ntmps28
    go_wp2_with fail
    go_loopw [5, 6] (fun l i wr => ∃ k g m c : Nat, k ≤ n ∧ i = .int .i64 k ∧ l = .slice (some ⟨g, 0, none⟩) m c ∧ m ≤ k ∧ Hid ((without owner (xs.take k)).length = m) ∧ wr.ownsRow w.heap.size 104 2 (.slice (some ⟨g, 0, none⟩) m c) m ((without owner (xs.take k)).flatMap lockCells) ∧ Below w.heap.size w wr) (fun _ i _ => n - (intOf i).toNat)
    case atStart => exact ⟨0, _, 0, 0, by omega, rfl, rfl, Nat.le_refl _, Lib.hid rfl, owns_nil' _ _ rfl (Nat.le_refl _), (by repeat' (first | (with_reducible exact Below.refl _ _) | (with_reducible assumption) | (with_reducible refine below_step (by assumption) ?_) | (with_reducible refine below_alloc ?_ _) | (with_reducible refine Below.drew ?_) | (with_reducible refine below_drewN ?_ _) | (with_reducible refine Below.setCell ?_ ?_ _) | go_size))⟩
    case round =>
      obtain ⟨k, g, m, c, hk, rfl, rfl, hm, hl, ho, hB⟩ := hrel
      have HO := Lib.hid ho
      clear ho
      by_cases hlt : k < n
      · go_wp2_with fail
        refine (specLocks_any _ _ _ xs hn HX.out _ (HL.out.below hB)).mono ?_
        rintro e1 w1 ⟨rfl, hb1⟩
        rw [E]
        have hB1 := below_step hb1 hB
        have HO1 := Lib.hid (owns_below HO.out hb1)
        obtain ⟨b, o, rfl, hb, hc⟩ := (HL.out.below hB1).row (fun _ => rfl) (by omega)
        obtain ⟨⟨x0, x1⟩, hxk⟩ := get_lt HX.out hlt
        have c0 : w1.cell? ⟨b, o + k * 2, none⟩ = some (.int .i64 x0) := hc k _ hxk 0 _ rfl
        have c1 : w1.cell? ⟨b, o + k * 2 + 1, none⟩ = some (.int .i64 x1) := hc k _ hxk 1 _ rfl
        have HK := Lib.hid (without_succ (owner := owner) hxk)
        clear hxk hc
        by_cases h0 : x1 = owner
        · have Ez : (x1 != owner) = false := by simp [h0]
          have HK2 := Lib.hid (HK.out.trans (by rw [if_pos h0, List.append_nil]))
          clear h0 HK
          go_wp2
          go_roundw
          case rel => exact ⟨k + 1, g, m, c, by omega, by go_num, rfl, by omega, Lib.hid (by rw [HK2.out]; exact hl.out), by rw [HK2.out]; exact HO1.out, (by repeat' (first | (with_reducible exact Below.refl _ _) | (with_reducible assumption) | (with_reducible refine below_step (by assumption) ?_) | (with_reducible refine below_alloc ?_ _) | (with_reducible refine Below.drew ?_) | (with_reducible refine below_drewN ?_ _) | (with_reducible refine Below.setCell ?_ ?_ _) | go_size))⟩
          case measure => simp [intOf]; omega
        · have Ez : (x1 != owner) = true := by simp [h0]
          have HK2 := Lib.hid (HK.out.trans (by rw [if_neg h0]))
          clear h0 HK
          go_wp2_with (at_builtin; refine wpList_app1 rfl _ _ 41 104 2 16 rowLock rfl w.heap.size g m c _ HO1.out rfl rfl rfl rfl (by unfold maxLen; omega) (by omega) hB1.size ?_; intro g' c' w2 ho2 hg2 hz2; have HO2 := Lib.hid ho2; have hgl := (owns_lt HO1.out).1; clear ho2)
          go_roundw
          case rel => exact ⟨k + 1, g', m + 1, c', by omega, by go_num, rfl, by omega, Lib.hid (by rw [HK2.out, List.length_append, hl.out]; rfl), by rw [HK2.out, List.flatMap_append]; exact HO2.out, below_grown hB1 hg2 hgl hB1.size⟩
          case measure => simp [intOf]; omega
      · obtain rfl : k = n := by omega
        have HE2 := Lib.hid (show without owner (xs.take k) = gives owner xs by rw [List.take_of_length_le (by have := HX.out; omega), HE.out])
        go_wp2
        go_ret
        exact ⟨g, m, c, rfl, by rw [← HE2.out]; exact hl.out, by rw [← HE2.out]; exact HO.out, hB⟩

/-- The first k of the holders cleared where they are an owner's. -/
def clearK (owner : Int) (hs : List Int) (k : Nat) : List Int := (hs.take k).map (fun a => if a = owner then 0 else a) ++ hs.drop k
theorem clearK_length (owner : Int) (hs : List Int) (k : Nat) : (clearK owner hs k).length = hs.length := by unfold clearK; simp; omega
theorem clearK_get {owner : Int} {hs : List Int} {k : Nat} {h : Int} (e : hs[k]? = some h) : (clearK owner hs k)[k]? = some h := by
  have hk := (List.getElem?_eq_some_iff.1 e).1
  unfold clearK
  rw [List.getElem?_append_right (by simp; omega)]
  simp only [List.length_map, List.length_take]
  rw [show min k hs.length = k by omega, Nat.sub_self, List.getElem?_drop]; exact e
theorem clearK_succ {owner : Int} {hs : List Int} {k : Nat} {h : Int} (e : hs[k]? = some h) : clearK owner hs (k + 1) = (clearK owner hs k).set k (if h = owner then 0 else h) := by
  have hk := (List.getElem?_eq_some_iff.1 e).1
  unfold clearK
  rw [take_succ_of e, List.map_append, List.set_append_right _ _ (by simp; omega)]
  simp only [List.length_map, List.length_take, List.map_cons, List.map_nil]
  rw [show min k hs.length = k by omega, Nat.sub_self, drop_of e]
  simp
theorem clearK_same {owner : Int} {hs : List Int} {k : Nat} {h : Int} (e : hs[k]? = some h) (hne : h ≠ owner) : clearK owner hs (k + 1) = clearK owner hs k := by
  rw [clearK_succ e, if_neg hne]
  refine List.ext_getElem? (fun j => ?_)
  rw [List.getElem?_set]
  by_cases c : k = j
  · subst c; rw [if_pos rfl, clearK_get e, if_pos (by rw [clearK_length]; exact (List.getElem?_eq_some_iff.1 e).1)]
  · rw [if_neg c]
theorem clearK_all (owner : Int) (hs : List Int) (k : Nat) (h : hs.length ≤ k) : clearK owner hs k = hs.map (fun a => if a = owner then 0 else a) := by
  unfold clearK; rw [List.take_of_length_le h, List.drop_of_length_le h, List.append_nil]

set_option maxHeartbeats 3200000 in
theorem implGive_any (A : Option Addr) (n c : Nat) (xs : List (Int × Int)) (owner : Int) (hn : n ≤ 1048576) (hx : xs.length = n) (w : World) (hL : Lies w 2 A n (xs.flatMap lockCells)) :
    Calls Try.prog 30 #[.slice A n c, .int .i64 owner] w fun e w' => ∃ g m c, e = .returned (.slice (some ⟨g, 0, none⟩) m c) ∧ (gives owner xs).length = m ∧ w'.ownsRow w.heap.size 104 2 (.slice (some ⟨g, 0, none⟩) m c) m ((gives owner xs).flatMap lockCells) ∧ Below w.heap.size w w' := by
  have HX := Lib.hid hx
  have HL := Lib.hid hL
  clear hx hL
  cases E : locksFrom (-1) xs
  · have HE := Lib.hid (gives_f (owner := owner) E)
    go_enter Try.func30, Try.ntmps30
    go_wp2_with fail
    refine (implLocks_any _ _ _ xs hn HX.out _ HL.out).mono ?_
    rintro e1 w1 ⟨rfl, hb1⟩
    rw [E]
    go_wp2
    go_ret
    exact ⟨_, 0, 0, rfl, by rw [HE.out]; rfl, by rw [HE.out]; exact owns_nil' _ _ rfl hb1.size, (by repeat' (first | (with_reducible exact Below.refl _ _) | (with_reducible assumption) | (with_reducible refine below_step (by assumption) ?_) | (with_reducible refine below_alloc ?_ _) | (with_reducible refine Below.drew ?_) | (with_reducible refine below_drewN ?_ _) | (with_reducible refine Below.setCell ?_ ?_ _) | go_size))⟩
  · have HE := Lib.hid (gives_t (owner := owner) E)
    have HV := Lib.hid (fun (x : Int × Int) (hx : x ∈ xs) => (show 0 ≤ x.1 ∧ x.1 ≤ 7 by have := locks_above E x hx; omega))
    obtain ⟨a0, a1, a2, a3, a4, a5, a6, a7, he⟩ := eight (holdsL_length xs)
    have HH := Lib.hid he
    clear he
    go_enter Try.func30, Try.ntmps30
    go_wp2_with fail
    refine (implLocks_any _ _ _ xs hn HX.out _ HL.out).mono ?_
    rintro e1 w1 ⟨rfl, hb1⟩
    rw [E]
    go_wp2_with fail
    refine (holdersOf_any _ _ _ xs hn HX.out HV.out _ _ _ _ _ _ _ _ HH.out _ (HL.out.below hb1)).mono ?_
    rintro e1 w2 ⟨rfl, hb2⟩
    have hB2 := below_step hb2 hb1
    go_wp2_with fail
    go_loopw [15] (fun i wr => ∃ k : Nat, k ≤ 8 ∧ i = .int .i64 k ∧ RowIs wr w2.heap.size 108 (vals (clearK owner [a0, a1, a2, a3, a4, a5, a6, a7] k)) ∧ Below w.heap.size w wr) (fun i _ => 8 - (intOf i).toNat)
    case atStart => exact ⟨0, by omega, rfl, RowIs.new w2 _ _, (by repeat' (first | (with_reducible exact Below.refl _ _) | (with_reducible assumption) | (with_reducible refine below_step (by assumption) ?_) | (with_reducible refine below_alloc ?_ _) | (with_reducible refine Below.drew ?_) | (with_reducible refine below_drewN ?_ _) | (with_reducible refine Below.setCell ?_ ?_ _) | go_size))⟩
    case round =>
      obtain ⟨k, hk, rfl, hR, hB⟩ := hrel
      by_cases hlt : k < 8
      · obtain ⟨o, hko⟩ := get_lt (xs := [a0, a1, a2, a3, a4, a5, a6, a7]) (n := 8) rfl hlt
        have hidx := idx8 hlt hko
        have d0 := hR.cell (vals_get (clearK_get (owner := owner) hko))
        have f0 := hR.frozen k
        have hsz := hB2.size
        have HR := Lib.hid hR
        have HK := Lib.hid hko
        clear hko hR
        by_cases h0 : o = owner
        · have Ez : (o == owner) = true := by simp [h0]
          have H0 := Lib.hid h0
          clear h0
          go_wp2
          go_roundw
          case rel => exact ⟨k + 1, by omega, by go_num, by rw [clearK_succ HK.out, vals_set, if_pos H0.out]; exact HR.out.set _ _, (by repeat' (first | (with_reducible exact Below.refl _ _) | (with_reducible assumption) | (with_reducible refine below_step (by assumption) ?_) | (with_reducible refine below_alloc ?_ _) | (with_reducible refine Below.drew ?_) | (with_reducible refine below_drewN ?_ _) | (with_reducible refine Below.setCell ?_ ?_ _) | go_size))⟩
          case measure => simp [intOf]; omega
        · have Ez : (o == owner) = false := by simp [h0]
          have H0 := Lib.hid h0
          clear h0
          go_wp2
          go_roundw
          case rel => exact ⟨k + 1, by omega, by go_num, by rw [clearK_same HK.out H0.out]; exact HR.out, (by repeat' (first | (with_reducible exact Below.refl _ _) | (with_reducible assumption) | (with_reducible refine below_step (by assumption) ?_) | (with_reducible refine below_alloc ?_ _) | (with_reducible refine Below.drew ?_) | (with_reducible refine below_drewN ?_ _) | (with_reducible refine Below.setCell ?_ ?_ _) | go_size))⟩
          case measure => simp [intOf]; omega
      · obtain rfl : k = 8 := by omega
        obtain ⟨b0, b1, b2, b3, b4, b5, b6, b7, he2⟩ := eight (show ([a0, a1, a2, a3, a4, a5, a6, a7].map (fun a => if a = owner then 0 else a)).length = 8 from rfl)
        rw [clearK_all _ _ 8 (by simp), he2] at hR
        have c0 := hR.cell (j := 0) rfl
        have c1 := hR.cell (j := 1) rfl
        have c2 := hR.cell (j := 2) rfl
        have c3 := hR.cell (j := 3) rfl
        have c4 := hR.cell (j := 4) rfl
        have c5 := hR.cell (j := 5) rfl
        have c6 := hR.cell (j := 6) rfl
        have c7 := hR.cell (j := 7) rfl
        have HE2 := Lib.hid (show gives owner xs = locksArr 0 [b0, b1, b2, b3, b4, b5, b6, b7] by rw [HE.out, ← he2, ← HH.out, give_holds owner E])
        clear he2 hR
        go_wp2_with fail
        refine (locksOf_any _ _ _ _ _ _ _ _ _).mono ?_
        rintro e1 w4 ⟨g, m, c', rfl, hm, ho, hb4⟩
        have HO := Lib.hid ho
        have HM := Lib.hid hm
        clear ho hm
        go_wp2
        go_ret
        exact ⟨g, m, c', rfl, by rw [HE2.out]; exact HM.out, by rw [HE2.out]; exact ownsRow_base HO.out hB.size, (by repeat' (first | (with_reducible exact Below.refl _ _) | (with_reducible assumption) | (with_reducible refine below_step (by assumption) ?_) | (with_reducible refine below_alloc ?_ _) | (with_reducible refine Below.drew ?_) | (with_reducible refine below_drewN ?_ _) | (with_reducible refine Below.setCell ?_ ?_ _) | go_size))⟩

theorem without_le (o : Int) (xs : List (Int × Int)) : (without o xs).length ≤ xs.length := List.length_filter_le _ _
theorem gives_le (o : Int) (xs : List (Int × Int)) : (gives o xs).length ≤ xs.length := by
  unfold gives
  split
  · exact without_le o xs
  · exact Nat.zero_le _
theorem specGive_at (lo hi : Nat) (v : Value) (xs : List (Int × Int)) (owner : Int) (w : World) (h : lockSAt w lo hi v xs) :
    Calls Try.prog 28 #[v, .int .i64 owner] w fun e w' => ∃ v', e = .returned v' ∧ lockSAt w' w.heap.size w'.heap.size v' (gives owner xs) ∧ Below w.heap.size w w' := by
  obtain ⟨g, m, c, rfl, hx, hb, _, _, ho⟩ := h.open
  exact (specGive_any _ _ _ xs owner hb hx w (lies_of_own ho)).mono fun _ _ ⟨_, _, _, he, hl, ho', hb'⟩ => ⟨_, he, lockSAt.made hl (by have := gives_le owner xs; omega) ho', hb'⟩
theorem implGive_at (lo hi : Nat) (v : Value) (xs : List (Int × Int)) (owner : Int) (w : World) (h : lockSAt w lo hi v xs) :
    Calls Try.prog 30 #[v, .int .i64 owner] w fun e w' => ∃ v', e = .returned v' ∧ lockSAt w' w.heap.size w'.heap.size v' (gives owner xs) ∧ Below w.heap.size w w' := by
  obtain ⟨g, m, c, rfl, hx, hb, _, _, ho⟩ := h.open
  exact (implGive_any _ _ _ xs owner hb hx w (lies_of_own ho)).mono fun _ _ ⟨_, _, _, he, hl, ho', hb'⟩ => ⟨_, he, lockSAt.made hl (by have := gives_le owner xs; omega) ho', hb'⟩
end Go.Proofs.Ytfbnpnajpkhkdaa
